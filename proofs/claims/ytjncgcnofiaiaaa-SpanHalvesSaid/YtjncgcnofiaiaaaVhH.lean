/-
  num.Z: products.
-/
import Derived.Test.YtjncgcnofiaiaaaVhG
set_option linter.unusedVariables false
set_option linter.unusedSimpArgs false
namespace Go.Proofs.Ytjncgcnofiaiaaa
open Go.RowKit
set_option maxRecDepth 20000
attribute [local irreducible] compare' semH semC qLen qNil qIad qSlc qIdx ldBox ldCells stBox appX awpF awpOpsF awpDF xopF xopDF qval lval seqQ blockQ loopQ bodyF retKF cnd arith IntKind.wrap

theorem amt_mul (a b : Bool) (m n : Nat) : amt a m * amt b n = amt (bif true then !(a == b) else (a == b)) (m * n) := by
  cases a <;> cases b <;> simp [amt, Int.mul_neg, Int.neg_mul]
set_option maxHeartbeats 4000000 in
theorem num_Z_Mul {cs ds : List C} {x y : Int} {n : Nat} (hx : IsZ cs x) (hy : IsZ ds y) (sx : Sz n x) (sy : Sz n y) (hn : n ≤ 1073741824) : semC Try.prog n_num_Z_Mul [.agg cs, .agg ds] (ZK (x * y)) := by
  refine semC_of_awpF ok_num_Z_Mul rfl (show HFVs [.agg cs, .agg ds] from ⟨hx.hf, hy.hf, trivial⟩) ?_
  unfold Sz at sx sy
  rcases hx.look with ⟨rfl, x1, x2⟩ | ⟨lx, nx, rfl, xn, xv, xe⟩
  · rcases hy.look with ⟨rfl, y1, y2⟩ | ⟨ly, ny, rfl, yn, yv, ye⟩
    · refine go ?_
      cases hq : compare' Cm.lss x 0
      · have hq0 := hq
        simp [compare'] at hq
        refine go ?_
        cases hr : compare' Cm.lss y 0
        · have hr0 := hr
          simp [compare'] at hr
          refine go ?_
          rw [show IntKind.u64.wrap x = ((x.natAbs : Nat) : Int) by rw [wrap_u64]; omega, show IntKind.u64.wrap y = ((y.natAbs : Nat) : Int) by rw [wrap_u64]; omega]
          refine semH_of_semC (bits_Mul64 (x := x.natAbs) (y := y.natAbs) (by omega) (by omega)) (fun u hu => ?_)
          obtain rfl := hu
          refine go ?_
          cases hp : compare' Cm.eql ((x.natAbs * y.natAbs / 18446744073709551616 : Nat) : Int) 0
          · refine go ?_
            refine semH_of_semC (num_Z_words hx) (fun u hu => ?_)
            obtain ⟨c1, l1, n1, rfl, w1, o1, e1⟩ := hu
            refine go ?_
            refine semH_of_semC (num_Z_words hy) (fun u hu => ?_)
            obtain ⟨c2, l2, n2, rfl, w2, o2, e2⟩ := hu
            refine go ?_
            have hl1 : l1.length ≤ n := norm_len o1 (by rw [e1] at sx; rwa [amt_abs] at sx)
            have hl2 : l2.length ≤ n := norm_len o2 (by rw [e2] at sy; rwa [amt_abs] at sy)
            have e : arith .add .i64 (l1.length : Int) l2.length = ((l1.length + l2.length : Nat) : Int) := by
              rw [ar_add, wrap_i64 (by omega) (by omega)]
              omega
            rw [e]
            refine x_mkSl (by rfl) (by rfl) ⟨by omega, by omega, by omega, by omega⟩ ?_
            rw [Int.toNat_natCast, zeros]
            refine go ?_
            refine f_loop (fun n vs H => ∃ (i : Nat) (out : List Nat), vs = [.c (.ptr 2 0), .c c1, .c (.bool n1), .c c2, .c (.bool n2), .c (.sl 3 0 (l1.length + l2.length) (some (l1.length + l2.length)) 1), i64 (l1.length : Int), i64 (i : Int)] ∧ H = [.live ⟨[.int .i64 x, .nilSl, .bool false], T_num_Z, .rw⟩, .live ⟨[.int .i64 y, .nilSl, .bool false], T_num_Z, .rw⟩, .live ⟨[.int .i64 0, .nilSl, .bool false], T_num_Z, .rw⟩, .live ⟨out.map W, T_uint32, .rw⟩] ∧ n = l1.length - i ∧ i ≤ l1.length ∧ out.length = l1.length + l2.length ∧ OkW out ∧ val out = val (l1.take i) * val l2 ∧ ∀ k, i + l2.length ≤ k → at0 out k = 0) (by rfl) ⟨0, _, rfl, rfl, rfl, by omega, by simp, fun x hx => by simp at hx; omega, by simp [val, val_zeros], fun k _ => at0_zeros _ k⟩ ?_
            rintro m vs H ⟨i, out, rfl, rfl, rfl, k1, k2, k3, k4, k5⟩
            refine go ?_
            refine cnd_intro (fun h => ?_) (fun h => ?_)
            · simp [compare'] at h
              refine go ?_
              refine f_loop (fun n vs H => ∃ (j carry : Nat) (p : List Nat), vs = [.c (.ptr 2 0), .c c1, .c (.bool n1), .c c2, .c (.bool n2), .c (.sl 3 0 (l1.length + l2.length) (some (l1.length + l2.length)) 1), i64 (i : Int), .c (.int .u64 (carry : Int)), i64 (l1.length : Int), i64 (i : Int), i64 (l2.length : Int), i64 (j : Int)] ∧ H = [.live ⟨[.int .i64 x, .nilSl, .bool false], T_num_Z, .rw⟩, .live ⟨[.int .i64 y, .nilSl, .bool false], T_num_Z, .rw⟩, .live ⟨[.int .i64 0, .nilSl, .bool false], T_num_Z, .rw⟩, .live ⟨p.map W, T_uint32, .rw⟩] ∧ n = l2.length - j ∧ j ≤ l2.length ∧ p.length = l1.length + l2.length ∧ OkW p ∧ carry < 4294967296 ∧ val p + 4294967296 ^ (i + j) * carry = val out + 4294967296 ^ i * (at0 l1 i * val (l2.take j)) ∧ ∀ k, i + j ≤ k → at0 p k = at0 out k) (by rfl) ⟨0, 0, out, rfl, rfl, rfl, by omega, k2, k3, by omega, by simp [val], fun k _ => rfl⟩ ?_
              rintro m vs H ⟨j, carry, p, rfl, rfl, rfl, j1, j2, j3, j4, j5, j6⟩
              refine go ?_
              refine cnd_intro (fun h' => ?_) (fun h' => ?_)
              · simp [compare'] at h'
                refine go ?_
                have e3 : arith .add .i64 ((i : Nat) : Int) ((j : Nat) : Int) = ((i + j : Nat) : Int) := by
                  rw [ar_add, wrap_i64 (by omega) (by omega)]
                  omega
                have ga := o1.1.get i
                have gb := o2.1.get j
                have gw := j3.get (i + j)
                obtain ⟨r1, r2, r3⟩ := row_step (k := i + j) (out := p) (by omega) j3 ga gb j4
                have r0 : at0 l1 i * at0 l2 j < 18446744073709551616 := by omega
                rw [e3]
                refine idx_sl (by rfl) (by rfl) (by omega) (by omega) ?_
                refine go ?_
                refine ld_word (k := i + j) (by rfl) (by omega) (by omega) ?_
                refine go ?_
                rw [show IntKind.u64.wrap ((at0 l1 ((i : Nat) : Int).toNat : Nat) : Int) = ((at0 l1 i : Nat) : Int) by rw [Int.toNat_natCast, wrapN _ (by omega)], show IntKind.u64.wrap ((at0 l2 ((j : Nat) : Int).toNat : Nat) : Int) = ((at0 l2 j : Nat) : Int) by rw [Int.toNat_natCast, wrapN _ (by omega)], mulN _ _ r0, wrapN _ (by omega : at0 p (i + j) < 18446744073709551616), show arith .add .u64 (arith .add .u64 ((at0 p (i + j) : Nat) : Int) ((at0 l1 i * at0 l2 j : Nat) : Int)) ((carry : Nat) : Int) = ((at0 l1 i * at0 l2 j + at0 p (i + j) + carry : Nat) : Int) by rw [addN _ _ (by omega), addN _ _ (by omega)]; congr 1; omega]
                rw [e3]
                refine idx_sl (by rfl) (by rfl) (by omega) (by omega) ?_
                rw [show IntKind.u32.wrap ((at0 l1 i * at0 l2 j + at0 p (i + j) + carry : Nat) : Int) = (((at0 l1 i * at0 l2 j + at0 p (i + j) + carry) % 4294967296 : Nat) : Int) by rw [wrap_u32]; omega]
                refine go ?_
                refine st_word (k := i + j) (by rfl) (by rfl) (by omega) (by omega) ?_
                refine go ?_
                rw [shrN, show arith .add .i64 ((j : Nat) : Int) 1 = ((j + 1 : Nat) : Int) by rw [ar_add, wrap_i64 (by omega) (by omega)]; omega]
                refine l_n (by rfl) (by omega) ⟨j + 1, _, _, rfl, rfl, rfl, by omega, by simp [j2], j3.set (by omega), r2, ?_, fun k hk => ?_⟩
                · rw [val_take_succ, Nat.mul_add, Nat.mul_add, ← Nat.add_assoc, ← Nat.add_assoc, ← j5]
                  have e4 : 4294967296 ^ i * (at0 l1 i * (4294967296 ^ j * at0 l2 j)) = 4294967296 ^ (i + j) * (at0 l1 i * at0 l2 j) := by
                    rw [Nat.pow_add, Nat.mul_left_comm (at0 l1 i), Nat.mul_assoc]
                  rw [e4]
                  exact r3
                · rw [at0_set (by omega)]
                  exact j6 k (by omega)
              · simp [compare'] at h'
                have ej : j = l2.length := by omega
                subst ej
                refine go ?_
                have e3 : arith .add .i64 ((i : Nat) : Int) l2.length = ((i + l2.length : Nat) : Int) := by
                  rw [ar_add, wrap_i64 (by omega) (by omega)]
                  omega
                rw [e3]
                refine idx_sl (by rfl) (by rfl) (by omega) (by omega) ?_
                rw [show IntKind.u32.wrap ((carry : Nat) : Int) = ((carry : Nat) : Int) by rw [wrap_u32]; omega]
                refine go ?_
                refine st_word (k := i + l2.length) (by rfl) (by rfl) (by omega) (by omega) ?_
                refine go ?_
                rw [show arith .add .i64 ((i : Nat) : Int) 1 = ((i + 1 : Nat) : Int) by rw [ar_add, wrap_i64 (by omega) (by omega)]; omega]
                refine l_n (by rfl) (by omega) ⟨i + 1, _, rfl, rfl, rfl, by omega, by simp [j2], j3.set j4, ?_, fun k hk => ?_⟩
                · have v1 := val_set p (i + l2.length) carry (by omega)
                  rw [j6 _ (by omega), k5 _ (by omega)] at v1
                  rw [val_all (Nat.le_refl _)] at j5
                  rw [val_take_succ, Nat.add_mul, ← k4, Nat.mul_assoc]
                  omega
                · rw [at0_set (by omega), j6 _ (by omega)]
                  exact k5 _ (by omega)
            · simp [compare'] at h
              have ei : i = l1.length := by omega
              subst ei
              rw [val_all (Nat.le_refl _)] at k4
              refine go ?_
              refine semH_of_semC_close [3] (.cons (.c (fz_words out (by rfl) rfl (by simp) k2.symm (by rw [← k2]; exact List.take_of_length_le (by simp)))) (.cons (.c (.hf trivial)) .nil)) (num_made _ (.imm out) k3 (by omega)) (fun u hu => ?_)
              obtain ⟨cs3, rfl, z3⟩ := hu
              obtain ⟨a0, a1, a2, rfl⟩ := z3.three
              refine go ?_
              rw [e1, e2, amt_mul, ← k4]
              exact ZK.fz z3
          · simp only [compare', dec_true] at hp
            refine go ?_
            cases hl : compare' Cm.lss ((x.natAbs * y.natAbs % 18446744073709551616 : Nat) : Int) 9223372036854775808
            · refine go ?_
              refine semH_of_semC (num_Z_words hx) (fun u hu => ?_)
              obtain ⟨c1, l1, n1, rfl, w1, o1, e1⟩ := hu
              refine go ?_
              refine semH_of_semC (num_Z_words hy) (fun u hu => ?_)
              obtain ⟨c2, l2, n2, rfl, w2, o2, e2⟩ := hu
              refine go ?_
              have hl1 : l1.length ≤ n := norm_len o1 (by rw [e1] at sx; rwa [amt_abs] at sx)
              have hl2 : l2.length ≤ n := norm_len o2 (by rw [e2] at sy; rwa [amt_abs] at sy)
              have e : arith .add .i64 (l1.length : Int) l2.length = ((l1.length + l2.length : Nat) : Int) := by
                rw [ar_add, wrap_i64 (by omega) (by omega)]
                omega
              rw [e]
              refine x_mkSl (by rfl) (by rfl) ⟨by omega, by omega, by omega, by omega⟩ ?_
              rw [Int.toNat_natCast, zeros]
              refine go ?_
              refine f_loop (fun n vs H => ∃ (i : Nat) (out : List Nat), vs = [.c (.ptr 2 0), .c c1, .c (.bool n1), .c c2, .c (.bool n2), .c (.sl 3 0 (l1.length + l2.length) (some (l1.length + l2.length)) 1), i64 (l1.length : Int), i64 (i : Int)] ∧ H = [.live ⟨[.int .i64 x, .nilSl, .bool false], T_num_Z, .rw⟩, .live ⟨[.int .i64 y, .nilSl, .bool false], T_num_Z, .rw⟩, .live ⟨[.int .i64 0, .nilSl, .bool false], T_num_Z, .rw⟩, .live ⟨out.map W, T_uint32, .rw⟩] ∧ n = l1.length - i ∧ i ≤ l1.length ∧ out.length = l1.length + l2.length ∧ OkW out ∧ val out = val (l1.take i) * val l2 ∧ ∀ k, i + l2.length ≤ k → at0 out k = 0) (by rfl) ⟨0, _, rfl, rfl, rfl, by omega, by simp, fun x hx => by simp at hx; omega, by simp [val, val_zeros], fun k _ => at0_zeros _ k⟩ ?_
              rintro m vs H ⟨i, out, rfl, rfl, rfl, k1, k2, k3, k4, k5⟩
              refine go ?_
              refine cnd_intro (fun h => ?_) (fun h => ?_)
              · simp [compare'] at h
                refine go ?_
                refine f_loop (fun n vs H => ∃ (j carry : Nat) (p : List Nat), vs = [.c (.ptr 2 0), .c c1, .c (.bool n1), .c c2, .c (.bool n2), .c (.sl 3 0 (l1.length + l2.length) (some (l1.length + l2.length)) 1), i64 (i : Int), .c (.int .u64 (carry : Int)), i64 (l1.length : Int), i64 (i : Int), i64 (l2.length : Int), i64 (j : Int)] ∧ H = [.live ⟨[.int .i64 x, .nilSl, .bool false], T_num_Z, .rw⟩, .live ⟨[.int .i64 y, .nilSl, .bool false], T_num_Z, .rw⟩, .live ⟨[.int .i64 0, .nilSl, .bool false], T_num_Z, .rw⟩, .live ⟨p.map W, T_uint32, .rw⟩] ∧ n = l2.length - j ∧ j ≤ l2.length ∧ p.length = l1.length + l2.length ∧ OkW p ∧ carry < 4294967296 ∧ val p + 4294967296 ^ (i + j) * carry = val out + 4294967296 ^ i * (at0 l1 i * val (l2.take j)) ∧ ∀ k, i + j ≤ k → at0 p k = at0 out k) (by rfl) ⟨0, 0, out, rfl, rfl, rfl, by omega, k2, k3, by omega, by simp [val], fun k _ => rfl⟩ ?_
                rintro m vs H ⟨j, carry, p, rfl, rfl, rfl, j1, j2, j3, j4, j5, j6⟩
                refine go ?_
                refine cnd_intro (fun h' => ?_) (fun h' => ?_)
                · simp [compare'] at h'
                  refine go ?_
                  have e3 : arith .add .i64 ((i : Nat) : Int) ((j : Nat) : Int) = ((i + j : Nat) : Int) := by
                    rw [ar_add, wrap_i64 (by omega) (by omega)]
                    omega
                  have ga := o1.1.get i
                  have gb := o2.1.get j
                  have gw := j3.get (i + j)
                  obtain ⟨r1, r2, r3⟩ := row_step (k := i + j) (out := p) (by omega) j3 ga gb j4
                  have r0 : at0 l1 i * at0 l2 j < 18446744073709551616 := by omega
                  rw [e3]
                  refine idx_sl (by rfl) (by rfl) (by omega) (by omega) ?_
                  refine go ?_
                  refine ld_word (k := i + j) (by rfl) (by omega) (by omega) ?_
                  refine go ?_
                  rw [show IntKind.u64.wrap ((at0 l1 ((i : Nat) : Int).toNat : Nat) : Int) = ((at0 l1 i : Nat) : Int) by rw [Int.toNat_natCast, wrapN _ (by omega)], show IntKind.u64.wrap ((at0 l2 ((j : Nat) : Int).toNat : Nat) : Int) = ((at0 l2 j : Nat) : Int) by rw [Int.toNat_natCast, wrapN _ (by omega)], mulN _ _ r0, wrapN _ (by omega : at0 p (i + j) < 18446744073709551616), show arith .add .u64 (arith .add .u64 ((at0 p (i + j) : Nat) : Int) ((at0 l1 i * at0 l2 j : Nat) : Int)) ((carry : Nat) : Int) = ((at0 l1 i * at0 l2 j + at0 p (i + j) + carry : Nat) : Int) by rw [addN _ _ (by omega), addN _ _ (by omega)]; congr 1; omega]
                  rw [e3]
                  refine idx_sl (by rfl) (by rfl) (by omega) (by omega) ?_
                  rw [show IntKind.u32.wrap ((at0 l1 i * at0 l2 j + at0 p (i + j) + carry : Nat) : Int) = (((at0 l1 i * at0 l2 j + at0 p (i + j) + carry) % 4294967296 : Nat) : Int) by rw [wrap_u32]; omega]
                  refine go ?_
                  refine st_word (k := i + j) (by rfl) (by rfl) (by omega) (by omega) ?_
                  refine go ?_
                  rw [shrN, show arith .add .i64 ((j : Nat) : Int) 1 = ((j + 1 : Nat) : Int) by rw [ar_add, wrap_i64 (by omega) (by omega)]; omega]
                  refine l_n (by rfl) (by omega) ⟨j + 1, _, _, rfl, rfl, rfl, by omega, by simp [j2], j3.set (by omega), r2, ?_, fun k hk => ?_⟩
                  · rw [val_take_succ, Nat.mul_add, Nat.mul_add, ← Nat.add_assoc, ← Nat.add_assoc, ← j5]
                    have e4 : 4294967296 ^ i * (at0 l1 i * (4294967296 ^ j * at0 l2 j)) = 4294967296 ^ (i + j) * (at0 l1 i * at0 l2 j) := by
                      rw [Nat.pow_add, Nat.mul_left_comm (at0 l1 i), Nat.mul_assoc]
                    rw [e4]
                    exact r3
                  · rw [at0_set (by omega)]
                    exact j6 k (by omega)
                · simp [compare'] at h'
                  have ej : j = l2.length := by omega
                  subst ej
                  refine go ?_
                  have e3 : arith .add .i64 ((i : Nat) : Int) l2.length = ((i + l2.length : Nat) : Int) := by
                    rw [ar_add, wrap_i64 (by omega) (by omega)]
                    omega
                  rw [e3]
                  refine idx_sl (by rfl) (by rfl) (by omega) (by omega) ?_
                  rw [show IntKind.u32.wrap ((carry : Nat) : Int) = ((carry : Nat) : Int) by rw [wrap_u32]; omega]
                  refine go ?_
                  refine st_word (k := i + l2.length) (by rfl) (by rfl) (by omega) (by omega) ?_
                  refine go ?_
                  rw [show arith .add .i64 ((i : Nat) : Int) 1 = ((i + 1 : Nat) : Int) by rw [ar_add, wrap_i64 (by omega) (by omega)]; omega]
                  refine l_n (by rfl) (by omega) ⟨i + 1, _, rfl, rfl, rfl, by omega, by simp [j2], j3.set j4, ?_, fun k hk => ?_⟩
                  · have v1 := val_set p (i + l2.length) carry (by omega)
                    rw [j6 _ (by omega), k5 _ (by omega)] at v1
                    rw [val_all (Nat.le_refl _)] at j5
                    rw [val_take_succ, Nat.add_mul, ← k4, Nat.mul_assoc]
                    omega
                  · rw [at0_set (by omega), j6 _ (by omega)]
                    exact k5 _ (by omega)
              · simp [compare'] at h
                have ei : i = l1.length := by omega
                subst ei
                rw [val_all (Nat.le_refl _)] at k4
                refine go ?_
                refine semH_of_semC_close [3] (.cons (.c (fz_words out (by rfl) rfl (by simp) k2.symm (by rw [← k2]; exact List.take_of_length_le (by simp)))) (.cons (.c (.hf trivial)) .nil)) (num_made _ (.imm out) k3 (by omega)) (fun u hu => ?_)
                obtain ⟨cs3, rfl, z3⟩ := hu
                obtain ⟨a0, a1, a2, rfl⟩ := z3.three
                refine go ?_
                rw [e1, e2, amt_mul, ← k4]
                exact ZK.fz z3
            · simp only [compare', dec_true] at hl
              refine go ?_
              rw [hq0, hr0]
              refine go ?_
              have hm : x.natAbs * y.natAbs < 18446744073709551616 := by omega
              rw [Nat.mod_eq_of_lt hm] at hl ⊢
              have h0 : 0 ≤ x * y := Int.mul_nonneg hq hr
              have ez : x * y = ((x.natAbs * y.natAbs : Nat) : Int) := by rw [← Int.natAbs_mul]; omega
              rw [wrap_i64 (by omega) (by omega), ez]
              exact ZK.fz (.small _ (by omega) (by omega))
        · have hr0 := hr
          simp [compare'] at hr
          refine go ?_
          rw [show IntKind.u64.wrap x = ((x.natAbs : Nat) : Int) by rw [wrap_u64]; omega, show IntKind.u64.wrap (0 - IntKind.u64.wrap y) = ((y.natAbs : Nat) : Int) by rw [wrap_u64, wrap_u64]; omega]
          refine semH_of_semC (bits_Mul64 (x := x.natAbs) (y := y.natAbs) (by omega) (by omega)) (fun u hu => ?_)
          obtain rfl := hu
          refine go ?_
          cases hp : compare' Cm.eql ((x.natAbs * y.natAbs / 18446744073709551616 : Nat) : Int) 0
          · refine go ?_
            refine semH_of_semC (num_Z_words hx) (fun u hu => ?_)
            obtain ⟨c1, l1, n1, rfl, w1, o1, e1⟩ := hu
            refine go ?_
            refine semH_of_semC (num_Z_words hy) (fun u hu => ?_)
            obtain ⟨c2, l2, n2, rfl, w2, o2, e2⟩ := hu
            refine go ?_
            have hl1 : l1.length ≤ n := norm_len o1 (by rw [e1] at sx; rwa [amt_abs] at sx)
            have hl2 : l2.length ≤ n := norm_len o2 (by rw [e2] at sy; rwa [amt_abs] at sy)
            have e : arith .add .i64 (l1.length : Int) l2.length = ((l1.length + l2.length : Nat) : Int) := by
              rw [ar_add, wrap_i64 (by omega) (by omega)]
              omega
            rw [e]
            refine x_mkSl (by rfl) (by rfl) ⟨by omega, by omega, by omega, by omega⟩ ?_
            rw [Int.toNat_natCast, zeros]
            refine go ?_
            refine f_loop (fun n vs H => ∃ (i : Nat) (out : List Nat), vs = [.c (.ptr 2 0), .c c1, .c (.bool n1), .c c2, .c (.bool n2), .c (.sl 3 0 (l1.length + l2.length) (some (l1.length + l2.length)) 1), i64 (l1.length : Int), i64 (i : Int)] ∧ H = [.live ⟨[.int .i64 x, .nilSl, .bool false], T_num_Z, .rw⟩, .live ⟨[.int .i64 y, .nilSl, .bool false], T_num_Z, .rw⟩, .live ⟨[.int .i64 0, .nilSl, .bool false], T_num_Z, .rw⟩, .live ⟨out.map W, T_uint32, .rw⟩] ∧ n = l1.length - i ∧ i ≤ l1.length ∧ out.length = l1.length + l2.length ∧ OkW out ∧ val out = val (l1.take i) * val l2 ∧ ∀ k, i + l2.length ≤ k → at0 out k = 0) (by rfl) ⟨0, _, rfl, rfl, rfl, by omega, by simp, fun x hx => by simp at hx; omega, by simp [val, val_zeros], fun k _ => at0_zeros _ k⟩ ?_
            rintro m vs H ⟨i, out, rfl, rfl, rfl, k1, k2, k3, k4, k5⟩
            refine go ?_
            refine cnd_intro (fun h => ?_) (fun h => ?_)
            · simp [compare'] at h
              refine go ?_
              refine f_loop (fun n vs H => ∃ (j carry : Nat) (p : List Nat), vs = [.c (.ptr 2 0), .c c1, .c (.bool n1), .c c2, .c (.bool n2), .c (.sl 3 0 (l1.length + l2.length) (some (l1.length + l2.length)) 1), i64 (i : Int), .c (.int .u64 (carry : Int)), i64 (l1.length : Int), i64 (i : Int), i64 (l2.length : Int), i64 (j : Int)] ∧ H = [.live ⟨[.int .i64 x, .nilSl, .bool false], T_num_Z, .rw⟩, .live ⟨[.int .i64 y, .nilSl, .bool false], T_num_Z, .rw⟩, .live ⟨[.int .i64 0, .nilSl, .bool false], T_num_Z, .rw⟩, .live ⟨p.map W, T_uint32, .rw⟩] ∧ n = l2.length - j ∧ j ≤ l2.length ∧ p.length = l1.length + l2.length ∧ OkW p ∧ carry < 4294967296 ∧ val p + 4294967296 ^ (i + j) * carry = val out + 4294967296 ^ i * (at0 l1 i * val (l2.take j)) ∧ ∀ k, i + j ≤ k → at0 p k = at0 out k) (by rfl) ⟨0, 0, out, rfl, rfl, rfl, by omega, k2, k3, by omega, by simp [val], fun k _ => rfl⟩ ?_
              rintro m vs H ⟨j, carry, p, rfl, rfl, rfl, j1, j2, j3, j4, j5, j6⟩
              refine go ?_
              refine cnd_intro (fun h' => ?_) (fun h' => ?_)
              · simp [compare'] at h'
                refine go ?_
                have e3 : arith .add .i64 ((i : Nat) : Int) ((j : Nat) : Int) = ((i + j : Nat) : Int) := by
                  rw [ar_add, wrap_i64 (by omega) (by omega)]
                  omega
                have ga := o1.1.get i
                have gb := o2.1.get j
                have gw := j3.get (i + j)
                obtain ⟨r1, r2, r3⟩ := row_step (k := i + j) (out := p) (by omega) j3 ga gb j4
                have r0 : at0 l1 i * at0 l2 j < 18446744073709551616 := by omega
                rw [e3]
                refine idx_sl (by rfl) (by rfl) (by omega) (by omega) ?_
                refine go ?_
                refine ld_word (k := i + j) (by rfl) (by omega) (by omega) ?_
                refine go ?_
                rw [show IntKind.u64.wrap ((at0 l1 ((i : Nat) : Int).toNat : Nat) : Int) = ((at0 l1 i : Nat) : Int) by rw [Int.toNat_natCast, wrapN _ (by omega)], show IntKind.u64.wrap ((at0 l2 ((j : Nat) : Int).toNat : Nat) : Int) = ((at0 l2 j : Nat) : Int) by rw [Int.toNat_natCast, wrapN _ (by omega)], mulN _ _ r0, wrapN _ (by omega : at0 p (i + j) < 18446744073709551616), show arith .add .u64 (arith .add .u64 ((at0 p (i + j) : Nat) : Int) ((at0 l1 i * at0 l2 j : Nat) : Int)) ((carry : Nat) : Int) = ((at0 l1 i * at0 l2 j + at0 p (i + j) + carry : Nat) : Int) by rw [addN _ _ (by omega), addN _ _ (by omega)]; congr 1; omega]
                rw [e3]
                refine idx_sl (by rfl) (by rfl) (by omega) (by omega) ?_
                rw [show IntKind.u32.wrap ((at0 l1 i * at0 l2 j + at0 p (i + j) + carry : Nat) : Int) = (((at0 l1 i * at0 l2 j + at0 p (i + j) + carry) % 4294967296 : Nat) : Int) by rw [wrap_u32]; omega]
                refine go ?_
                refine st_word (k := i + j) (by rfl) (by rfl) (by omega) (by omega) ?_
                refine go ?_
                rw [shrN, show arith .add .i64 ((j : Nat) : Int) 1 = ((j + 1 : Nat) : Int) by rw [ar_add, wrap_i64 (by omega) (by omega)]; omega]
                refine l_n (by rfl) (by omega) ⟨j + 1, _, _, rfl, rfl, rfl, by omega, by simp [j2], j3.set (by omega), r2, ?_, fun k hk => ?_⟩
                · rw [val_take_succ, Nat.mul_add, Nat.mul_add, ← Nat.add_assoc, ← Nat.add_assoc, ← j5]
                  have e4 : 4294967296 ^ i * (at0 l1 i * (4294967296 ^ j * at0 l2 j)) = 4294967296 ^ (i + j) * (at0 l1 i * at0 l2 j) := by
                    rw [Nat.pow_add, Nat.mul_left_comm (at0 l1 i), Nat.mul_assoc]
                  rw [e4]
                  exact r3
                · rw [at0_set (by omega)]
                  exact j6 k (by omega)
              · simp [compare'] at h'
                have ej : j = l2.length := by omega
                subst ej
                refine go ?_
                have e3 : arith .add .i64 ((i : Nat) : Int) l2.length = ((i + l2.length : Nat) : Int) := by
                  rw [ar_add, wrap_i64 (by omega) (by omega)]
                  omega
                rw [e3]
                refine idx_sl (by rfl) (by rfl) (by omega) (by omega) ?_
                rw [show IntKind.u32.wrap ((carry : Nat) : Int) = ((carry : Nat) : Int) by rw [wrap_u32]; omega]
                refine go ?_
                refine st_word (k := i + l2.length) (by rfl) (by rfl) (by omega) (by omega) ?_
                refine go ?_
                rw [show arith .add .i64 ((i : Nat) : Int) 1 = ((i + 1 : Nat) : Int) by rw [ar_add, wrap_i64 (by omega) (by omega)]; omega]
                refine l_n (by rfl) (by omega) ⟨i + 1, _, rfl, rfl, rfl, by omega, by simp [j2], j3.set j4, ?_, fun k hk => ?_⟩
                · have v1 := val_set p (i + l2.length) carry (by omega)
                  rw [j6 _ (by omega), k5 _ (by omega)] at v1
                  rw [val_all (Nat.le_refl _)] at j5
                  rw [val_take_succ, Nat.add_mul, ← k4, Nat.mul_assoc]
                  omega
                · rw [at0_set (by omega), j6 _ (by omega)]
                  exact k5 _ (by omega)
            · simp [compare'] at h
              have ei : i = l1.length := by omega
              subst ei
              rw [val_all (Nat.le_refl _)] at k4
              refine go ?_
              refine semH_of_semC_close [3] (.cons (.c (fz_words out (by rfl) rfl (by simp) k2.symm (by rw [← k2]; exact List.take_of_length_le (by simp)))) (.cons (.c (.hf trivial)) .nil)) (num_made _ (.imm out) k3 (by omega)) (fun u hu => ?_)
              obtain ⟨cs3, rfl, z3⟩ := hu
              obtain ⟨a0, a1, a2, rfl⟩ := z3.three
              refine go ?_
              rw [e1, e2, amt_mul, ← k4]
              exact ZK.fz z3
          · simp only [compare', dec_true] at hp
            refine go ?_
            cases hl : compare' Cm.lss ((x.natAbs * y.natAbs % 18446744073709551616 : Nat) : Int) 9223372036854775808
            · refine go ?_
              refine semH_of_semC (num_Z_words hx) (fun u hu => ?_)
              obtain ⟨c1, l1, n1, rfl, w1, o1, e1⟩ := hu
              refine go ?_
              refine semH_of_semC (num_Z_words hy) (fun u hu => ?_)
              obtain ⟨c2, l2, n2, rfl, w2, o2, e2⟩ := hu
              refine go ?_
              have hl1 : l1.length ≤ n := norm_len o1 (by rw [e1] at sx; rwa [amt_abs] at sx)
              have hl2 : l2.length ≤ n := norm_len o2 (by rw [e2] at sy; rwa [amt_abs] at sy)
              have e : arith .add .i64 (l1.length : Int) l2.length = ((l1.length + l2.length : Nat) : Int) := by
                rw [ar_add, wrap_i64 (by omega) (by omega)]
                omega
              rw [e]
              refine x_mkSl (by rfl) (by rfl) ⟨by omega, by omega, by omega, by omega⟩ ?_
              rw [Int.toNat_natCast, zeros]
              refine go ?_
              refine f_loop (fun n vs H => ∃ (i : Nat) (out : List Nat), vs = [.c (.ptr 2 0), .c c1, .c (.bool n1), .c c2, .c (.bool n2), .c (.sl 3 0 (l1.length + l2.length) (some (l1.length + l2.length)) 1), i64 (l1.length : Int), i64 (i : Int)] ∧ H = [.live ⟨[.int .i64 x, .nilSl, .bool false], T_num_Z, .rw⟩, .live ⟨[.int .i64 y, .nilSl, .bool false], T_num_Z, .rw⟩, .live ⟨[.int .i64 0, .nilSl, .bool false], T_num_Z, .rw⟩, .live ⟨out.map W, T_uint32, .rw⟩] ∧ n = l1.length - i ∧ i ≤ l1.length ∧ out.length = l1.length + l2.length ∧ OkW out ∧ val out = val (l1.take i) * val l2 ∧ ∀ k, i + l2.length ≤ k → at0 out k = 0) (by rfl) ⟨0, _, rfl, rfl, rfl, by omega, by simp, fun x hx => by simp at hx; omega, by simp [val, val_zeros], fun k _ => at0_zeros _ k⟩ ?_
              rintro m vs H ⟨i, out, rfl, rfl, rfl, k1, k2, k3, k4, k5⟩
              refine go ?_
              refine cnd_intro (fun h => ?_) (fun h => ?_)
              · simp [compare'] at h
                refine go ?_
                refine f_loop (fun n vs H => ∃ (j carry : Nat) (p : List Nat), vs = [.c (.ptr 2 0), .c c1, .c (.bool n1), .c c2, .c (.bool n2), .c (.sl 3 0 (l1.length + l2.length) (some (l1.length + l2.length)) 1), i64 (i : Int), .c (.int .u64 (carry : Int)), i64 (l1.length : Int), i64 (i : Int), i64 (l2.length : Int), i64 (j : Int)] ∧ H = [.live ⟨[.int .i64 x, .nilSl, .bool false], T_num_Z, .rw⟩, .live ⟨[.int .i64 y, .nilSl, .bool false], T_num_Z, .rw⟩, .live ⟨[.int .i64 0, .nilSl, .bool false], T_num_Z, .rw⟩, .live ⟨p.map W, T_uint32, .rw⟩] ∧ n = l2.length - j ∧ j ≤ l2.length ∧ p.length = l1.length + l2.length ∧ OkW p ∧ carry < 4294967296 ∧ val p + 4294967296 ^ (i + j) * carry = val out + 4294967296 ^ i * (at0 l1 i * val (l2.take j)) ∧ ∀ k, i + j ≤ k → at0 p k = at0 out k) (by rfl) ⟨0, 0, out, rfl, rfl, rfl, by omega, k2, k3, by omega, by simp [val], fun k _ => rfl⟩ ?_
                rintro m vs H ⟨j, carry, p, rfl, rfl, rfl, j1, j2, j3, j4, j5, j6⟩
                refine go ?_
                refine cnd_intro (fun h' => ?_) (fun h' => ?_)
                · simp [compare'] at h'
                  refine go ?_
                  have e3 : arith .add .i64 ((i : Nat) : Int) ((j : Nat) : Int) = ((i + j : Nat) : Int) := by
                    rw [ar_add, wrap_i64 (by omega) (by omega)]
                    omega
                  have ga := o1.1.get i
                  have gb := o2.1.get j
                  have gw := j3.get (i + j)
                  obtain ⟨r1, r2, r3⟩ := row_step (k := i + j) (out := p) (by omega) j3 ga gb j4
                  have r0 : at0 l1 i * at0 l2 j < 18446744073709551616 := by omega
                  rw [e3]
                  refine idx_sl (by rfl) (by rfl) (by omega) (by omega) ?_
                  refine go ?_
                  refine ld_word (k := i + j) (by rfl) (by omega) (by omega) ?_
                  refine go ?_
                  rw [show IntKind.u64.wrap ((at0 l1 ((i : Nat) : Int).toNat : Nat) : Int) = ((at0 l1 i : Nat) : Int) by rw [Int.toNat_natCast, wrapN _ (by omega)], show IntKind.u64.wrap ((at0 l2 ((j : Nat) : Int).toNat : Nat) : Int) = ((at0 l2 j : Nat) : Int) by rw [Int.toNat_natCast, wrapN _ (by omega)], mulN _ _ r0, wrapN _ (by omega : at0 p (i + j) < 18446744073709551616), show arith .add .u64 (arith .add .u64 ((at0 p (i + j) : Nat) : Int) ((at0 l1 i * at0 l2 j : Nat) : Int)) ((carry : Nat) : Int) = ((at0 l1 i * at0 l2 j + at0 p (i + j) + carry : Nat) : Int) by rw [addN _ _ (by omega), addN _ _ (by omega)]; congr 1; omega]
                  rw [e3]
                  refine idx_sl (by rfl) (by rfl) (by omega) (by omega) ?_
                  rw [show IntKind.u32.wrap ((at0 l1 i * at0 l2 j + at0 p (i + j) + carry : Nat) : Int) = (((at0 l1 i * at0 l2 j + at0 p (i + j) + carry) % 4294967296 : Nat) : Int) by rw [wrap_u32]; omega]
                  refine go ?_
                  refine st_word (k := i + j) (by rfl) (by rfl) (by omega) (by omega) ?_
                  refine go ?_
                  rw [shrN, show arith .add .i64 ((j : Nat) : Int) 1 = ((j + 1 : Nat) : Int) by rw [ar_add, wrap_i64 (by omega) (by omega)]; omega]
                  refine l_n (by rfl) (by omega) ⟨j + 1, _, _, rfl, rfl, rfl, by omega, by simp [j2], j3.set (by omega), r2, ?_, fun k hk => ?_⟩
                  · rw [val_take_succ, Nat.mul_add, Nat.mul_add, ← Nat.add_assoc, ← Nat.add_assoc, ← j5]
                    have e4 : 4294967296 ^ i * (at0 l1 i * (4294967296 ^ j * at0 l2 j)) = 4294967296 ^ (i + j) * (at0 l1 i * at0 l2 j) := by
                      rw [Nat.pow_add, Nat.mul_left_comm (at0 l1 i), Nat.mul_assoc]
                    rw [e4]
                    exact r3
                  · rw [at0_set (by omega)]
                    exact j6 k (by omega)
                · simp [compare'] at h'
                  have ej : j = l2.length := by omega
                  subst ej
                  refine go ?_
                  have e3 : arith .add .i64 ((i : Nat) : Int) l2.length = ((i + l2.length : Nat) : Int) := by
                    rw [ar_add, wrap_i64 (by omega) (by omega)]
                    omega
                  rw [e3]
                  refine idx_sl (by rfl) (by rfl) (by omega) (by omega) ?_
                  rw [show IntKind.u32.wrap ((carry : Nat) : Int) = ((carry : Nat) : Int) by rw [wrap_u32]; omega]
                  refine go ?_
                  refine st_word (k := i + l2.length) (by rfl) (by rfl) (by omega) (by omega) ?_
                  refine go ?_
                  rw [show arith .add .i64 ((i : Nat) : Int) 1 = ((i + 1 : Nat) : Int) by rw [ar_add, wrap_i64 (by omega) (by omega)]; omega]
                  refine l_n (by rfl) (by omega) ⟨i + 1, _, rfl, rfl, rfl, by omega, by simp [j2], j3.set j4, ?_, fun k hk => ?_⟩
                  · have v1 := val_set p (i + l2.length) carry (by omega)
                    rw [j6 _ (by omega), k5 _ (by omega)] at v1
                    rw [val_all (Nat.le_refl _)] at j5
                    rw [val_take_succ, Nat.add_mul, ← k4, Nat.mul_assoc]
                    omega
                  · rw [at0_set (by omega), j6 _ (by omega)]
                    exact k5 _ (by omega)
              · simp [compare'] at h
                have ei : i = l1.length := by omega
                subst ei
                rw [val_all (Nat.le_refl _)] at k4
                refine go ?_
                refine semH_of_semC_close [3] (.cons (.c (fz_words out (by rfl) rfl (by simp) k2.symm (by rw [← k2]; exact List.take_of_length_le (by simp)))) (.cons (.c (.hf trivial)) .nil)) (num_made _ (.imm out) k3 (by omega)) (fun u hu => ?_)
                obtain ⟨cs3, rfl, z3⟩ := hu
                obtain ⟨a0, a1, a2, rfl⟩ := z3.three
                refine go ?_
                rw [e1, e2, amt_mul, ← k4]
                exact ZK.fz z3
            · simp only [compare', dec_true] at hl
              refine go ?_
              rw [hq0, hr0]
              refine go ?_
              have hm : x.natAbs * y.natAbs < 18446744073709551616 := by omega
              rw [Nat.mod_eq_of_lt hm] at hl ⊢
              have h0 : 0 ≤ x * (-y) := Int.mul_nonneg (by omega) (by omega)
              rw [Int.mul_neg] at h0
              have ez : x * y = -((x.natAbs * y.natAbs : Nat) : Int) := by rw [← Int.natAbs_mul]; omega
              rw [wrap_i64 (n := ((x.natAbs * y.natAbs : Nat) : Int)) (by omega) (by omega), wrap_i64 (by omega) (by omega), Int.zero_sub, ez]
              exact ZK.fz (.small _ (by omega) (by omega))
      · have hq0 := hq
        simp [compare'] at hq
        refine go ?_
        cases hr : compare' Cm.lss y 0
        · have hr0 := hr
          simp [compare'] at hr
          refine go ?_
          rw [show IntKind.u64.wrap (0 - IntKind.u64.wrap x) = ((x.natAbs : Nat) : Int) by rw [wrap_u64, wrap_u64]; omega, show IntKind.u64.wrap y = ((y.natAbs : Nat) : Int) by rw [wrap_u64]; omega]
          refine semH_of_semC (bits_Mul64 (x := x.natAbs) (y := y.natAbs) (by omega) (by omega)) (fun u hu => ?_)
          obtain rfl := hu
          refine go ?_
          cases hp : compare' Cm.eql ((x.natAbs * y.natAbs / 18446744073709551616 : Nat) : Int) 0
          · refine go ?_
            refine semH_of_semC (num_Z_words hx) (fun u hu => ?_)
            obtain ⟨c1, l1, n1, rfl, w1, o1, e1⟩ := hu
            refine go ?_
            refine semH_of_semC (num_Z_words hy) (fun u hu => ?_)
            obtain ⟨c2, l2, n2, rfl, w2, o2, e2⟩ := hu
            refine go ?_
            have hl1 : l1.length ≤ n := norm_len o1 (by rw [e1] at sx; rwa [amt_abs] at sx)
            have hl2 : l2.length ≤ n := norm_len o2 (by rw [e2] at sy; rwa [amt_abs] at sy)
            have e : arith .add .i64 (l1.length : Int) l2.length = ((l1.length + l2.length : Nat) : Int) := by
              rw [ar_add, wrap_i64 (by omega) (by omega)]
              omega
            rw [e]
            refine x_mkSl (by rfl) (by rfl) ⟨by omega, by omega, by omega, by omega⟩ ?_
            rw [Int.toNat_natCast, zeros]
            refine go ?_
            refine f_loop (fun n vs H => ∃ (i : Nat) (out : List Nat), vs = [.c (.ptr 2 0), .c c1, .c (.bool n1), .c c2, .c (.bool n2), .c (.sl 3 0 (l1.length + l2.length) (some (l1.length + l2.length)) 1), i64 (l1.length : Int), i64 (i : Int)] ∧ H = [.live ⟨[.int .i64 x, .nilSl, .bool false], T_num_Z, .rw⟩, .live ⟨[.int .i64 y, .nilSl, .bool false], T_num_Z, .rw⟩, .live ⟨[.int .i64 0, .nilSl, .bool false], T_num_Z, .rw⟩, .live ⟨out.map W, T_uint32, .rw⟩] ∧ n = l1.length - i ∧ i ≤ l1.length ∧ out.length = l1.length + l2.length ∧ OkW out ∧ val out = val (l1.take i) * val l2 ∧ ∀ k, i + l2.length ≤ k → at0 out k = 0) (by rfl) ⟨0, _, rfl, rfl, rfl, by omega, by simp, fun x hx => by simp at hx; omega, by simp [val, val_zeros], fun k _ => at0_zeros _ k⟩ ?_
            rintro m vs H ⟨i, out, rfl, rfl, rfl, k1, k2, k3, k4, k5⟩
            refine go ?_
            refine cnd_intro (fun h => ?_) (fun h => ?_)
            · simp [compare'] at h
              refine go ?_
              refine f_loop (fun n vs H => ∃ (j carry : Nat) (p : List Nat), vs = [.c (.ptr 2 0), .c c1, .c (.bool n1), .c c2, .c (.bool n2), .c (.sl 3 0 (l1.length + l2.length) (some (l1.length + l2.length)) 1), i64 (i : Int), .c (.int .u64 (carry : Int)), i64 (l1.length : Int), i64 (i : Int), i64 (l2.length : Int), i64 (j : Int)] ∧ H = [.live ⟨[.int .i64 x, .nilSl, .bool false], T_num_Z, .rw⟩, .live ⟨[.int .i64 y, .nilSl, .bool false], T_num_Z, .rw⟩, .live ⟨[.int .i64 0, .nilSl, .bool false], T_num_Z, .rw⟩, .live ⟨p.map W, T_uint32, .rw⟩] ∧ n = l2.length - j ∧ j ≤ l2.length ∧ p.length = l1.length + l2.length ∧ OkW p ∧ carry < 4294967296 ∧ val p + 4294967296 ^ (i + j) * carry = val out + 4294967296 ^ i * (at0 l1 i * val (l2.take j)) ∧ ∀ k, i + j ≤ k → at0 p k = at0 out k) (by rfl) ⟨0, 0, out, rfl, rfl, rfl, by omega, k2, k3, by omega, by simp [val], fun k _ => rfl⟩ ?_
              rintro m vs H ⟨j, carry, p, rfl, rfl, rfl, j1, j2, j3, j4, j5, j6⟩
              refine go ?_
              refine cnd_intro (fun h' => ?_) (fun h' => ?_)
              · simp [compare'] at h'
                refine go ?_
                have e3 : arith .add .i64 ((i : Nat) : Int) ((j : Nat) : Int) = ((i + j : Nat) : Int) := by
                  rw [ar_add, wrap_i64 (by omega) (by omega)]
                  omega
                have ga := o1.1.get i
                have gb := o2.1.get j
                have gw := j3.get (i + j)
                obtain ⟨r1, r2, r3⟩ := row_step (k := i + j) (out := p) (by omega) j3 ga gb j4
                have r0 : at0 l1 i * at0 l2 j < 18446744073709551616 := by omega
                rw [e3]
                refine idx_sl (by rfl) (by rfl) (by omega) (by omega) ?_
                refine go ?_
                refine ld_word (k := i + j) (by rfl) (by omega) (by omega) ?_
                refine go ?_
                rw [show IntKind.u64.wrap ((at0 l1 ((i : Nat) : Int).toNat : Nat) : Int) = ((at0 l1 i : Nat) : Int) by rw [Int.toNat_natCast, wrapN _ (by omega)], show IntKind.u64.wrap ((at0 l2 ((j : Nat) : Int).toNat : Nat) : Int) = ((at0 l2 j : Nat) : Int) by rw [Int.toNat_natCast, wrapN _ (by omega)], mulN _ _ r0, wrapN _ (by omega : at0 p (i + j) < 18446744073709551616), show arith .add .u64 (arith .add .u64 ((at0 p (i + j) : Nat) : Int) ((at0 l1 i * at0 l2 j : Nat) : Int)) ((carry : Nat) : Int) = ((at0 l1 i * at0 l2 j + at0 p (i + j) + carry : Nat) : Int) by rw [addN _ _ (by omega), addN _ _ (by omega)]; congr 1; omega]
                rw [e3]
                refine idx_sl (by rfl) (by rfl) (by omega) (by omega) ?_
                rw [show IntKind.u32.wrap ((at0 l1 i * at0 l2 j + at0 p (i + j) + carry : Nat) : Int) = (((at0 l1 i * at0 l2 j + at0 p (i + j) + carry) % 4294967296 : Nat) : Int) by rw [wrap_u32]; omega]
                refine go ?_
                refine st_word (k := i + j) (by rfl) (by rfl) (by omega) (by omega) ?_
                refine go ?_
                rw [shrN, show arith .add .i64 ((j : Nat) : Int) 1 = ((j + 1 : Nat) : Int) by rw [ar_add, wrap_i64 (by omega) (by omega)]; omega]
                refine l_n (by rfl) (by omega) ⟨j + 1, _, _, rfl, rfl, rfl, by omega, by simp [j2], j3.set (by omega), r2, ?_, fun k hk => ?_⟩
                · rw [val_take_succ, Nat.mul_add, Nat.mul_add, ← Nat.add_assoc, ← Nat.add_assoc, ← j5]
                  have e4 : 4294967296 ^ i * (at0 l1 i * (4294967296 ^ j * at0 l2 j)) = 4294967296 ^ (i + j) * (at0 l1 i * at0 l2 j) := by
                    rw [Nat.pow_add, Nat.mul_left_comm (at0 l1 i), Nat.mul_assoc]
                  rw [e4]
                  exact r3
                · rw [at0_set (by omega)]
                  exact j6 k (by omega)
              · simp [compare'] at h'
                have ej : j = l2.length := by omega
                subst ej
                refine go ?_
                have e3 : arith .add .i64 ((i : Nat) : Int) l2.length = ((i + l2.length : Nat) : Int) := by
                  rw [ar_add, wrap_i64 (by omega) (by omega)]
                  omega
                rw [e3]
                refine idx_sl (by rfl) (by rfl) (by omega) (by omega) ?_
                rw [show IntKind.u32.wrap ((carry : Nat) : Int) = ((carry : Nat) : Int) by rw [wrap_u32]; omega]
                refine go ?_
                refine st_word (k := i + l2.length) (by rfl) (by rfl) (by omega) (by omega) ?_
                refine go ?_
                rw [show arith .add .i64 ((i : Nat) : Int) 1 = ((i + 1 : Nat) : Int) by rw [ar_add, wrap_i64 (by omega) (by omega)]; omega]
                refine l_n (by rfl) (by omega) ⟨i + 1, _, rfl, rfl, rfl, by omega, by simp [j2], j3.set j4, ?_, fun k hk => ?_⟩
                · have v1 := val_set p (i + l2.length) carry (by omega)
                  rw [j6 _ (by omega), k5 _ (by omega)] at v1
                  rw [val_all (Nat.le_refl _)] at j5
                  rw [val_take_succ, Nat.add_mul, ← k4, Nat.mul_assoc]
                  omega
                · rw [at0_set (by omega), j6 _ (by omega)]
                  exact k5 _ (by omega)
            · simp [compare'] at h
              have ei : i = l1.length := by omega
              subst ei
              rw [val_all (Nat.le_refl _)] at k4
              refine go ?_
              refine semH_of_semC_close [3] (.cons (.c (fz_words out (by rfl) rfl (by simp) k2.symm (by rw [← k2]; exact List.take_of_length_le (by simp)))) (.cons (.c (.hf trivial)) .nil)) (num_made _ (.imm out) k3 (by omega)) (fun u hu => ?_)
              obtain ⟨cs3, rfl, z3⟩ := hu
              obtain ⟨a0, a1, a2, rfl⟩ := z3.three
              refine go ?_
              rw [e1, e2, amt_mul, ← k4]
              exact ZK.fz z3
          · simp only [compare', dec_true] at hp
            refine go ?_
            cases hl : compare' Cm.lss ((x.natAbs * y.natAbs % 18446744073709551616 : Nat) : Int) 9223372036854775808
            · refine go ?_
              refine semH_of_semC (num_Z_words hx) (fun u hu => ?_)
              obtain ⟨c1, l1, n1, rfl, w1, o1, e1⟩ := hu
              refine go ?_
              refine semH_of_semC (num_Z_words hy) (fun u hu => ?_)
              obtain ⟨c2, l2, n2, rfl, w2, o2, e2⟩ := hu
              refine go ?_
              have hl1 : l1.length ≤ n := norm_len o1 (by rw [e1] at sx; rwa [amt_abs] at sx)
              have hl2 : l2.length ≤ n := norm_len o2 (by rw [e2] at sy; rwa [amt_abs] at sy)
              have e : arith .add .i64 (l1.length : Int) l2.length = ((l1.length + l2.length : Nat) : Int) := by
                rw [ar_add, wrap_i64 (by omega) (by omega)]
                omega
              rw [e]
              refine x_mkSl (by rfl) (by rfl) ⟨by omega, by omega, by omega, by omega⟩ ?_
              rw [Int.toNat_natCast, zeros]
              refine go ?_
              refine f_loop (fun n vs H => ∃ (i : Nat) (out : List Nat), vs = [.c (.ptr 2 0), .c c1, .c (.bool n1), .c c2, .c (.bool n2), .c (.sl 3 0 (l1.length + l2.length) (some (l1.length + l2.length)) 1), i64 (l1.length : Int), i64 (i : Int)] ∧ H = [.live ⟨[.int .i64 x, .nilSl, .bool false], T_num_Z, .rw⟩, .live ⟨[.int .i64 y, .nilSl, .bool false], T_num_Z, .rw⟩, .live ⟨[.int .i64 0, .nilSl, .bool false], T_num_Z, .rw⟩, .live ⟨out.map W, T_uint32, .rw⟩] ∧ n = l1.length - i ∧ i ≤ l1.length ∧ out.length = l1.length + l2.length ∧ OkW out ∧ val out = val (l1.take i) * val l2 ∧ ∀ k, i + l2.length ≤ k → at0 out k = 0) (by rfl) ⟨0, _, rfl, rfl, rfl, by omega, by simp, fun x hx => by simp at hx; omega, by simp [val, val_zeros], fun k _ => at0_zeros _ k⟩ ?_
              rintro m vs H ⟨i, out, rfl, rfl, rfl, k1, k2, k3, k4, k5⟩
              refine go ?_
              refine cnd_intro (fun h => ?_) (fun h => ?_)
              · simp [compare'] at h
                refine go ?_
                refine f_loop (fun n vs H => ∃ (j carry : Nat) (p : List Nat), vs = [.c (.ptr 2 0), .c c1, .c (.bool n1), .c c2, .c (.bool n2), .c (.sl 3 0 (l1.length + l2.length) (some (l1.length + l2.length)) 1), i64 (i : Int), .c (.int .u64 (carry : Int)), i64 (l1.length : Int), i64 (i : Int), i64 (l2.length : Int), i64 (j : Int)] ∧ H = [.live ⟨[.int .i64 x, .nilSl, .bool false], T_num_Z, .rw⟩, .live ⟨[.int .i64 y, .nilSl, .bool false], T_num_Z, .rw⟩, .live ⟨[.int .i64 0, .nilSl, .bool false], T_num_Z, .rw⟩, .live ⟨p.map W, T_uint32, .rw⟩] ∧ n = l2.length - j ∧ j ≤ l2.length ∧ p.length = l1.length + l2.length ∧ OkW p ∧ carry < 4294967296 ∧ val p + 4294967296 ^ (i + j) * carry = val out + 4294967296 ^ i * (at0 l1 i * val (l2.take j)) ∧ ∀ k, i + j ≤ k → at0 p k = at0 out k) (by rfl) ⟨0, 0, out, rfl, rfl, rfl, by omega, k2, k3, by omega, by simp [val], fun k _ => rfl⟩ ?_
                rintro m vs H ⟨j, carry, p, rfl, rfl, rfl, j1, j2, j3, j4, j5, j6⟩
                refine go ?_
                refine cnd_intro (fun h' => ?_) (fun h' => ?_)
                · simp [compare'] at h'
                  refine go ?_
                  have e3 : arith .add .i64 ((i : Nat) : Int) ((j : Nat) : Int) = ((i + j : Nat) : Int) := by
                    rw [ar_add, wrap_i64 (by omega) (by omega)]
                    omega
                  have ga := o1.1.get i
                  have gb := o2.1.get j
                  have gw := j3.get (i + j)
                  obtain ⟨r1, r2, r3⟩ := row_step (k := i + j) (out := p) (by omega) j3 ga gb j4
                  have r0 : at0 l1 i * at0 l2 j < 18446744073709551616 := by omega
                  rw [e3]
                  refine idx_sl (by rfl) (by rfl) (by omega) (by omega) ?_
                  refine go ?_
                  refine ld_word (k := i + j) (by rfl) (by omega) (by omega) ?_
                  refine go ?_
                  rw [show IntKind.u64.wrap ((at0 l1 ((i : Nat) : Int).toNat : Nat) : Int) = ((at0 l1 i : Nat) : Int) by rw [Int.toNat_natCast, wrapN _ (by omega)], show IntKind.u64.wrap ((at0 l2 ((j : Nat) : Int).toNat : Nat) : Int) = ((at0 l2 j : Nat) : Int) by rw [Int.toNat_natCast, wrapN _ (by omega)], mulN _ _ r0, wrapN _ (by omega : at0 p (i + j) < 18446744073709551616), show arith .add .u64 (arith .add .u64 ((at0 p (i + j) : Nat) : Int) ((at0 l1 i * at0 l2 j : Nat) : Int)) ((carry : Nat) : Int) = ((at0 l1 i * at0 l2 j + at0 p (i + j) + carry : Nat) : Int) by rw [addN _ _ (by omega), addN _ _ (by omega)]; congr 1; omega]
                  rw [e3]
                  refine idx_sl (by rfl) (by rfl) (by omega) (by omega) ?_
                  rw [show IntKind.u32.wrap ((at0 l1 i * at0 l2 j + at0 p (i + j) + carry : Nat) : Int) = (((at0 l1 i * at0 l2 j + at0 p (i + j) + carry) % 4294967296 : Nat) : Int) by rw [wrap_u32]; omega]
                  refine go ?_
                  refine st_word (k := i + j) (by rfl) (by rfl) (by omega) (by omega) ?_
                  refine go ?_
                  rw [shrN, show arith .add .i64 ((j : Nat) : Int) 1 = ((j + 1 : Nat) : Int) by rw [ar_add, wrap_i64 (by omega) (by omega)]; omega]
                  refine l_n (by rfl) (by omega) ⟨j + 1, _, _, rfl, rfl, rfl, by omega, by simp [j2], j3.set (by omega), r2, ?_, fun k hk => ?_⟩
                  · rw [val_take_succ, Nat.mul_add, Nat.mul_add, ← Nat.add_assoc, ← Nat.add_assoc, ← j5]
                    have e4 : 4294967296 ^ i * (at0 l1 i * (4294967296 ^ j * at0 l2 j)) = 4294967296 ^ (i + j) * (at0 l1 i * at0 l2 j) := by
                      rw [Nat.pow_add, Nat.mul_left_comm (at0 l1 i), Nat.mul_assoc]
                    rw [e4]
                    exact r3
                  · rw [at0_set (by omega)]
                    exact j6 k (by omega)
                · simp [compare'] at h'
                  have ej : j = l2.length := by omega
                  subst ej
                  refine go ?_
                  have e3 : arith .add .i64 ((i : Nat) : Int) l2.length = ((i + l2.length : Nat) : Int) := by
                    rw [ar_add, wrap_i64 (by omega) (by omega)]
                    omega
                  rw [e3]
                  refine idx_sl (by rfl) (by rfl) (by omega) (by omega) ?_
                  rw [show IntKind.u32.wrap ((carry : Nat) : Int) = ((carry : Nat) : Int) by rw [wrap_u32]; omega]
                  refine go ?_
                  refine st_word (k := i + l2.length) (by rfl) (by rfl) (by omega) (by omega) ?_
                  refine go ?_
                  rw [show arith .add .i64 ((i : Nat) : Int) 1 = ((i + 1 : Nat) : Int) by rw [ar_add, wrap_i64 (by omega) (by omega)]; omega]
                  refine l_n (by rfl) (by omega) ⟨i + 1, _, rfl, rfl, rfl, by omega, by simp [j2], j3.set j4, ?_, fun k hk => ?_⟩
                  · have v1 := val_set p (i + l2.length) carry (by omega)
                    rw [j6 _ (by omega), k5 _ (by omega)] at v1
                    rw [val_all (Nat.le_refl _)] at j5
                    rw [val_take_succ, Nat.add_mul, ← k4, Nat.mul_assoc]
                    omega
                  · rw [at0_set (by omega), j6 _ (by omega)]
                    exact k5 _ (by omega)
              · simp [compare'] at h
                have ei : i = l1.length := by omega
                subst ei
                rw [val_all (Nat.le_refl _)] at k4
                refine go ?_
                refine semH_of_semC_close [3] (.cons (.c (fz_words out (by rfl) rfl (by simp) k2.symm (by rw [← k2]; exact List.take_of_length_le (by simp)))) (.cons (.c (.hf trivial)) .nil)) (num_made _ (.imm out) k3 (by omega)) (fun u hu => ?_)
                obtain ⟨cs3, rfl, z3⟩ := hu
                obtain ⟨a0, a1, a2, rfl⟩ := z3.three
                refine go ?_
                rw [e1, e2, amt_mul, ← k4]
                exact ZK.fz z3
            · simp only [compare', dec_true] at hl
              refine go ?_
              rw [hq0, hr0]
              refine go ?_
              have hm : x.natAbs * y.natAbs < 18446744073709551616 := by omega
              rw [Nat.mod_eq_of_lt hm] at hl ⊢
              have h0 : 0 ≤ (-x) * y := Int.mul_nonneg (by omega) (by omega)
              rw [Int.neg_mul] at h0
              have ez : x * y = -((x.natAbs * y.natAbs : Nat) : Int) := by rw [← Int.natAbs_mul]; omega
              rw [wrap_i64 (n := ((x.natAbs * y.natAbs : Nat) : Int)) (by omega) (by omega), wrap_i64 (by omega) (by omega), Int.zero_sub, ez]
              exact ZK.fz (.small _ (by omega) (by omega))
        · have hr0 := hr
          simp [compare'] at hr
          refine go ?_
          rw [show IntKind.u64.wrap (0 - IntKind.u64.wrap x) = ((x.natAbs : Nat) : Int) by rw [wrap_u64, wrap_u64]; omega, show IntKind.u64.wrap (0 - IntKind.u64.wrap y) = ((y.natAbs : Nat) : Int) by rw [wrap_u64, wrap_u64]; omega]
          refine semH_of_semC (bits_Mul64 (x := x.natAbs) (y := y.natAbs) (by omega) (by omega)) (fun u hu => ?_)
          obtain rfl := hu
          refine go ?_
          cases hp : compare' Cm.eql ((x.natAbs * y.natAbs / 18446744073709551616 : Nat) : Int) 0
          · refine go ?_
            refine semH_of_semC (num_Z_words hx) (fun u hu => ?_)
            obtain ⟨c1, l1, n1, rfl, w1, o1, e1⟩ := hu
            refine go ?_
            refine semH_of_semC (num_Z_words hy) (fun u hu => ?_)
            obtain ⟨c2, l2, n2, rfl, w2, o2, e2⟩ := hu
            refine go ?_
            have hl1 : l1.length ≤ n := norm_len o1 (by rw [e1] at sx; rwa [amt_abs] at sx)
            have hl2 : l2.length ≤ n := norm_len o2 (by rw [e2] at sy; rwa [amt_abs] at sy)
            have e : arith .add .i64 (l1.length : Int) l2.length = ((l1.length + l2.length : Nat) : Int) := by
              rw [ar_add, wrap_i64 (by omega) (by omega)]
              omega
            rw [e]
            refine x_mkSl (by rfl) (by rfl) ⟨by omega, by omega, by omega, by omega⟩ ?_
            rw [Int.toNat_natCast, zeros]
            refine go ?_
            refine f_loop (fun n vs H => ∃ (i : Nat) (out : List Nat), vs = [.c (.ptr 2 0), .c c1, .c (.bool n1), .c c2, .c (.bool n2), .c (.sl 3 0 (l1.length + l2.length) (some (l1.length + l2.length)) 1), i64 (l1.length : Int), i64 (i : Int)] ∧ H = [.live ⟨[.int .i64 x, .nilSl, .bool false], T_num_Z, .rw⟩, .live ⟨[.int .i64 y, .nilSl, .bool false], T_num_Z, .rw⟩, .live ⟨[.int .i64 0, .nilSl, .bool false], T_num_Z, .rw⟩, .live ⟨out.map W, T_uint32, .rw⟩] ∧ n = l1.length - i ∧ i ≤ l1.length ∧ out.length = l1.length + l2.length ∧ OkW out ∧ val out = val (l1.take i) * val l2 ∧ ∀ k, i + l2.length ≤ k → at0 out k = 0) (by rfl) ⟨0, _, rfl, rfl, rfl, by omega, by simp, fun x hx => by simp at hx; omega, by simp [val, val_zeros], fun k _ => at0_zeros _ k⟩ ?_
            rintro m vs H ⟨i, out, rfl, rfl, rfl, k1, k2, k3, k4, k5⟩
            refine go ?_
            refine cnd_intro (fun h => ?_) (fun h => ?_)
            · simp [compare'] at h
              refine go ?_
              refine f_loop (fun n vs H => ∃ (j carry : Nat) (p : List Nat), vs = [.c (.ptr 2 0), .c c1, .c (.bool n1), .c c2, .c (.bool n2), .c (.sl 3 0 (l1.length + l2.length) (some (l1.length + l2.length)) 1), i64 (i : Int), .c (.int .u64 (carry : Int)), i64 (l1.length : Int), i64 (i : Int), i64 (l2.length : Int), i64 (j : Int)] ∧ H = [.live ⟨[.int .i64 x, .nilSl, .bool false], T_num_Z, .rw⟩, .live ⟨[.int .i64 y, .nilSl, .bool false], T_num_Z, .rw⟩, .live ⟨[.int .i64 0, .nilSl, .bool false], T_num_Z, .rw⟩, .live ⟨p.map W, T_uint32, .rw⟩] ∧ n = l2.length - j ∧ j ≤ l2.length ∧ p.length = l1.length + l2.length ∧ OkW p ∧ carry < 4294967296 ∧ val p + 4294967296 ^ (i + j) * carry = val out + 4294967296 ^ i * (at0 l1 i * val (l2.take j)) ∧ ∀ k, i + j ≤ k → at0 p k = at0 out k) (by rfl) ⟨0, 0, out, rfl, rfl, rfl, by omega, k2, k3, by omega, by simp [val], fun k _ => rfl⟩ ?_
              rintro m vs H ⟨j, carry, p, rfl, rfl, rfl, j1, j2, j3, j4, j5, j6⟩
              refine go ?_
              refine cnd_intro (fun h' => ?_) (fun h' => ?_)
              · simp [compare'] at h'
                refine go ?_
                have e3 : arith .add .i64 ((i : Nat) : Int) ((j : Nat) : Int) = ((i + j : Nat) : Int) := by
                  rw [ar_add, wrap_i64 (by omega) (by omega)]
                  omega
                have ga := o1.1.get i
                have gb := o2.1.get j
                have gw := j3.get (i + j)
                obtain ⟨r1, r2, r3⟩ := row_step (k := i + j) (out := p) (by omega) j3 ga gb j4
                have r0 : at0 l1 i * at0 l2 j < 18446744073709551616 := by omega
                rw [e3]
                refine idx_sl (by rfl) (by rfl) (by omega) (by omega) ?_
                refine go ?_
                refine ld_word (k := i + j) (by rfl) (by omega) (by omega) ?_
                refine go ?_
                rw [show IntKind.u64.wrap ((at0 l1 ((i : Nat) : Int).toNat : Nat) : Int) = ((at0 l1 i : Nat) : Int) by rw [Int.toNat_natCast, wrapN _ (by omega)], show IntKind.u64.wrap ((at0 l2 ((j : Nat) : Int).toNat : Nat) : Int) = ((at0 l2 j : Nat) : Int) by rw [Int.toNat_natCast, wrapN _ (by omega)], mulN _ _ r0, wrapN _ (by omega : at0 p (i + j) < 18446744073709551616), show arith .add .u64 (arith .add .u64 ((at0 p (i + j) : Nat) : Int) ((at0 l1 i * at0 l2 j : Nat) : Int)) ((carry : Nat) : Int) = ((at0 l1 i * at0 l2 j + at0 p (i + j) + carry : Nat) : Int) by rw [addN _ _ (by omega), addN _ _ (by omega)]; congr 1; omega]
                rw [e3]
                refine idx_sl (by rfl) (by rfl) (by omega) (by omega) ?_
                rw [show IntKind.u32.wrap ((at0 l1 i * at0 l2 j + at0 p (i + j) + carry : Nat) : Int) = (((at0 l1 i * at0 l2 j + at0 p (i + j) + carry) % 4294967296 : Nat) : Int) by rw [wrap_u32]; omega]
                refine go ?_
                refine st_word (k := i + j) (by rfl) (by rfl) (by omega) (by omega) ?_
                refine go ?_
                rw [shrN, show arith .add .i64 ((j : Nat) : Int) 1 = ((j + 1 : Nat) : Int) by rw [ar_add, wrap_i64 (by omega) (by omega)]; omega]
                refine l_n (by rfl) (by omega) ⟨j + 1, _, _, rfl, rfl, rfl, by omega, by simp [j2], j3.set (by omega), r2, ?_, fun k hk => ?_⟩
                · rw [val_take_succ, Nat.mul_add, Nat.mul_add, ← Nat.add_assoc, ← Nat.add_assoc, ← j5]
                  have e4 : 4294967296 ^ i * (at0 l1 i * (4294967296 ^ j * at0 l2 j)) = 4294967296 ^ (i + j) * (at0 l1 i * at0 l2 j) := by
                    rw [Nat.pow_add, Nat.mul_left_comm (at0 l1 i), Nat.mul_assoc]
                  rw [e4]
                  exact r3
                · rw [at0_set (by omega)]
                  exact j6 k (by omega)
              · simp [compare'] at h'
                have ej : j = l2.length := by omega
                subst ej
                refine go ?_
                have e3 : arith .add .i64 ((i : Nat) : Int) l2.length = ((i + l2.length : Nat) : Int) := by
                  rw [ar_add, wrap_i64 (by omega) (by omega)]
                  omega
                rw [e3]
                refine idx_sl (by rfl) (by rfl) (by omega) (by omega) ?_
                rw [show IntKind.u32.wrap ((carry : Nat) : Int) = ((carry : Nat) : Int) by rw [wrap_u32]; omega]
                refine go ?_
                refine st_word (k := i + l2.length) (by rfl) (by rfl) (by omega) (by omega) ?_
                refine go ?_
                rw [show arith .add .i64 ((i : Nat) : Int) 1 = ((i + 1 : Nat) : Int) by rw [ar_add, wrap_i64 (by omega) (by omega)]; omega]
                refine l_n (by rfl) (by omega) ⟨i + 1, _, rfl, rfl, rfl, by omega, by simp [j2], j3.set j4, ?_, fun k hk => ?_⟩
                · have v1 := val_set p (i + l2.length) carry (by omega)
                  rw [j6 _ (by omega), k5 _ (by omega)] at v1
                  rw [val_all (Nat.le_refl _)] at j5
                  rw [val_take_succ, Nat.add_mul, ← k4, Nat.mul_assoc]
                  omega
                · rw [at0_set (by omega), j6 _ (by omega)]
                  exact k5 _ (by omega)
            · simp [compare'] at h
              have ei : i = l1.length := by omega
              subst ei
              rw [val_all (Nat.le_refl _)] at k4
              refine go ?_
              refine semH_of_semC_close [3] (.cons (.c (fz_words out (by rfl) rfl (by simp) k2.symm (by rw [← k2]; exact List.take_of_length_le (by simp)))) (.cons (.c (.hf trivial)) .nil)) (num_made _ (.imm out) k3 (by omega)) (fun u hu => ?_)
              obtain ⟨cs3, rfl, z3⟩ := hu
              obtain ⟨a0, a1, a2, rfl⟩ := z3.three
              refine go ?_
              rw [e1, e2, amt_mul, ← k4]
              exact ZK.fz z3
          · simp only [compare', dec_true] at hp
            refine go ?_
            cases hl : compare' Cm.lss ((x.natAbs * y.natAbs % 18446744073709551616 : Nat) : Int) 9223372036854775808
            · refine go ?_
              refine semH_of_semC (num_Z_words hx) (fun u hu => ?_)
              obtain ⟨c1, l1, n1, rfl, w1, o1, e1⟩ := hu
              refine go ?_
              refine semH_of_semC (num_Z_words hy) (fun u hu => ?_)
              obtain ⟨c2, l2, n2, rfl, w2, o2, e2⟩ := hu
              refine go ?_
              have hl1 : l1.length ≤ n := norm_len o1 (by rw [e1] at sx; rwa [amt_abs] at sx)
              have hl2 : l2.length ≤ n := norm_len o2 (by rw [e2] at sy; rwa [amt_abs] at sy)
              have e : arith .add .i64 (l1.length : Int) l2.length = ((l1.length + l2.length : Nat) : Int) := by
                rw [ar_add, wrap_i64 (by omega) (by omega)]
                omega
              rw [e]
              refine x_mkSl (by rfl) (by rfl) ⟨by omega, by omega, by omega, by omega⟩ ?_
              rw [Int.toNat_natCast, zeros]
              refine go ?_
              refine f_loop (fun n vs H => ∃ (i : Nat) (out : List Nat), vs = [.c (.ptr 2 0), .c c1, .c (.bool n1), .c c2, .c (.bool n2), .c (.sl 3 0 (l1.length + l2.length) (some (l1.length + l2.length)) 1), i64 (l1.length : Int), i64 (i : Int)] ∧ H = [.live ⟨[.int .i64 x, .nilSl, .bool false], T_num_Z, .rw⟩, .live ⟨[.int .i64 y, .nilSl, .bool false], T_num_Z, .rw⟩, .live ⟨[.int .i64 0, .nilSl, .bool false], T_num_Z, .rw⟩, .live ⟨out.map W, T_uint32, .rw⟩] ∧ n = l1.length - i ∧ i ≤ l1.length ∧ out.length = l1.length + l2.length ∧ OkW out ∧ val out = val (l1.take i) * val l2 ∧ ∀ k, i + l2.length ≤ k → at0 out k = 0) (by rfl) ⟨0, _, rfl, rfl, rfl, by omega, by simp, fun x hx => by simp at hx; omega, by simp [val, val_zeros], fun k _ => at0_zeros _ k⟩ ?_
              rintro m vs H ⟨i, out, rfl, rfl, rfl, k1, k2, k3, k4, k5⟩
              refine go ?_
              refine cnd_intro (fun h => ?_) (fun h => ?_)
              · simp [compare'] at h
                refine go ?_
                refine f_loop (fun n vs H => ∃ (j carry : Nat) (p : List Nat), vs = [.c (.ptr 2 0), .c c1, .c (.bool n1), .c c2, .c (.bool n2), .c (.sl 3 0 (l1.length + l2.length) (some (l1.length + l2.length)) 1), i64 (i : Int), .c (.int .u64 (carry : Int)), i64 (l1.length : Int), i64 (i : Int), i64 (l2.length : Int), i64 (j : Int)] ∧ H = [.live ⟨[.int .i64 x, .nilSl, .bool false], T_num_Z, .rw⟩, .live ⟨[.int .i64 y, .nilSl, .bool false], T_num_Z, .rw⟩, .live ⟨[.int .i64 0, .nilSl, .bool false], T_num_Z, .rw⟩, .live ⟨p.map W, T_uint32, .rw⟩] ∧ n = l2.length - j ∧ j ≤ l2.length ∧ p.length = l1.length + l2.length ∧ OkW p ∧ carry < 4294967296 ∧ val p + 4294967296 ^ (i + j) * carry = val out + 4294967296 ^ i * (at0 l1 i * val (l2.take j)) ∧ ∀ k, i + j ≤ k → at0 p k = at0 out k) (by rfl) ⟨0, 0, out, rfl, rfl, rfl, by omega, k2, k3, by omega, by simp [val], fun k _ => rfl⟩ ?_
                rintro m vs H ⟨j, carry, p, rfl, rfl, rfl, j1, j2, j3, j4, j5, j6⟩
                refine go ?_
                refine cnd_intro (fun h' => ?_) (fun h' => ?_)
                · simp [compare'] at h'
                  refine go ?_
                  have e3 : arith .add .i64 ((i : Nat) : Int) ((j : Nat) : Int) = ((i + j : Nat) : Int) := by
                    rw [ar_add, wrap_i64 (by omega) (by omega)]
                    omega
                  have ga := o1.1.get i
                  have gb := o2.1.get j
                  have gw := j3.get (i + j)
                  obtain ⟨r1, r2, r3⟩ := row_step (k := i + j) (out := p) (by omega) j3 ga gb j4
                  have r0 : at0 l1 i * at0 l2 j < 18446744073709551616 := by omega
                  rw [e3]
                  refine idx_sl (by rfl) (by rfl) (by omega) (by omega) ?_
                  refine go ?_
                  refine ld_word (k := i + j) (by rfl) (by omega) (by omega) ?_
                  refine go ?_
                  rw [show IntKind.u64.wrap ((at0 l1 ((i : Nat) : Int).toNat : Nat) : Int) = ((at0 l1 i : Nat) : Int) by rw [Int.toNat_natCast, wrapN _ (by omega)], show IntKind.u64.wrap ((at0 l2 ((j : Nat) : Int).toNat : Nat) : Int) = ((at0 l2 j : Nat) : Int) by rw [Int.toNat_natCast, wrapN _ (by omega)], mulN _ _ r0, wrapN _ (by omega : at0 p (i + j) < 18446744073709551616), show arith .add .u64 (arith .add .u64 ((at0 p (i + j) : Nat) : Int) ((at0 l1 i * at0 l2 j : Nat) : Int)) ((carry : Nat) : Int) = ((at0 l1 i * at0 l2 j + at0 p (i + j) + carry : Nat) : Int) by rw [addN _ _ (by omega), addN _ _ (by omega)]; congr 1; omega]
                  rw [e3]
                  refine idx_sl (by rfl) (by rfl) (by omega) (by omega) ?_
                  rw [show IntKind.u32.wrap ((at0 l1 i * at0 l2 j + at0 p (i + j) + carry : Nat) : Int) = (((at0 l1 i * at0 l2 j + at0 p (i + j) + carry) % 4294967296 : Nat) : Int) by rw [wrap_u32]; omega]
                  refine go ?_
                  refine st_word (k := i + j) (by rfl) (by rfl) (by omega) (by omega) ?_
                  refine go ?_
                  rw [shrN, show arith .add .i64 ((j : Nat) : Int) 1 = ((j + 1 : Nat) : Int) by rw [ar_add, wrap_i64 (by omega) (by omega)]; omega]
                  refine l_n (by rfl) (by omega) ⟨j + 1, _, _, rfl, rfl, rfl, by omega, by simp [j2], j3.set (by omega), r2, ?_, fun k hk => ?_⟩
                  · rw [val_take_succ, Nat.mul_add, Nat.mul_add, ← Nat.add_assoc, ← Nat.add_assoc, ← j5]
                    have e4 : 4294967296 ^ i * (at0 l1 i * (4294967296 ^ j * at0 l2 j)) = 4294967296 ^ (i + j) * (at0 l1 i * at0 l2 j) := by
                      rw [Nat.pow_add, Nat.mul_left_comm (at0 l1 i), Nat.mul_assoc]
                    rw [e4]
                    exact r3
                  · rw [at0_set (by omega)]
                    exact j6 k (by omega)
                · simp [compare'] at h'
                  have ej : j = l2.length := by omega
                  subst ej
                  refine go ?_
                  have e3 : arith .add .i64 ((i : Nat) : Int) l2.length = ((i + l2.length : Nat) : Int) := by
                    rw [ar_add, wrap_i64 (by omega) (by omega)]
                    omega
                  rw [e3]
                  refine idx_sl (by rfl) (by rfl) (by omega) (by omega) ?_
                  rw [show IntKind.u32.wrap ((carry : Nat) : Int) = ((carry : Nat) : Int) by rw [wrap_u32]; omega]
                  refine go ?_
                  refine st_word (k := i + l2.length) (by rfl) (by rfl) (by omega) (by omega) ?_
                  refine go ?_
                  rw [show arith .add .i64 ((i : Nat) : Int) 1 = ((i + 1 : Nat) : Int) by rw [ar_add, wrap_i64 (by omega) (by omega)]; omega]
                  refine l_n (by rfl) (by omega) ⟨i + 1, _, rfl, rfl, rfl, by omega, by simp [j2], j3.set j4, ?_, fun k hk => ?_⟩
                  · have v1 := val_set p (i + l2.length) carry (by omega)
                    rw [j6 _ (by omega), k5 _ (by omega)] at v1
                    rw [val_all (Nat.le_refl _)] at j5
                    rw [val_take_succ, Nat.add_mul, ← k4, Nat.mul_assoc]
                    omega
                  · rw [at0_set (by omega), j6 _ (by omega)]
                    exact k5 _ (by omega)
              · simp [compare'] at h
                have ei : i = l1.length := by omega
                subst ei
                rw [val_all (Nat.le_refl _)] at k4
                refine go ?_
                refine semH_of_semC_close [3] (.cons (.c (fz_words out (by rfl) rfl (by simp) k2.symm (by rw [← k2]; exact List.take_of_length_le (by simp)))) (.cons (.c (.hf trivial)) .nil)) (num_made _ (.imm out) k3 (by omega)) (fun u hu => ?_)
                obtain ⟨cs3, rfl, z3⟩ := hu
                obtain ⟨a0, a1, a2, rfl⟩ := z3.three
                refine go ?_
                rw [e1, e2, amt_mul, ← k4]
                exact ZK.fz z3
            · simp only [compare', dec_true] at hl
              refine go ?_
              rw [hq0, hr0]
              refine go ?_
              have hm : x.natAbs * y.natAbs < 18446744073709551616 := by omega
              rw [Nat.mod_eq_of_lt hm] at hl ⊢
              have h0 : 0 ≤ x * y := by rw [← Int.neg_mul_neg]; exact Int.mul_nonneg (by omega) (by omega)
              have ez : x * y = ((x.natAbs * y.natAbs : Nat) : Int) := by rw [← Int.natAbs_mul]; omega
              rw [wrap_i64 (by omega) (by omega), ez]
              exact ZK.fz (.small _ (by omega) (by omega))
    · refine go ?_
      refine semH_of_semC (num_Z_words hx) (fun u hu => ?_)
      obtain ⟨c1, l1, n1, rfl, w1, o1, e1⟩ := hu
      refine go ?_
      refine semH_of_semC (num_Z_words hy) (fun u hu => ?_)
      obtain ⟨c2, l2, n2, rfl, w2, o2, e2⟩ := hu
      refine go ?_
      have hl1 : l1.length ≤ n := norm_len o1 (by rw [e1] at sx; rwa [amt_abs] at sx)
      have hl2 : l2.length ≤ n := norm_len o2 (by rw [e2] at sy; rwa [amt_abs] at sy)
      have e : arith .add .i64 (l1.length : Int) l2.length = ((l1.length + l2.length : Nat) : Int) := by
        rw [ar_add, wrap_i64 (by omega) (by omega)]
        omega
      rw [e]
      refine x_mkSl (by rfl) (by rfl) ⟨by omega, by omega, by omega, by omega⟩ ?_
      rw [Int.toNat_natCast, zeros]
      refine go ?_
      refine f_loop (fun n vs H => ∃ (i : Nat) (out : List Nat), vs = [.c (.ptr 2 0), .c c1, .c (.bool n1), .c c2, .c (.bool n2), .c (.sl 3 0 (l1.length + l2.length) (some (l1.length + l2.length)) 1), i64 (l1.length : Int), i64 (i : Int)] ∧ H = [.live ⟨[.int .i64 x, .nilSl, .bool false], T_num_Z, .rw⟩, .live ⟨[.int .i64 0, .imm ly.length (ly.map W), .bool ny], T_num_Z, .rw⟩, .live ⟨[.int .i64 0, .nilSl, .bool false], T_num_Z, .rw⟩, .live ⟨out.map W, T_uint32, .rw⟩] ∧ n = l1.length - i ∧ i ≤ l1.length ∧ out.length = l1.length + l2.length ∧ OkW out ∧ val out = val (l1.take i) * val l2 ∧ ∀ k, i + l2.length ≤ k → at0 out k = 0) (by rfl) ⟨0, _, rfl, rfl, rfl, by omega, by simp, fun x hx => by simp at hx; omega, by simp [val, val_zeros], fun k _ => at0_zeros _ k⟩ ?_
      rintro m vs H ⟨i, out, rfl, rfl, rfl, k1, k2, k3, k4, k5⟩
      refine go ?_
      refine cnd_intro (fun h => ?_) (fun h => ?_)
      · simp [compare'] at h
        refine go ?_
        refine f_loop (fun n vs H => ∃ (j carry : Nat) (p : List Nat), vs = [.c (.ptr 2 0), .c c1, .c (.bool n1), .c c2, .c (.bool n2), .c (.sl 3 0 (l1.length + l2.length) (some (l1.length + l2.length)) 1), i64 (i : Int), .c (.int .u64 (carry : Int)), i64 (l1.length : Int), i64 (i : Int), i64 (l2.length : Int), i64 (j : Int)] ∧ H = [.live ⟨[.int .i64 x, .nilSl, .bool false], T_num_Z, .rw⟩, .live ⟨[.int .i64 0, .imm ly.length (ly.map W), .bool ny], T_num_Z, .rw⟩, .live ⟨[.int .i64 0, .nilSl, .bool false], T_num_Z, .rw⟩, .live ⟨p.map W, T_uint32, .rw⟩] ∧ n = l2.length - j ∧ j ≤ l2.length ∧ p.length = l1.length + l2.length ∧ OkW p ∧ carry < 4294967296 ∧ val p + 4294967296 ^ (i + j) * carry = val out + 4294967296 ^ i * (at0 l1 i * val (l2.take j)) ∧ ∀ k, i + j ≤ k → at0 p k = at0 out k) (by rfl) ⟨0, 0, out, rfl, rfl, rfl, by omega, k2, k3, by omega, by simp [val], fun k _ => rfl⟩ ?_
        rintro m vs H ⟨j, carry, p, rfl, rfl, rfl, j1, j2, j3, j4, j5, j6⟩
        refine go ?_
        refine cnd_intro (fun h' => ?_) (fun h' => ?_)
        · simp [compare'] at h'
          refine go ?_
          have e3 : arith .add .i64 ((i : Nat) : Int) ((j : Nat) : Int) = ((i + j : Nat) : Int) := by
            rw [ar_add, wrap_i64 (by omega) (by omega)]
            omega
          have ga := o1.1.get i
          have gb := o2.1.get j
          have gw := j3.get (i + j)
          obtain ⟨r1, r2, r3⟩ := row_step (k := i + j) (out := p) (by omega) j3 ga gb j4
          have r0 : at0 l1 i * at0 l2 j < 18446744073709551616 := by omega
          rw [e3]
          refine idx_sl (by rfl) (by rfl) (by omega) (by omega) ?_
          refine go ?_
          refine ld_word (k := i + j) (by rfl) (by omega) (by omega) ?_
          refine go ?_
          rw [show IntKind.u64.wrap ((at0 l1 ((i : Nat) : Int).toNat : Nat) : Int) = ((at0 l1 i : Nat) : Int) by rw [Int.toNat_natCast, wrapN _ (by omega)], show IntKind.u64.wrap ((at0 l2 ((j : Nat) : Int).toNat : Nat) : Int) = ((at0 l2 j : Nat) : Int) by rw [Int.toNat_natCast, wrapN _ (by omega)], mulN _ _ r0, wrapN _ (by omega : at0 p (i + j) < 18446744073709551616), show arith .add .u64 (arith .add .u64 ((at0 p (i + j) : Nat) : Int) ((at0 l1 i * at0 l2 j : Nat) : Int)) ((carry : Nat) : Int) = ((at0 l1 i * at0 l2 j + at0 p (i + j) + carry : Nat) : Int) by rw [addN _ _ (by omega), addN _ _ (by omega)]; congr 1; omega]
          rw [e3]
          refine idx_sl (by rfl) (by rfl) (by omega) (by omega) ?_
          rw [show IntKind.u32.wrap ((at0 l1 i * at0 l2 j + at0 p (i + j) + carry : Nat) : Int) = (((at0 l1 i * at0 l2 j + at0 p (i + j) + carry) % 4294967296 : Nat) : Int) by rw [wrap_u32]; omega]
          refine go ?_
          refine st_word (k := i + j) (by rfl) (by rfl) (by omega) (by omega) ?_
          refine go ?_
          rw [shrN, show arith .add .i64 ((j : Nat) : Int) 1 = ((j + 1 : Nat) : Int) by rw [ar_add, wrap_i64 (by omega) (by omega)]; omega]
          refine l_n (by rfl) (by omega) ⟨j + 1, _, _, rfl, rfl, rfl, by omega, by simp [j2], j3.set (by omega), r2, ?_, fun k hk => ?_⟩
          · rw [val_take_succ, Nat.mul_add, Nat.mul_add, ← Nat.add_assoc, ← Nat.add_assoc, ← j5]
            have e4 : 4294967296 ^ i * (at0 l1 i * (4294967296 ^ j * at0 l2 j)) = 4294967296 ^ (i + j) * (at0 l1 i * at0 l2 j) := by
              rw [Nat.pow_add, Nat.mul_left_comm (at0 l1 i), Nat.mul_assoc]
            rw [e4]
            exact r3
          · rw [at0_set (by omega)]
            exact j6 k (by omega)
        · simp [compare'] at h'
          have ej : j = l2.length := by omega
          subst ej
          refine go ?_
          have e3 : arith .add .i64 ((i : Nat) : Int) l2.length = ((i + l2.length : Nat) : Int) := by
            rw [ar_add, wrap_i64 (by omega) (by omega)]
            omega
          rw [e3]
          refine idx_sl (by rfl) (by rfl) (by omega) (by omega) ?_
          rw [show IntKind.u32.wrap ((carry : Nat) : Int) = ((carry : Nat) : Int) by rw [wrap_u32]; omega]
          refine go ?_
          refine st_word (k := i + l2.length) (by rfl) (by rfl) (by omega) (by omega) ?_
          refine go ?_
          rw [show arith .add .i64 ((i : Nat) : Int) 1 = ((i + 1 : Nat) : Int) by rw [ar_add, wrap_i64 (by omega) (by omega)]; omega]
          refine l_n (by rfl) (by omega) ⟨i + 1, _, rfl, rfl, rfl, by omega, by simp [j2], j3.set j4, ?_, fun k hk => ?_⟩
          · have v1 := val_set p (i + l2.length) carry (by omega)
            rw [j6 _ (by omega), k5 _ (by omega)] at v1
            rw [val_all (Nat.le_refl _)] at j5
            rw [val_take_succ, Nat.add_mul, ← k4, Nat.mul_assoc]
            omega
          · rw [at0_set (by omega), j6 _ (by omega)]
            exact k5 _ (by omega)
      · simp [compare'] at h
        have ei : i = l1.length := by omega
        subst ei
        rw [val_all (Nat.le_refl _)] at k4
        refine go ?_
        refine semH_of_semC_close [3] (.cons (.c (fz_words out (by rfl) rfl (by simp) k2.symm (by rw [← k2]; exact List.take_of_length_le (by simp)))) (.cons (.c (.hf trivial)) .nil)) (num_made _ (.imm out) k3 (by omega)) (fun u hu => ?_)
        obtain ⟨cs3, rfl, z3⟩ := hu
        obtain ⟨a0, a1, a2, rfl⟩ := z3.three
        refine go ?_
        rw [e1, e2, amt_mul, ← k4]
        exact ZK.fz z3
  · obtain ⟨d0, d1, d2, rfl⟩ := hy.three
    refine go ?_
    refine semH_of_semC (num_Z_words hx) (fun u hu => ?_)
    obtain ⟨c1, l1, n1, rfl, w1, o1, e1⟩ := hu
    refine go ?_
    refine semH_of_semC (num_Z_words hy) (fun u hu => ?_)
    obtain ⟨c2, l2, n2, rfl, w2, o2, e2⟩ := hu
    refine go ?_
    have hl1 : l1.length ≤ n := norm_len o1 (by rw [e1] at sx; rwa [amt_abs] at sx)
    have hl2 : l2.length ≤ n := norm_len o2 (by rw [e2] at sy; rwa [amt_abs] at sy)
    have e : arith .add .i64 (l1.length : Int) l2.length = ((l1.length + l2.length : Nat) : Int) := by
      rw [ar_add, wrap_i64 (by omega) (by omega)]
      omega
    rw [e]
    refine x_mkSl (by rfl) (by rfl) ⟨by omega, by omega, by omega, by omega⟩ ?_
    rw [Int.toNat_natCast, zeros]
    refine go ?_
    refine f_loop (fun n vs H => ∃ (i : Nat) (out : List Nat), vs = [.c (.ptr 2 0), .c c1, .c (.bool n1), .c c2, .c (.bool n2), .c (.sl 3 0 (l1.length + l2.length) (some (l1.length + l2.length)) 1), i64 (l1.length : Int), i64 (i : Int)] ∧ H = [.live ⟨[.int .i64 0, .imm lx.length (lx.map W), .bool nx], T_num_Z, .rw⟩, .live ⟨[d0, d1, d2], T_num_Z, .rw⟩, .live ⟨[.int .i64 0, .nilSl, .bool false], T_num_Z, .rw⟩, .live ⟨out.map W, T_uint32, .rw⟩] ∧ n = l1.length - i ∧ i ≤ l1.length ∧ out.length = l1.length + l2.length ∧ OkW out ∧ val out = val (l1.take i) * val l2 ∧ ∀ k, i + l2.length ≤ k → at0 out k = 0) (by rfl) ⟨0, _, rfl, rfl, rfl, by omega, by simp, fun x hx => by simp at hx; omega, by simp [val, val_zeros], fun k _ => at0_zeros _ k⟩ ?_
    rintro m vs H ⟨i, out, rfl, rfl, rfl, k1, k2, k3, k4, k5⟩
    refine go ?_
    refine cnd_intro (fun h => ?_) (fun h => ?_)
    · simp [compare'] at h
      refine go ?_
      refine f_loop (fun n vs H => ∃ (j carry : Nat) (p : List Nat), vs = [.c (.ptr 2 0), .c c1, .c (.bool n1), .c c2, .c (.bool n2), .c (.sl 3 0 (l1.length + l2.length) (some (l1.length + l2.length)) 1), i64 (i : Int), .c (.int .u64 (carry : Int)), i64 (l1.length : Int), i64 (i : Int), i64 (l2.length : Int), i64 (j : Int)] ∧ H = [.live ⟨[.int .i64 0, .imm lx.length (lx.map W), .bool nx], T_num_Z, .rw⟩, .live ⟨[d0, d1, d2], T_num_Z, .rw⟩, .live ⟨[.int .i64 0, .nilSl, .bool false], T_num_Z, .rw⟩, .live ⟨p.map W, T_uint32, .rw⟩] ∧ n = l2.length - j ∧ j ≤ l2.length ∧ p.length = l1.length + l2.length ∧ OkW p ∧ carry < 4294967296 ∧ val p + 4294967296 ^ (i + j) * carry = val out + 4294967296 ^ i * (at0 l1 i * val (l2.take j)) ∧ ∀ k, i + j ≤ k → at0 p k = at0 out k) (by rfl) ⟨0, 0, out, rfl, rfl, rfl, by omega, k2, k3, by omega, by simp [val], fun k _ => rfl⟩ ?_
      rintro m vs H ⟨j, carry, p, rfl, rfl, rfl, j1, j2, j3, j4, j5, j6⟩
      refine go ?_
      refine cnd_intro (fun h' => ?_) (fun h' => ?_)
      · simp [compare'] at h'
        refine go ?_
        have e3 : arith .add .i64 ((i : Nat) : Int) ((j : Nat) : Int) = ((i + j : Nat) : Int) := by
          rw [ar_add, wrap_i64 (by omega) (by omega)]
          omega
        have ga := o1.1.get i
        have gb := o2.1.get j
        have gw := j3.get (i + j)
        obtain ⟨r1, r2, r3⟩ := row_step (k := i + j) (out := p) (by omega) j3 ga gb j4
        have r0 : at0 l1 i * at0 l2 j < 18446744073709551616 := by omega
        rw [e3]
        refine idx_sl (by rfl) (by rfl) (by omega) (by omega) ?_
        refine go ?_
        refine ld_word (k := i + j) (by rfl) (by omega) (by omega) ?_
        refine go ?_
        rw [show IntKind.u64.wrap ((at0 l1 ((i : Nat) : Int).toNat : Nat) : Int) = ((at0 l1 i : Nat) : Int) by rw [Int.toNat_natCast, wrapN _ (by omega)], show IntKind.u64.wrap ((at0 l2 ((j : Nat) : Int).toNat : Nat) : Int) = ((at0 l2 j : Nat) : Int) by rw [Int.toNat_natCast, wrapN _ (by omega)], mulN _ _ r0, wrapN _ (by omega : at0 p (i + j) < 18446744073709551616), show arith .add .u64 (arith .add .u64 ((at0 p (i + j) : Nat) : Int) ((at0 l1 i * at0 l2 j : Nat) : Int)) ((carry : Nat) : Int) = ((at0 l1 i * at0 l2 j + at0 p (i + j) + carry : Nat) : Int) by rw [addN _ _ (by omega), addN _ _ (by omega)]; congr 1; omega]
        rw [e3]
        refine idx_sl (by rfl) (by rfl) (by omega) (by omega) ?_
        rw [show IntKind.u32.wrap ((at0 l1 i * at0 l2 j + at0 p (i + j) + carry : Nat) : Int) = (((at0 l1 i * at0 l2 j + at0 p (i + j) + carry) % 4294967296 : Nat) : Int) by rw [wrap_u32]; omega]
        refine go ?_
        refine st_word (k := i + j) (by rfl) (by rfl) (by omega) (by omega) ?_
        refine go ?_
        rw [shrN, show arith .add .i64 ((j : Nat) : Int) 1 = ((j + 1 : Nat) : Int) by rw [ar_add, wrap_i64 (by omega) (by omega)]; omega]
        refine l_n (by rfl) (by omega) ⟨j + 1, _, _, rfl, rfl, rfl, by omega, by simp [j2], j3.set (by omega), r2, ?_, fun k hk => ?_⟩
        · rw [val_take_succ, Nat.mul_add, Nat.mul_add, ← Nat.add_assoc, ← Nat.add_assoc, ← j5]
          have e4 : 4294967296 ^ i * (at0 l1 i * (4294967296 ^ j * at0 l2 j)) = 4294967296 ^ (i + j) * (at0 l1 i * at0 l2 j) := by
            rw [Nat.pow_add, Nat.mul_left_comm (at0 l1 i), Nat.mul_assoc]
          rw [e4]
          exact r3
        · rw [at0_set (by omega)]
          exact j6 k (by omega)
      · simp [compare'] at h'
        have ej : j = l2.length := by omega
        subst ej
        refine go ?_
        have e3 : arith .add .i64 ((i : Nat) : Int) l2.length = ((i + l2.length : Nat) : Int) := by
          rw [ar_add, wrap_i64 (by omega) (by omega)]
          omega
        rw [e3]
        refine idx_sl (by rfl) (by rfl) (by omega) (by omega) ?_
        rw [show IntKind.u32.wrap ((carry : Nat) : Int) = ((carry : Nat) : Int) by rw [wrap_u32]; omega]
        refine go ?_
        refine st_word (k := i + l2.length) (by rfl) (by rfl) (by omega) (by omega) ?_
        refine go ?_
        rw [show arith .add .i64 ((i : Nat) : Int) 1 = ((i + 1 : Nat) : Int) by rw [ar_add, wrap_i64 (by omega) (by omega)]; omega]
        refine l_n (by rfl) (by omega) ⟨i + 1, _, rfl, rfl, rfl, by omega, by simp [j2], j3.set j4, ?_, fun k hk => ?_⟩
        · have v1 := val_set p (i + l2.length) carry (by omega)
          rw [j6 _ (by omega), k5 _ (by omega)] at v1
          rw [val_all (Nat.le_refl _)] at j5
          rw [val_take_succ, Nat.add_mul, ← k4, Nat.mul_assoc]
          omega
        · rw [at0_set (by omega), j6 _ (by omega)]
          exact k5 _ (by omega)
    · simp [compare'] at h
      have ei : i = l1.length := by omega
      subst ei
      rw [val_all (Nat.le_refl _)] at k4
      refine go ?_
      refine semH_of_semC_close [3] (.cons (.c (fz_words out (by rfl) rfl (by simp) k2.symm (by rw [← k2]; exact List.take_of_length_le (by simp)))) (.cons (.c (.hf trivial)) .nil)) (num_made _ (.imm out) k3 (by omega)) (fun u hu => ?_)
      obtain ⟨cs3, rfl, z3⟩ := hu
      obtain ⟨a0, a1, a2, rfl⟩ := z3.three
      refine go ?_
      rw [e1, e2, amt_mul, ← k4]
      exact ZK.fz z3
end Go.Proofs.Ytjncgcnofiaiaaa
