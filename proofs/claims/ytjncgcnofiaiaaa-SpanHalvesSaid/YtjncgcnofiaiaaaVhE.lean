/-
  Sums and differences of words.
-/
import Derived.Test.YtjncgcnofiaiaaaVhD
set_option linter.unusedVariables false
set_option linter.unusedSimpArgs false
namespace Go.Proofs.Ytjncgcnofiaiaaa
open Go.RowKit
set_option maxRecDepth 20000
attribute [local irreducible] compare' semH semC qLen qNil qIad qSlc qIdx ldBox ldCells stBox appX awpF awpOpsF awpDF xopF xopDF qval lval seqQ blockQ loopQ bodyF retKF cnd arith IntKind.wrap

def WdK (p : List Nat → Prop) (u : V) : Prop := ∃ c l, u = .c c ∧ Wd c l ∧ OkW l ∧ p l
theorem WdK.fz {p : List Nat → Prop} {H : Hp} {b n : Nat} {co : Option Nat} {el : TypeId} {out : List Nat} (h : OutB H b el out) (hn : n = out.length) (ho : OkW out) (hp : p out) : ∃ d, FzV H (.c (.sl b 0 n co 1)) d ∧ WdK p d :=
  ⟨_, .c (fz_out h hn (by simp)), _, out, rfl, .imm out, ho, hp⟩
theorem OkW.snoc {l : List Nat} {x : Nat} (h : OkW l) (hx : x < 4294967296) : OkW (l ++ [x]) := fun y hy => by
  rcases List.mem_append.1 hy with hy | hy
  · exact h y hy
  · simp at hy
    omega

theorem num_addWords {c d : C} {a b : List Nat} (hc : Wd c a) (hd : Wd d b) (ha : OkW a) (hb : OkW b) (hl : a.length < 2147483648) (hl' : b.length < 2147483648) : semC Try.prog n_num_addWords [.c c, .c d] (WdK fun l => val l = val a + val b ∧ l.length ≤ max a.length b.length + 1) := by
  refine semC_of_awpF ok_num_addWords rfl (show HFVs [.c c, .c d] from ⟨hc.hf, hd.hf, trivial⟩) ?_
  refine go ?_
  cases hq : compare' Cm.lss (a.length : Int) b.length
  · simp [compare'] at hq
    refine go ?_
    have e : arith .add .i64 (a.length : Int) 1 = ((a.length + 1 : Nat) : Int) := by
      rw [ar_add, wrap_i64 (by omega) (by omega)]
      omega
    rw [e]
    refine x_mkSl (by rfl) (by rfl) ⟨by omega, by omega, by omega, by omega⟩ ?_
    refine go ?_
    refine f_loop (fun n vs H => ∃ (i : Nat) (bx : Nat) (co : Option Nat) (carry : Nat) (out : List Nat), vs = [.c c, .c d, .c (.sl bx 0 i co 1), .c (.int .u64 (carry : Int)), i64 a.length, i64 (i : Int)] ∧ OutB H bx T_uint32 out ∧ n = a.length - i ∧ i ≤ a.length ∧ out.length = i ∧ OkW out ∧ carry ≤ 1 ∧ val out + 4294967296 ^ i * carry = val (a.take i) + val (b.take i)) (by rfl) ⟨0, 0, _, 0, [], rfl, ⟨_, rfl, rfl⟩, rfl, by omega, rfl, fun x hx => (by cases hx), by omega, by simp [val]⟩ ?_
    rintro n vs H ⟨_, bx, co, carry, out, rfl, hob, rfl, k1, rfl, k3, k4, k5⟩
    refine go ?_
    refine cnd_intro (fun h => ?_) (fun h => ?_)
    · simp [compare'] at h
      refine go ?_
      have ea := ha.get out.length
      have eb := hb.get out.length
      rw [show IntKind.u64.wrap ((at0 a ((out.length : Nat) : Int).toNat : Nat) : Int) = ((at0 a out.length : Nat) : Int) by rw [wrap_u64, Int.toNat_natCast]; omega, show arith .add .u64 ((at0 a out.length : Nat) : Int) (carry : Int) = ((at0 a out.length + carry : Nat) : Int) by rw [ar_add, wrap_u64]; omega]
      have round : ∀ (s : Nat), s = at0 a out.length + carry + at0 b out.length → OkW (out ++ [s % 4294967296]) ∧ s / 4294967296 ≤ 1 ∧ val (out ++ [s % 4294967296]) + 4294967296 ^ (out.length + 1) * (s / 4294967296) = val (a.take (out.length + 1)) + val (b.take (out.length + 1)) := by
        intro s hs
        refine ⟨k3.snoc (by omega), by omega, ?_⟩
        rw [val_take_succ, val_take_succ, val_append, Nat.pow_succ]
        simp only [val, Nat.mul_zero, Nat.add_zero]
        have e1 := Nat.div_add_mod s 4294967296
        have e2 : 4294967296 ^ out.length * (s % 4294967296) + 4294967296 ^ out.length * 4294967296 * (s / 4294967296) = 4294967296 ^ out.length * s := by
          rw [Nat.mul_assoc, ← Nat.mul_add, Nat.add_comm, e1]
        have e3 : 4294967296 ^ out.length * s = 4294967296 ^ out.length * at0 a out.length + 4294967296 ^ out.length * carry + 4294967296 ^ out.length * at0 b out.length := by rw [hs, Nat.mul_add, Nat.mul_add]
        omega
      cases hq2 : compare' Cm.lss ((out.length : Nat) : Int) b.length
      · simp [compare'] at hq2
        have hz := at0_ge hq2
        refine go ?_
        rw [show IntKind.u32.wrap ((at0 a out.length + carry : Nat) : Int) = (((at0 a out.length + carry) % 4294967296 : Nat) : Int) by rw [wrap_u32]; omega]
        refine app_word (by rfl) (by rfl) hob rfl rfl (by omega) (fun H' b' hob' => ?_)
        refine go ?_
        rw [fdiv32, show ((at0 a out.length + carry : Nat) : Int) / 4294967296 = (((at0 a out.length + carry) / 4294967296 : Nat) : Int) by omega, show arith .add .i64 ((out.length : Nat) : Int) 1 = ((out.length + 1 : Nat) : Int) by rw [ar_add, wrap_i64 (by omega) (by omega)]; omega]
        obtain ⟨r1, r2, r3⟩ := round (at0 a out.length + carry) (by omega)
        exact l_n (by rfl) (by omega) ⟨out.length + 1, b', _, _, _, rfl, hob', rfl, by omega, by simp, r1, r2, r3⟩
      · simp [compare'] at hq2
        refine go ?_
        rw [show IntKind.u64.wrap ((at0 b ((out.length : Nat) : Int).toNat : Nat) : Int) = ((at0 b out.length : Nat) : Int) by rw [wrap_u64, Int.toNat_natCast]; omega, show arith .add .u64 ((at0 a out.length + carry : Nat) : Int) ((at0 b out.length : Nat) : Int) = ((at0 a out.length + carry + at0 b out.length : Nat) : Int) by rw [ar_add, wrap_u64]; omega]
        refine go ?_
        rw [show IntKind.u32.wrap ((at0 a out.length + carry + at0 b out.length : Nat) : Int) = (((at0 a out.length + carry + at0 b out.length) % 4294967296 : Nat) : Int) by rw [wrap_u32]; omega]
        refine app_word (by rfl) (by rfl) hob rfl rfl (by omega) (fun H' b' hob' => ?_)
        refine go ?_
        rw [fdiv32, show ((at0 a out.length + carry + at0 b out.length : Nat) : Int) / 4294967296 = (((at0 a out.length + carry + at0 b out.length) / 4294967296 : Nat) : Int) by omega, show arith .add .i64 ((out.length : Nat) : Int) 1 = ((out.length + 1 : Nat) : Int) by rw [ar_add, wrap_i64 (by omega) (by omega)]; omega]
        obtain ⟨r1, r2, r3⟩ := round (at0 a out.length + carry + at0 b out.length) rfl
        exact l_n (by rfl) (by omega) ⟨out.length + 1, b', _, _, _, rfl, hob', rfl, by omega, by simp, r1, r2, r3⟩
    · simp [compare'] at h
      refine go ?_
      have el : out.length = a.length := by omega
      rw [show IntKind.u32.wrap ((carry : Nat) : Int) = ((carry : Nat) : Int) by rw [wrap_u32]; omega]
      refine app_word (by rfl) (by rfl) hob rfl rfl (by omega) (fun H' b' hob' => ?_)
      refine go ?_
      refine WdK.fz hob' (by simp) (k3.snoc (by omega)) ⟨?_, by simp; omega⟩
      rw [val_append]
      simp only [val, Nat.mul_zero, Nat.add_zero]
      rw [k5, List.take_of_length_le (by omega), List.take_of_length_le (by omega)]
      all_goals omega
  · simp [compare'] at hq
    refine go ?_
    have e : arith .add .i64 (b.length : Int) 1 = ((b.length + 1 : Nat) : Int) := by
      rw [ar_add, wrap_i64 (by omega) (by omega)]
      omega
    rw [e]
    refine x_mkSl (by rfl) (by rfl) ⟨by omega, by omega, by omega, by omega⟩ ?_
    refine go ?_
    refine f_loop (fun n vs H => ∃ (i : Nat) (bx : Nat) (co : Option Nat) (carry : Nat) (out : List Nat), vs = [.c d, .c c, .c (.sl bx 0 i co 1), .c (.int .u64 (carry : Int)), i64 b.length, i64 (i : Int)] ∧ OutB H bx T_uint32 out ∧ n = b.length - i ∧ i ≤ b.length ∧ out.length = i ∧ OkW out ∧ carry ≤ 1 ∧ val out + 4294967296 ^ i * carry = val (b.take i) + val (a.take i)) (by rfl) ⟨0, 0, _, 0, [], rfl, ⟨_, rfl, rfl⟩, rfl, by omega, rfl, fun x hx => (by cases hx), by omega, by simp [val]⟩ ?_
    rintro n vs H ⟨_, bx, co, carry, out, rfl, hob, rfl, k1, rfl, k3, k4, k5⟩
    refine go ?_
    refine cnd_intro (fun h => ?_) (fun h => ?_)
    · simp [compare'] at h
      refine go ?_
      have ea := hb.get out.length
      have eb := ha.get out.length
      rw [show IntKind.u64.wrap ((at0 b ((out.length : Nat) : Int).toNat : Nat) : Int) = ((at0 b out.length : Nat) : Int) by rw [wrap_u64, Int.toNat_natCast]; omega, show arith .add .u64 ((at0 b out.length : Nat) : Int) (carry : Int) = ((at0 b out.length + carry : Nat) : Int) by rw [ar_add, wrap_u64]; omega]
      have round : ∀ (s : Nat), s = at0 b out.length + carry + at0 a out.length → OkW (out ++ [s % 4294967296]) ∧ s / 4294967296 ≤ 1 ∧ val (out ++ [s % 4294967296]) + 4294967296 ^ (out.length + 1) * (s / 4294967296) = val (b.take (out.length + 1)) + val (a.take (out.length + 1)) := by
        intro s hs
        refine ⟨k3.snoc (by omega), by omega, ?_⟩
        rw [val_take_succ, val_take_succ, val_append, Nat.pow_succ]
        simp only [val, Nat.mul_zero, Nat.add_zero]
        have e1 := Nat.div_add_mod s 4294967296
        have e2 : 4294967296 ^ out.length * (s % 4294967296) + 4294967296 ^ out.length * 4294967296 * (s / 4294967296) = 4294967296 ^ out.length * s := by
          rw [Nat.mul_assoc, ← Nat.mul_add, Nat.add_comm, e1]
        have e3 : 4294967296 ^ out.length * s = 4294967296 ^ out.length * at0 b out.length + 4294967296 ^ out.length * carry + 4294967296 ^ out.length * at0 a out.length := by rw [hs, Nat.mul_add, Nat.mul_add]
        omega
      cases hq2 : compare' Cm.lss ((out.length : Nat) : Int) a.length
      · simp [compare'] at hq2
        have hz := at0_ge hq2
        refine go ?_
        rw [show IntKind.u32.wrap ((at0 b out.length + carry : Nat) : Int) = (((at0 b out.length + carry) % 4294967296 : Nat) : Int) by rw [wrap_u32]; omega]
        refine app_word (by rfl) (by rfl) hob rfl rfl (by omega) (fun H' b' hob' => ?_)
        refine go ?_
        rw [fdiv32, show ((at0 b out.length + carry : Nat) : Int) / 4294967296 = (((at0 b out.length + carry) / 4294967296 : Nat) : Int) by omega, show arith .add .i64 ((out.length : Nat) : Int) 1 = ((out.length + 1 : Nat) : Int) by rw [ar_add, wrap_i64 (by omega) (by omega)]; omega]
        obtain ⟨r1, r2, r3⟩ := round (at0 b out.length + carry) (by omega)
        exact l_n (by rfl) (by omega) ⟨out.length + 1, b', _, _, _, rfl, hob', rfl, by omega, by simp, r1, r2, r3⟩
      · simp [compare'] at hq2
        refine go ?_
        rw [show IntKind.u64.wrap ((at0 a ((out.length : Nat) : Int).toNat : Nat) : Int) = ((at0 a out.length : Nat) : Int) by rw [wrap_u64, Int.toNat_natCast]; omega, show arith .add .u64 ((at0 b out.length + carry : Nat) : Int) ((at0 a out.length : Nat) : Int) = ((at0 b out.length + carry + at0 a out.length : Nat) : Int) by rw [ar_add, wrap_u64]; omega]
        refine go ?_
        rw [show IntKind.u32.wrap ((at0 b out.length + carry + at0 a out.length : Nat) : Int) = (((at0 b out.length + carry + at0 a out.length) % 4294967296 : Nat) : Int) by rw [wrap_u32]; omega]
        refine app_word (by rfl) (by rfl) hob rfl rfl (by omega) (fun H' b' hob' => ?_)
        refine go ?_
        rw [fdiv32, show ((at0 b out.length + carry + at0 a out.length : Nat) : Int) / 4294967296 = (((at0 b out.length + carry + at0 a out.length) / 4294967296 : Nat) : Int) by omega, show arith .add .i64 ((out.length : Nat) : Int) 1 = ((out.length + 1 : Nat) : Int) by rw [ar_add, wrap_i64 (by omega) (by omega)]; omega]
        obtain ⟨r1, r2, r3⟩ := round (at0 b out.length + carry + at0 a out.length) rfl
        exact l_n (by rfl) (by omega) ⟨out.length + 1, b', _, _, _, rfl, hob', rfl, by omega, by simp, r1, r2, r3⟩
    · simp [compare'] at h
      refine go ?_
      have el : out.length = b.length := by omega
      rw [show IntKind.u32.wrap ((carry : Nat) : Int) = ((carry : Nat) : Int) by rw [wrap_u32]; omega]
      refine app_word (by rfl) (by rfl) hob rfl rfl (by omega) (fun H' b' hob' => ?_)
      refine go ?_
      refine WdK.fz hob' (by simp) (k3.snoc (by omega)) ⟨?_, by simp; omega⟩
      rw [val_append]
      simp only [val, Nat.mul_zero, Nat.add_zero]
      rw [k5, List.take_of_length_le (by omega), List.take_of_length_le (by omega)]
      all_goals omega

theorem num_subWords {c d : C} {a b : List Nat} (hc : Wd c a) (hd : Wd d b) (ha : OkW a) (hb : OkW b) (hl : a.length < 2147483648) (hl' : b.length ≤ a.length) (hv : val b ≤ val a) : semC Try.prog n_num_subWords [.c c, .c d] (WdK fun l => val l = val a - val b ∧ l.length ≤ a.length) := by
  refine semC_of_awpF ok_num_subWords rfl (show HFVs [.c c, .c d] from ⟨hc.hf, hd.hf, trivial⟩) ?_
  refine go ?_
  refine x_mkSl (by rfl) (by rfl) ⟨by omega, by omega, by omega, by omega⟩ ?_
  refine go ?_
  refine f_loop (fun n vs H => ∃ (i : Nat) (bx : Nat) (co : Option Nat) (borrow : Nat) (out : List Nat), vs = [.c c, .c d, .c (.sl bx 0 i co 1), i64 (borrow : Int), i64 a.length, i64 (i : Int)] ∧ OutB H bx T_uint32 out ∧ n = a.length - i ∧ i ≤ a.length ∧ out.length = i ∧ OkW out ∧ borrow ≤ 1 ∧ val out + val (b.take i) = val (a.take i) + 4294967296 ^ i * borrow) (by rfl) ⟨0, 0, _, 0, [], rfl, ⟨_, rfl, rfl⟩, rfl, by omega, rfl, fun x hx => (by cases hx), by omega, by simp [val]⟩ ?_
  rintro n vs H ⟨_, bx, co, borrow, out, rfl, hob, rfl, k1, rfl, k3, k4, k5⟩
  refine go ?_
  refine cnd_intro (fun h => ?_) (fun h => ?_)
  · simp [compare'] at h
    refine go ?_
    have ea := ha.get out.length
    have eb := hb.get out.length
    rw [show IntKind.i64.wrap ((at0 a ((out.length : Nat) : Int).toNat : Nat) : Int) = ((at0 a out.length : Nat) : Int) by rw [Int.toNat_natCast, wrap_i64 (by omega) (by omega)], show arith .sub .i64 ((at0 a out.length : Nat) : Int) (borrow : Int) = ((at0 a out.length : Nat) : Int) - (borrow : Int) by rw [ar_sub, wrap_i64 (by omega) (by omega)]]
    have round : ∀ (w br : Nat), (w : Int) = ((at0 a out.length : Nat) : Int) - (borrow : Int) - ((at0 b out.length : Nat) : Int) + 4294967296 * br → w < 4294967296 → OkW (out ++ [w]) ∧ val (out ++ [w]) + val (b.take (out.length + 1)) = val (a.take (out.length + 1)) + 4294967296 ^ (out.length + 1) * br := by
      intro w br hw hlt
      refine ⟨k3.snoc hlt, ?_⟩
      rw [val_take_succ, val_take_succ, val_append, Nat.pow_succ]
      simp only [val, Nat.mul_zero, Nat.add_zero]
      have e1 : w + borrow + at0 b out.length = at0 a out.length + 4294967296 * br := by omega
      have e2 := congrArg (fun x => 4294967296 ^ out.length * x) e1
      simp only [Nat.mul_add] at e2
      rw [← Nat.mul_assoc] at e2
      omega
    cases hq2 : compare' Cm.lss ((out.length : Nat) : Int) b.length
    · simp [compare'] at hq2
      have hz := at0_ge hq2
      refine go ?_
      cases hq3 : compare' Cm.lss (((at0 a out.length : Nat) : Int) - (borrow : Int)) 0
      · simp only [compare', dec_false] at hq3
        refine go ?_
        rw [show IntKind.u32.wrap (((at0 a out.length : Nat) : Int) - (borrow : Int)) = (((((at0 a out.length : Nat) : Int) - (borrow : Int)).toNat : Nat) : Int) by rw [wrap_u32]; omega]
        refine app_word (by rfl) (by rfl) hob rfl rfl (by omega) (fun H' b' hob' => ?_)
        refine go ?_
        rw [show arith .add .i64 ((out.length : Nat) : Int) 1 = ((out.length + 1 : Nat) : Int) by rw [ar_add, wrap_i64 (by omega) (by omega)]; omega]
        obtain ⟨r1, r2⟩ := round (((at0 a out.length : Nat) : Int) - (borrow : Int)).toNat 0 (by omega) (by omega)
        exact l_n (by rfl) (by omega) ⟨out.length + 1, b', _, 0, _, rfl, hob', rfl, by omega, by simp, r1, by omega, r2⟩
      · simp only [compare', dec_true] at hq3
        refine go ?_
        rw [show arith .add .i64 (((at0 a out.length : Nat) : Int) - (borrow : Int)) 4294967296 = ((at0 a out.length : Nat) : Int) - (borrow : Int) + 4294967296 by rw [ar_add, wrap_i64 (by omega) (by omega)]]
        rw [show IntKind.u32.wrap (((at0 a out.length : Nat) : Int) - (borrow : Int) + 4294967296) = (((((at0 a out.length : Nat) : Int) - (borrow : Int) + 4294967296).toNat : Nat) : Int) by rw [wrap_u32]; omega]
        refine app_word (by rfl) (by rfl) hob rfl rfl (by omega) (fun H' b' hob' => ?_)
        refine go ?_
        rw [show arith .add .i64 ((out.length : Nat) : Int) 1 = ((out.length + 1 : Nat) : Int) by rw [ar_add, wrap_i64 (by omega) (by omega)]; omega]
        obtain ⟨r1, r2⟩ := round (((at0 a out.length : Nat) : Int) - (borrow : Int) + 4294967296).toNat 1 (by omega) (by omega)
        exact l_n (by rfl) (by omega) ⟨out.length + 1, b', _, 1, _, rfl, hob', rfl, by omega, by simp, r1, by omega, r2⟩
    · simp [compare'] at hq2
      refine go ?_
      rw [show IntKind.i64.wrap ((at0 b ((out.length : Nat) : Int).toNat : Nat) : Int) = ((at0 b out.length : Nat) : Int) by rw [Int.toNat_natCast, wrap_i64 (by omega) (by omega)], show arith .sub .i64 (((at0 a out.length : Nat) : Int) - (borrow : Int)) ((at0 b out.length : Nat) : Int) = ((at0 a out.length : Nat) : Int) - (borrow : Int) - ((at0 b out.length : Nat) : Int) by rw [ar_sub, wrap_i64 (by omega) (by omega)]]
      refine go ?_
      cases hq3 : compare' Cm.lss (((at0 a out.length : Nat) : Int) - (borrow : Int) - ((at0 b out.length : Nat) : Int)) 0
      · simp only [compare', dec_false] at hq3
        refine go ?_
        rw [show IntKind.u32.wrap (((at0 a out.length : Nat) : Int) - (borrow : Int) - ((at0 b out.length : Nat) : Int)) = (((((at0 a out.length : Nat) : Int) - (borrow : Int) - ((at0 b out.length : Nat) : Int)).toNat : Nat) : Int) by rw [wrap_u32]; omega]
        refine app_word (by rfl) (by rfl) hob rfl rfl (by omega) (fun H' b' hob' => ?_)
        refine go ?_
        rw [show arith .add .i64 ((out.length : Nat) : Int) 1 = ((out.length + 1 : Nat) : Int) by rw [ar_add, wrap_i64 (by omega) (by omega)]; omega]
        obtain ⟨r1, r2⟩ := round (((at0 a out.length : Nat) : Int) - (borrow : Int) - ((at0 b out.length : Nat) : Int)).toNat 0 (by omega) (by omega)
        exact l_n (by rfl) (by omega) ⟨out.length + 1, b', _, 0, _, rfl, hob', rfl, by omega, by simp, r1, by omega, r2⟩
      · simp only [compare', dec_true] at hq3
        refine go ?_
        rw [show arith .add .i64 (((at0 a out.length : Nat) : Int) - (borrow : Int) - ((at0 b out.length : Nat) : Int)) 4294967296 = ((at0 a out.length : Nat) : Int) - (borrow : Int) - ((at0 b out.length : Nat) : Int) + 4294967296 by rw [ar_add, wrap_i64 (by omega) (by omega)]]
        rw [show IntKind.u32.wrap (((at0 a out.length : Nat) : Int) - (borrow : Int) - ((at0 b out.length : Nat) : Int) + 4294967296) = (((((at0 a out.length : Nat) : Int) - (borrow : Int) - ((at0 b out.length : Nat) : Int) + 4294967296).toNat : Nat) : Int) by rw [wrap_u32]; omega]
        refine app_word (by rfl) (by rfl) hob rfl rfl (by omega) (fun H' b' hob' => ?_)
        refine go ?_
        rw [show arith .add .i64 ((out.length : Nat) : Int) 1 = ((out.length + 1 : Nat) : Int) by rw [ar_add, wrap_i64 (by omega) (by omega)]; omega]
        obtain ⟨r1, r2⟩ := round (((at0 a out.length : Nat) : Int) - (borrow : Int) - ((at0 b out.length : Nat) : Int) + 4294967296).toNat 1 (by omega) (by omega)
        exact l_n (by rfl) (by omega) ⟨out.length + 1, b', _, 1, _, rfl, hob', rfl, by omega, by simp, r1, by omega, r2⟩
  · simp [compare'] at h
    refine go ?_
    have el : out.length = a.length := by omega
    rw [List.take_of_length_le (by omega), List.take_of_length_le (by omega)] at k5
    have hlt := val_lt k3
    have hb0 : borrow = 0 := by
      rcases Nat.lt_or_ge borrow 1 with h0 | h0
      · omega
      · have h1 : borrow = 1 := by omega
        subst h1
        simp at k5
        omega
    subst hb0
    simp at k5
    exact WdK.fz hob rfl k3 ⟨by omega, by omega⟩
end Go.Proofs.Ytjncgcnofiaiaaa
