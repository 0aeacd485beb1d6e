/-
  Parts of the proof: num.Q.Add, Div; span.middle, Halves; rat.Add.
-/
import Derived.Test.YtokckcnfojjpjaaGreatNb18
import Derived.Test.YtokckcnfojjpjaaGreatNb19
set_option linter.unusedVariables false
set_option linter.unusedSimpArgs false
namespace Go.Proofs.YtokckcnfojjpjaaGreat
open Go.RowKit
set_option maxRecDepth 20000
theorem Bd.up {k : Nat} {p : R2} (h : Bd k p) : Bd (k + 1) p := ⟨h.n.up (by omega), h.d.up (by omega), h.pos⟩
theorem Sz.add {n : Nat} {a b : Int} (h1 : Sz n a) (h2 : Sz n b) : Sz (n + 1) (a + b) := by
 unfold Sz at *
 rw [Nat.pow_succ]
 have := Int.natAbs_add_le a b
 omega
attribute [local irreducible] yA semH semC qLen qNil qIad qSlc qIdx yW yL xD appX appI slcX awpF yP xI xopF xR qval lval seqQ xL wJ wI xW cnd arith IntKind.wrap
theorem num_Q_Add {S : Int → Prop} {n k : Nat} (hS : SCl S n) (hQ : QuoOk S) {cs ds : List C} {p q : R2} (hx : IsQ cs p) (hy : IsQ ds q) (bp : Bd k p) (bq : Bd k q) (hk : k + k ≤ 268435456) (s1 : S (p.1 * q.2 + q.1 * p.2)) (s2 : S (p.2 * q.2)) : semC Tryz.prog n_num_Q_Add [.agg cs, .agg ds] (sH (p.1 * q.2 + q.1 * p.2) (p.2 * q.2)) := by
 refine yD ok_num_Q_Add rfl (show HFVs [.agg cs, .agg ds] from ⟨hx.hf, hy.hf, trivial⟩) ?_
 obtain ⟨a, b, c, d, e, f, rfl, h1, h2⟩ := hx.six
 obtain ⟨a', b', c', d', e', f', rfl, h3, h4⟩ := hy.six
 have hpos : 0 < p.2 * q.2 := Int.mul_pos bp.pos bq.pos
 refine go2 ?_
 refine yB (gU hx bp.d (by omega)) (fun u hu => ?_)
 obtain ⟨z1, rfl, i1⟩ := hu
 cases z1
 case false =>
  refine go2 ?_
  refine yE (uG h1 h4 bp.n bq.d (by omega)) (fun u hu => ?_)
  obtain ⟨es, rfl, h5⟩ := hu
  refine go2 ?_
  refine yE (uG h3 h2 bq.n bp.d (by omega)) (fun u hu => ?_)
  obtain ⟨fs, rfl, h6⟩ := hu
  refine go2 ?_
  refine yE (pK h5 h6 (bp.n.mul bq.d) (bq.n.mul bp.d) (by omega)) (fun u hu => ?_)
  obtain ⟨gs, rfl, h7⟩ := hu
  refine go2 ?_
  refine yE (uG h2 h4 bp.d bq.d (by omega)) (fun u hu => ?_)
  obtain ⟨ks, rfl, h8⟩ := hu
  refine go2 ?_
  refine yE (qX hS hQ h7 h8 s1 s2 (by omega)) (fun u hu => ?_)
  obtain ⟨gs, r, rfl, r1, r2, r3, r4, r5, r6⟩ := hu
  obtain ⟨x, y, z, w, v, t, rfl, _⟩ := r1.six
  refine go2 ?_
  exact sH.fz r1 r2 r3 r4 r5 r6
 case true =>
  have e1 := i1.1 rfl
  refine go2 ?_
  refine yB (gU hy bq.d (by omega)) (fun u hu => ?_)
  obtain ⟨z2, rfl, i2⟩ := hu
  cases z2
  case false =>
   refine go2 ?_
   refine yE (uG h1 h4 bp.n bq.d (by omega)) (fun u hu => ?_)
   obtain ⟨es, rfl, h5⟩ := hu
   refine go2 ?_
   refine yE (uG h3 h2 bq.n bp.d (by omega)) (fun u hu => ?_)
   obtain ⟨fs, rfl, h6⟩ := hu
   refine go2 ?_
   refine yE (pK h5 h6 (bp.n.mul bq.d) (bq.n.mul bp.d) (by omega)) (fun u hu => ?_)
   obtain ⟨gs, rfl, h7⟩ := hu
   refine go2 ?_
   refine yE (uG h2 h4 bp.d bq.d (by omega)) (fun u hu => ?_)
   obtain ⟨ks, rfl, h8⟩ := hu
   refine go2 ?_
   refine yE (qX hS hQ h7 h8 s1 s2 (by omega)) (fun u hu => ?_)
   obtain ⟨gs, r, rfl, r1, r2, r3, r4, r5, r6⟩ := hu
   obtain ⟨x, y, z, w, v, t, rfl, _⟩ := r1.six
   refine go2 ?_
   exact sH.fz r1 r2 r3 r4 r5 r6
  case true =>
   have e2 := i2.1 rfl
   refine go2 ?_
   refine yE (pK h1 h3 bp.n bq.n (by omega)) (fun u hu => ?_)
   obtain ⟨es, rfl, h5⟩ := hu
   obtain ⟨x, y, z, rfl⟩ := h5.three
   refine go2 ?_
   refine sH.fz (p := (p.1 + q.1, p.2)) (.of h5 h2) bp.pos ?_ ?_ ?_ ?_
   ·rw [e1]
    simp
   ·rw [e1, e2]
    simp
   ·rw [e1, e2]
    simp
   ·rw [e1, e2]
    simp
theorem num_Q_Div {S : Int → Prop} {n k : Nat} (hS : SCl S n) (hQ : QuoOk S) {cs ds : List C} {p q : R2} (hx : IsQ cs p) (hy : IsQ ds q) (bp : Bd k p) (bq : Bd k q) (hk : k + k ≤ 268435456) (h0 : q.1 ≠ 0) (s1 : S (p.1 * q.2)) (s2 : S (p.2 * q.1)) : semC Tryz.prog n_num_Q_Div [.agg cs, .agg ds] (sH (p.1 * q.2) (p.2 * q.1)) := by
 refine yD ok_num_Q_Div rfl (show HFVs [.agg cs, .agg ds] from ⟨hx.hf, hy.hf, trivial⟩) ?_
 obtain ⟨a, b, c, d, e, f, rfl, h1, h2⟩ := hx.six
 obtain ⟨a', b', c', d', e', f', rfl, h3, h4⟩ := hy.six
 have hne : p.2 * q.1 ≠ 0 := Int.mul_ne_zero (by have := bp.pos; omega) h0
 refine go2 ?_
 refine yE (uG h1 h4 bp.n bq.d (by omega)) (fun u hu => ?_)
 obtain ⟨es, rfl, h5⟩ := hu
 refine go2 ?_
 refine yE (uG h2 h3 bp.d bq.n (by omega)) (fun u hu => ?_)
 obtain ⟨fs, rfl, h6⟩ := hu
 refine go2 ?_
 refine yE (qX hS hQ h5 h6 s1 s2 hne) (fun u hu => ?_)
 obtain ⟨gs, r, rfl, r1, r2, r3, r4, r5, r6⟩ := hu
 obtain ⟨x, y, z, w, v, t, rfl, _⟩ := r1.six
 refine go2 ?_
 exact sH.fz r1 r2 r3 r4 r5 r6
theorem rat_Validate (p : R2) : semC Tryz.prog n_rat_Validate [.agg (ratC p)] (EqK (bif dec (wZ p.1 p.2) then i64 0 else i64 1)) := by
 refine yD ok_rat_Validate rfl (show HFVs [.agg (ratC p)] from ⟨pH p, trivial⟩) ?_
 refine go2 ?_
 refine yB (pL p.1 p.2) (fun u hu => ?_)
 obtain ⟨z, rfl, h⟩ := hu
 unfold EqK
 cases z
 ·rw [yM.2 (fun h' => absurd (h.2 h') (by decide))]
  refine go2 ?_
  exact ⟨_, .c (.hf trivial), rfl⟩
 ·rw [yH.2 (h.1 rfl)]
  refine go2 ?_
  exact ⟨_, .c (.hf trivial), rfl⟩
end Go.Proofs.YtokckcnfojjpjaaGreat

set_option linter.unusedVariables false
set_option linter.unusedSimpArgs false
namespace Go.Proofs.YtokckcnfojjpjaaGreat
open Go.RowKit
set_option maxRecDepth 20000
def NormK (v : Nat) (u : V) : Prop := ∃ c l, u = .c c ∧ Wd c l ∧ Norm l ∧ val l = v
theorem NormK.fz {v : Nat} {c : C} {l : List Nat} {H : Hp} (h1 : Wd c l) (h2 : Norm l) (h3 : val l = v) : ∃ d, FzV H (.c c) d ∧ NormK v d := ⟨_, .c (.hf h1.hf), c, l, rfl, h1, h2, h3⟩
attribute [local irreducible] yA semH semC qLen qNil qIad qSlc qIdx yW yL xD appX appI slcX awpF yP xI xopF xR qval lval seqQ xL wJ wI xW cnd arith IntKind.wrap
end Go.Proofs.YtokckcnfojjpjaaGreat

set_option linter.unusedVariables false
set_option linter.unusedSimpArgs false
namespace Go.Proofs.YtokckcnfojjpjaaGreat
open Go.RowKit
set_option maxRecDepth 20000
def RRK (n d : Int) (u : V) : Prop := ∃ cs p, u = .agg cs ∧ IsRQ cs p.1 p.2 ∧ Red n d p
theorem RRK.fz {n d : Int} {p : R2} {cs : List C} {H : Hp} (h : IsRQ cs p.1 p.2) (r : Red n d p) : ∃ e, FzV H (.agg cs) e ∧ RRK n d e := ⟨_, .agg (.hf h.hf), cs, p, rfl, h, r⟩
theorem RedK.rr {n d : Int} {u : V} (h : RedK n d u) : RRK n d u := by
 obtain ⟨cs, a, b, h1, h2, h3, h4, h5, h6, h7⟩ := h
 exact ⟨cs, (a, b), h1, h2, ⟨h3, h4, h5, h6, h7⟩⟩
theorem Red.uniq {n d n' d' : Int} {p q : R2} (hp : Red n d p) (hq : Red n' d' q) (h0 : d ≠ 0) (h0' : d' ≠ 0) (e : n * d' = n' * d) : p = q := by
 have h : p.1 * q.2 = q.1 * p.2 := by
  have a1 := hp.eq
  have a2 := hq.eq
  have hh : p.1 * q.2 * (d * d') = q.1 * p.2 * (d * d') := by
   have b1 := congrArg (· * (q.2 * d')) a1
   have b2 := congrArg (· * (p.2 * d)) a2
   have b3 := congrArg (· * (p.2 * q.2)) e
   grind
  exact Int.eq_of_mul_eq_mul_right (Int.mul_ne_zero h0 h0') hh
 obtain ⟨e1, e2⟩ := red_uniq hp.gcd hq.gcd hp.pos hq.pos h
 exact Prod.ext e1 e2
attribute [local irreducible] yA semH semC qLen qNil qIad qSlc qIdx yW yL xD appX appI slcX awpF yP xI xopF xR qval lval seqQ xL wJ wI xW cnd arith IntKind.wrap
theorem ref01_Q_Mul {cs ds : List C} {p q : R2} {k : Nat} (hx : IsRQ cs p.1 p.2) (hy : IsRQ ds q.1 q.2) (bp : Bd k p) (bq : Bd k q) (hk : k + k + 1 ≤ 268435456) : semC Tryz.prog n_ref01_Q_Mul [.agg cs, .agg ds] (RRK (p.1 * q.1) (p.2 * q.2)) := by
 refine yD ok_ref01_Q_Mul rfl (show HFVs [.agg cs, .agg ds] from ⟨hx.hf, hy.hf, trivial⟩) ?_
 obtain ⟨c1, m1, c2, m2, x, rfl, hn, hd, ex⟩ := hx.four
 obtain ⟨c3, m3, c4, m4, y, rfl, hm, he, ey⟩ := hy.four
 have hpos : 0 < p.2 * q.2 := Int.mul_pos bp.pos bq.pos
 refine go2 ?_
 refine yE (ref01_den hn hd) (fun u hu => ?_)
 obtain ⟨es, rfl, h1⟩ := hu
 rw [← ex] at h1
 refine go2 ?_
 refine yE (ref01_den hm he) (fun u hu => ?_)
 obtain ⟨fs, rfl, h2⟩ := hu
 rw [← ey] at h2
 obtain ⟨_, _, _, rfl, _⟩ := h1.two
 obtain ⟨_, _, _, rfl, _⟩ := h2.two
 refine go2 ?_
 simp only [tN, tM, ratC, tY, tX, List.set_cons_zero, List.set_cons_succ, List.nil_append, List.cons_append, List.append_nil, List.replicate_succ, List.replicate_zero, List.length_cons, List.length_nil, splice, List.take_succ_cons, List.take_zero, List.drop_succ_cons, List.drop_zero, List.take_nil, List.drop_nil, Nat.zero_add, Nat.reduceAdd, Nat.reduceMul, Int.reduceToNat, wF, List.getElem?_cons_succ, List.getElem?_cons_zero]
 refine yB (gT h1) (fun u hu => ?_)
 obtain ⟨z1, rfl, i1⟩ := hu
 cases z1
 case false =>
  refine go2 ?_
  refine yE (tK hn hm bp.n bq.n (by omega)) (fun u hu => ?_)
  obtain ⟨gs, rfl, h3⟩ := hu
  refine go2 ?_
  refine yE (tK h1 h2 bp.d bq.d (by omega)) (fun u hu => ?_)
  obtain ⟨ls, rfl, h6⟩ := hu
  refine go2 ?_
  refine yE (ref01_ratio (k := k + k) h3 h6 (bp.n.mul bq.n) (bp.d.mul bq.d) (by omega) (by omega)) (fun u hu => ?_)
  obtain ⟨ts, r, rfl, i3, red⟩ := hu.rr
  have i3' := i3
  obtain ⟨_, _, _, _, _, rfl, _⟩ := i3'.four
  refine go2 ?_
  exact RRK.fz i3 red
 case true =>
  have e1 := i1.1 rfl
  refine go2 ?_
  refine yB (gT h2) (fun u hu => ?_)
  obtain ⟨z2, rfl, i2⟩ := hu
  cases z2
  case false =>
   refine go2 ?_
   refine yE (tK hn hm bp.n bq.n (by omega)) (fun u hu => ?_)
   obtain ⟨gs, rfl, h3⟩ := hu
   refine go2 ?_
   refine yE (tK h1 h2 bp.d bq.d (by omega)) (fun u hu => ?_)
   obtain ⟨ls, rfl, h6⟩ := hu
   refine go2 ?_
   refine yE (ref01_ratio (k := k + k) h3 h6 (bp.n.mul bq.n) (bp.d.mul bq.d) (by omega) (by omega)) (fun u hu => ?_)
   obtain ⟨ts, r, rfl, i3, red⟩ := hu.rr
   have i3' := i3
   obtain ⟨_, _, _, _, _, rfl, _⟩ := i3'.four
   refine go2 ?_
   exact RRK.fz i3 red
  case true =>
   have e2 := i2.1 rfl
   refine go2 ?_
   refine yE (tK hn hm bp.n bq.n (by omega)) (fun u hu => ?_)
   obtain ⟨gs, rfl, h3⟩ := hu
   obtain ⟨_, _, _, rfl, _⟩ := h3.two
   refine go2 ?_
   refine RRK.fz (p := (p.1 * q.1, p.2)) (.of h3 h1 (by simp only; omega)) ⟨bp.pos, ?_, ?_, Nat.le_refl _, ?_⟩
   all_goals
    simp only
    rw [e1]
    try rw [e2]
    simp
end Go.Proofs.YtokckcnfojjpjaaGreat

set_option linter.unusedVariables false
set_option linter.unusedSimpArgs false
namespace Go.Proofs.YtokckcnfojjpjaaGreat
open Go.RowKit
set_option maxRecDepth 20000
section
variable {P X Y head x2 xl top next yl q rest : Nat}
theorem est_over' (hP : 0 < P) (hX : X = (head * 4294967296 + x2) * P + xl) (hY : Y = (top * 4294967296 + next) * P + yl) (hyl : yl < P) (hn : next < 4294967296) (hq : q * top + rest = head) (h : q ≤ rest) : q * Y ≤ X := by
 have h0 : Y ≤ (top + 1) * 4294967296 * P := by
  rw [hY]
  have h1 : (top * 4294967296 + next + 1) * P ≤ (top + 1) * 4294967296 * P := Nat.mul_le_mul_right P (by omega)
  rw [Nat.add_mul _ 1, Nat.one_mul] at h1
  omega
 have h1 := Nat.mul_le_mul_left q h0
 have h2 : q * ((top + 1) * 4294967296 * P) = (q * top + q) * 4294967296 * P := by
  rw [← Nat.mul_assoc, ← Nat.mul_assoc, Nat.mul_add, Nat.mul_one]
 have h3 : (q * top + q) * 4294967296 * P ≤ (head * 4294967296 + x2) * P := Nat.mul_le_mul_right P (by omega)
 rw [hX]
 omega
theorem head_le (hP : 0 < P) (hX : X = (head * 4294967296 + x2) * P + xl) (hY : Y = (top * 4294967296 + next) * P + yl) (hyl : yl < P) (h : X < Y * 4294967296) : head ≤ top * 4294967296 + next := by
 rcases Nat.lt_or_ge (top * 4294967296 + next) head with h1 | h1
 ·exfalso
  have h2 : (top * 4294967296 + next + 1) * 4294967296 * P ≤ head * 4294967296 * P := Nat.mul_le_mul_right P (Nat.mul_le_mul_right _ h1)
  have h3 : (top * 4294967296 + next + 1) * 4294967296 * P = (top * 4294967296 + next) * P * 4294967296 + P * 4294967296 := by grind
  have h4 : (head * 4294967296 + x2) * P = head * 4294967296 * P + x2 * P := Nat.add_mul ..
  have h5 : Y * 4294967296 = (top * 4294967296 + next) * P * 4294967296 + yl * 4294967296 := by rw [hY, Nat.add_mul]
  omega
 ·exact h1
end
theorem quo_le {head top next : Nat} (h : head ≤ top * 4294967296 + next) (h1 : 2147483648 ≤ top) (h2 : next < 4294967296) : head / top ≤ 4294967297 := by
 have h3 : head < 4294967298 * top := by omega
 have := (Nat.div_lt_iff_lt_mul (by omega : 0 < top)).2 h3
 omega
theorem sub_i64 {x s bo : Nat} (hx : x < 4294967296) (hs : s < 4294967296) (hb : bo ≤ 1) : ∃ (d : Int) (w b' : Nat), arith .sub .i64 (arith .sub .i64 (x : Int) (bo : Int)) (s : Int) = d ∧ IntKind.u32.wrap d = (w : Int) ∧ (d < 0 ↔ b' = 1) ∧ w < 4294967296 ∧ b' ≤ 1 ∧ x + 4294967296 * b' = w + s + bo := by
 have e : arith .sub .i64 (arith .sub .i64 (x : Int) (bo : Int)) (s : Int) = (x : Int) - bo - s := by
  rw [vF, vF, yF (n := (x : Int) - bo) (by omega) (by omega), yF (by omega) (by omega)]
 rcases Nat.lt_or_ge x (s + bo) with h | h
 ·exact ⟨_, 4294967296 + x - s - bo, 1, e, by rw [xA]; omega, by omega, by omega, by omega, by omega⟩
 ·exact ⟨_, x - s - bo, 0, e, by rw [xA]; omega, by omega, by omega, by omega, by omega⟩
theorem i64N (a : Nat) (h : a < 9223372036854775808) : IntKind.i64.wrap (a : Int) = (a : Int) := yF (by omega) (by omega)
def ovr (l : List Nat) (s i : Nat) : Nat := match i with
 | 0 => 0
 | i + 1 => at0 l i * 2 ^ s / 4294967296
theorem bZ {p v a x s c w : Nat} (h : v + p * c = a * 2 ^ s) (hw : w = x * 2 ^ s % 4294967296 + c) : v + p * w + p * 4294967296 * (x * 2 ^ s / 4294967296) = (a + p * x) * 2 ^ s := by
 have e := Nat.div_add_mod (x * 2 ^ s) 4294967296
 have e2 : (a + p * x) * 2 ^ s = a * 2 ^ s + p * (x * 2 ^ s) := by rw [Nat.add_mul, Nat.mul_assoc]
 rw [e2, ← h, hw]
 generalize x * 2 ^ s % 4294967296 = r at e ⊢
 generalize x * 2 ^ s / 4294967296 = q at e ⊢
 rw [← e]
 grind
theorem ovr_shr {x s : Nat} (hs : s ≤ 31) : x / 2 ^ (32 - s) = x * 2 ^ s / 4294967296 := by
 have hB : 4294967296 = 2 ^ (32 - s) * 2 ^ s := by rw [← Nat.pow_add, show 32 - s + s = 32 by omega]
 rw [hB, Nat.mul_div_mul_right _ _ (Nat.pow_pos (by decide))]
theorem up_word {x y s : Nat} (hs : s ≤ 31) (hx : x < 4294967296) (hy : y < 4294967296) : arith .or .u32 ((x * 2 ^ s % 4294967296 : Nat) : Int) ((y * 2 ^ s / 4294967296 : Nat) : Int) = ((x * 2 ^ s % 4294967296 + y * 2 ^ s / 4294967296 : Nat) : Int) ∧ x * 2 ^ s % 4294967296 + y * 2 ^ s / 4294967296 < 4294967296 := by
 obtain ⟨m, q1, _, _⟩ := shl_parts hs hx
 obtain ⟨_, _, q2, _⟩ := shl_parts hs hy
 obtain ⟨r1, r2⟩ := or_u32' (lo := y * 2 ^ s / 4294967296) (m := m) (s := s) (by omega) q2 (by rw [← q1]; exact Nat.mod_lt _ (by decide))
 rw [q1]
 refine ⟨?_, by omega⟩
 have ec : arith .or .u32 ((m * 2 ^ s : Nat) : Int) ((y * 2 ^ s / 4294967296 : Nat) : Int) = arith .or .u32 ((y * 2 ^ s / 4294967296 : Nat) : Int) ((m * 2 ^ s : Nat) : Int) := by
  show IntKind.u32.wrap ((BitVec.ofInt 32 ((m * 2 ^ s : Nat) : Int) ||| BitVec.ofInt 32 ((y * 2 ^ s / 4294967296 : Nat) : Int)).toNat : Int) = IntKind.u32.wrap ((BitVec.ofInt 32 ((y * 2 ^ s / 4294967296 : Nat) : Int) ||| BitVec.ofInt 32 ((m * 2 ^ s : Nat) : Int)).toNat : Int)
  rw [BitVec.or_comm]
 rw [ec, r1, Nat.add_comm]
theorem shlU (x s : Nat) (hs : s ≤ 32) : IntKind.u32.wrap (((x : Nat) : Int) * 2 ^ (min ((s : Nat) : Int).toNat IntKind.u32.bits)) = ((x * 2 ^ s % 4294967296 : Nat) : Int) := by
 rw [Int.toNat_natCast, show min s IntKind.u32.bits = s from Nat.min_eq_left (by show s ≤ 32; omega), show ((x : Nat) : Int) * 2 ^ s = ((x * 2 ^ s : Nat) : Int) by simp, u32N]
theorem shrU (x s : Nat) (hs : s ≤ 32) : ((x : Nat) : Int).fdiv (2 ^ (min ((s : Nat) : Int).toNat IntKind.u32.bits)) = ((x / 2 ^ s : Nat) : Int) := by
 rw [Int.toNat_natCast, show min s IntKind.u32.bits = s from Nat.min_eq_left (by show s ≤ 32; omega), Int.fdiv_eq_ediv_of_nonneg _ (by exact_mod_cast Nat.zero_le (2 ^ s))]
 simp
theorem above_nought {l : List Nat} {n : Nat} (h : val l < 4294967296 ^ n) (hn : n < l.length) : val (l.take n) = val l ∧ at0 l n = 0 := by
 have hs := sV l n
 rw [show (l.take n).length = n by simp; omega, uH hn] at hs
 have hz : at0 l n + 4294967296 * val (l.drop (n + 1)) = 0 := by
  rcases Nat.eq_zero_or_pos (at0 l n + 4294967296 * val (l.drop (n + 1))) with h1 | h1
  ·exact h1
  ·have := Nat.mul_le_mul_left (4294967296 ^ n) h1
   simp only [val] at hs
   omega
 simp only [val] at hs
 rw [hz, Nat.mul_zero, Nat.add_zero] at hs
 exact ⟨hs.symm, by omega⟩
theorem app_copy {H : Hp} {el : TypeId} {x : Option V} {K : V → Hp → Prop} {c : C} {l : List Nat} (h : x = some (.c c)) (hc : Wd c l) (hl : l.length < 4294967296) (k0 : l = [] → K (.c .nilSl) H) (k : l ≠ [] → K (.c (.sl H.length 0 l.length none 1)) (H ++ [.live ⟨l.map W, el, .rw⟩])) : appX H el 1 4 (some (.c .nilSl)) x K := by
 subst h
 cases hc with
 | nil =>
  refine xH (by rfl) ?_
  exact hU (by rfl) (k0 rfl)
 | imm =>
  refine xH (by simp) ?_
  by_cases h0 : l = []
  ·subst h0
   exact hU (by rfl) (k0 rfl)
  ·have hp := List.length_pos_iff.2 h0
   have e : (l.map W).take (l.length * 1) = l.map W := List.take_of_length_le (by simp)
   refine jK ?_ (xH ?_ (by rw [e]; exact k h0))
   ·cases hb : Nat.beq l.length 0 with
    | false => rfl
    | true =>
     have := Nat.eq_of_beq_eq_true hb
     omega
   ·rw [Bool.and_eq_true]
    exact ⟨yH.2 (by omega), yH.2 (by omega)⟩
def QWK (A B n : Nat) (u : V) : Prop := ∃ c l d m, u = .tup [.c c, .c d] ∧ Wd c l ∧ OkW l ∧ val l = A / B ∧ l.length ≤ n + 1 ∧ Wd d m ∧ OkW m ∧ val m = A % B ∧ m.length ≤ n + 1
theorem QWK.fz {A B n : Nat} {c d c' d' : C} {l m : List Nat} {H : Hp} (f1 : Fz (· ≠ .bor) H c c') (f2 : Fz (· ≠ .bor) H d d') (h1 : Wd c' l) (h2 : OkW l) (h3 : val l = A / B) (h4 : l.length ≤ n + 1) (h5 : Wd d' m) (h6 : OkW m) (h7 : val m = A % B) (h8 : m.length ≤ n + 1) : ∃ e, FzV H (.tup [.c c, .c d]) e ∧ QWK A B n e :=
 ⟨_, .tup (.cons (.c f1) (.cons (.c f2) .nil)), c', l, d', m, rfl, h1, h2, h3, h4, h5, h6, h7, h8⟩
attribute [local irreducible] yA semH semC qLen qNil qIad qSlc qIdx yW yL xD appX appI slcX awpF yP xI xopF xR qval lval seqQ xL wJ wI xW cnd arith IntKind.wrap
theorem num_quoWords_less {c d : C} {a b : List Nat} (hc : Wd c a) (hd : Wd d b) (na : Norm a) (nb : Norm b) (hl : a.length < 1073741824) (hv : val a < val b) : semC Tryz.prog n_num_quoWords [.c c, .c d] (QWK (val a) (val b) a.length) := by
 refine yD ok_num_quoWords rfl (show HFVs [.c c, .c d] from ⟨hc.hf, hd.hf, trivial⟩) ?_
 refine go2 ?_
 refine yB (tP hc hd na.1 nb.1 (by omega)) (fun u hu => ?_)
 obtain ⟨r, rfl, r1, r2, r3⟩ := hu
 have hr : r < 0 := by
  rcases Nat.lt_trichotomy a.length b.length with h | h | h
  ·rw [r1 h]
   decide
  ·rw [r3 h]
   exact (by unfold sgn; rw [if_pos (by omega)]; decide)
  ·have := gW nb na h
   omega
 refine go2 ?_
 cases hq : yA Cm.lss r 0
 ·simp [yA] at hq
  omega
 ·refine go2 ?_
  refine app_copy (l := a) (by rfl) hc (by omega) (fun h0 => ?_) (fun h0 => ?_)
  ·refine go2 ?_
   exact QWK.fz (.hf trivial) (.hf trivial) .nil (fun x hx => by cases hx) (by rw [Nat.div_eq_of_lt hv]; rfl) (by simp) .nil (fun x hx => by cases hx) (by rw [Nat.mod_eq_of_lt hv, h0]) (by simp)
  ·refine go2 ?_
   exact QWK.fz (.hf trivial) (wY a (by rfl) (by simp) (by simp) rfl (by exact List.take_of_length_le (by simp))) .nil (fun x hx => by cases hx) (by rw [Nat.div_eq_of_lt hv]; rfl) (by simp) (.imm a) na.1 (by rw [Nat.mod_eq_of_lt hv]) (by omega)
theorem num_quoWords_short {c d : C} {a : List Nat} {b : Nat} (hc : Wd c a) (hd : Wd d [b]) (na : Norm a) (nb : Norm [b]) (hl : a.length < 1073741824) (hv : ¬ val a < val [b]) : semC Tryz.prog n_num_quoWords [.c c, .c d] (QWK (val a) (val [b]) a.length) := by
 refine yD ok_num_quoWords rfl (show HFVs [.c c, .c d] from ⟨hc.hf, hd.hf, trivial⟩) ?_
 have hb0 : b ≠ 0 := by simpa [at0] using nb.2 (by simp)
 have hbB : b < 4294967296 := nb.1 b (by simp)
 have hL : [b].length = 1 := rfl
 have e0 : val [b] = b := by simp [val]
 rw [e0] at hv ⊢
 have la : 1 ≤ a.length := by
  rcases Nat.eq_zero_or_pos a.length with h | h
  ·have : a = [] := List.length_eq_zero_iff.1 h
   subst this
   simp [val] at hv
   omega
  ·exact h
 refine go2 ?_
 refine yB (tP hc hd na.1 nb.1 (by omega)) (fun u hu => ?_)
 obtain ⟨r, rfl, r1, r2, r3⟩ := hu
 have hr : 0 ≤ r := by
  rcases Nat.lt_trichotomy a.length [b].length with h | h | h
  ·omega
  ·rw [r3 h, e0]
   unfold sgn
   split
   ·omega
   ·split <;> omega
  ·rw [r2 h]
   decide
 refine go2 ?_
 cases hq : yA Cm.lss r 0
 case true =>
  simp [yA] at hq
  omega
 refine go2 ?_
 refine c_t (by simp [yA]) ?_
 refine go2 ?_
 refine vT (by rfl) (by rfl) ⟨by omega, by omega, by omega, by omega⟩ ?_
 rw [Int.toNat_natCast, zeros]
 refine go2 ?_
 rw [pR a.length (by omega) la]
 refine yT (fun n vs H => ∃ (j rest : Nat) (out : List Nat), vs = [.c c, .c d, .c (.sl 0 0 a.length (some a.length) 1), u64 rest, i64 ((j : Int) - 1)] ∧ H = [.live ⟨out.map W, yQ, .rw⟩] ∧ n = j ∧ j ≤ a.length ∧ out.length = a.length ∧ OkW out ∧ rest < b ∧ val (a.drop j) = val (out.drop j) * b + rest) (by rfl) ⟨a.length, 0, _, ?_, rfl, rfl, Nat.le_refl _, by simp, fun x hx => by simp at hx; omega, by omega, by simp [val]⟩ ?_
 ·rw [show ((a.length - 1 : Nat) : Int) = (a.length : Int) - 1 by omega]
  rfl
 rintro n vs H ⟨j, rest, out, rfl, rfl, rfl, j1, j2, j3, j4, j5⟩
 refine go2 ?_
 cases hq2 : yA Cm.geq ((n : Int) - 1) 0
 ·simp [yA] at hq2
  have ej : n = 0 := by omega
  subst ej
  rw [List.drop_zero, List.drop_zero] at j5
  refine go2 ?_
  rw [u32N, Nat.mod_eq_of_lt (by omega : rest < 4294967296)]
  have hb1 : 0 < b := by omega
  refine QWK.fz (wY out (by rfl) (by simp) (by simp) j2.symm (by rw [← j2]; exact List.take_of_length_le (by simp))) (wY [rest] (by rfl) (by simp) (by simp) rfl rfl) (.imm out) j3 ?_ (by omega) (.imm [rest]) (fun x hx => by simp at hx; omega) ?_ (by simp)
  ·rw [j5, Nat.mul_comm, Nat.mul_add_div hb1, Nat.div_eq_of_lt j4, Nat.add_zero]
  ·rw [j5, Nat.mul_comm, Nat.mul_add_mod, Nat.mod_eq_of_lt j4]
   simp [val]
 ·simp [yA] at hq2
  obtain ⟨i, rfl⟩ : ∃ i, n = i + 1 := ⟨n - 1, by omega⟩
  rw [show ((i + 1 : Nat) : Int) - 1 = (i : Int) by omega]
  have ga := na.1.get i
  obtain ⟨s1, s2, s3⟩ := short_round (j := i) na.1 (by omega) hbB j4 (by omega) (by omega) j5
  refine go2 ?_
  rw [Int.toNat_natCast, xS _ (by omega : at0 a i < 18446744073709551616), shl32N _ (by omega), jV (by omega) ga]
  refine go2 ?_
  rw [show at0 [b] (0 : Int).toNat = b from rfl, xS _ (by omega : b < 18446744073709551616)]
  refine q_ar (by rfl) (by rfl) (by simp [needs]; omega) ?_
  rw [quoN _ _ (by omega)]
  refine go2 ?_
  rw [u32N, Nat.mod_eq_of_lt s1]
  refine yG (by rfl) (by rfl) (by omega) (by omega) ?_
  refine go2 ?_
  refine wE (k := i) (by rfl) (by rfl) (by omega) (by omega) ?_
  refine go2 ?_
  rw [show at0 [b] (0 : Int).toNat = b from rfl, xS _ (by omega : b < 18446744073709551616)]
  refine q_ar (by rfl) (by rfl) (by simp [needs]; omega) ?_
  rw [remN]
  refine go2 ?_
  refine l_n (by rfl) (by omega) ⟨i, _, _, ?_, rfl, rfl, by omega, by simp [j2], j3.set s1, s3, s2⟩
  rw [show arith .sub .i64 ((i : Nat) : Int) 1 = (i : Int) - 1 by rw [vF, yF (by omega) (by omega)]]
  rfl
end Go.Proofs.YtokckcnfojjpjaaGreat

set_option linter.unusedVariables false
set_option linter.unusedSimpArgs false
namespace Go.Proofs.YtokckcnfojjpjaaGreat
open Go.RowKit
set_option maxRecDepth 20000
theorem tD (n : Nat) : 4294967296 ^ (n + 1) = 4294967296 ^ n * 4294967296 := Nat.pow_succ ..
theorem shrU' (x s : Nat) (hs : s ≤ 32) : ((x : Nat) : Int).fdiv (2 ^ (min s IntKind.u32.bits)) = ((x / 2 ^ s : Nat) : Int) := by
 have := shrU x s hs
 rwa [Int.toNat_natCast] at this
structure EstF (xs yl : List Nat) (k : Nat) : Prop where
 start : (at0 xs (k + 1) * 4294967296 + at0 xs k) / at0 yl k ≤ 4294967297
 lo : val xs / val yl ≤ (at0 xs (k + 1) * 4294967296 + at0 xs k) / at0 yl k
 big : ∀ q, 4294967296 ≤ q → val xs / val yl ≤ q - 1
 round : ∀ q rest, q * at0 yl k + rest = at0 xs (k + 1) * 4294967296 + at0 xs k → q * at0 yl (k - 1) > rest * 4294967296 + at0 xs (k - 1) → val xs / val yl ≤ q - 1 ∧ 1 ≤ q
 fin : ∀ q rest, q * at0 yl k + rest = at0 xs (k + 1) * 4294967296 + at0 xs k → val xs / val yl ≤ q → q < 4294967296 → q * at0 yl (k - 1) ≤ rest * 4294967296 + at0 xs (k - 1) → Est (val xs) (val yl) q
 over : ∀ q rest, q * at0 yl k + rest = at0 xs (k + 1) * 4294967296 + at0 xs k → val xs / val yl ≤ q → q ≤ rest → Est (val xs) (val yl) q
 lt : val xs / val yl < 4294967296
 pos : 0 < val yl
theorem est_facts {xs yl : List Nat} {k : Nat} (lk : yl.length = k + 1) (lx : xs.length = k + 2) (h1 : 1 ≤ k) (ox : OkW xs) (oy : OkW yl) (htop : 2147483648 ≤ at0 yl k) (hlt : val xs < val yl * 4294967296) : EstF xs yl k := by
 have gn := oy.get (k - 1)
 have g2 := ox.get (k - 1)
 have hP : 0 < 4294967296 ^ (k - 1) := Nat.pow_pos (by decide)
 have hY := val_top2 (l := yl) (m := k - 1) (by omega)
 have hX := val_top3 (l := xs) (m := k - 1) (by omega)
 rw [show k - 1 + 1 = k by omega] at hY hX
 rw [show k - 1 + 2 = k + 1 by omega] at hX
 have hyl := vX (oy.take (k - 1))
 have hxl := vX (ox.take (k - 1))
 rw [show (yl.take (k - 1)).length = k - 1 by simp; omega] at hyl
 rw [show (xs.take (k - 1)).length = k - 1 by simp; omega] at hxl
 have hY0 : 0 < val yl := by
  rcases Nat.eq_zero_or_pos (val yl) with h | h
  ·rw [h] at hlt
   omega
  ·exact h
 have hQ : val xs / val yl < 4294967296 := by
  rw [Nat.div_lt_iff_lt_mul hY0, Nat.mul_comm]
  exact hlt
 have hQY : val xs / val yl * val yl ≤ val xs := Nat.div_mul_le_self _ _
 refine ⟨quo_le (head_le hP hX hY hyl hlt) htop gn, (Nat.le_div_iff_mul_le (by omega)).2 (est_start hP hX g2 hxl hY hQY), fun q h => Nat.le_trans (Nat.le_of_lt_succ hQ) (by omega), fun q rest e1 e3 => ?_, fun q rest e1 e2 e3 e4 => ⟨e2, est_end hP hX hY hyl (by omega) e1 (by omega) e4, e3⟩, fun q rest e1 e2 e4 => ?_, hQ, hY0⟩
 ·have h1 : val xs / val yl < q := (Nat.div_lt_iff_lt_mul hY0).2 (est_round hP hX hxl hY e1 e3)
  exact ⟨Nat.le_sub_one_of_lt h1, Nat.lt_of_le_of_lt (Nat.zero_le _) h1⟩
 ·have h1 := est_over' hP hX hY hyl gn e1 e4
  have h3 : q ≤ val xs / val yl := (Nat.le_div_iff_mul_le hY0).2 h1
  exact ⟨e2, Nat.le_trans h1 (Nat.le_add_right _ _), Nat.lt_of_le_of_lt h3 hQ⟩
theorem round_split {xs out : List Nat} {i k Y T : Nat} (ox : OkW xs) (hl : i + k + 1 ≤ xs.length) (hY : 0 < Y) (hYk : Y < 4294967296 ^ k) (h1 : val xs + 4294967296 ^ (i + 1) * val (out.drop (i + 1)) * Y = T) (h2 : val (xs.drop (i + 1)) < Y) (hi : i < out.length) :
  ∃ pre seg post : List Nat, xs = pre ++ seg ++ post ∧ pre.length = i ∧ seg.length = k + 1 ∧ OkW pre ∧ OkW seg ∧ OkW post ∧ val seg < Y * 4294967296 ∧ ∀ seg' : List Nat, seg'.length = k + 1 → val seg' = val seg % Y → val (pre ++ seg' ++ post) + 4294967296 ^ i * val ((out.set i (val seg / Y)).drop i) * Y = T ∧ val ((pre ++ seg' ++ post).drop i) < Y := by
 obtain ⟨q1, q2⟩ := parts_round (i := i) (k := k) (out := out) ox hl hY hYk h1 h2 hi
 exact ⟨_, _, _, (parts_eq xs i k).symm, by simp; omega, by simp; omega, ox.take _, (ox.drop i).take _, ox.drop _, q1, q2⟩
theorem top_great {b vl : List Nat} {s k : Nat} (nb : OkW b) (hk : b.length = k + 1) (n2 : 2147483648 ≤ at0 b k * 2 ^ s) (ov : OkW vl) (hv : vl.length = k + 1) (e : val vl = val b * 2 ^ s) : 2147483648 * 4294967296 ^ k ≤ val vl ∧ 2147483648 ≤ at0 vl k := by
 have eb := yC b k
 rw [xC (by omega)] at eb
 have ev := yC vl k
 rw [xC (by omega)] at ev
 have hlo := vX (ov.take k)
 rw [show (vl.take k).length = k by simp; omega] at hlo
 have h1 : 4294967296 ^ k * 2147483648 ≤ 4294967296 ^ k * (at0 b k * 2 ^ s) := Nat.mul_le_mul_left _ n2
 have h2 : val b * 2 ^ s = val (b.take k) * 2 ^ s + 4294967296 ^ k * (at0 b k * 2 ^ s) := by rw [eb, Nat.add_mul, Nat.mul_assoc]
 refine ⟨by rw [Nat.mul_comm]; omega, ?_⟩
 rcases Nat.lt_or_ge (at0 vl k) 2147483648 with h | h
 ·have := Nat.mul_le_mul_left (4294967296 ^ k) h
  rw [Nat.mul_succ] at this
  omega
 ·exact h
theorem pF {a b : List Nat} (h1 : OkW a) (h2 : OkW b) : OkW (a ++ b) := fun x hx => (List.mem_append.1 hx).elim (h1 x) (h2 x)
attribute [local irreducible] yA semH semC qLen qNil qIad qSlc qIdx yW yL xD appX appI slcX awpF yP xI xopF xR qval lval seqQ xL wJ wI xW cnd arith IntKind.wrap
set_option maxHeartbeats 8000000 in
theorem num_quoWords_long {c d : C} {a b : List Nat} (hc : Wd c a) (hd : Wd d b) (na : Norm a) (nb : Norm b) (h2 : 2 ≤ b.length) (hl : a.length < 1073741824) (hv : ¬ val a < val b) : semC Tryz.prog n_num_quoWords [.c c, .c d] (QWK (val a) (val b) a.length) := by
 refine yD ok_num_quoWords rfl (show HFVs [.c c, .c d] from ⟨hc.hf, hd.hf, trivial⟩) ?_
 have hb0 : b ≠ [] := fun e => by rw [e] at h2; simp at h2
 have hab : b.length ≤ a.length := by
  rcases Nat.lt_or_ge a.length b.length with h | h
  ·exact absurd (gW na nb h) hv
  ·exact h
 have hvb := gR nb hb0
 refine go2 ?_
 refine yB (tP hc hd na.1 nb.1 (by omega)) (fun u hu => ?_)
 obtain ⟨r, rfl, r1, r2, r3⟩ := hu
 have hr : 0 ≤ r := by
  rcases Nat.lt_trichotomy a.length b.length with h | h | h
  ·omega
  ·rw [r3 h]
   unfold sgn
   split
   ·omega
   ·split <;> omega
  ·rw [r2 h]
   decide
 clear r1 r2 r3
 refine go2 ?_
 cases hq : yA Cm.lss r 0
 case true =>
  simp [yA] at hq
  omega
 clear hq hr
 refine go2 ?_
 cases hq1 : yA Cm.eql (b.length : Int) 1
 case true =>
  simp [yA] at hq1
  omega
 clear hq1
 refine go2 ?_
 rw [pR b.length (by omega) (by omega)]
 refine go2 ?_
 rw [Int.toNat_natCast]
 have gtop := nb.2 hb0
 have gb := nb.1.get (b.length - 1)
 refine yB (gF gb (by omega)) (fun u hu => ?_)
 obtain ⟨s, rfl, n1, n2, n3⟩ := hu
 refine go2 ?_
 rw [nn n1, xV a.length (by omega)]
 refine vT (by rfl) (by rfl) ⟨by omega, by omega, by omega, by omega⟩ ?_
 rw [Int.toNat_natCast, zeros]
 refine go2 ?_
 refine vT (by rfl) (by rfl) ⟨by omega, by omega, by omega, by omega⟩ ?_
 rw [Int.toNat_natCast, zeros]
 refine go2 ?_
 refine yT (fun z vs H => ∃ (i : Nat) (vl : List Nat), vs = [.c c, .c d, u64 s, .c (.sl 0 0 (a.length + 1) (some (a.length + 1)) 1), .c (.sl 1 0 b.length (some b.length) 1), i64 b.length, i64 i] ∧ H = [.live ⟨(List.replicate (a.length + 1) 0).map W, yQ, .rw⟩, .live ⟨vl.map W, yQ, .rw⟩] ∧ z = b.length - i ∧ i ≤ b.length ∧ vl.length = b.length ∧ OkW vl ∧ val (vl.take i) + 4294967296 ^ i * ovr b s i = val (b.take i) * 2 ^ s) (by rfl) ⟨0, _, rfl, rfl, rfl, by omega, by simp, fun x hx => by simp at hx; omega, by simp [val, ovr]⟩ ?_
 rintro z vs H ⟨i, vl, rfl, rfl, rfl, v1, v2, v3, v4⟩
 refine go2 ?_
 cases hq2 : yA Cm.lss (i : Int) (b.length : Int)
 case true =>
  simp [yA] at hq2
  have gi := nb.1.get i
  refine go2 ?_
  rw [Int.toNat_natCast, shlU _ _ (by omega)]
  refine yG (by rfl) (by rfl) (by omega) (by omega) ?_
  refine go2 ?_
  refine wE (k := i) (by rfl) (by rfl) (by omega) (by omega) ?_
  refine go2 ?_
  cases hi0 : yA Cm.gtr (i : Int) 0
  case false =>
   simp [yA] at hi0
   subst hi0
   refine go2 ?_
   rw [xV 0 (by omega)]
   refine l_n (by rfl) (by omega) ⟨0 + 1, _, rfl, rfl, rfl, by omega, by simp [v2], v3.set (Nat.mod_lt _ (by decide)), ?_⟩
   rw [yX (by omega), yC b, tD 0]
   exact bZ v4 rfl
  case true =>
   simp [yA] at hi0
   obtain ⟨j, rfl⟩ : ∃ j, i = j + 1 := ⟨i - 1, by omega⟩
   have gj := nb.1.get j
   obtain ⟨w1, w2⟩ := up_word (y := at0 b j) n1 gi gj
   refine go2 ?_
   cases hs0 : yA Cm.gtr (s : Int) 0
   case false =>
    simp [yA] at hs0
    subst hs0
    have hz : ovr b 0 (j + 1) = 0 := by
     show at0 b j * 2 ^ 0 / 4294967296 = 0
     rw [Nat.pow_zero, Nat.mul_one]
     exact Nat.div_eq_of_lt gj
    refine go2 ?_
    rw [xV (j + 1) (by omega)]
    refine l_n (by rfl) (by omega) ⟨j + 1 + 1, _, rfl, rfl, rfl, by omega, by simp [v2], v3.set (Nat.mod_lt _ (by decide)), ?_⟩
    rw [yX (by omega), yC b, tD (j + 1)]
    exact bZ v4 (by rw [hz]; rfl)
   case true =>
    simp only [yA, yH] at hs0
    refine go2 ?_
    refine yG (by rfl) (by rfl) (by omega) (by omega) ?_
    refine go2 ?_
    refine wV (k := j + 1) (by rfl) (by omega) (by simp; omega) ?_
    refine go2 ?_
    rw [pR (j + 1) (by omega) (by omega), show j + 1 - 1 = j by omega]
    refine wS (by rfl) (by rfl) hd (by omega) (by omega) ?_
    refine go2 ?_
    rw [show arith .sub .u64 32 (s : Int) = ((32 - s : Nat) : Int) from subN 32 s (by omega) (by omega)]
    refine go2 ?_
    simp only [Int.toNat_natCast]
    rw [shrU' _ _ (by omega), ovr_shr n1, show at0 (vl.set (j + 1) (at0 b (j + 1) * 2 ^ s % 4294967296)) (j + 1) = at0 b (j + 1) * 2 ^ s % 4294967296 by simp [at0, show j + 1 < vl.length by omega], w1]
    refine yG (by rfl) (by rfl) (by omega) (by omega) ?_
    refine go2 ?_
    refine wE (k := j + 1) (by rfl) (by rfl) (by omega) (by simp; omega) ?_
    refine go2 ?_
    rw [xV (j + 1) (by omega)]
    refine l_n (by rfl) (by omega) ⟨j + 1 + 1, _, rfl, rfl, rfl, by omega, by simp [v2], by rw [List.set_set]; exact v3.set w2, ?_⟩
    rw [List.set_set, yX (by omega), yC b, tD (j + 1)]
    exact bZ v4 rfl
 simp [yA] at hq2
 have ei : i = b.length := by omega
 subst ei
 have hz : ovr b s b.length = 0 := by
  obtain ⟨j, hj⟩ : ∃ j, b.length = j + 1 := ⟨b.length - 1, by omega⟩
  rw [hj]
  show at0 b j * 2 ^ s / 4294967296 = 0
  rw [show j = b.length - 1 by omega]
  exact Nat.div_eq_of_lt n3
 rw [hz, Nat.mul_zero, Nat.add_zero, xC (l := vl) (by omega), xC (Nat.le_refl _)] at v4
 clear hz v1 hq2
 refine go2 ?_
 refine yT (fun z vs H => ∃ (i : Nat) (ul : List Nat), vs = [.c c, u64 s, .c (.sl 0 0 (a.length + 1) (some (a.length + 1)) 1), .c (.sl 1 0 b.length (some b.length) 1), i64 ((a.length + 1 : Nat) : Int), i64 i] ∧ H = [.live ⟨ul.map W, yQ, .rw⟩, .live ⟨vl.map W, yQ, .rw⟩] ∧ z = a.length + 1 - i ∧ i ≤ a.length + 1 ∧ ul.length = a.length + 1 ∧ OkW ul ∧ val (ul.take i) + 4294967296 ^ i * ovr a s i = val (a.take i) * 2 ^ s ∧ ∀ k, i ≤ k → at0 ul k = 0) (by rfl) ⟨0, _, rfl, rfl, rfl, by omega, by simp, fun x hx => by simp at hx; omega, by simp [val, ovr], fun k _ => tJ _ k⟩ ?_
 rintro z vs H ⟨i, ul, rfl, rfl, rfl, u1, u2, u3, u4, u5⟩
 refine go2 ?_
 cases hq2 : yA Cm.lss (i : Int) ((a.length + 1 : Nat) : Int)
 case true =>
  simp only [yA, yH] at hq2
  have gi := na.1.get i
  refine go2 ?_
  cases hq3 : yA Cm.lss (i : Int) (a.length : Int)
  case true =>
   simp only [yA, yH] at hq3
   refine go2 ?_
   rw [Int.toNat_natCast, shlU _ _ (by omega)]
   refine yG (by rfl) (by rfl) (by omega) (by omega) ?_
   refine go2 ?_
   refine wE (k := i) (by rfl) (by rfl) (by omega) (by omega) ?_
   refine go2 ?_
   cases hi0 : yA Cm.gtr (i : Int) 0
   case false =>
    simp [yA] at hi0
    subst hi0
    refine go2 ?_
    rw [xV 0 (by omega)]
    refine l_n (by rfl) (by omega) ⟨0 + 1, _, rfl, rfl, rfl, by omega, by simp [u2], u3.set (Nat.mod_lt _ (by decide)), ?_, fun k hk => ?_⟩
    ·rw [yX (by omega), yC a, tD 0]
     exact bZ u4 rfl
    ·rw [xT (by omega)]; exact u5 k (by omega)
   case true =>
    simp [yA] at hi0
    obtain ⟨j, rfl⟩ : ∃ j, i = j + 1 := ⟨i - 1, by omega⟩
    have gj := na.1.get j
    obtain ⟨w1, w2⟩ := up_word (y := at0 a j) n1 gi gj
    refine go2 ?_
    cases hs0 : yA Cm.gtr (s : Int) 0
    case false =>
     simp [yA] at hs0
     subst hs0
     have hz : ovr a 0 (j + 1) = 0 := by
      show at0 a j * 2 ^ 0 / 4294967296 = 0
      rw [Nat.pow_zero, Nat.mul_one]
      exact Nat.div_eq_of_lt gj
     refine go2 ?_
     rw [xV (j + 1) (by omega)]
     refine l_n (by rfl) (by omega) ⟨j + 1 + 1, _, rfl, rfl, rfl, by omega, by simp [u2], u3.set (Nat.mod_lt _ (by decide)), ?_, fun k hk => ?_⟩
     ·rw [yX (by omega), yC a, tD (j + 1)]
      exact bZ u4 (by rw [hz]; rfl)
     ·rw [xT (by omega)]; exact u5 k (by omega)
    case true =>
     simp only [yA, yH] at hs0
     refine go2 ?_
     refine yG (by rfl) (by rfl) (by omega) (by omega) ?_
     refine go2 ?_
     refine wV (k := j + 1) (by rfl) (by omega) (by simp; omega) ?_
     refine go2 ?_
     rw [pR (j + 1) (by omega) (by omega), show j + 1 - 1 = j by omega]
     refine wS (by rfl) (by rfl) hc (by omega) (by omega) ?_
     refine go2 ?_
     rw [show arith .sub .u64 32 (s : Int) = ((32 - s : Nat) : Int) from subN 32 s (by omega) (by omega)]
     refine go2 ?_
     simp only [Int.toNat_natCast]
     rw [shrU' _ _ (by omega), ovr_shr n1, show at0 (ul.set (j + 1) (at0 a (j + 1) * 2 ^ s % 4294967296)) (j + 1) = at0 a (j + 1) * 2 ^ s % 4294967296 by simp [at0, show j + 1 < ul.length by omega], w1]
     refine yG (by rfl) (by rfl) (by omega) (by omega) ?_
     refine go2 ?_
     refine wE (k := j + 1) (by rfl) (by rfl) (by omega) (by simp; omega) ?_
     refine go2 ?_
     rw [xV (j + 1) (by omega)]
     refine l_n (by rfl) (by omega) ⟨j + 1 + 1, _, rfl, rfl, rfl, by omega, by simp [u2], by rw [List.set_set]; exact u3.set w2, ?_, fun k hk => ?_⟩
     ·rw [List.set_set, yX (by omega), yC a, tD (j + 1)]
      exact bZ u4 rfl
     ·rw [List.set_set]; rw [xT (by omega)]
      exact u5 k (by omega)
  case false =>
   simp only [yA, yM] at hq3
   have ei : i = a.length := by omega
   have gz : at0 a i = 0 := gQ (by omega)
   refine go2 ?_
   cases hi0 : yA Cm.gtr (i : Int) 0
   case false =>
    simp [yA] at hi0
    subst hi0
    refine go2 ?_
    rw [xV 0 (by omega)]
    refine l_n (by rfl) (by omega) ⟨0 + 1, _, rfl, rfl, rfl, by omega, u2, u3, ?_, fun k hk => ?_⟩
    ·rw [yC ul, u5 _ (Nat.le_refl _), yC a, tD 0]
     exact bZ u4 (by rw [gz]; simp [ovr])
    ·exact u5 k (by omega)
   case true =>
    simp [yA] at hi0
    obtain ⟨j, rfl⟩ : ∃ j, i = j + 1 := ⟨i - 1, by omega⟩
    have gj := na.1.get j
    obtain ⟨w1, w2⟩ := up_word (y := at0 a j) n1 gi gj
    refine go2 ?_
    cases hs0 : yA Cm.gtr (s : Int) 0
    case false =>
     simp [yA] at hs0
     subst hs0
     have hz : ovr a 0 (j + 1) = 0 := by
      show at0 a j * 2 ^ 0 / 4294967296 = 0
      rw [Nat.pow_zero, Nat.mul_one]
      exact Nat.div_eq_of_lt gj
     refine go2 ?_
     rw [xV (j + 1) (by omega)]
     refine l_n (by rfl) (by omega) ⟨j + 1 + 1, _, rfl, rfl, rfl, by omega, u2, u3, ?_, fun k hk => ?_⟩
     ·rw [yC ul, u5 _ (Nat.le_refl _), yC a, tD (j + 1)]
      exact bZ u4 (by simp [gz, hz])
     ·exact u5 k (by omega)
    case true =>
     simp only [yA, yH] at hs0
     refine go2 ?_
     refine yG (by rfl) (by rfl) (by omega) (by omega) ?_
     refine go2 ?_
     refine wV (k := j + 1) (by rfl) (by omega) (by omega) ?_
     refine go2 ?_
     rw [pR (j + 1) (by omega) (by omega), show j + 1 - 1 = j by omega]
     refine wS (by rfl) (by rfl) hc (by omega) (by omega) ?_
     refine go2 ?_
     rw [show arith .sub .u64 32 (s : Int) = ((32 - s : Nat) : Int) from subN 32 s (by omega) (by omega)]
     refine go2 ?_
     simp only [Int.toNat_natCast]
     rw [shrU' _ _ (by omega), ovr_shr n1, show at0 ul (j + 1) = at0 a (j + 1) * 2 ^ s % 4294967296 by have h := u5 _ (Nat.le_refl (j + 1)); simp [h, gz], w1]
     refine yG (by rfl) (by rfl) (by omega) (by omega) ?_
     refine go2 ?_
     refine wE (k := j + 1) (by rfl) (by rfl) (by omega) (by omega) ?_
     refine go2 ?_
     rw [xV (j + 1) (by omega)]
     refine l_n (by rfl) (by omega) ⟨j + 1 + 1, _, rfl, rfl, rfl, by omega, by simp [u2], by exact u3.set w2, ?_, fun k hk => ?_⟩
     ·rw [yX (by omega), yC a, tD (j + 1)]
      exact bZ u4 rfl
     ·rw [xT (by omega)]
      exact u5 k (by omega)
 simp only [yA, yM] at hq2
 have ei : i = a.length + 1 := by omega
 subst ei
 have hz : ovr a s (a.length + 1) = 0 := by
  show at0 a a.length * 2 ^ s / 4294967296 = 0
  rw [gQ (Nat.le_refl _)]
  simp
 rw [hz, Nat.mul_zero, Nat.add_zero, xC (l := ul) (by omega), xC (l := a) (by omega)] at u4
 clear hz u1 hq2 u5
 refine go2 ?_
 obtain ⟨k, hk⟩ : ∃ k, b.length = k + 1 := ⟨b.length - 1, by omega⟩
 obtain ⟨m, hm⟩ : ∃ m, a.length = m + (k + 1) := ⟨a.length - b.length, by omega⟩
 obtain ⟨t1, t2⟩ := top_great (k := k) (s := s) nb.1 hk (by rwa [show b.length - 1 = k by omega] at n2) v3 (by omega) v4
 have hst : val (ul.drop (m + 1)) < val vl := parts_start (k := k + 1) na.1 n1 (by omega) (by omega) u2 u4 (by simpa using t1)
 have hYk := vX v3
 have hY0 : 0 < val vl := Nat.lt_of_le_of_lt (Nat.zero_le _) hst
 rw [v2, hk] at hYk
 rw [hk] at v2
 rw [subI a.length b.length (by omega) hab, xV (a.length - b.length) (by omega), show a.length - b.length = m by omega, hk]
 refine vT (by rfl) (by rfl) ⟨by omega, by omega, by omega, by omega⟩ ?_
 rw [Int.toNat_natCast, zeros]
 refine go2 ?_
 rw [subI a.length (k + 1) (by omega) (by omega), show a.length - (k + 1) = m by omega]
 refine yT (fun z vs H => ∃ (j : Nat) (xc out : List Nat), vs = [u64 s, .c (.sl 0 0 (a.length + 1) (some (a.length + 1)) 1), .c (.sl 1 0 (k + 1) (some (k + 1)) 1), i64 ((k + 1 : Nat) : Int), .c (.sl 2 0 (m + 1) (some (m + 1)) 1), i64 ((j : Int) - 1)] ∧ H = [.live ⟨xc.map W, yQ, .rw⟩, .live ⟨vl.map W, yQ, .rw⟩, .live ⟨out.map W, yQ, .rw⟩] ∧ z = j ∧ j ≤ m + 1 ∧ xc.length = a.length + 1 ∧ OkW xc ∧ out.length = m + 1 ∧ OkW out ∧ val xc + 4294967296 ^ j * val (out.drop j) * val vl = val a * 2 ^ s ∧ val (xc.drop j) < val vl) (by rfl) ⟨m + 1, ul, _, ?_, rfl, rfl, Nat.le_refl _, u2, u3, by simp, fun x hx => by simp at hx; omega, ?_, hst⟩ ?_
 ·rw [show ((m : Nat) : Int) = ((m + 1 : Nat) : Int) - 1 by omega]
  rfl
 ·rw [List.drop_of_length_le (by simp), u4]
  simp [val]
 clear hst u4 u3 u2 ul
 rintro z vs H ⟨j, xc, out, rfl, rfl, rfl, j1, j2, j3, j4, j5, j6, j7⟩
 refine go2 ?_
 cases hq2 : yA Cm.geq ((z : Int) - 1) 0
 case true =>
  simp [yA] at hq2
  obtain ⟨i, rfl⟩ : ∃ i, z = i + 1 := ⟨z - 1, by omega⟩
  rw [show ((i + 1 : Nat) : Int) - 1 = (i : Int) by omega]
  obtain ⟨pre, seg, post, rfl, lpre, lseg, opre, oseg, opost, q1, q2⟩ := round_split (i := i) (k := k + 1) (out := out) j3 (by omega) hY0 hYk j6 j7 (by omega)
  have EF := est_facts (k := k) v2 lseg (by omega) oseg v3 t2 q1
  have hpl : pre.length + seg.length + post.length = a.length + 1 := by simpa [Nat.add_assoc] using j2
  have g0 := oseg.get (k + 1)
  have g1 := oseg.get k
  have g2 := oseg.get (k - 1)
  have gt := v3.get k
  have gn := v3.get (k - 1)
  have hXR : val seg < 4294967296 ^ (k + 2) := by
   have := vX oseg
   rwa [lseg] at this
  refine go2 ?_
  rw [addI i (k + 1) (by omega)]
  refine yG (by rfl) (by rfl) (by omega) (by omega) ?_
  refine go2 ?_
  refine tQ (i := k + 1) (by rfl) (by omega) (by omega) ?_
  refine go2 ?_
  rw [addI i (k + 1) (by omega), pR (i + (k + 1)) (by omega) (by omega)]
  refine yG (by rfl) (by rfl) (by omega) (by omega) ?_
  refine go2 ?_
  refine tQ (i := k) (by rfl) (by omega) (by omega) ?_
  refine go2 ?_
  rw [xS _ (by omega : at0 seg (k + 1) < 18446744073709551616), xS _ (by omega : at0 seg k < 18446744073709551616), shl32N _ g0, jV g0 g1]
  refine go2 ?_
  rw [pR (k + 1) (by omega) (by omega), show k + 1 - 1 = k by omega]
  refine yG (by rfl) (by rfl) (by omega) (by omega) ?_
  refine go2 ?_
  refine wV (k := k) (by rfl) (by omega) (by omega) ?_
  refine go2 ?_
  rw [xS _ (by omega : at0 vl k < 18446744073709551616)]
  refine q_ar (by rfl) (by rfl) (by simp [needs]; omega) ?_
  rw [quoN _ _ (by omega)]
  refine go2 ?_
  rw [pR (k + 1) (by omega) (by omega), show k + 1 - 1 = k by omega]
  refine yG (by rfl) (by rfl) (by omega) (by omega) ?_
  refine go2 ?_
  refine wV (k := k) (by rfl) (by omega) (by omega) ?_
  refine go2 ?_
  rw [xS _ (by omega : at0 vl k < 18446744073709551616)]
  refine q_ar (by rfl) (by rfl) (by simp [needs]; omega) ?_
  rw [remN]
  refine go2 ?_
  have hmod := Nat.mod_lt (at0 seg (k + 1) * 4294967296 + at0 seg k) (by omega : 0 < at0 vl k)
  refine yT (fun z vs H => ∃ q r : Nat, vs = [u64 s, .c (.sl 0 0 (a.length + 1) (some (a.length + 1)) 1), .c (.sl 1 0 (k + 1) (some (k + 1)) 1), i64 ((k + 1 : Nat) : Int), .c (.sl 2 0 (m + 1) (some (m + 1)) 1), i64 i, u64 q, u64 r] ∧ H = [.live ⟨(pre ++ seg ++ post).map W, yQ, .rw⟩, .live ⟨vl.map W, yQ, .rw⟩, .live ⟨out.map W, yQ, .rw⟩] ∧ z = q ∧ q * at0 vl k + r = at0 seg (k + 1) * 4294967296 + at0 seg k ∧ val seg / val vl ≤ q ∧ q ≤ 4294967297 ∧ r < 4294967296) (by rfl) ⟨_, _, rfl, rfl, rfl, by rw [Nat.mul_comm]; exact Nat.div_add_mod _ _, EF.lo, EF.start, by omega⟩ ?_
  clear hmod
  rintro z vs H ⟨q, r, rfl, rfl, rfl, p1, p2, p3, p4⟩
  refine go2 ?_
  cases hg : yA Cm.geq (z : Int) 4294967296
  case true =>
   simp only [yA, yH] at hg
   have h1 : val seg / val vl ≤ z - 1 := EF.big z (by omega)
   have h2 : 1 ≤ z := by omega
   refine go2 ?_
   have h3 : (z - 1) * at0 vl k + (r + at0 vl k) = at0 seg (k + 1) * 4294967296 + at0 seg k := by
    have e1 := Nat.sub_mul z 1 (at0 vl k)
    have e2 := Nat.mul_le_mul_right (at0 vl k) h2
    omega
   rw [subN1 z (by omega) h2, pR (k + 1) (by omega) (by omega), show k + 1 - 1 = k by omega]
   refine yG (by rfl) (by rfl) (by omega) (by omega) ?_
   refine go2 ?_
   refine wV (k := k) (by rfl) (by omega) (by omega) ?_
   refine go2 ?_
   rw [xS _ (by omega : at0 vl k < 18446744073709551616), addN _ _ (by omega)]
   cases hr2 : yA Cm.geq ((r + at0 vl k : Nat) : Int) 4294967296
   case false =>
    simp only [yA, yM] at hr2
    refine go2 ?_
    exact l_n (by rfl) (by omega) ⟨z - 1, r + at0 vl k, rfl, rfl, rfl, h3, h1, by omega, by omega⟩
   case true =>
    simp only [yA, yH] at hr2
    have E := EF.over (z - 1) (r + at0 vl k) h3 h1 (by omega)
    refine go2 ?_
    refine yT (fun y vs H => ∃ (w bo carry : Nat) (cur : List Nat), vs = [u64 s, .c (.sl 0 0 (a.length + 1) (some (a.length + 1)) 1), .c (.sl 1 0 (k + 1) (some (k + 1)) 1), i64 ((k + 1 : Nat) : Int), .c (.sl 2 0 (m + 1) (some (m + 1)) 1), i64 i, u64 (z - 1), i64 bo, u64 carry, i64 ((k + 1 : Nat) : Int), i64 w] ∧ H = [.live ⟨(pre ++ cur ++ post).map W, yQ, .rw⟩, .live ⟨vl.map W, yQ, .rw⟩, .live ⟨out.map W, yQ, .rw⟩] ∧ y = k + 1 - w ∧ w ≤ k + 1 ∧ cur.length = k + 2 ∧ OkW cur ∧ bo ≤ 1 ∧ carry < 4294967296 ∧ val (cur.take w) + (z - 1) * val (vl.take w) = val (seg.take w) + 4294967296 ^ w * (carry + bo) ∧ ∀ j, w ≤ j → at0 cur j = at0 seg j) (by rfl) ⟨0, 0, 0, seg, rfl, rfl, rfl, by omega, lseg, oseg, by omega, by omega, by simp [val], fun _ _ => rfl⟩ ?_
    rintro y vs H ⟨w, bo, carry, cur, rfl, rfl, rfl, c1, c2, c3, c4, c5, c6, c7⟩
    have gc := c3.get w
    have gv := v3.get w
    refine go2 ?_
    cases hw : yA Cm.lss (w : Int) ((k + 1 : Nat) : Int)
    case true =>
     simp only [yA, yH] at hw
     have hmm : (z - 1) * at0 vl w + carry < 18446744073709551616 := by
      have := Nat.mul_le_mul (Nat.le_of_lt_succ E.lt) (Nat.le_of_lt_succ gv)
      omega
     refine go2 ?_
     refine yG (by rfl) (by rfl) (by omega) (by omega) ?_
     refine go2 ?_
     refine wV (k := w) (by rfl) (by omega) (by omega) ?_
     refine go2 ?_
     rw [xS _ (by omega : at0 vl w < 18446744073709551616), mulN _ _ (by omega), addN _ _ hmm]
     refine go2 ?_
     rw [shrN, addI w i (by omega)]
     refine yG (by rfl) (by rfl) (by omega) (by omega) ?_
     refine go2 ?_
     refine tQ (i := w) (by rfl) (by omega) (by omega) ?_
     refine go2 ?_
     obtain ⟨d, w', b', e1, e2, e3, x1, x2, x3⟩ := sub_i64 (x := at0 cur w) (s := ((z - 1) * at0 vl w + carry) % 4294967296) (bo := bo) gc (Nat.mod_lt _ (by decide)) c4
     rw [i64N _ (by omega : at0 cur w < 9223372036854775808), u32N, i64N _ (by omega : ((z - 1) * at0 vl w + carry) % 4294967296 < 9223372036854775808), e1]
     refine go2 ?_
     rw [e2, addI w i (by omega)]
     refine yG (by rfl) (by rfl) (by omega) (by omega) ?_
     refine go2 ?_
     refine sK (i := w) (by rfl) (by rfl) (by omega) (by omega) ?_
     refine go2 ?_
     have hrow := jN (t := (z - 1) * at0 vl w + carry) (y := at0 vl w) c6 (Nat.add_comm _ _) x3
     cases hd : yA Cm.lss d 0
     case true =>
      simp only [yA, yH] at hd
      have hb1 := e3.1 hd
      subst hb1
      refine go2 ?_
      rw [xV w (by omega)]
      refine l_n (by rfl) (by omega) ⟨w + 1, 1, ((z - 1) * at0 vl w + carry) / 4294967296, cur.set w w', rfl, rfl, rfl, by omega, by simp [c2], c3.set x1, by omega, by omega, ?_, fun j hj => ?_⟩
      ·rw [yX (by omega), yC vl, yC seg, tD w, ← c7 w (Nat.le_refl w)]
       exact hrow
      ·rw [xT (by omega)]
       exact c7 j (by omega)
     case false =>
      simp only [yA, yM] at hd
      have hb1 : b' = 0 := by
       rcases Nat.lt_or_ge b' 1 with h | h
       ·omega
       ·exact absurd (e3.2 (by omega)) hd
      subst hb1
      refine go2 ?_
      rw [xV w (by omega)]
      refine l_n (by rfl) (by omega) ⟨w + 1, 0, ((z - 1) * at0 vl w + carry) / 4294967296, cur.set w w', rfl, rfl, rfl, by omega, by simp [c2], c3.set x1, by omega, by omega, ?_, fun j hj => ?_⟩
      ·rw [yX (by omega), yC vl, yC seg, tD w, ← c7 w (Nat.le_refl w)]
       exact hrow
      ·rw [xT (by omega)]
       exact c7 j (by omega)
    simp only [yA, yM] at hw
    have ew : w = k + 1 := by omega
    subst ew
    refine go2 ?_
    rw [addI i (k + 1) (by omega)]
    refine yG (by rfl) (by rfl) (by omega) (by omega) ?_
    refine go2 ?_
    refine tQ (i := k + 1) (by rfl) (by omega) (by omega) ?_
    refine go2 ?_
    obtain ⟨d, w', b', e1, e2, e3, x1, x2, x3⟩ := sub_i64 (x := at0 cur (k + 1)) (s := carry) (bo := bo) gc c5 c4
    rw [i64N _ (by omega : at0 cur (k + 1) < 9223372036854775808), i64N _ (by omega : carry < 9223372036854775808), e1]
    refine go2 ?_
    rw [e2, addI i (k + 1) (by omega)]
    refine yG (by rfl) (by rfl) (by omega) (by omega) ?_
    refine go2 ?_
    refine sK (i := k + 1) (by rfl) (by rfl) (by omega) (by omega) ?_
    refine go2 ?_
    have hrow := jN (t := carry) (y := 0) c6 (by rw [Nat.mul_zero, Nat.add_zero]) (by rw [Nat.mod_eq_of_lt c5]; exact x3)
    rw [c7 (k + 1) (Nat.le_refl _), Nat.mul_zero, Nat.add_zero, Nat.div_eq_of_lt c5, ← yX (by omega), ← yC seg, ← tD (k + 1), xC (l := cur.set (k + 1) w') (by simp; omega), xC (l := seg) (by omega), xC (l := vl) (by omega)] at hrow
    have ocs : OkW (cur.set (k + 1) w') := c3.set x1
    have lcs : (cur.set (k + 1) w').length = k + 2 := by simp [c2]
    generalize cur.set (k + 1) w' = cs at hrow ocs lcs
    have hC := vX ocs
    rw [lcs] at hC
    obtain ⟨z1, z2⟩ := word_end (q := (z - 1)) (c := val cs) hY0 E.lo E.hi hC hXR
    clear c1 c2 c3 c4 c5 c6 c7 gc gv e1 e2 x3
    cases hd : yA Cm.lss d 0
    case false =>
     simp only [yA, yM] at hd
     have hb1 : b' = 0 := by
      rcases Nat.lt_or_ge b' 1 with h | h
      ·omega
      ·exact absurd (e3.2 (by omega)) hd
     subst hb1
     obtain ⟨y1, y2⟩ := z1 hrow
     obtain ⟨y3, y4⟩ := q2 cs (by omega) y2
     refine go2 ?_
     rw [u32N, y1, Nat.mod_eq_of_lt EF.lt]
     refine yG (by rfl) (by rfl) (by omega) (by omega) ?_
     refine go2 ?_
     refine wE (k := i) (by rfl) (by rfl) (by omega) (by omega) ?_
     refine go2 ?_
     refine l_n (by rfl) (by omega) ⟨i, pre ++ cs ++ post, out.set i (val seg / val vl), ?_, rfl, rfl, by omega, by simp; omega, pF (pF opre ocs) opost, by simp [j4], j5.set EF.lt, y3, y4⟩
     rw [show arith .sub .i64 ((i : Nat) : Int) 1 = (i : Int) - 1 by rw [vF, yF (by omega) (by omega)]]
     rfl
    case true =>
     simp only [yA, yH] at hd
     have hb1 := e3.1 hd
     subst hb1
     obtain ⟨y1, y2, y3⟩ := z2 hrow
     refine go2 ?_
     rw [subN1 (z - 1) (by omega) y2]
     refine yT (fun y vs H => ∃ (w carry : Nat) (c2 : List Nat), vs = [u64 s, .c (.sl 0 0 (a.length + 1) (some (a.length + 1)) 1), .c (.sl 1 0 (k + 1) (some (k + 1)) 1), i64 ((k + 1 : Nat) : Int), .c (.sl 2 0 (m + 1) (some (m + 1)) 1), i64 i, u64 ((z - 1) - 1), u64 carry, i64 ((k + 1 : Nat) : Int), i64 w] ∧ H = [.live ⟨(pre ++ c2 ++ post).map W, yQ, .rw⟩, .live ⟨vl.map W, yQ, .rw⟩, .live ⟨out.map W, yQ, .rw⟩] ∧ y = k + 1 - w ∧ w ≤ k + 1 ∧ c2.length = k + 2 ∧ OkW c2 ∧ carry ≤ 1 ∧ val (c2.take w) + 4294967296 ^ w * carry = val (cs.take w) + val (vl.take w) ∧ ∀ j, w ≤ j → at0 c2 j = at0 cs j) (by rfl) ⟨0, 0, cs, rfl, rfl, rfl, by omega, lcs, ocs, by omega, by simp [val], fun _ _ => rfl⟩ ?_
     rintro y vs H ⟨w, carry, c2, rfl, rfl, rfl, f1, f2, f3, f4, f5, f6⟩
     have gc := f3.get w
     have gv := v3.get w
     refine go2 ?_
     cases hw : yA Cm.lss (w : Int) ((k + 1 : Nat) : Int)
     case true =>
      simp only [yA, yH] at hw
      refine go2 ?_
      rw [addI w i (by omega)]
      refine yG (by rfl) (by rfl) (by omega) (by omega) ?_
      refine go2 ?_
      refine tQ (i := w) (by rfl) (by omega) (by omega) ?_
      refine go2 ?_
      refine yG (by rfl) (by rfl) (by omega) (by omega) ?_
      refine go2 ?_
      refine wV (k := w) (by rfl) (by omega) (by omega) ?_
      refine go2 ?_
      rw [xS _ (by omega : at0 c2 w < 18446744073709551616), xS _ (by omega : at0 vl w < 18446744073709551616), addN _ _ (by omega), addN _ _ (by omega)]
      refine go2 ?_
      rw [u32N, addI w i (by omega)]
      refine yG (by rfl) (by rfl) (by omega) (by omega) ?_
      refine go2 ?_
      refine sK (i := w) (by rfl) (by rfl) (by omega) (by omega) ?_
      refine go2 ?_
      rw [shrN, xV w (by omega)]
      refine l_n (by rfl) (by omega) ⟨w + 1, _, c2.set w ((at0 c2 w + at0 vl w + carry) % 4294967296), rfl, rfl, rfl, by omega, by simp [f2], f3.set (Nat.mod_lt _ (by decide)), by omega, ?_, fun j hj => ?_⟩
      ·rw [yX (by omega), yC vl, yC cs, tD w, ← f6 w (Nat.le_refl w)]
       exact jS f5 (by omega)
      ·rw [xT (by omega)]
       exact f6 j (by omega)
     simp only [yA, yM] at hw
     have ew : w = k + 1 := by omega
     subst ew
     refine go2 ?_
     rw [addI i (k + 1) (by omega)]
     refine yG (by rfl) (by rfl) (by omega) (by omega) ?_
     refine go2 ?_
     refine tQ (i := k + 1) (by rfl) (by omega) (by omega) ?_
     refine go2 ?_
     rw [u32N, Nat.mod_eq_of_lt (by omega : carry < 4294967296), show arith .add .u32 ((at0 c2 (k + 1) : Nat) : Int) (carry : Int) = (((at0 c2 (k + 1) + carry) % 4294967296 : Nat) : Int) by rw [yU, xA]; omega]
     refine yG (by rfl) (by rfl) (by omega) (by omega) ?_
     refine go2 ?_
     refine sK (i := k + 1) (by rfl) (by rfl) (by omega) (by omega) ?_
     refine go2 ?_
     have hrow2 := jS (x := at0 c2 (k + 1)) (y := 0) f5 rfl
     rw [Nat.mul_zero, Nat.add_zero, Nat.add_zero, Nat.add_comm carry, ← yX (l := c2) (by omega), f6 (k + 1) (Nat.le_refl _), ← yC cs, ← tD (k + 1), xC (l := c2.set (k + 1) _) (by simp; omega), xC (l := cs) (by omega), xC (l := vl) (by omega)] at hrow2
     rw [f6 (k + 1) (Nat.le_refl _)]
     have oc2 : OkW (c2.set (k + 1) ((at0 cs (k + 1) + carry) % 4294967296)) := f3.set (Nat.mod_lt _ (by decide))
     have lc2 : (c2.set (k + 1) ((at0 cs (k + 1) + carry) % 4294967296)).length = k + 2 := by simp [f2]
     have gcs := ocs.get (k + 1)
     generalize c2.set (k + 1) ((at0 cs (k + 1) + carry) % 4294967296) = ce at hrow2 oc2 lc2 ⊢
     have hC2 := vX oc2
     rw [lc2] at hC2
     have hfin := back_end hY0 (Nat.lt_of_lt_of_le hYk (Nat.pow_le_pow_right (by decide) (Nat.le_succ _))) hC2 y3 (show (at0 cs (k + 1) + carry) / 4294967296 ≤ 1 by omega) hrow2
     obtain ⟨y4, y5⟩ := q2 ce (by omega) hfin
     rw [u32N, y1, Nat.mod_eq_of_lt EF.lt]
     refine yG (by rfl) (by rfl) (by omega) (by omega) ?_
     refine go2 ?_
     refine wE (k := i) (by rfl) (by rfl) (by omega) (by omega) ?_
     refine go2 ?_
     refine l_n (by rfl) (by omega) ⟨i, pre ++ ce ++ post, out.set i (val seg / val vl), ?_, rfl, rfl, by omega, by simp; omega, pF (pF opre oc2) opost, by simp [j4], j5.set EF.lt, y4, y5⟩
     rw [show arith .sub .i64 ((i : Nat) : Int) 1 = (i : Int) - 1 by rw [vF, yF (by omega) (by omega)]]
     rfl
  case false =>
   simp only [yA, yM] at hg
   refine go2 ?_
   rw [subI2 (k + 1) (by omega) (by omega), show k + 1 - 2 = k - 1 by omega]
   refine yG (by rfl) (by rfl) (by omega) (by omega) ?_
   refine go2 ?_
   refine wV (k := k - 1) (by rfl) (by omega) (by omega) ?_
   refine go2 ?_
   have hm : z * at0 vl (k - 1) < 18446744073709551616 := by
    have := Nat.mul_le_mul (show z ≤ 4294967295 by omega) (Nat.le_of_lt_succ gn)
    omega
   rw [addI i (k + 1) (by omega), subI2 (i + (k + 1)) (by omega) (by omega)]
   refine yG (by rfl) (by rfl) (by omega) (by omega) ?_
   refine go2 ?_
   refine tQ (i := k - 1) (by rfl) (by omega) (by omega) ?_
   refine go2 ?_
   rw [xS _ (by omega : at0 vl (k - 1) < 18446744073709551616), mulN _ _ hm, xS _ (by omega : at0 seg (k - 1) < 18446744073709551616), shl32N _ p4, jV p4 g2]
   cases hg2 : yA Cm.gtr ((z * at0 vl (k - 1) : Nat) : Int) ((r * 4294967296 + at0 seg (k - 1) : Nat) : Int)
   case true =>
    simp only [yA, yH] at hg2
    obtain ⟨h1, h2⟩ := EF.round z r p1 (by omega)
    refine go2 ?_
    have h3 : (z - 1) * at0 vl k + (r + at0 vl k) = at0 seg (k + 1) * 4294967296 + at0 seg k := by
     have e1 := Nat.sub_mul z 1 (at0 vl k)
     have e2 := Nat.mul_le_mul_right (at0 vl k) h2
     omega
    rw [subN1 z (by omega) h2, pR (k + 1) (by omega) (by omega), show k + 1 - 1 = k by omega]
    refine yG (by rfl) (by rfl) (by omega) (by omega) ?_
    refine go2 ?_
    refine wV (k := k) (by rfl) (by omega) (by omega) ?_
    refine go2 ?_
    rw [xS _ (by omega : at0 vl k < 18446744073709551616), addN _ _ (by omega)]
    cases hr2 : yA Cm.geq ((r + at0 vl k : Nat) : Int) 4294967296
    case false =>
     simp only [yA, yM] at hr2
     refine go2 ?_
     exact l_n (by rfl) (by omega) ⟨z - 1, r + at0 vl k, rfl, rfl, rfl, h3, h1, by omega, by omega⟩
    case true =>
     simp only [yA, yH] at hr2
     have E := EF.over (z - 1) (r + at0 vl k) h3 h1 (by omega)
     refine go2 ?_
     refine yT (fun y vs H => ∃ (w bo carry : Nat) (cur : List Nat), vs = [u64 s, .c (.sl 0 0 (a.length + 1) (some (a.length + 1)) 1), .c (.sl 1 0 (k + 1) (some (k + 1)) 1), i64 ((k + 1 : Nat) : Int), .c (.sl 2 0 (m + 1) (some (m + 1)) 1), i64 i, u64 (z - 1), i64 bo, u64 carry, i64 ((k + 1 : Nat) : Int), i64 w] ∧ H = [.live ⟨(pre ++ cur ++ post).map W, yQ, .rw⟩, .live ⟨vl.map W, yQ, .rw⟩, .live ⟨out.map W, yQ, .rw⟩] ∧ y = k + 1 - w ∧ w ≤ k + 1 ∧ cur.length = k + 2 ∧ OkW cur ∧ bo ≤ 1 ∧ carry < 4294967296 ∧ val (cur.take w) + (z - 1) * val (vl.take w) = val (seg.take w) + 4294967296 ^ w * (carry + bo) ∧ ∀ j, w ≤ j → at0 cur j = at0 seg j) (by rfl) ⟨0, 0, 0, seg, rfl, rfl, rfl, by omega, lseg, oseg, by omega, by omega, by simp [val], fun _ _ => rfl⟩ ?_
     rintro y vs H ⟨w, bo, carry, cur, rfl, rfl, rfl, c1, c2, c3, c4, c5, c6, c7⟩
     have gc := c3.get w
     have gv := v3.get w
     refine go2 ?_
     cases hw : yA Cm.lss (w : Int) ((k + 1 : Nat) : Int)
     case true =>
      simp only [yA, yH] at hw
      have hmm : (z - 1) * at0 vl w + carry < 18446744073709551616 := by
       have := Nat.mul_le_mul (Nat.le_of_lt_succ E.lt) (Nat.le_of_lt_succ gv)
       omega
      refine go2 ?_
      refine yG (by rfl) (by rfl) (by omega) (by omega) ?_
      refine go2 ?_
      refine wV (k := w) (by rfl) (by omega) (by omega) ?_
      refine go2 ?_
      rw [xS _ (by omega : at0 vl w < 18446744073709551616), mulN _ _ (by omega), addN _ _ hmm]
      refine go2 ?_
      rw [shrN, addI w i (by omega)]
      refine yG (by rfl) (by rfl) (by omega) (by omega) ?_
      refine go2 ?_
      refine tQ (i := w) (by rfl) (by omega) (by omega) ?_
      refine go2 ?_
      obtain ⟨d, w', b', e1, e2, e3, x1, x2, x3⟩ := sub_i64 (x := at0 cur w) (s := ((z - 1) * at0 vl w + carry) % 4294967296) (bo := bo) gc (Nat.mod_lt _ (by decide)) c4
      rw [i64N _ (by omega : at0 cur w < 9223372036854775808), u32N, i64N _ (by omega : ((z - 1) * at0 vl w + carry) % 4294967296 < 9223372036854775808), e1]
      refine go2 ?_
      rw [e2, addI w i (by omega)]
      refine yG (by rfl) (by rfl) (by omega) (by omega) ?_
      refine go2 ?_
      refine sK (i := w) (by rfl) (by rfl) (by omega) (by omega) ?_
      refine go2 ?_
      have hrow := jN (t := (z - 1) * at0 vl w + carry) (y := at0 vl w) c6 (Nat.add_comm _ _) x3
      cases hd : yA Cm.lss d 0
      case true =>
       simp only [yA, yH] at hd
       have hb1 := e3.1 hd
       subst hb1
       refine go2 ?_
       rw [xV w (by omega)]
       refine l_n (by rfl) (by omega) ⟨w + 1, 1, ((z - 1) * at0 vl w + carry) / 4294967296, cur.set w w', rfl, rfl, rfl, by omega, by simp [c2], c3.set x1, by omega, by omega, ?_, fun j hj => ?_⟩
       ·rw [yX (by omega), yC vl, yC seg, tD w, ← c7 w (Nat.le_refl w)]
        exact hrow
       ·rw [xT (by omega)]
        exact c7 j (by omega)
      case false =>
       simp only [yA, yM] at hd
       have hb1 : b' = 0 := by
        rcases Nat.lt_or_ge b' 1 with h | h
        ·omega
        ·exact absurd (e3.2 (by omega)) hd
       subst hb1
       refine go2 ?_
       rw [xV w (by omega)]
       refine l_n (by rfl) (by omega) ⟨w + 1, 0, ((z - 1) * at0 vl w + carry) / 4294967296, cur.set w w', rfl, rfl, rfl, by omega, by simp [c2], c3.set x1, by omega, by omega, ?_, fun j hj => ?_⟩
       ·rw [yX (by omega), yC vl, yC seg, tD w, ← c7 w (Nat.le_refl w)]
        exact hrow
       ·rw [xT (by omega)]
        exact c7 j (by omega)
     simp only [yA, yM] at hw
     have ew : w = k + 1 := by omega
     subst ew
     refine go2 ?_
     rw [addI i (k + 1) (by omega)]
     refine yG (by rfl) (by rfl) (by omega) (by omega) ?_
     refine go2 ?_
     refine tQ (i := k + 1) (by rfl) (by omega) (by omega) ?_
     refine go2 ?_
     obtain ⟨d, w', b', e1, e2, e3, x1, x2, x3⟩ := sub_i64 (x := at0 cur (k + 1)) (s := carry) (bo := bo) gc c5 c4
     rw [i64N _ (by omega : at0 cur (k + 1) < 9223372036854775808), i64N _ (by omega : carry < 9223372036854775808), e1]
     refine go2 ?_
     rw [e2, addI i (k + 1) (by omega)]
     refine yG (by rfl) (by rfl) (by omega) (by omega) ?_
     refine go2 ?_
     refine sK (i := k + 1) (by rfl) (by rfl) (by omega) (by omega) ?_
     refine go2 ?_
     have hrow := jN (t := carry) (y := 0) c6 (by rw [Nat.mul_zero, Nat.add_zero]) (by rw [Nat.mod_eq_of_lt c5]; exact x3)
     rw [c7 (k + 1) (Nat.le_refl _), Nat.mul_zero, Nat.add_zero, Nat.div_eq_of_lt c5, ← yX (by omega), ← yC seg, ← tD (k + 1), xC (l := cur.set (k + 1) w') (by simp; omega), xC (l := seg) (by omega), xC (l := vl) (by omega)] at hrow
     have ocs : OkW (cur.set (k + 1) w') := c3.set x1
     have lcs : (cur.set (k + 1) w').length = k + 2 := by simp [c2]
     generalize cur.set (k + 1) w' = cs at hrow ocs lcs
     have hC := vX ocs
     rw [lcs] at hC
     obtain ⟨z1, z2⟩ := word_end (q := (z - 1)) (c := val cs) hY0 E.lo E.hi hC hXR
     clear c1 c2 c3 c4 c5 c6 c7 gc gv e1 e2 x3
     cases hd : yA Cm.lss d 0
     case false =>
      simp only [yA, yM] at hd
      have hb1 : b' = 0 := by
       rcases Nat.lt_or_ge b' 1 with h | h
       ·omega
       ·exact absurd (e3.2 (by omega)) hd
      subst hb1
      obtain ⟨y1, y2⟩ := z1 hrow
      obtain ⟨y3, y4⟩ := q2 cs (by omega) y2
      refine go2 ?_
      rw [u32N, y1, Nat.mod_eq_of_lt EF.lt]
      refine yG (by rfl) (by rfl) (by omega) (by omega) ?_
      refine go2 ?_
      refine wE (k := i) (by rfl) (by rfl) (by omega) (by omega) ?_
      refine go2 ?_
      refine l_n (by rfl) (by omega) ⟨i, pre ++ cs ++ post, out.set i (val seg / val vl), ?_, rfl, rfl, by omega, by simp; omega, pF (pF opre ocs) opost, by simp [j4], j5.set EF.lt, y3, y4⟩
      rw [show arith .sub .i64 ((i : Nat) : Int) 1 = (i : Int) - 1 by rw [vF, yF (by omega) (by omega)]]
      rfl
     case true =>
      simp only [yA, yH] at hd
      have hb1 := e3.1 hd
      subst hb1
      obtain ⟨y1, y2, y3⟩ := z2 hrow
      refine go2 ?_
      rw [subN1 (z - 1) (by omega) y2]
      refine yT (fun y vs H => ∃ (w carry : Nat) (c2 : List Nat), vs = [u64 s, .c (.sl 0 0 (a.length + 1) (some (a.length + 1)) 1), .c (.sl 1 0 (k + 1) (some (k + 1)) 1), i64 ((k + 1 : Nat) : Int), .c (.sl 2 0 (m + 1) (some (m + 1)) 1), i64 i, u64 ((z - 1) - 1), u64 carry, i64 ((k + 1 : Nat) : Int), i64 w] ∧ H = [.live ⟨(pre ++ c2 ++ post).map W, yQ, .rw⟩, .live ⟨vl.map W, yQ, .rw⟩, .live ⟨out.map W, yQ, .rw⟩] ∧ y = k + 1 - w ∧ w ≤ k + 1 ∧ c2.length = k + 2 ∧ OkW c2 ∧ carry ≤ 1 ∧ val (c2.take w) + 4294967296 ^ w * carry = val (cs.take w) + val (vl.take w) ∧ ∀ j, w ≤ j → at0 c2 j = at0 cs j) (by rfl) ⟨0, 0, cs, rfl, rfl, rfl, by omega, lcs, ocs, by omega, by simp [val], fun _ _ => rfl⟩ ?_
      rintro y vs H ⟨w, carry, c2, rfl, rfl, rfl, f1, f2, f3, f4, f5, f6⟩
      have gc := f3.get w
      have gv := v3.get w
      refine go2 ?_
      cases hw : yA Cm.lss (w : Int) ((k + 1 : Nat) : Int)
      case true =>
       simp only [yA, yH] at hw
       refine go2 ?_
       rw [addI w i (by omega)]
       refine yG (by rfl) (by rfl) (by omega) (by omega) ?_
       refine go2 ?_
       refine tQ (i := w) (by rfl) (by omega) (by omega) ?_
       refine go2 ?_
       refine yG (by rfl) (by rfl) (by omega) (by omega) ?_
       refine go2 ?_
       refine wV (k := w) (by rfl) (by omega) (by omega) ?_
       refine go2 ?_
       rw [xS _ (by omega : at0 c2 w < 18446744073709551616), xS _ (by omega : at0 vl w < 18446744073709551616), addN _ _ (by omega), addN _ _ (by omega)]
       refine go2 ?_
       rw [u32N, addI w i (by omega)]
       refine yG (by rfl) (by rfl) (by omega) (by omega) ?_
       refine go2 ?_
       refine sK (i := w) (by rfl) (by rfl) (by omega) (by omega) ?_
       refine go2 ?_
       rw [shrN, xV w (by omega)]
       refine l_n (by rfl) (by omega) ⟨w + 1, _, c2.set w ((at0 c2 w + at0 vl w + carry) % 4294967296), rfl, rfl, rfl, by omega, by simp [f2], f3.set (Nat.mod_lt _ (by decide)), by omega, ?_, fun j hj => ?_⟩
       ·rw [yX (by omega), yC vl, yC cs, tD w, ← f6 w (Nat.le_refl w)]
        exact jS f5 (by omega)
       ·rw [xT (by omega)]
        exact f6 j (by omega)
      simp only [yA, yM] at hw
      have ew : w = k + 1 := by omega
      subst ew
      refine go2 ?_
      rw [addI i (k + 1) (by omega)]
      refine yG (by rfl) (by rfl) (by omega) (by omega) ?_
      refine go2 ?_
      refine tQ (i := k + 1) (by rfl) (by omega) (by omega) ?_
      refine go2 ?_
      rw [u32N, Nat.mod_eq_of_lt (by omega : carry < 4294967296), show arith .add .u32 ((at0 c2 (k + 1) : Nat) : Int) (carry : Int) = (((at0 c2 (k + 1) + carry) % 4294967296 : Nat) : Int) by rw [yU, xA]; omega]
      refine yG (by rfl) (by rfl) (by omega) (by omega) ?_
      refine go2 ?_
      refine sK (i := k + 1) (by rfl) (by rfl) (by omega) (by omega) ?_
      refine go2 ?_
      have hrow2 := jS (x := at0 c2 (k + 1)) (y := 0) f5 rfl
      rw [Nat.mul_zero, Nat.add_zero, Nat.add_zero, Nat.add_comm carry, ← yX (l := c2) (by omega), f6 (k + 1) (Nat.le_refl _), ← yC cs, ← tD (k + 1), xC (l := c2.set (k + 1) _) (by simp; omega), xC (l := cs) (by omega), xC (l := vl) (by omega)] at hrow2
      rw [f6 (k + 1) (Nat.le_refl _)]
      have oc2 : OkW (c2.set (k + 1) ((at0 cs (k + 1) + carry) % 4294967296)) := f3.set (Nat.mod_lt _ (by decide))
      have lc2 : (c2.set (k + 1) ((at0 cs (k + 1) + carry) % 4294967296)).length = k + 2 := by simp [f2]
      have gcs := ocs.get (k + 1)
      generalize c2.set (k + 1) ((at0 cs (k + 1) + carry) % 4294967296) = ce at hrow2 oc2 lc2 ⊢
      have hC2 := vX oc2
      rw [lc2] at hC2
      have hfin := back_end hY0 (Nat.lt_of_lt_of_le hYk (Nat.pow_le_pow_right (by decide) (Nat.le_succ _))) hC2 y3 (show (at0 cs (k + 1) + carry) / 4294967296 ≤ 1 by omega) hrow2
      obtain ⟨y4, y5⟩ := q2 ce (by omega) hfin
      rw [u32N, y1, Nat.mod_eq_of_lt EF.lt]
      refine yG (by rfl) (by rfl) (by omega) (by omega) ?_
      refine go2 ?_
      refine wE (k := i) (by rfl) (by rfl) (by omega) (by omega) ?_
      refine go2 ?_
      refine l_n (by rfl) (by omega) ⟨i, pre ++ ce ++ post, out.set i (val seg / val vl), ?_, rfl, rfl, by omega, by simp; omega, pF (pF opre oc2) opost, by simp [j4], j5.set EF.lt, y4, y5⟩
      rw [show arith .sub .i64 ((i : Nat) : Int) 1 = (i : Int) - 1 by rw [vF, yF (by omega) (by omega)]]
      rfl
   case false =>
    simp only [yA, yM] at hg2
    have E := EF.fin z r p1 p2 (by omega) (by omega)
    refine go2 ?_
    refine yT (fun y vs H => ∃ (w bo carry : Nat) (cur : List Nat), vs = [u64 s, .c (.sl 0 0 (a.length + 1) (some (a.length + 1)) 1), .c (.sl 1 0 (k + 1) (some (k + 1)) 1), i64 ((k + 1 : Nat) : Int), .c (.sl 2 0 (m + 1) (some (m + 1)) 1), i64 i, u64 z, i64 bo, u64 carry, i64 ((k + 1 : Nat) : Int), i64 w] ∧ H = [.live ⟨(pre ++ cur ++ post).map W, yQ, .rw⟩, .live ⟨vl.map W, yQ, .rw⟩, .live ⟨out.map W, yQ, .rw⟩] ∧ y = k + 1 - w ∧ w ≤ k + 1 ∧ cur.length = k + 2 ∧ OkW cur ∧ bo ≤ 1 ∧ carry < 4294967296 ∧ val (cur.take w) + z * val (vl.take w) = val (seg.take w) + 4294967296 ^ w * (carry + bo) ∧ ∀ j, w ≤ j → at0 cur j = at0 seg j) (by rfl) ⟨0, 0, 0, seg, rfl, rfl, rfl, by omega, lseg, oseg, by omega, by omega, by simp [val], fun _ _ => rfl⟩ ?_
    rintro y vs H ⟨w, bo, carry, cur, rfl, rfl, rfl, c1, c2, c3, c4, c5, c6, c7⟩
    have gc := c3.get w
    have gv := v3.get w
    refine go2 ?_
    cases hw : yA Cm.lss (w : Int) ((k + 1 : Nat) : Int)
    case true =>
     simp only [yA, yH] at hw
     have hmm : z * at0 vl w + carry < 18446744073709551616 := by
      have := Nat.mul_le_mul (Nat.le_of_lt_succ E.lt) (Nat.le_of_lt_succ gv)
      omega
     refine go2 ?_
     refine yG (by rfl) (by rfl) (by omega) (by omega) ?_
     refine go2 ?_
     refine wV (k := w) (by rfl) (by omega) (by omega) ?_
     refine go2 ?_
     rw [xS _ (by omega : at0 vl w < 18446744073709551616), mulN _ _ (by omega), addN _ _ hmm]
     refine go2 ?_
     rw [shrN, addI w i (by omega)]
     refine yG (by rfl) (by rfl) (by omega) (by omega) ?_
     refine go2 ?_
     refine tQ (i := w) (by rfl) (by omega) (by omega) ?_
     refine go2 ?_
     obtain ⟨d, w', b', e1, e2, e3, x1, x2, x3⟩ := sub_i64 (x := at0 cur w) (s := (z * at0 vl w + carry) % 4294967296) (bo := bo) gc (Nat.mod_lt _ (by decide)) c4
     rw [i64N _ (by omega : at0 cur w < 9223372036854775808), u32N, i64N _ (by omega : (z * at0 vl w + carry) % 4294967296 < 9223372036854775808), e1]
     refine go2 ?_
     rw [e2, addI w i (by omega)]
     refine yG (by rfl) (by rfl) (by omega) (by omega) ?_
     refine go2 ?_
     refine sK (i := w) (by rfl) (by rfl) (by omega) (by omega) ?_
     refine go2 ?_
     have hrow := jN (t := z * at0 vl w + carry) (y := at0 vl w) c6 (Nat.add_comm _ _) x3
     cases hd : yA Cm.lss d 0
     case true =>
      simp only [yA, yH] at hd
      have hb1 := e3.1 hd
      subst hb1
      refine go2 ?_
      rw [xV w (by omega)]
      refine l_n (by rfl) (by omega) ⟨w + 1, 1, (z * at0 vl w + carry) / 4294967296, cur.set w w', rfl, rfl, rfl, by omega, by simp [c2], c3.set x1, by omega, by omega, ?_, fun j hj => ?_⟩
      ·rw [yX (by omega), yC vl, yC seg, tD w, ← c7 w (Nat.le_refl w)]
       exact hrow
      ·rw [xT (by omega)]
       exact c7 j (by omega)
     case false =>
      simp only [yA, yM] at hd
      have hb1 : b' = 0 := by
       rcases Nat.lt_or_ge b' 1 with h | h
       ·omega
       ·exact absurd (e3.2 (by omega)) hd
      subst hb1
      refine go2 ?_
      rw [xV w (by omega)]
      refine l_n (by rfl) (by omega) ⟨w + 1, 0, (z * at0 vl w + carry) / 4294967296, cur.set w w', rfl, rfl, rfl, by omega, by simp [c2], c3.set x1, by omega, by omega, ?_, fun j hj => ?_⟩
      ·rw [yX (by omega), yC vl, yC seg, tD w, ← c7 w (Nat.le_refl w)]
       exact hrow
      ·rw [xT (by omega)]
       exact c7 j (by omega)
    simp only [yA, yM] at hw
    have ew : w = k + 1 := by omega
    subst ew
    refine go2 ?_
    rw [addI i (k + 1) (by omega)]
    refine yG (by rfl) (by rfl) (by omega) (by omega) ?_
    refine go2 ?_
    refine tQ (i := k + 1) (by rfl) (by omega) (by omega) ?_
    refine go2 ?_
    obtain ⟨d, w', b', e1, e2, e3, x1, x2, x3⟩ := sub_i64 (x := at0 cur (k + 1)) (s := carry) (bo := bo) gc c5 c4
    rw [i64N _ (by omega : at0 cur (k + 1) < 9223372036854775808), i64N _ (by omega : carry < 9223372036854775808), e1]
    refine go2 ?_
    rw [e2, addI i (k + 1) (by omega)]
    refine yG (by rfl) (by rfl) (by omega) (by omega) ?_
    refine go2 ?_
    refine sK (i := k + 1) (by rfl) (by rfl) (by omega) (by omega) ?_
    refine go2 ?_
    have hrow := jN (t := carry) (y := 0) c6 (by rw [Nat.mul_zero, Nat.add_zero]) (by rw [Nat.mod_eq_of_lt c5]; exact x3)
    rw [c7 (k + 1) (Nat.le_refl _), Nat.mul_zero, Nat.add_zero, Nat.div_eq_of_lt c5, ← yX (by omega), ← yC seg, ← tD (k + 1), xC (l := cur.set (k + 1) w') (by simp; omega), xC (l := seg) (by omega), xC (l := vl) (by omega)] at hrow
    have ocs : OkW (cur.set (k + 1) w') := c3.set x1
    have lcs : (cur.set (k + 1) w').length = k + 2 := by simp [c2]
    generalize cur.set (k + 1) w' = cs at hrow ocs lcs
    have hC := vX ocs
    rw [lcs] at hC
    obtain ⟨z1, z2⟩ := word_end (q := z) (c := val cs) hY0 E.lo E.hi hC hXR
    clear c1 c2 c3 c4 c5 c6 c7 gc gv e1 e2 x3
    cases hd : yA Cm.lss d 0
    case false =>
     simp only [yA, yM] at hd
     have hb1 : b' = 0 := by
      rcases Nat.lt_or_ge b' 1 with h | h
      ·omega
      ·exact absurd (e3.2 (by omega)) hd
     subst hb1
     obtain ⟨y1, y2⟩ := z1 hrow
     obtain ⟨y3, y4⟩ := q2 cs (by omega) y2
     refine go2 ?_
     rw [u32N, y1, Nat.mod_eq_of_lt EF.lt]
     refine yG (by rfl) (by rfl) (by omega) (by omega) ?_
     refine go2 ?_
     refine wE (k := i) (by rfl) (by rfl) (by omega) (by omega) ?_
     refine go2 ?_
     refine l_n (by rfl) (by omega) ⟨i, pre ++ cs ++ post, out.set i (val seg / val vl), ?_, rfl, rfl, by omega, by simp; omega, pF (pF opre ocs) opost, by simp [j4], j5.set EF.lt, y3, y4⟩
     rw [show arith .sub .i64 ((i : Nat) : Int) 1 = (i : Int) - 1 by rw [vF, yF (by omega) (by omega)]]
     rfl
    case true =>
     simp only [yA, yH] at hd
     have hb1 := e3.1 hd
     subst hb1
     obtain ⟨y1, y2, y3⟩ := z2 hrow
     refine go2 ?_
     rw [subN1 z (by omega) y2]
     refine yT (fun y vs H => ∃ (w carry : Nat) (c2 : List Nat), vs = [u64 s, .c (.sl 0 0 (a.length + 1) (some (a.length + 1)) 1), .c (.sl 1 0 (k + 1) (some (k + 1)) 1), i64 ((k + 1 : Nat) : Int), .c (.sl 2 0 (m + 1) (some (m + 1)) 1), i64 i, u64 (z - 1), u64 carry, i64 ((k + 1 : Nat) : Int), i64 w] ∧ H = [.live ⟨(pre ++ c2 ++ post).map W, yQ, .rw⟩, .live ⟨vl.map W, yQ, .rw⟩, .live ⟨out.map W, yQ, .rw⟩] ∧ y = k + 1 - w ∧ w ≤ k + 1 ∧ c2.length = k + 2 ∧ OkW c2 ∧ carry ≤ 1 ∧ val (c2.take w) + 4294967296 ^ w * carry = val (cs.take w) + val (vl.take w) ∧ ∀ j, w ≤ j → at0 c2 j = at0 cs j) (by rfl) ⟨0, 0, cs, rfl, rfl, rfl, by omega, lcs, ocs, by omega, by simp [val], fun _ _ => rfl⟩ ?_
     rintro y vs H ⟨w, carry, c2, rfl, rfl, rfl, f1, f2, f3, f4, f5, f6⟩
     have gc := f3.get w
     have gv := v3.get w
     refine go2 ?_
     cases hw : yA Cm.lss (w : Int) ((k + 1 : Nat) : Int)
     case true =>
      simp only [yA, yH] at hw
      refine go2 ?_
      rw [addI w i (by omega)]
      refine yG (by rfl) (by rfl) (by omega) (by omega) ?_
      refine go2 ?_
      refine tQ (i := w) (by rfl) (by omega) (by omega) ?_
      refine go2 ?_
      refine yG (by rfl) (by rfl) (by omega) (by omega) ?_
      refine go2 ?_
      refine wV (k := w) (by rfl) (by omega) (by omega) ?_
      refine go2 ?_
      rw [xS _ (by omega : at0 c2 w < 18446744073709551616), xS _ (by omega : at0 vl w < 18446744073709551616), addN _ _ (by omega), addN _ _ (by omega)]
      refine go2 ?_
      rw [u32N, addI w i (by omega)]
      refine yG (by rfl) (by rfl) (by omega) (by omega) ?_
      refine go2 ?_
      refine sK (i := w) (by rfl) (by rfl) (by omega) (by omega) ?_
      refine go2 ?_
      rw [shrN, xV w (by omega)]
      refine l_n (by rfl) (by omega) ⟨w + 1, _, c2.set w ((at0 c2 w + at0 vl w + carry) % 4294967296), rfl, rfl, rfl, by omega, by simp [f2], f3.set (Nat.mod_lt _ (by decide)), by omega, ?_, fun j hj => ?_⟩
      ·rw [yX (by omega), yC vl, yC cs, tD w, ← f6 w (Nat.le_refl w)]
       exact jS f5 (by omega)
      ·rw [xT (by omega)]
       exact f6 j (by omega)
     simp only [yA, yM] at hw
     have ew : w = k + 1 := by omega
     subst ew
     refine go2 ?_
     rw [addI i (k + 1) (by omega)]
     refine yG (by rfl) (by rfl) (by omega) (by omega) ?_
     refine go2 ?_
     refine tQ (i := k + 1) (by rfl) (by omega) (by omega) ?_
     refine go2 ?_
     rw [u32N, Nat.mod_eq_of_lt (by omega : carry < 4294967296), show arith .add .u32 ((at0 c2 (k + 1) : Nat) : Int) (carry : Int) = (((at0 c2 (k + 1) + carry) % 4294967296 : Nat) : Int) by rw [yU, xA]; omega]
     refine yG (by rfl) (by rfl) (by omega) (by omega) ?_
     refine go2 ?_
     refine sK (i := k + 1) (by rfl) (by rfl) (by omega) (by omega) ?_
     refine go2 ?_
     have hrow2 := jS (x := at0 c2 (k + 1)) (y := 0) f5 rfl
     rw [Nat.mul_zero, Nat.add_zero, Nat.add_zero, Nat.add_comm carry, ← yX (l := c2) (by omega), f6 (k + 1) (Nat.le_refl _), ← yC cs, ← tD (k + 1), xC (l := c2.set (k + 1) _) (by simp; omega), xC (l := cs) (by omega), xC (l := vl) (by omega)] at hrow2
     rw [f6 (k + 1) (Nat.le_refl _)]
     have oc2 : OkW (c2.set (k + 1) ((at0 cs (k + 1) + carry) % 4294967296)) := f3.set (Nat.mod_lt _ (by decide))
     have lc2 : (c2.set (k + 1) ((at0 cs (k + 1) + carry) % 4294967296)).length = k + 2 := by simp [f2]
     have gcs := ocs.get (k + 1)
     generalize c2.set (k + 1) ((at0 cs (k + 1) + carry) % 4294967296) = ce at hrow2 oc2 lc2 ⊢
     have hC2 := vX oc2
     rw [lc2] at hC2
     have hfin := back_end hY0 (Nat.lt_of_lt_of_le hYk (Nat.pow_le_pow_right (by decide) (Nat.le_succ _))) hC2 y3 (show (at0 cs (k + 1) + carry) / 4294967296 ≤ 1 by omega) hrow2
     obtain ⟨y4, y5⟩ := q2 ce (by omega) hfin
     rw [u32N, y1, Nat.mod_eq_of_lt EF.lt]
     refine yG (by rfl) (by rfl) (by omega) (by omega) ?_
     refine go2 ?_
     refine wE (k := i) (by rfl) (by rfl) (by omega) (by omega) ?_
     refine go2 ?_
     refine l_n (by rfl) (by omega) ⟨i, pre ++ ce ++ post, out.set i (val seg / val vl), ?_, rfl, rfl, by omega, by simp; omega, pF (pF opre oc2) opost, by simp [j4], j5.set EF.lt, y4, y5⟩
     rw [show arith .sub .i64 ((i : Nat) : Int) 1 = (i : Int) - 1 by rw [vF, yF (by omega) (by omega)]]
     rfl
 simp [yA] at hq2
 have ej : z = 0 := by omega
 subst ej
 rw [List.drop_zero] at j6 j7
 rw [Nat.pow_zero, Nat.one_mul, v4] at j6
 have j8 := Nat.lt_trans j7 hYk
 rw [v4] at j7
 obtain ⟨d1, d2⟩ := parts_end hvb j6 j7
 have hb0' : at0 xc 0 % 2 ^ s = 0 := back_start (r := val a % val b) (by omega) d2
 obtain ⟨e1, e2⟩ := above_nought j8 (by omega)
 refine go2 ?_
 refine vT (by rfl) (by rfl) ⟨by omega, by omega, by omega, by omega⟩ ?_
 rw [Int.toNat_natCast, zeros]
 refine go2 ?_
 refine yT (fun y vs H => ∃ (w : Nat) (rl : List Nat), vs = [u64 s, .c (.sl 0 0 (a.length + 1) (some (a.length + 1)) 1), .c (.sl 2 0 (m + 1) (some (m + 1)) 1), .c (.sl 3 0 (k + 1) (some (k + 1)) 1), i64 ((k + 1 : Nat) : Int), i64 w] ∧ H = [.live ⟨xc.map W, yQ, .rw⟩, .live ⟨vl.map W, yQ, .rw⟩, .live ⟨out.map W, yQ, .rw⟩, .live ⟨rl.map W, yQ, .rw⟩] ∧ y = k + 1 - w ∧ w ≤ k + 1 ∧ rl.length = k + 1 ∧ OkW rl ∧ 2 ^ s * val (rl.take w) = val (xc.take w) + 4294967296 ^ w * (at0 xc w % 2 ^ s)) (by rfl) ⟨0, _, rfl, rfl, rfl, by omega, by simp, fun x hx => by simp at hx; omega, by rw [hb0']; simp [val]⟩ ?_
 rintro y vs H ⟨w, rl, rfl, rfl, rfl, f1, f2, f3, f4⟩
 refine go2 ?_
 cases hw : yA Cm.lss (w : Int) ((k + 1 : Nat) : Int)
 case true =>
  simp only [yA, yH] at hw
  have gi := j3.get w
  have gj := j3.get (w + 1)
  obtain ⟨q, w1, w2, w3, w4, w5⟩ := back_word n1 gi gj
  obtain ⟨w6, w7⟩ := or_u32' (lo := at0 xc w / 2 ^ s) (m := q) (s := 32 - s) (by omega) w2 w4
  refine go2 ?_
  refine yG (by rfl) (by rfl) (by omega) (by omega) ?_
  refine go2 ?_
  refine wV (k := w) (by rfl) (by omega) (by omega) ?_
  refine go2 ?_
  rw [shrU _ _ (by omega)]
  refine yG (by rfl) (by rfl) (by omega) (by omega) ?_
  refine go2 ?_
  refine wE (k := w) (by rfl) (by rfl) (by omega) (by omega) ?_
  refine go2 ?_
  cases hs0 : yA Cm.gtr (s : Int) 0
  case false =>
   simp [yA] at hs0
   subst hs0
   refine go2 ?_
   rw [xV w (by omega)]
   refine l_n (by rfl) (by omega) ⟨w + 1, _, rfl, rfl, rfl, by omega, by simp [f2], f3.set (by rw [Nat.pow_zero, Nat.div_one]; exact gi), ?_⟩
   rw [yX (by omega), yC xc, tD w]
   exact back_row f4 (by simp [Nat.mod_one])
  case true =>
   simp only [yA, yH] at hs0
   refine go2 ?_
   refine yG (by rfl) (by rfl) (by omega) (by omega) ?_
   refine go2 ?_
   refine wV (k := w) (by rfl) (by omega) (by simp; omega) ?_
   refine go2 ?_
   rw [xV w (by omega)]
   refine yG (by rfl) (by rfl) (by omega) (by omega) ?_
   refine go2 ?_
   refine wV (k := w + 1) (by rfl) (by omega) (by omega) ?_
   refine go2 ?_
   rw [show arith .sub .u64 32 (s : Int) = ((32 - s : Nat) : Int) from subN 32 s (by omega) (by omega)]
   refine go2 ?_
   rw [shlU _ _ (by omega), w1, show at0 (rl.set w (at0 xc w / 2 ^ s)) w = at0 xc w / 2 ^ s by simp [at0, show w < rl.length by omega], w6]
   refine yG (by rfl) (by rfl) (by omega) (by omega) ?_
   refine go2 ?_
   refine wE (k := w) (by rfl) (by rfl) (by omega) (by simp; omega) ?_
   refine go2 ?_
   rw [xV w (by omega)]
   refine l_n (by rfl) (by omega) ⟨w + 1, _, rfl, rfl, rfl, by omega, by simp [f2], by rw [List.set_set]; exact f3.set w7, ?_⟩
   rw [List.set_set, yX (by omega), yC xc, tD w]
   exact back_row f4 w5
 simp only [yA, yM] at hw
 have ew : w = k + 1 := by omega
 subst ew
 rw [xC (l := rl) (by omega), e1, e2, Nat.zero_mod, Nat.mul_zero, Nat.add_zero, d2, Nat.mul_comm] at f4
 have hfin : val rl = val a % val b := Nat.eq_of_mul_eq_mul_right (Nat.pow_pos (by decide)) f4
 refine go2 ?_
 exact QWK.fz (wY out (by rfl) (by simp) (by simp) j4.symm (by rw [← j4]; exact List.take_of_length_le (by simp))) (wY rl (by rfl) (by simp) (by simp) f2.symm (by rw [← f2]; exact List.take_of_length_le (by simp))) (.imm out) j5 d1 (by omega) (.imm rl) f3 hfin (by omega)
end Go.Proofs.YtokckcnfojjpjaaGreat

set_option linter.unusedVariables false
set_option linter.unusedSimpArgs false
namespace Go.Proofs.YtokckcnfojjpjaaGreat
open Go.RowKit
set_option maxRecDepth 20000
theorem amt_tdiv (m1 m2 : Bool) (x y : Nat) : (amt m1 x).tdiv (amt m2 y) = amt (!(m1 == m2)) (x / y) := by
 have e : (x : Int).tdiv (y : Int) = ((x / y : Nat) : Int) := (Int.ofNat_tdiv x y).symm
 cases m1 <;> cases m2
 ·exact e
 ·simp only [amt, cond_true, cond_false, Int.tdiv_neg, e]
  rfl
 ·simp only [amt, cond_true, cond_false, Int.neg_tdiv, e]
  rfl
 ·simp only [amt, cond_true, cond_false, Int.tdiv_neg, Int.neg_tdiv, Int.neg_neg, e]
  rfl
theorem amt_tmod (m1 m2 : Bool) (x y : Nat) : (amt m1 x).tmod (amt m2 y) = amt m1 (x % y) := by
 have e : (x : Int).tmod (y : Int) = ((x % y : Nat) : Int) := (Int.ofNat_tmod x y).symm
 cases m1 <;> cases m2
 ·exact e
 ·simp only [amt, cond_true, cond_false, Int.tmod_neg, e]
 ·simp only [amt, cond_true, cond_false, Int.neg_tmod, e]
 ·simp only [amt, cond_true, cond_false, Int.tmod_neg, Int.neg_tmod, e]
theorem Sz.cl {n : Nat} (hn : n ≤ 268435456) : SCl (Sz n) n := ⟨fun a b h1 h2 => by unfold Sz at *; omega, fun a h => h, hn⟩
attribute [local irreducible] yA semH semC qLen qNil qIad qSlc qIdx yW yL xD appX appI slcX awpF yP xI xopF xR qval lval seqQ xL wJ wI xW cnd arith IntKind.wrap
theorem num_quoWords {c d : C} {a b : List Nat} (hc : Wd c a) (hd : Wd d b) (na : Norm a) (nb : Norm b) (hb0 : b ≠ []) (hl : a.length < 1073741824) : semC Tryz.prog n_num_quoWords [.c c, .c d] (QWK (val a) (val b) a.length) := by
 rcases Nat.lt_or_ge (val a) (val b) with hv | hv
 ·exact num_quoWords_less hc hd na nb hl hv
 ·rcases Nat.lt_or_ge b.length 2 with h | h
  ·have hl1 : 0 < b.length := List.length_pos_iff.2 hb0
   match b, h, hl1 with
   | [x], _, _ => exact num_quoWords_short hc hd na nb hl (by omega)
  ·exact num_quoWords_long hc hd na nb h hl (by omega)
theorem quoOk {n : Nat} (hn : n ≤ 268435456) : QuoOk (Sz n) := by
 intro cs ds a b hx hy sa sb h0
 refine yD ok_num_Z_Quo rfl (show HFVs [.agg cs, .agg ds] from ⟨hx.hf, hy.hf, trivial⟩) ?_
 unfold Sz at sa sb
 have hx' := hx
 have hy' := hy
 rcases hx.look with ⟨rfl, x1, x2⟩ | ⟨lx, nx, rfl, xn, xv, xe⟩
 ·rcases hy.look with ⟨rfl, y1, y2⟩ | ⟨ly, ny, rfl, yn, yv, ye⟩
  ·have q1 := tdiv_le a b
   have q2 := tmod_le a b
   refine go2 ?_
   cases hq : yA Cm.neq a (-9223372036854775808)
   case false =>
    refine go2 ?_
    refine yB (xE hx') (fun u hu => ?_)
    obtain ⟨c1, l1, n1, rfl, w1, o1, e1⟩ := hu
    refine go2 ?_
    refine yB (xE hy') (fun u hu => ?_)
    obtain ⟨c2, l2, n2, rfl, w2, o2, e2⟩ := hu
    have hl1 : l1.length ≤ n := xO o1 (by rw [e1] at sa; rwa [xK] at sa)
    have hl2 : l2 ≠ [] := fun e => by
     rw [e] at e2
     rw [e2] at h0
     exact h0 (by cases n2 <;> rfl)
    refine go2 ?_
    refine yB (num_quoWords w1 w2 o1 o2 hl2 (by omega)) (fun u hu => ?_)
    obtain ⟨c3, l3, c4, l4, rfl, w3, o3, v3, len3, w4, o4, v4, len4⟩ := hu
    refine go2 ?_
    refine yB (wD _ w3 o3 (by omega)) (fun u hu => ?_)
    obtain ⟨es, rfl, h1⟩ := hu
    refine go2 ?_
    refine yB (wD _ w4 o4 (by omega)) (fun u hu => ?_)
    obtain ⟨fs, rfl, h2⟩ := hu
    obtain ⟨g1, g2, g3, rfl⟩ := h1.three
    obtain ⟨k1, k2, k3, rfl⟩ := h2.three
    refine go2 ?_
    refine QuoK.fz ?_ ?_
    ·rw [e1, e2, amt_tdiv, ← v3]
     exact h1
    ·rw [e1, e2, amt_tmod, ← v4]
     exact h2
   case true =>
    simp [yA] at hq
    refine go2 ?_
    refine q_ar (by rfl) (by rfl) (by simp [needs, h0]) ?_
    rw [ar_quo, yF (by omega) (by omega)]
    refine go2 ?_
    refine q_ar (by rfl) (by rfl) (by simp [needs, h0]) ?_
    rw [ar_rem]
    refine go2 ?_
    exact QuoK.fz (.small _ (by omega) (by omega)) (.small _ (by omega) (by omega))
  ·refine go2 ?_
   refine yB (xE hx') (fun u hu => ?_)
   obtain ⟨c1, l1, n1, rfl, w1, o1, e1⟩ := hu
   refine go2 ?_
   refine yB (xE hy') (fun u hu => ?_)
   obtain ⟨c2, l2, n2, rfl, w2, o2, e2⟩ := hu
   have hl1 : l1.length ≤ n := xO o1 (by rw [e1] at sa; rwa [xK] at sa)
   have hl2 : l2 ≠ [] := fun e => by
    rw [e] at e2
    rw [e2] at h0
    exact h0 (by cases n2 <;> rfl)
   refine go2 ?_
   refine yB (num_quoWords w1 w2 o1 o2 hl2 (by omega)) (fun u hu => ?_)
   obtain ⟨c3, l3, c4, l4, rfl, w3, o3, v3, len3, w4, o4, v4, len4⟩ := hu
   refine go2 ?_
   refine yB (wD _ w3 o3 (by omega)) (fun u hu => ?_)
   obtain ⟨es, rfl, h1⟩ := hu
   refine go2 ?_
   refine yB (wD _ w4 o4 (by omega)) (fun u hu => ?_)
   obtain ⟨fs, rfl, h2⟩ := hu
   obtain ⟨g1, g2, g3, rfl⟩ := h1.three
   obtain ⟨k1, k2, k3, rfl⟩ := h2.three
   refine go2 ?_
   refine QuoK.fz ?_ ?_
   ·rw [e1, e2, amt_tdiv, ← v3]
    exact h1
   ·rw [e1, e2, amt_tmod, ← v4]
    exact h2
 ·refine go2 ?_
  obtain ⟨b1, b2, b3, rfl⟩ := hy'.three
  refine go2 ?_
  refine yB (xE hx') (fun u hu => ?_)
  obtain ⟨c1, l1, n1, rfl, w1, o1, e1⟩ := hu
  refine go2 ?_
  refine yB (xE hy') (fun u hu => ?_)
  obtain ⟨c2, l2, n2, rfl, w2, o2, e2⟩ := hu
  have hl1 : l1.length ≤ n := xO o1 (by rw [e1] at sa; rwa [xK] at sa)
  have hl2 : l2 ≠ [] := fun e => by
   rw [e] at e2
   rw [e2] at h0
   exact h0 (by cases n2 <;> rfl)
  refine go2 ?_
  refine yB (num_quoWords w1 w2 o1 o2 hl2 (by omega)) (fun u hu => ?_)
  obtain ⟨c3, l3, c4, l4, rfl, w3, o3, v3, len3, w4, o4, v4, len4⟩ := hu
  refine go2 ?_
  refine yB (wD _ w3 o3 (by omega)) (fun u hu => ?_)
  obtain ⟨es, rfl, h1⟩ := hu
  refine go2 ?_
  refine yB (wD _ w4 o4 (by omega)) (fun u hu => ?_)
  obtain ⟨fs, rfl, h2⟩ := hu
  obtain ⟨g1, g2, g3, rfl⟩ := h1.three
  obtain ⟨k1, k2, k3, rfl⟩ := h2.three
  refine go2 ?_
  refine QuoK.fz ?_ ?_
  ·rw [e1, e2, amt_tdiv, ← v3]
   exact h1
  ·rw [e1, e2, amt_tmod, ← v4]
   exact h2
end Go.Proofs.YtokckcnfojjpjaaGreat

set_option linter.unusedVariables false
set_option linter.unusedSimpArgs false
namespace Go.Proofs.YtokckcnfojjpjaaGreat
open Go.RowKit
set_option maxRecDepth 20000
def EndsAdd (x y e : SP) : Prop := Red (x.1.1 * y.1.2 + y.1.1 * x.1.2) (x.1.2 * y.1.2) e.1 ∧ Red (x.2.1 * y.2.2 + y.2.1 * x.2.2) (x.2.2 * y.2.2) e.2
def EndsSub (x y e : SP) : Prop := Red (x.1.1 * y.2.2 + -y.2.1 * x.1.2) (x.1.2 * y.2.2) e.1 ∧ Red (x.2.1 * y.1.2 + -y.1.1 * x.2.2) (x.2.2 * y.1.2) e.2
def EndsMul (x y e : SP) : Prop := ∃ r1 r2 r3 r4, Red (x.1.1 * y.1.1) (x.1.2 * y.1.2) r1 ∧ Red (x.1.1 * y.2.1) (x.1.2 * y.2.2) r2 ∧ Red (x.2.1 * y.1.1) (x.2.2 * y.1.2) r3 ∧ Red (x.2.1 * y.2.1) (x.2.2 * y.2.2) r4 ∧ e = [r1, r2, r3, r4].foldl wider (r1, r1)
def Turn (y t : SP) : Prop := Red (1 * y.2.2) (1 * y.2.1) t.1 ∧ Red (1 * y.1.2) (1 * y.1.1) t.2
def EndsDiv (x y e : SP) : Prop := ∃ t, Turn y t ∧ EndsMul x t e
def Ends (kind : Nat) (x y e : SP) : Prop := match kind with
 | 0 => EndsAdd x y e
 | 1 => EndsSub x y e
 | 2 => EndsMul x y e
 | _ => EndsDiv x y e
noncomputable def zeroB (x : SP) : Bool := dec (x.1.1 ≤ 0) && dec (0 ≤ x.2.1)
def AnsK (kind : Nat) (x y : SP) (g : Int) (u : V) : Prop :=
 (checkB g [x, y] = false → u = .tup [.agg tM, i64 1]) ∧
 (checkB g [x, y] = true → (kind = 3 ∧ zeroB y = true → u = .tup [.agg tM, i64 4]) ∧ (¬ (kind = 3 ∧ zeroB y = true) → ∃ e, Ends kind x y e ∧ OutwK e g u))
theorem Red.same {n d : Int} {p q : R2} (h0 : d ≠ 0) (hp : Red n d p) (hq : Red n d q) : p = q := hp.uniq hq h0 h0 rfl
theorem AnsK.bad {kind : Nat} {x y : SP} {g : Int} (hc : checkB g [x, y] = false) : AnsK kind x y g (.tup [.agg (tN ((0, 0), (0, 0))), i64 1]) :=
 ⟨fun _ => rfl, fun h => by rw [hc] at h; cases h⟩
theorem AnsK.nil {x y : SP} {g : Int} (hc : checkB g [x, y] = true) (hz : zeroB y = true) : AnsK 3 x y g (.tup [.agg (tN ((0, 0), (0, 0))), i64 4]) :=
 ⟨fun h => (by rw [hc] at h; cases h), fun _ => ⟨fun _ => rfl, fun h => absurd ⟨rfl, hz⟩ h⟩⟩
theorem AnsK.of {kind : Nat} {x y e : SP} {g : Int} {u : V} (hc : checkB g [x, y] = true) (hz : ¬ (kind = 3 ∧ zeroB y = true)) (en : Ends kind x y e) (hu : OutwK e g u) : AnsK kind x y g u :=
 ⟨fun h => (by rw [hc] at h; cases h), fun _ => ⟨fun h => absurd h hz, fun _ => ⟨e, en, hu⟩⟩⟩
theorem fold_bd {k : Nat} {r1 r2 r3 r4 : R2} (h1 : Bd k r1) (h2 : Bd k r2) (h3 : Bd k r3) (h4 : Bd k r4) : BdS k ([r1, r2, r3, r4].foldl wider (r1, r1)) :=
 BdS.fold (l := [r1, r2, r3, r4]) ⟨h1, h1⟩ (fun p hp => by
  simp at hp
  rcases hp with rfl | rfl | rfl | rfl
  ·exact h1
  ·exact h2
  ·exact h3
  ·exact h4)
theorem EndsMul.bd {k : Nat} {x y e : SP} (bx : BdS k x) (by' : BdS k y) (h : EndsMul x y e) : BdS (k + k) e := by
 obtain ⟨r1, r2, r3, r4, a1, a2, a3, a4, rfl⟩ := h
 exact fold_bd (a1.bd (bx.lo.n.mul by'.lo.n) (bx.lo.d.mul by'.lo.d)) (a2.bd (bx.lo.n.mul by'.hi.n) (bx.lo.d.mul by'.hi.d)) (a3.bd (bx.hi.n.mul by'.lo.n) (bx.hi.d.mul by'.lo.d)) (a4.bd (bx.hi.n.mul by'.hi.n) (bx.hi.d.mul by'.hi.d))
theorem Turn.bd {k : Nat} {y t : SP} (b : BdS k y) (h : Turn y t) : BdS k t := by
 have h1 := h.1
 have h2 := h.2
 simp only [Int.one_mul] at h1 h2
 exact ⟨h1.bd b.hi.d b.hi.n, h2.bd b.lo.d b.lo.n⟩
theorem EndsAdd.bd {k : Nat} {x y e : SP} (bx : BdS k x) (by' : BdS k y) (h : EndsAdd x y e) : BdS (k + k + 1) e :=
 ⟨h.1.bd ((bx.lo.n.mul by'.lo.d).add (by'.lo.n.mul bx.lo.d)) ((bx.lo.d.mul by'.lo.d).up (by omega)), h.2.bd ((bx.hi.n.mul by'.hi.d).add (by'.hi.n.mul bx.hi.d)) ((bx.hi.d.mul by'.hi.d).up (by omega))⟩
theorem EndsSub.bd {k : Nat} {x y e : SP} (bx : BdS k x) (by' : BdS k y) (h : EndsSub x y e) : BdS (k + k + 1) e :=
 ⟨h.1.bd ((bx.lo.n.mul by'.hi.d).add (by'.hi.n.neg.mul bx.lo.d)) ((bx.lo.d.mul by'.hi.d).up (by omega)), h.2.bd ((bx.hi.n.mul by'.lo.d).add (by'.lo.n.neg.mul bx.hi.d)) ((bx.hi.d.mul by'.lo.d).up (by omega))⟩
attribute [local irreducible] yA semH semC qLen qNil qIad qSlc qIdx yW yL xD appX appI slcX awpF yP xI xopF xR qval lval seqQ xL wJ wI xW cnd arith IntKind.wrap
theorem num_Q_Neg {cs : List C} {p : R2} {k : Nat} (hx : IsQ cs p) (bp : Bd k p) (hk : k ≤ 268435456) : semC Tryz.prog n_num_Q_Neg [.agg cs] (QK (-p.1, p.2)) := by
 refine yD ok_num_Q_Neg rfl (show HFVs [.agg cs] from ⟨hx.hf, trivial⟩) ?_
 obtain ⟨a, b, c, d, e, f, rfl, h1, h2⟩ := hx.six
 refine go2 ?_
 refine yE (bQ h1 bp.n (by omega)) (fun u hu => ?_)
 obtain ⟨es, rfl, h3⟩ := hu
 obtain ⟨_, _, _, rfl⟩ := h3.three
 refine go2 ?_
 exact QK.fz (p := (-p.1, p.2)) (.of h3 h2)
theorem num_Q_Sub {S : Int → Prop} {n k : Nat} (hS : SCl S n) (hQ : QuoOk S) {cs ds : List C} {p q : R2} (hx : IsQ cs p) (hy : IsQ ds q) (bp : Bd k p) (bq : Bd k q) (hk : k + k ≤ 268435456) (s1 : S (p.1 * q.2 + -q.1 * p.2)) (s2 : S (p.2 * q.2)) : semC Tryz.prog n_num_Q_Sub [.agg cs, .agg ds] (sH (p.1 * q.2 + -q.1 * p.2) (p.2 * q.2)) := by
 refine yD ok_num_Q_Sub rfl (show HFVs [.agg cs, .agg ds] from ⟨hx.hf, hy.hf, trivial⟩) ?_
 obtain ⟨_, _, _, _, _, _, rfl, _⟩ := hx.six
 obtain ⟨_, _, _, _, _, _, rfl, _⟩ := hy.six
 have bn : Bd k ((-q.1, q.2) : R2) := ⟨bq.n.neg, bq.d, bq.pos⟩
 refine go2 ?_
 refine yE (num_Q_Neg hy bq (by omega)) (fun u hu => ?_)
 obtain ⟨es, rfl, h3⟩ := hu
 refine go2 ?_
 refine yE (num_Q_Add hS hQ hx h3 bp bn hk s1 s2) (fun u hu => ?_)
 obtain ⟨gs, r, rfl, r1, red⟩ := hu.red
 obtain ⟨_, _, _, _, _, _, rfl, _⟩ := r1.six
 refine go2 ?_
 exact sH.fz r1 red.pos red.gcd red.eq red.n red.d
end Go.Proofs.YtokckcnfojjpjaaGreat

set_option linter.unusedVariables false
set_option linter.unusedSimpArgs false
namespace Go.Proofs.YtokckcnfojjpjaaGreat
open Go.RowKit
set_option maxRecDepth 20000
def SRK (R : SP → Prop) (u : V) : Prop := ∃ cs e, u = .agg cs ∧ IsS cs e ∧ R e
theorem SRK.fz {R : SP → Prop} {e : SP} {cs : List C} {H : Hp} (h : IsS cs e) (r : R e) : ∃ d, FzV H (.agg cs) d ∧ SRK R d := ⟨_, .agg (.hf h.hf), cs, e, rfl, h, r⟩
theorem SpanOk.two {x : SP} (h : SpanOk x) : 0 < x.1.2 ∧ 0 < x.2.2 := ⟨by have := h.1.1; omega, by have := h.2.1.1; omega⟩
attribute [local irreducible] yA semH semC qLen qNil qIad qSlc qIdx yW yL xD appX appI slcX awpF yP xI xopF xR qval lval seqQ xL wJ wI xW cnd arith IntKind.wrap
end Go.Proofs.YtokckcnfojjpjaaGreat

set_option linter.unusedVariables false
set_option linter.unusedSimpArgs false
namespace Go.Proofs.YtokckcnfojjpjaaGreat
open Go.RowKit
set_option maxRecDepth 20000
def pw (p : R2) (n : Nat) : R2 := (p.1 ^ n, p.2 ^ n)
def Good (p : R2) : Prop := 0 < p.2 ∧ Int.gcd p.1 p.2 = 1
theorem wZ.good {p : R2} (h : wZ p.1 p.2) : Good p := ⟨by have := h.1; omega, h.2.2.2.2⟩
theorem Bd.to {k m : Nat} {p : R2} (h : Bd k p) (hk : k ≤ m) : Bd m p := ⟨h.n.up hk, h.d.up hk, h.pos⟩
theorem Good.uniq {p q : R2} (hp : Good p) (hq : Good q) (h1 : ¬ uF p q) (h2 : ¬ uF q p) : p = q := by
 unfold uF at h1 h2
 obtain ⟨e1, e2⟩ := red_uniq hp.2 hq.2 hp.1 hq.1 (show p.1 * q.2 = q.1 * p.2 by omega)
 exact Prod.ext e1 e2
theorem not_less_trans {p q r : R2} (hp : 0 < p.2) (hq : 0 < q.2) (hr : 0 < r.2) (h1 : ¬ uF q p) (h2 : ¬ uF r q) : ¬ uF r p := by
 unfold uF at *
 intro h
 have a1 : p.1 * q.2 ≤ q.1 * p.2 := by omega
 have a2 : q.1 * r.2 ≤ r.1 * q.2 := by omega
 have b1 := Int.mul_le_mul_of_nonneg_right a1 (show 0 ≤ r.2 by omega)
 have b2 := Int.mul_le_mul_of_nonneg_right a2 (show 0 ≤ p.2 by omega)
 have b3 := Int.mul_lt_mul_of_pos_right h hq
 grind
theorem mn_cases (p q : R2) : (mnR p q = p ∧ ¬ uF q p) ∨ (mnR p q = q ∧ uF q p) := by
 unfold mnR
 cases h : dec (uF q p)
 ·exact .inl ⟨rfl, yM.1 h⟩
 ·exact .inr ⟨rfl, yH.1 h⟩
theorem mx_cases (p q : R2) : (mxR p q = p ∧ ¬ uF p q) ∨ (mxR p q = q ∧ uF p q) := by
 unfold mxR
 cases h : dec (uF p q)
 ·exact .inl ⟨rfl, yM.1 h⟩
 ·exact .inr ⟨rfl, yH.1 h⟩
theorem lt_not {p q : R2} (h : uF p q) : ¬ uF q p := by unfold uF at *; omega
structure Most (l : List R2) (x : SP) : Prop where
 lo : x.1 ∈ l
 hi : x.2 ∈ l
 low : ∀ p ∈ l, ¬ uF p x.1
 high : ∀ p ∈ l, ¬ uF x.2 p
theorem Most.step {l : List R2} {x : SP} {p : R2} (hl : ∀ q ∈ l, Good q) (hp : Good p) (h : Most l x) : Most (l ++ [p]) (wider x p) := by
 have g1 := hl _ h.lo
 have g2 := hl _ h.hi
 unfold wider
 refine ⟨?_, ?_, ?_, ?_⟩
 ·rcases mn_cases x.1 p with ⟨e, _⟩ | ⟨e, _⟩
  ·simp only [e]; exact List.mem_append_left _ h.lo
  ·simp only [e]; simp
 ·rcases mx_cases x.2 p with ⟨e, _⟩ | ⟨e, _⟩
  ·simp only [e]; exact List.mem_append_left _ h.hi
  ·simp only [e]; simp
 ·intro q hq
  rcases mn_cases x.1 p with ⟨e, e'⟩ | ⟨e, e'⟩ <;> simp only [e] <;> rcases List.mem_append.1 hq with hq | hq
  ·exact h.low q hq
  ·simp at hq
   subst hq
   exact e'
  ·exact not_less_trans hp.1 g1.1 (hl _ hq).1 (lt_not e') (h.low q hq)
  ·simp at hq
   subst hq
   exact lessR_irr _
 ·intro q hq
  rcases mx_cases x.2 p with ⟨e, e'⟩ | ⟨e, e'⟩ <;> simp only [e] <;> rcases List.mem_append.1 hq with hq | hq
  ·exact h.high q hq
  ·simp at hq
   subst hq
   exact e'
  ·exact not_less_trans (hl _ hq).1 g2.1 hp.1 (h.high q hq) (lt_not e')
  ·simp at hq
   subst hq
   exact lessR_irr _
theorem Most.fold : ∀ {m l : List R2} {x : SP}, (∀ q ∈ l, Good q) → (∀ q ∈ m, Good q) → Most l x → Most (l ++ m) (m.foldl wider x)
 | [], l, x, _, _, h => by simpa using h
 | p :: m, l, x, hl, hm, h => by
  have h1 := Most.step hl (hm p (by simp)) h
  have h2 := Most.fold (m := m) (l := l ++ [p]) (fun q hq => by
   rcases List.mem_append.1 hq with hq | hq
   ·exact hl q hq
   ·simp at hq
    subst hq
    exact hm q (by simp)) (fun q hq => hm q (by simp [hq])) h1
  simpa using h2
theorem Most.one (p : R2) : Most [p] (p, p) := ⟨by simp, by simp, fun q hq => by simp at hq; subst hq; exact lessR_irr _, fun q hq => by simp at hq; subst hq; exact lessR_irr _⟩
theorem Most.all {p : R2} {l : List R2} (hp : Good p) (hl : ∀ q ∈ l, Good q) : Most ([p] ++ l) (l.foldl wider (p, p)) := Most.fold (fun q hq => by simp at hq; subst hq; exact hp) hl (.one p)
theorem Most.uniq {l m : List R2} {x y : SP} (hl : ∀ q ∈ l, Good q) (hm : ∀ q ∈ m, Good q) (h1 : Most l x) (h2 : Most m y) (a : x.1 ∈ m) (b : x.2 ∈ m) (c : ¬ uF y.1 x.1) (d : ¬ uF x.2 y.2) : x = y :=
 Prod.ext (Good.uniq (hl _ h1.lo) (hm _ h2.lo) (h2.low _ a) c) (Good.uniq (hl _ h1.hi) (hm _ h2.hi) d (h2.high _ b))
def bH : List C := [.int .i64 0, .nilSl, .bool false, .int .i64 0, .nilSl, .bool false]
attribute [local irreducible] yA semH semC qLen qNil qIad qSlc qIdx yW yL xD appX appI slcX awpF yP xI xopF xR qval lval seqQ xL wJ wI xW cnd arith IntKind.wrap
end Go.Proofs.YtokckcnfojjpjaaGreat

set_option linter.unusedVariables false
set_option linter.unusedSimpArgs false
namespace Go.Proofs.YtokckcnfojjpjaaGreat
open Go.RowKit
set_option maxRecDepth 20000
def rp (q : Rat) : R2 := (q.num, (q.den : Int))
def rt (p : R2) : Rat := Rat.divInt p.1 p.2
theorem pS (q : Rat) : 0 < (rp q).2 := by
 have := q.den_pos
 unfold rp
 simp only
 omega
theorem rp_good (q : Rat) : Good (rp q) := ⟨pS q, q.reduced⟩
theorem rt_rp (q : Rat) : rt (rp q) = q := Rat.num_divInt_den q
theorem Red.rat {n d : Int} {p : R2} (h : Red n d p) (hd : d ≠ 0) : p = rp (Rat.divInt n d) := by
 have g := rp_good (Rat.divInt n d)
 have e : (rp (Rat.divInt n d)).1 * d = n * (rp (Rat.divInt n d)).2 := by
  have h0 := Rat.num_divInt_den (Rat.divInt n d)
  have hne : ((Rat.divInt n d).den : Int) ≠ 0 := by
   have := (Rat.divInt n d).den_pos
   omega
  exact (Rat.divInt_eq_divInt_iff hne hd).1 h0
 generalize rp (Rat.divInt n d) = q at g e
 have a1 := h.eq
 have a2 : p.1 * q.2 = q.1 * p.2 := by
  have : (p.1 * q.2) * d = (q.1 * p.2) * d := by
   have b1 := congrArg (· * q.2) a1
   have b2 := congrArg (· * p.2) e
   grind
  exact Int.eq_of_mul_eq_mul_right hd this
 obtain ⟨e1, e2⟩ := red_uniq h.gcd g.2 h.pos g.1 a2
 exact Prod.ext e1 e2
theorem Good.rp {p : R2} (h : Good p) : rp (rt p) = p := by
 have g := rp_good (rt p)
 have e : (Go.Proofs.YtokckcnfojjpjaaGreat.rp (rt p)).1 * p.2 = p.1 * (Go.Proofs.YtokckcnfojjpjaaGreat.rp (rt p)).2 := by
  have h0 := Rat.num_divInt_den (Rat.divInt p.1 p.2)
  have hne : ((Rat.divInt p.1 p.2).den : Int) ≠ 0 := by
   have := (Rat.divInt p.1 p.2).den_pos
   omega
  exact (Rat.divInt_eq_divInt_iff hne (by have := h.1; omega)).1 h0
 obtain ⟨e1, e2⟩ := red_uniq g.2 h.2 g.1 h.1 e
 exact Prod.ext e1 e2
theorem jU (a : Rat) : ((a.num : Int) : Rat) / ((a.den : Int) : Rat) = a := by
 rw [← Rat.divInt_eq_div]
 exact Rat.num_divInt_den a
theorem den_ne (a : Rat) : ((a.den : Int) : Rat) ≠ 0 := by
 intro h
 have h2 : (a.den : Int) = 0 := Rat.intCast_inj.1 (by simpa using h)
 have := a.den_pos
 omega
theorem rat_add (a b : Rat) : Rat.divInt ((rp a).1 * (rp b).2 + (rp b).1 * (rp a).2) ((rp a).2 * (rp b).2) = a + b := by
 have h1 := jU a
 have h2 := jU b
 have n1 := den_ne a
 have n2 := den_ne b
 unfold rp
 simp only
 rw [Rat.divInt_eq_div, Rat.intCast_add, Rat.intCast_mul, Rat.intCast_mul, Rat.intCast_mul]
 generalize ((a.num : Int) : Rat) = x at *
 generalize ((b.num : Int) : Rat) = z at *
 generalize ((a.den : Int) : Rat) = y at *
 generalize ((b.den : Int) : Rat) = w at *
 rw [← h1, ← h2]
 grind
theorem rat_sub (a b : Rat) : Rat.divInt ((rp a).1 * (rp b).2 + -(rp b).1 * (rp a).2) ((rp a).2 * (rp b).2) = a - b := by
 have h1 := jU a
 have h2 := jU b
 have n1 := den_ne a
 have n2 := den_ne b
 unfold rp
 simp only
 rw [Rat.divInt_eq_div, Rat.intCast_add, Rat.intCast_mul, Rat.intCast_mul, Rat.intCast_mul, Rat.intCast_neg]
 generalize ((a.num : Int) : Rat) = x at *
 generalize ((b.num : Int) : Rat) = z at *
 generalize ((a.den : Int) : Rat) = y at *
 generalize ((b.den : Int) : Rat) = w at *
 rw [← h1, ← h2]
 grind
theorem rat_mul (a b : Rat) : Rat.divInt ((rp a).1 * (rp b).1) ((rp a).2 * (rp b).2) = a * b := by
 have h1 := jU a
 have h2 := jU b
 have n1 := den_ne a
 have n2 := den_ne b
 unfold rp
 simp only
 rw [Rat.divInt_eq_div, Rat.intCast_mul, Rat.intCast_mul]
 generalize ((a.num : Int) : Rat) = x at *
 generalize ((b.num : Int) : Rat) = z at *
 generalize ((a.den : Int) : Rat) = y at *
 generalize ((b.den : Int) : Rat) = w at *
 rw [← h1, ← h2]
 grind
theorem num_ne {a : Rat} (h : a ≠ 0) : (rp a).1 ≠ 0 := fun e => h (Rat.num_eq_zero.1 e)
theorem rat_div (a b : Rat) (hb : b ≠ 0) : Rat.divInt ((rp a).1 * (rp b).2) ((rp a).2 * (rp b).1) = a / b := by
 have h1 := jU a
 have h2 := jU b
 have n1 := den_ne a
 have n2 := den_ne b
 have n3 : ((b.num : Int) : Rat) ≠ 0 := fun e => num_ne hb (Rat.intCast_inj.1 (show ((b.num : Int) : Rat) = ((0 : Int) : Rat) from e))
 unfold rp
 simp only
 rw [Rat.divInt_eq_div, Rat.intCast_mul, Rat.intCast_mul]
 generalize ((a.num : Int) : Rat) = x at *
 generalize ((b.num : Int) : Rat) = z at *
 generalize ((a.den : Int) : Rat) = y at *
 generalize ((b.den : Int) : Rat) = w at *
 rw [← h1, ← h2]
 grind
theorem rp_neg (a : Rat) : rp (-a) = (-(rp a).1, (rp a).2) := by
 unfold rp
 rw [Rat.neg_num, Rat.neg_den]
theorem rp_int (n : Int) : rp (n : Rat) = (n, 1) := by
 unfold rp
 rw [Rat.num_intCast, Rat.den_intCast]
 rfl
theorem less_rp (a b : Rat) : uF (rp a) (rp b) = (a < b) := by
 unfold uF rp
 exact propext (Rat.lt_iff a b).symm
noncomputable def cq (a b : Rat) : Int := cmpR (rp a) (rp b)
theorem cq_gtr (a b : Rat) : yA Cm.gtr (cq a b) 0 = dec (b < a) := by
 unfold cq
 rw [cmp_gtr, less_rp]
theorem cq_zero (a b : Rat) : cq a b = 0 ↔ a = b := by
 have h1 : cq a b = 0 ↔ (¬ uF (rp a) (rp b)) ∧ ¬ uF (rp b) (rp a) := by
  unfold cq cmpR uF sgn
  split
  ·omega
  ·split <;> omega
 rw [h1, less_rp, less_rp, Rat.not_lt, Rat.not_lt]
 exact ⟨fun h => Rat.le_antisymm h.2 h.1, fun h => by subst h; exact ⟨Rat.le_refl, Rat.le_refl⟩⟩
theorem cq_eql (a b : Rat) : yA Cm.eql (cq a b) 0 = dec (a = b) := by
 show dec _ = _
 rw [propext (cq_zero a b)]
structure IQ (k : Nat) (cs : List C) (q : Rat) : Prop where
 is : IsQ cs (rp q)
 bd : Bd k (rp q)
structure IR (k : Nat) (cs : List C) (q : Rat) : Prop where
 is : IsRQ cs (rp q).1 (rp q).2
 bd : Bd k (rp q)
def QV (k : Nat) (q : Rat) (u : V) : Prop := ∃ cs, u = .agg cs ∧ IQ k cs q
def RQV (k : Nat) (q : Rat) (u : V) : Prop := ∃ cs, u = .agg cs ∧ IR k cs q
theorem IQ.up {k m : Nat} {cs : List C} {q : Rat} (h : IQ k cs q) (hk : k ≤ m) : IQ m cs q := ⟨h.is, h.bd.to hk⟩
theorem IR.up {k m : Nat} {cs : List C} {q : Rat} (h : IR k cs q) (hk : k ≤ m) : IR m cs q := ⟨h.is, h.bd.to hk⟩
theorem IQ.hf {k : Nat} {cs : List C} {q : Rat} (h : IQ k cs q) : HFL cs := h.is.hf
theorem IR.hf {k : Nat} {cs : List C} {q : Rat} (h : IR k cs q) : HFL cs := h.is.hf
theorem IQ.six {k : Nat} {cs : List C} {q : Rat} (h : IQ k cs q) : ∃ a b c d e f, cs = [a, b, c, d, e, f] := by
 obtain ⟨a, b, c, d, e, f, rfl, _⟩ := h.is.six
 exact ⟨_, _, _, _, _, _, rfl⟩
theorem IR.four {k : Nat} {cs : List C} {q : Rat} (h : IR k cs q) : ∃ a b c d, cs = [a, .bool b, c, .bool d] := by
 obtain ⟨a, b, c, d, _, rfl, _⟩ := h.is.four
 exact ⟨_, _, _, _, rfl⟩
theorem QV.fz {k : Nat} {q : Rat} {cs : List C} {H : Hp} (h : IQ k cs q) : ∃ e, FzV H (.agg cs) e ∧ QV k q e := ⟨_, .agg (.hf h.hf), cs, rfl, h⟩
theorem RQV.fz {k : Nat} {q : Rat} {cs : List C} {H : Hp} (h : IR k cs q) : ∃ e, FzV H (.agg cs) e ∧ RQV k q e := ⟨_, .agg (.hf h.hf), cs, rfl, h⟩
theorem sH.rat {n d : Int} {q : Rat} {k : Nat} {u : V} (h : sH n d u) (hd : d ≠ 0) (e : Rat.divInt n d = q) (h1 : Sz k n) (h2 : Sz k d) : QV k q u := by
 obtain ⟨cs, p, rfl, h3, red⟩ := h.red
 have b := red.bd h1 h2
 obtain rfl := red.rat hd
 rw [e] at h3 b
 exact ⟨cs, rfl, h3, b⟩
theorem RRK.rat {n d : Int} {q : Rat} {k : Nat} {u : V} (h : RRK n d u) (hd : d ≠ 0) (e : Rat.divInt n d = q) (h1 : Sz k n) (h2 : Sz k d) : RQV k q u := by
 obtain ⟨cs, p, rfl, h3, red⟩ := h
 have b := red.bd h1 h2
 obtain rfl := red.rat hd
 rw [e] at h3 b
 exact ⟨cs, rfl, h3, b⟩
theorem dd_ne (a b : Rat) : (rp a).2 * (rp b).2 ≠ 0 := Int.ne_of_gt (Int.mul_pos (pS a) (pS b))
theorem wZ.rp {p : R2} (h : wZ p.1 p.2) : rp (rt p) = p := h.good.rp
theorem one_bd {k : Nat} {n : Int} (h : n.natAbs < 4294967296) : Bd (k + 1) ((n, 1) : R2) := ⟨(show Sz 1 n by unfold Sz; simpa using h).up (by omega), Sz.one, by simp⟩
attribute [local irreducible] yA semH semC qLen qNil qIad qSlc qIdx yW yL xD appX appI slcX awpF yP xI xopF xR qval lval seqQ xL wJ wI xW cnd arith IntKind.wrap
theorem q_Of {p : R2} (h : wZ p.1 p.2) : semC Tryz.prog n_num_Of [.agg (ratC p)] (QV 2 (rt p)) := by
 refine uB (fun u hu => ?_) (num_Of h)
 obtain ⟨cs, rfl, h1⟩ := hu
 exact ⟨cs, rfl, by rw [h.rp]; exact h1, by rw [h.rp]; exact h.bd⟩
theorem vG {g : Int} (h : g.natAbs < 4294967296) : semC Tryz.prog n_num_Int [i64 g] (QV 1 (g : Rat)) := by
 refine uB (fun u hu => ?_) (num_Int (g := g) (by omega) (by omega))
 obtain ⟨cs, rfl, h1⟩ := hu
 exact ⟨cs, rfl, by rw [rp_int]; exact h1, by rw [rp_int]; exact one_bd (k := 0) h⟩
theorem q_Neg {k : Nat} {cs : List C} {a : Rat} (hx : IQ k cs a) (hk : k ≤ 268435456) : semC Tryz.prog n_num_Q_Neg [.agg cs] (QV k (-a)) := by
 refine uB (fun u hu => ?_) (num_Q_Neg hx.is hx.bd hk)
 obtain ⟨cs, rfl, h1⟩ := hu
 exact ⟨cs, rfl, by rw [rp_neg]; exact h1, by rw [rp_neg]; exact ⟨hx.bd.n.neg, hx.bd.d, hx.bd.pos⟩⟩
theorem q_Cmp {k : Nat} {cs ds : List C} {a b : Rat} (hx : IQ k cs a) (hy : IQ k ds b) (hk : k ≤ 268435456) : semC Tryz.prog n_num_Q_Cmp [.agg cs, .agg ds] (IntK (cq a b)) := num_Q_Cmp hx.is hy.is hx.bd hy.bd hk
theorem r_Of {p : R2} (h : wZ p.1 p.2) : semC Tryz.prog n_ref01_Of [.agg (ratC p)] (RQV 2 (rt p)) := by
 refine uB (fun u hu => ?_) (ref01_Of h)
 obtain ⟨cs, rfl, h1⟩ := hu
 exact ⟨cs, rfl, by rw [h.rp]; exact h1, by rw [h.rp]; exact h.bd⟩
theorem r_Cmp {k : Nat} {cs ds : List C} {a b : Rat} (hx : IR k cs a) (hy : IR k ds b) (hk : k ≤ 268435456) : semC Tryz.prog n_ref01_Q_Cmp [.agg cs, .agg ds] (IntK (cq a b)) := ref01_Q_Cmp hx.is hy.is hx.bd hy.bd hk
end Go.Proofs.YtokckcnfojjpjaaGreat

set_option linter.unusedVariables false
set_option linter.unusedSimpArgs false
namespace Go.Proofs.YtokckcnfojjpjaaGreat
open Go.RowKit
set_option maxRecDepth 20000
structure El (α : Type) where
 p : List C → α → Prop
 s : Nat
 len : ∀ {cs : List C} {a : α}, p cs a → cs.length = s
 hf : ∀ {cs : List C} {a : α}, p cs a → HFL cs
def elQ (k : Nat) : El Rat := ⟨IQ k, 6, fun h => by obtain ⟨_, _, _, _, _, _, rfl⟩ := h.six; rfl, fun h => h.hf⟩
def elP : El R2 := ⟨fun cs p => cs = ratC p, 2, fun h => by subst h; rfl, fun h => by subst h; exact pH _⟩
section
variable {α : Type} {E : El α}
inductive Els (E : El α) : List C → List α → Prop
 | nil : Els E [] []
 | cons {cs ds : List C} {a : α} {l : List α} (h : E.p cs a) (t : Els E ds l) : Els E (cs ++ ds) (a :: l)
theorem Els.len : ∀ {ds : List C} {l : List α}, Els E ds l → ds.length = l.length * E.s
 | _, _, .nil => by simp
 | _, _, .cons h t => by
  rw [List.length_append, E.len h, t.len, List.length_cons, Nat.add_mul]
  omega
theorem Els.hf : ∀ {ds : List C} {l : List α}, Els E ds l → HFL ds
 | _, _, .nil => trivial
 | _, _, .cons h t => HFL_app (E.hf h) t.hf
theorem Els.append : ∀ {ds es : List C} {l m : List α}, Els E ds l → Els E es m → Els E (ds ++ es) (l ++ m)
 | _, _, _, _, .nil, h => h
 | _, _, _, _, .cons h t, h2 => by
  rw [List.append_assoc]
  exact .cons h (t.append h2)
theorem Els.one {cs : List C} {a : α} (h : E.p cs a) : Els E cs [a] := by
 have := Els.cons h .nil
 simpa using this
theorem Els.snoc {ds cs : List C} {l : List α} {a : α} (h : Els E ds l) (h2 : E.p cs a) : Els E (ds ++ cs) (l ++ [a]) := h.append (.one h2)
theorem Els.get : ∀ {ds : List C} {l : List α} {i : Nat}, Els E ds l → (hi : i < l.length) → ∃ cs r, E.p cs l[i] ∧ ds.drop (i * E.s) = cs ++ r
 | _, _, i, .nil, hi => by simp at hi
 | _, _, 0, .cons h t, hi => ⟨_, _, h, by simp; rfl⟩
 | _, _, i + 1, .cons (cs := cs) (ds := ds) h t, hi => by
  have hi' : i < _ := Nat.lt_of_succ_lt_succ hi
  obtain ⟨es, r, h1, h2⟩ := t.get hi'
  refine ⟨es, r, h1, ?_⟩
  rw [← h2, Nat.add_mul, Nat.one_mul, ← E.len h, Nat.add_comm, List.drop_append]
  simp
theorem Els.take : ∀ {ds : List C} {l : List α} (n : Nat), Els E ds l → Els E (ds.take (n * E.s)) (l.take n)
 | _, _, n, .nil => by simpa using Els.nil
 | _, _, 0, .cons h t => by simpa using Els.nil
 | _, _, n + 1, .cons (cs := cs) (ds := ds) h t => by
  have e : (cs ++ ds).take ((n + 1) * E.s) = cs ++ ds.take (n * E.s) := by
   rw [Nat.add_mul, Nat.one_mul, ← E.len h, Nat.add_comm, List.take_append, List.take_of_length_le (by omega)]
   simp
  rw [e, List.take_succ_cons]
  exact .cons h (t.take n)
theorem Els.drop : ∀ {ds : List C} {l : List α} (n : Nat), Els E ds l → Els E (ds.drop (n * E.s)) (l.drop n)
 | _, _, n, .nil => by simpa using Els.nil
 | _, _, 0, .cons h t => by simpa using Els.cons h t
 | _, _, n + 1, .cons (cs := cs) (ds := ds) h t => by
  have e : (cs ++ ds).drop ((n + 1) * E.s) = ds.drop (n * E.s) := by
   rw [Nat.add_mul, Nat.one_mul, ← E.len h, Nat.add_comm, List.drop_append]
   simp
  rw [e, List.drop_succ_cons]
  exact t.drop n
theorem Els.set {ds cs : List C} {l : List α} {a : α} {i : Nat} (h : Els E ds l) (hi : i < l.length) (ha : E.p cs a) : Els E (splice ds (i * E.s) cs) (l.set i a) := by
 have h1 := h.take i
 have h2 := h.drop (i + 1)
 have e : l.set i a = l.take i ++ ([a] ++ l.drop (i + 1)) := by
  rw [List.set_eq_take_append_cons_drop, if_pos hi]
  rfl
 rw [e]
 have e2 : splice ds (i * E.s) cs = ds.take (i * E.s) ++ (cs ++ ds.drop ((i + 1) * E.s)) := by
  unfold splice
  rw [E.len ha, Nat.add_mul, Nat.one_mul, List.append_assoc]
 rw [e2]
 exact h1.append ((Els.one ha).append h2)
theorem Els.mono {F : El α} (hp : ∀ cs a, E.p cs a → F.p cs a) : ∀ {ds : List C} {l : List α}, Els E ds l → Els F ds l
 | _, _, .nil => .nil
 | _, _, .cons h t => .cons (hp _ _ h) (t.mono hp)
inductive Ls (E : El α) : C → List α → Prop
 | nil : Ls E .nilSl []
 | imm {ds : List C} {l : List α} (h : Els E ds l) : Ls E (.imm l.length ds) l
theorem Ls.hf {c : C} {l : List α} (h : Ls E c l) : HFC c := by
 cases h with
 | nil => trivial
 | imm h => exact h.hf
theorem Ls.mono {F : El α} (hp : ∀ cs a, E.p cs a → F.p cs a) {c : C} {l : List α} (h : Ls E c l) : Ls F c l := by
 cases h with
 | nil => exact .nil
 | imm h => exact .imm (h.mono hp)
def C.ds : C → List C
 | .imm _ ds => ds
 | _ => []
theorem Ls.els {c : C} {l : List α} (h : Ls E c l) : Els E c.ds l := by
 cases h with
 | nil => exact .nil
 | imm h => exact h
def LsK (E : El α) (l : List α) (u : V) : Prop := ∃ c, u = .c c ∧ Ls E c l
theorem LsK.fz {l : List α} {c : C} {H : Hp} (h : Ls E c l) : ∃ d, FzV H (.c c) d ∧ LsK E l d := ⟨_, .c (.hf h.hf), c, rfl, h⟩
theorem uD {x : Option V} {c : C} {l : List α} {K : V → Prop} (h : x = some (.c c)) (hc : Ls E c l) (k : K (.c (.int .i64 l.length))) : qLen x K := by
 subst h
 cases hc
 ·exact xX rfl k
 ·exact xY rfl k
theorem uE {x i : Option V} {c : C} {l : List α} {es : Nat} {K : V → Prop} {k : IntKind} {n : Int} (h : x = some (.c c)) (h2 : i = some (.c (.int k n))) (hc : Ls E c l) (h3 : 0 ≤ n) (h4 : n < l.length) (hk : K (.c (.ipt (c.ds.drop (n.toNat * es))))) : qIad none es x i K := by
 subst h h2
 cases hc with
 | nil => simp at h4; omega
 | imm => exact wM rfl rfl h3 h4 hk
theorem qD {c : C} {l : List α} {es n i : Nat} {K : V → Prop} (hc : Ls E c l) (hi : i < l.length) (hn : n = i) (he : E.s = es) (k : ∀ cs, E.p cs l[i] → K (.agg cs)) : yL (c.ds.drop (n * es)) true es K := by
 subst hn he
 obtain ⟨cs, r, h1, h2⟩ := hc.els.get hi
 rw [h2]
 refine xN (by rw [List.length_append, E.len h1]; omega) ?_
 rw [List.take_left' (E.len h1)]
 exact k cs h1
theorem slc_ls {e : Env} {es : Nat} {x : Option V} {lo hi : Option AO} {c : C} {l : List α} {a b : Int} {K : V → Prop} (h : x = some (.c c)) (hc : Ls E c l) (he : E.s = es) (h1 : bnd e 0 lo = some a) (h2 : bnd e l.length hi = some b) (h3 : 0 ≤ a) (h4 : a ≤ b) (h5 : b ≤ l.length)
  (k : ∀ c', Ls E c' ((l.drop a.toNat).take (b.toNat - a.toNat)) → K (.c c')) : qSlc e es x lo hi none K := by
 subst h he
 cases hc with
 | nil =>
  simp only [List.length_nil] at h2 h5
  have h2' : bnd e 0 hi = some b := by simpa using h2
  simp only [qSlc, h1, h2']
  refine xH (by simp; omega) (k _ (by simpa using Ls.nil))
 | imm hd =>
  simp only [qSlc, h1, h2]
  refine xH (by simp; omega) (k _ ?_)
  have e1 : ((l.drop a.toNat).take (b.toNat - a.toNat)).length = b.toNat - a.toNat := by simp; omega
  have := Ls.imm ((hd.drop a.toNat).take (b.toNat - a.toNat))
  rwa [e1] at this
inductive Out (E : El α) (el : TypeId) (m : Nat) (H : Hp) : C → List α → Prop
 | nil : Out E el m H .nilSl []
 | sl {b n : Nat} {co : Option Nat} {cells ds : List C} {l : List α} (hm : m ≤ b) (hb : H[b]? = some (.live ⟨cells, el, .rw⟩)) (hn : n = l.length) (hc : cells.take (l.length * E.s) = ds) (h : Els E ds l) : Out E el m H (.sl b 0 n co E.s) l
theorem Out.fz {el : TypeId} {m : Nat} {H : Hp} {c : C} {l : List α} {p : BK → Prop} (h : Out E el m H c l) (hp : p .rw) : ∃ d, Fz p H c d ∧ Ls E d l := by
 cases h with
 | nil => exact ⟨_, .hf trivial, .nil⟩
 | sl hm hb hn hc h =>
  subst hn
  refine ⟨_, .sl hb hp (by simp) ?_, .imm h⟩
  simp only [List.drop_zero]
  rw [hc]
  exact .hf h.hf
theorem Out.done {el : TypeId} {m : Nat} {H : Hp} {c : C} {l : List α} (h : Out E el m H c l) : ∃ d, FzV H (.c c) d ∧ LsK E l d := by
 obtain ⟨d, h1, h2⟩ := h.fz (p := (· ≠ .bor)) (by simp)
 exact ⟨_, .c h1, d, rfl, h2⟩
end
end Go.Proofs.YtokckcnfojjpjaaGreat

set_option linter.unusedVariables false
set_option linter.unusedSimpArgs false
namespace Go.Proofs.YtokckcnfojjpjaaGreat
open Go.RowKit
set_option maxRecDepth 20000
theorem go5 {A B : Prop} (k : B) (h : Held B → A := by
 intro hgo
 repeat (first | (refine g_o ?_; first | (refine o_some ?_; try (first | (refine x_q (by rfl) ?_; try (first | refine q_mv (by rfl) ?_ | refine wO (by rfl) ?_ | (refine uO ?_; try (first | refine uD (by rfl) (by assumption) ?_ | refine vA (by rfl) (by assumption) ?_ | refine vB (by rfl) ?_ | refine xY (by rfl) ?_ | refine xX (by rfl) ?_)) | (refine uQ ?_; try (first | refine uE (by rfl) (by rfl) (by assumption) (by omega) (by omega) ?_ | refine wS (by rfl) (by rfl) (by assumption) (by omega) (by omega) ?_ | refine wW (by rfl) (by rfl) (by decide) (by decide) ?_ | refine yG (by rfl) (by rfl) (by decide) (by decide) ?_ | refine wM (by rfl) (by rfl) (by decide) (by decide) ?_ | refine yG (by rfl) (by rfl) (by omega) (by omega) ?_)) | refine q_cm (by rfl) (by rfl) ?_ | refine q_ar (by rfl) (by rfl) (by rfl) ?_ | refine vJ (by rfl) ?_ | (refine uU ?_; try (first | refine wG (by rfl) ?_ | refine wH (by rfl) ?_ | refine vC (by rfl) ?_)) | refine uT (by rfl) (by rfl) ?_ | refine wN (by rfl) ?_ | refine wP (by rfl) ?_ | refine uK (by rfl) (by rfl) (by first | decide | omega) ?_ | refine uJ (by rfl) (by rfl) (by first | decide | omega) ?_ | refine uV (by rfl) (by rfl) ?_ | refine uW (by rfl) (by rfl) (by rfl) ?_ | refine uM (by rfl) ?_ | refine uL (by rfl) ?_ | refine xZ (by rfl) (by rfl) ?_ | refine wA (by rfl) (by rfl) ?_ | refine uI ?_ | refine uP ?_ | refine uS (by rfl) (by rfl) ?_ | refine vI (by rfl) (by rfl) ?_ | refine wC (by rfl) ?_ | refine q_mx (by rfl) (by rfl) ?_ | refine q_mn (by rfl) (by rfl) ?_ | refine uN (by rfl) (by rfl) (by rfl) ?_ | refine uR (by rfl) ?_ | refine vK (by rfl) ?_ | refine vL (by rfl) ?_ | refine wB (by rfl) ?_ | refine wQ (by rfl) (by rfl) ?_ | refine wR (by rfl) (by rfl) ?_)) | (refine gB ?_; try (first | (refine uX (by rfl) ?_; try (first | refine yN (by rfl) (by rfl) ?_ | refine yI (by rfl) (by rfl) ?_ | refine yN (yJ _ _) (by rfl) ?_ | refine yI (yJ _ _) (by rfl) ?_)) | (refine uY (by rfl) ?_; try (first | refine vS (by omega) (by omega) ?_ | refine xN (Nat.le_of_ble_eq_true (by rfl)) ?_ | refine yS (by rfl) (by rfl) (by rfl) (by omega) ?_)))) | refine uZ (by rfl) (by rfl) (by rfl) (by rfl) (Nat.le_of_ble_eq_true (by rfl)) ?_ | (refine qO (by rfl) (by rfl) ?_; try (first | refine yS (by rfl) (by rfl) (by rfl) (Nat.le_of_ble_eq_true (by rfl)) ?_ | refine yS (by rfl) (by rfl) (by rfl) (by omega) ?_)) | refine pQ (by rfl) (by rfl) ?_ | refine x_box (by rfl) (by rfl) ?_ | refine pE ?_ | refine gK (by rfl) ?_ | refine bJ ?_ | refine gA ?_ | refine pC ?_ | refine pD (by rfl) (by rfl) (by rfl) (by rfl) ?_ | refine sT (by rfl) (by rfl) (by rfl) ?_)) | (refine o_nil ?_; try (first | refine s_n ?_ | refine s_r ?_ | refine s_e ?_ | refine k_n ?_ | refine k_r ?_ | refine k_e (by rfl) ?_ | refine k_o (by rfl) ?_ | refine l_r ?_ | refine l_e ?_ | refine b_r ?_ | refine b_n ?_)) | refine o_guard (by rfl) ?_ | refine bO (by rfl) ?_ | refine o_none ?_ | refine bP (by rfl) ?_) | (refine g_f ?_; first | refine f_seq ?_ | refine f_reg ?_ | (refine f_cond (by rfl) ?_; try (first | refine c_t (by rfl) ?_ | refine c_f (by rfl) ?_)) | refine f_block ?_ | refine f_skip ?_ | refine f_ret ?_ | refine f_exit ?_ | refine f_regD0 ?_ | refine f_regD ?_) | (refine g_s ?_; first | refine s_n ?_ | refine s_r ?_ | refine s_e ?_) | (refine g_d ?_; first | (refine pX (T := none) (by rfl) (by rfl) ?_; try (first | (refine xd_q (by rfl) ?_; try (first | refine q_mv (by rfl) ?_ | refine wO (by rfl) ?_ | (refine uO ?_; try (first | refine uD (by rfl) (by assumption) ?_ | refine vA (by rfl) (by assumption) ?_ | refine vB (by rfl) ?_ | refine xY (by rfl) ?_ | refine xX (by rfl) ?_)) | (refine uQ ?_; try (first | refine uE (by rfl) (by rfl) (by assumption) (by omega) (by omega) ?_ | refine wS (by rfl) (by rfl) (by assumption) (by omega) (by omega) ?_ | refine wW (by rfl) (by rfl) (by decide) (by decide) ?_ | refine yG (by rfl) (by rfl) (by decide) (by decide) ?_ | refine wM (by rfl) (by rfl) (by decide) (by decide) ?_ | refine yG (by rfl) (by rfl) (by omega) (by omega) ?_)) | refine q_cm (by rfl) (by rfl) ?_ | refine q_ar (by rfl) (by rfl) (by rfl) ?_ | refine vJ (by rfl) ?_ | (refine uU ?_; try (first | refine wG (by rfl) ?_ | refine wH (by rfl) ?_ | refine vC (by rfl) ?_)) | refine uT (by rfl) (by rfl) ?_ | refine wN (by rfl) ?_ | refine wP (by rfl) ?_ | refine uK (by rfl) (by rfl) (by first | decide | omega) ?_ | refine uJ (by rfl) (by rfl) (by first | decide | omega) ?_ | refine uV (by rfl) (by rfl) ?_ | refine uW (by rfl) (by rfl) (by rfl) ?_ | refine uM (by rfl) ?_ | refine uL (by rfl) ?_ | refine xZ (by rfl) (by rfl) ?_ | refine wA (by rfl) (by rfl) ?_ | refine uI ?_ | refine uP ?_ | refine uS (by rfl) (by rfl) ?_ | refine vI (by rfl) (by rfl) ?_ | refine wC (by rfl) ?_ | refine q_mx (by rfl) (by rfl) ?_ | refine q_mn (by rfl) (by rfl) ?_ | refine uN (by rfl) (by rfl) (by rfl) ?_ | refine uR (by rfl) ?_ | refine vK (by rfl) ?_ | refine vL (by rfl) ?_ | refine wB (by rfl) ?_ | refine wQ (by rfl) (by rfl) ?_ | refine wR (by rfl) (by rfl) ?_)) | (refine tV ?_; try (first | (refine uX (by rfl) ?_; try (first | refine yN (by rfl) (by rfl) ?_ | refine yI (by rfl) (by rfl) ?_ | refine yN (yJ _ _) (by rfl) ?_ | refine yI (yJ _ _) (by rfl) ?_)) | (refine uY (by rfl) ?_; try (first | refine vS (by omega) (by omega) ?_ | refine xN (Nat.le_of_ble_eq_true (by rfl)) ?_ | refine yS (by rfl) (by rfl) (by rfl) (by omega) ?_)))) | refine wX (by rfl) (by rfl) (by rfl) (by rfl) (Nat.le_of_ble_eq_true (by rfl)) ?_ | (refine vZ (by rfl) (by rfl) ?_; try (first | refine yS (by rfl) (by rfl) (by rfl) (Nat.le_of_ble_eq_true (by rfl)) ?_ | refine yS (by rfl) (by rfl) (by rfl) (by omega) ?_)) | refine tW (by rfl) (by rfl) ?_ | refine sY (by rfl) (by rfl) (by rfl) ?_ | refine uA (by rfl) ?_ | refine sO (by rfl) (by rfl) ?_)) | (refine pX (by rfl) (by rfl) ?_; try (first | (refine xd_q (by rfl) ?_; try (first | refine q_mv (by rfl) ?_ | refine wO (by rfl) ?_ | (refine uO ?_; try (first | refine uD (by rfl) (by assumption) ?_ | refine vA (by rfl) (by assumption) ?_ | refine vB (by rfl) ?_ | refine xY (by rfl) ?_ | refine xX (by rfl) ?_)) | (refine uQ ?_; try (first | refine uE (by rfl) (by rfl) (by assumption) (by omega) (by omega) ?_ | refine wS (by rfl) (by rfl) (by assumption) (by omega) (by omega) ?_ | refine wW (by rfl) (by rfl) (by decide) (by decide) ?_ | refine yG (by rfl) (by rfl) (by decide) (by decide) ?_ | refine wM (by rfl) (by rfl) (by decide) (by decide) ?_ | refine yG (by rfl) (by rfl) (by omega) (by omega) ?_)) | refine q_cm (by rfl) (by rfl) ?_ | refine q_ar (by rfl) (by rfl) (by rfl) ?_ | refine vJ (by rfl) ?_ | (refine uU ?_; try (first | refine wG (by rfl) ?_ | refine wH (by rfl) ?_ | refine vC (by rfl) ?_)) | refine uT (by rfl) (by rfl) ?_ | refine wN (by rfl) ?_ | refine wP (by rfl) ?_ | refine uK (by rfl) (by rfl) (by first | decide | omega) ?_ | refine uJ (by rfl) (by rfl) (by first | decide | omega) ?_ | refine uV (by rfl) (by rfl) ?_ | refine uW (by rfl) (by rfl) (by rfl) ?_ | refine uM (by rfl) ?_ | refine uL (by rfl) ?_ | refine xZ (by rfl) (by rfl) ?_ | refine wA (by rfl) (by rfl) ?_ | refine uI ?_ | refine uP ?_ | refine uS (by rfl) (by rfl) ?_ | refine vI (by rfl) (by rfl) ?_ | refine wC (by rfl) ?_ | refine q_mx (by rfl) (by rfl) ?_ | refine q_mn (by rfl) (by rfl) ?_ | refine uN (by rfl) (by rfl) (by rfl) ?_ | refine uR (by rfl) ?_ | refine vK (by rfl) ?_ | refine vL (by rfl) ?_ | refine wB (by rfl) ?_ | refine wQ (by rfl) (by rfl) ?_ | refine wR (by rfl) (by rfl) ?_)) | (refine tV ?_; try (first | (refine uX (by rfl) ?_; try (first | refine yN (by rfl) (by rfl) ?_ | refine yI (by rfl) (by rfl) ?_ | refine yN (yJ _ _) (by rfl) ?_ | refine yI (yJ _ _) (by rfl) ?_)) | (refine uY (by rfl) ?_; try (first | refine vS (by omega) (by omega) ?_ | refine xN (Nat.le_of_ble_eq_true (by rfl)) ?_ | refine yS (by rfl) (by rfl) (by rfl) (by omega) ?_)))) | refine wX (by rfl) (by rfl) (by rfl) (by rfl) (Nat.le_of_ble_eq_true (by rfl)) ?_ | (refine vZ (by rfl) (by rfl) ?_; try (first | refine yS (by rfl) (by rfl) (by rfl) (Nat.le_of_ble_eq_true (by rfl)) ?_ | refine yS (by rfl) (by rfl) (by rfl) (by omega) ?_)) | refine tW (by rfl) (by rfl) ?_ | refine sY (by rfl) (by rfl) (by rfl) ?_ | refine uA (by rfl) ?_ | refine sO (by rfl) (by rfl) ?_)) | (refine d_nil ?_; try (first | refine s_n ?_ | refine s_r ?_ | refine s_e ?_ | refine k_n ?_ | refine k_r ?_ | refine k_e (by rfl) ?_ | refine k_o (by rfl) ?_ | refine l_r ?_ | refine l_e ?_ | refine b_r ?_ | refine b_n ?_)) | refine d_none (by rfl) (by rfl) ?_ | refine d_guard (by rfl) (by rfl) (by rfl) ?_) | (refine g_x ?_; first | (refine x_q (by rfl) ?_; try (first | refine q_mv (by rfl) ?_ | refine wO (by rfl) ?_ | (refine uO ?_; try (first | refine uD (by rfl) (by assumption) ?_ | refine vA (by rfl) (by assumption) ?_ | refine vB (by rfl) ?_ | refine xY (by rfl) ?_ | refine xX (by rfl) ?_)) | (refine uQ ?_; try (first | refine uE (by rfl) (by rfl) (by assumption) (by omega) (by omega) ?_ | refine wS (by rfl) (by rfl) (by assumption) (by omega) (by omega) ?_ | refine wW (by rfl) (by rfl) (by decide) (by decide) ?_ | refine yG (by rfl) (by rfl) (by decide) (by decide) ?_ | refine wM (by rfl) (by rfl) (by decide) (by decide) ?_ | refine yG (by rfl) (by rfl) (by omega) (by omega) ?_)) | refine q_cm (by rfl) (by rfl) ?_ | refine q_ar (by rfl) (by rfl) (by rfl) ?_ | refine vJ (by rfl) ?_ | (refine uU ?_; try (first | refine wG (by rfl) ?_ | refine wH (by rfl) ?_ | refine vC (by rfl) ?_)) | refine uT (by rfl) (by rfl) ?_ | refine wN (by rfl) ?_ | refine wP (by rfl) ?_ | refine uK (by rfl) (by rfl) (by first | decide | omega) ?_ | refine uJ (by rfl) (by rfl) (by first | decide | omega) ?_ | refine uV (by rfl) (by rfl) ?_ | refine uW (by rfl) (by rfl) (by rfl) ?_ | refine uM (by rfl) ?_ | refine uL (by rfl) ?_ | refine xZ (by rfl) (by rfl) ?_ | refine wA (by rfl) (by rfl) ?_ | refine uI ?_ | refine uP ?_ | refine uS (by rfl) (by rfl) ?_ | refine vI (by rfl) (by rfl) ?_ | refine wC (by rfl) ?_ | refine q_mx (by rfl) (by rfl) ?_ | refine q_mn (by rfl) (by rfl) ?_ | refine uN (by rfl) (by rfl) (by rfl) ?_ | refine uR (by rfl) ?_ | refine vK (by rfl) ?_ | refine vL (by rfl) ?_ | refine wB (by rfl) ?_ | refine wQ (by rfl) (by rfl) ?_ | refine wR (by rfl) (by rfl) ?_)) | (refine gB ?_; try (first | (refine uX (by rfl) ?_; try (first | refine yN (by rfl) (by rfl) ?_ | refine yI (by rfl) (by rfl) ?_ | refine yN (yJ _ _) (by rfl) ?_ | refine yI (yJ _ _) (by rfl) ?_)) | (refine uY (by rfl) ?_; try (first | refine vS (by omega) (by omega) ?_ | refine xN (Nat.le_of_ble_eq_true (by rfl)) ?_ | refine yS (by rfl) (by rfl) (by rfl) (by omega) ?_)))) | refine uZ (by rfl) (by rfl) (by rfl) (by rfl) (Nat.le_of_ble_eq_true (by rfl)) ?_ | (refine qO (by rfl) (by rfl) ?_; try (first | refine yS (by rfl) (by rfl) (by rfl) (Nat.le_of_ble_eq_true (by rfl)) ?_ | refine yS (by rfl) (by rfl) (by rfl) (by omega) ?_)) | refine pQ (by rfl) (by rfl) ?_ | refine x_box (by rfl) (by rfl) ?_ | refine pE ?_ | refine gK (by rfl) ?_ | refine bJ ?_ | refine gA ?_ | refine pC ?_ | refine pD (by rfl) (by rfl) (by rfl) (by rfl) ?_ | refine sT (by rfl) (by rfl) (by rfl) ?_) | (refine g_q ?_; first | refine q_mv (by rfl) ?_ | refine wO (by rfl) ?_ | (refine uO ?_; try (first | refine uD (by rfl) (by assumption) ?_ | refine vA (by rfl) (by assumption) ?_ | refine vB (by rfl) ?_ | refine xY (by rfl) ?_ | refine xX (by rfl) ?_)) | (refine uQ ?_; try (first | refine uE (by rfl) (by rfl) (by assumption) (by omega) (by omega) ?_ | refine wS (by rfl) (by rfl) (by assumption) (by omega) (by omega) ?_ | refine wW (by rfl) (by rfl) (by decide) (by decide) ?_ | refine yG (by rfl) (by rfl) (by decide) (by decide) ?_ | refine wM (by rfl) (by rfl) (by decide) (by decide) ?_ | refine yG (by rfl) (by rfl) (by omega) (by omega) ?_)) | refine q_cm (by rfl) (by rfl) ?_ | refine q_ar (by rfl) (by rfl) (by rfl) ?_ | refine vJ (by rfl) ?_ | (refine uU ?_; try (first | refine wG (by rfl) ?_ | refine wH (by rfl) ?_ | refine vC (by rfl) ?_)) | refine uT (by rfl) (by rfl) ?_ | refine wN (by rfl) ?_ | refine wP (by rfl) ?_ | refine uK (by rfl) (by rfl) (by first | decide | omega) ?_ | refine uJ (by rfl) (by rfl) (by first | decide | omega) ?_ | refine uV (by rfl) (by rfl) ?_ | refine uW (by rfl) (by rfl) (by rfl) ?_ | refine uM (by rfl) ?_ | refine uL (by rfl) ?_ | refine xZ (by rfl) (by rfl) ?_ | refine wA (by rfl) (by rfl) ?_ | refine uI ?_ | refine uP ?_ | refine uS (by rfl) (by rfl) ?_ | refine vI (by rfl) (by rfl) ?_ | refine wC (by rfl) ?_ | refine q_mx (by rfl) (by rfl) ?_ | refine q_mn (by rfl) (by rfl) ?_ | refine uN (by rfl) (by rfl) (by rfl) ?_ | refine uR (by rfl) ?_ | refine vK (by rfl) ?_ | refine vL (by rfl) ?_ | refine wB (by rfl) ?_ | refine wQ (by rfl) (by rfl) ?_ | refine wR (by rfl) (by rfl) ?_) | (refine g_c ?_; first | refine c_t (by rfl) ?_ | refine c_f (by rfl) ?_) | (refine g_k ?_; first | refine k_n ?_ | refine k_r ?_ | refine k_e (by rfl) ?_ | refine k_o (by rfl) ?_) | (refine g_lo ?_; first | refine l_r ?_ | refine l_e ?_) | (refine g_xd ?_; first | (refine xd_q (by rfl) ?_; try (first | refine q_mv (by rfl) ?_ | refine wO (by rfl) ?_ | (refine uO ?_; try (first | refine uD (by rfl) (by assumption) ?_ | refine vA (by rfl) (by assumption) ?_ | refine vB (by rfl) ?_ | refine xY (by rfl) ?_ | refine xX (by rfl) ?_)) | (refine uQ ?_; try (first | refine uE (by rfl) (by rfl) (by assumption) (by omega) (by omega) ?_ | refine wS (by rfl) (by rfl) (by assumption) (by omega) (by omega) ?_ | refine wW (by rfl) (by rfl) (by decide) (by decide) ?_ | refine yG (by rfl) (by rfl) (by decide) (by decide) ?_ | refine wM (by rfl) (by rfl) (by decide) (by decide) ?_ | refine yG (by rfl) (by rfl) (by omega) (by omega) ?_)) | refine q_cm (by rfl) (by rfl) ?_ | refine q_ar (by rfl) (by rfl) (by rfl) ?_ | refine vJ (by rfl) ?_ | (refine uU ?_; try (first | refine wG (by rfl) ?_ | refine wH (by rfl) ?_ | refine vC (by rfl) ?_)) | refine uT (by rfl) (by rfl) ?_ | refine wN (by rfl) ?_ | refine wP (by rfl) ?_ | refine uK (by rfl) (by rfl) (by first | decide | omega) ?_ | refine uJ (by rfl) (by rfl) (by first | decide | omega) ?_ | refine uV (by rfl) (by rfl) ?_ | refine uW (by rfl) (by rfl) (by rfl) ?_ | refine uM (by rfl) ?_ | refine uL (by rfl) ?_ | refine xZ (by rfl) (by rfl) ?_ | refine wA (by rfl) (by rfl) ?_ | refine uI ?_ | refine uP ?_ | refine uS (by rfl) (by rfl) ?_ | refine vI (by rfl) (by rfl) ?_ | refine wC (by rfl) ?_ | refine q_mx (by rfl) (by rfl) ?_ | refine q_mn (by rfl) (by rfl) ?_ | refine uN (by rfl) (by rfl) (by rfl) ?_ | refine uR (by rfl) ?_ | refine vK (by rfl) ?_ | refine vL (by rfl) ?_ | refine wB (by rfl) ?_ | refine wQ (by rfl) (by rfl) ?_ | refine wR (by rfl) (by rfl) ?_)) | (refine tV ?_; try (first | (refine uX (by rfl) ?_; try (first | refine yN (by rfl) (by rfl) ?_ | refine yI (by rfl) (by rfl) ?_ | refine yN (yJ _ _) (by rfl) ?_ | refine yI (yJ _ _) (by rfl) ?_)) | (refine uY (by rfl) ?_; try (first | refine vS (by omega) (by omega) ?_ | refine xN (Nat.le_of_ble_eq_true (by rfl)) ?_ | refine yS (by rfl) (by rfl) (by rfl) (by omega) ?_)))) | refine wX (by rfl) (by rfl) (by rfl) (by rfl) (Nat.le_of_ble_eq_true (by rfl)) ?_ | (refine vZ (by rfl) (by rfl) ?_; try (first | refine yS (by rfl) (by rfl) (by rfl) (Nat.le_of_ble_eq_true (by rfl)) ?_ | refine yS (by rfl) (by rfl) (by rfl) (by omega) ?_)) | refine tW (by rfl) (by rfl) ?_ | refine sY (by rfl) (by rfl) (by rfl) ?_ | refine uA (by rfl) ?_ | refine sO (by rfl) (by rfl) ?_) | (refine g_l ?_; first | (refine uX (by rfl) ?_; try (first | refine yN (by rfl) (by rfl) ?_ | refine yI (by rfl) (by rfl) ?_ | refine yN (yJ _ _) (by rfl) ?_ | refine yI (yJ _ _) (by rfl) ?_)) | (refine uY (by rfl) ?_; try (first | refine vS (by omega) (by omega) ?_ | refine xN (Nat.le_of_ble_eq_true (by rfl)) ?_ | refine yS (by rfl) (by rfl) (by rfl) (by omega) ?_))) | (refine g_len ?_; first | refine uD (by rfl) (by assumption) ?_ | refine vA (by rfl) (by assumption) ?_ | refine vB (by rfl) ?_ | refine xY (by rfl) ?_ | refine xX (by rfl) ?_) | (refine g_nil ?_; first | refine wG (by rfl) ?_ | refine wH (by rfl) ?_ | refine vC (by rfl) ?_) | (refine g_iad ?_; first | refine uE (by rfl) (by rfl) (by assumption) (by omega) (by omega) ?_ | refine wS (by rfl) (by rfl) (by assumption) (by omega) (by omega) ?_ | refine wW (by rfl) (by rfl) (by decide) (by decide) ?_ | refine yG (by rfl) (by rfl) (by decide) (by decide) ?_ | refine wM (by rfl) (by rfl) (by decide) (by decide) ?_ | refine yG (by rfl) (by rfl) (by omega) (by omega) ?_) | (refine g_box ?_; first | refine yN (by rfl) (by rfl) ?_ | refine yI (by rfl) (by rfl) ?_ | refine yN (yJ _ _) (by rfl) ?_ | refine yI (yJ _ _) (by rfl) ?_) | (refine g_cells ?_; first | refine vS (by omega) (by omega) ?_ | refine xN (Nat.le_of_ble_eq_true (by rfl)) ?_) | (refine g_st ?_; first | refine yS (by rfl) (by rfl) (by rfl) (Nat.le_of_ble_eq_true (by rfl)) ?_) | (refine g_b ?_; first | refine b_r ?_ | refine b_n ?_) | (refine g_r ?_; first | refine r_tmp (by rfl) ?_ | refine r_cell ?_ | refine r_nil ?_))
 exact hgo.out) : A := h ⟨k⟩
def pB (l : List R2) : Prop := ∀ p ∈ l, wZ p.1 p.2
theorem vD {α : Type} {l : List α} {i : Nat} (h : i < l.length) : l.take (i + 1) = l.take i ++ [l[i]] := by
 rw [List.take_succ_eq_append_getElem h]
section
variable {α : Type} {E : El α}
structure Fill (E : El α) (z : List C) (n : Nat) (cells : List C) (l : List α) : Prop where
 out : ∃ ds, cells = ds ++ (List.replicate (n - l.length) z).flatten ∧ Els E ds l
 le : l.length ≤ n
 z : z.length = E.s
theorem flat_len (z : List C) (n : Nat) : (List.replicate n z).flatten.length = n * z.length := by simp
theorem Fill.zero {z : List C} {n : Nat} (hz : z.length = E.s) : Fill E z n (List.replicate n z).flatten [] := ⟨⟨[], by simp, .nil⟩, by simp, hz⟩
theorem Fill.len {z : List C} {n : Nat} {cells : List C} {l : List α} (h : Fill E z n cells l) : cells.length = n * E.s := by
 obtain ⟨ds, rfl, h1⟩ := h.out
 have := h.le
 rw [List.length_append, h1.len, flat_len, h.z, ← Nat.add_mul]
 congr 1
 omega
theorem Fill.put {z : List C} {n : Nat} {cells cs : List C} {l : List α} {a : α} (h : Fill E z n cells l) (hl : l.length < n) (ha : E.p cs a) : Fill E z n (splice cells (l.length * E.s) cs) (l ++ [a]) := by
 obtain ⟨ds, rfl, h1⟩ := h.out
 refine ⟨⟨ds ++ cs, ?_, h1.snoc ha⟩, by simp; omega, h.z⟩
 have e : n - l.length = (n - (l ++ [a]).length) + 1 := by simp; omega
 have hd := h1.len
 have hcs := E.len ha
 rw [e, List.replicate_succ, List.flatten_cons]
 unfold splice
 rw [← hd, List.take_left, List.drop_append, List.drop_of_length_le (by omega), Nat.add_sub_cancel_left, List.nil_append, hcs, ← h.z, List.drop_left]
theorem Fill.done {z : List C} {n : Nat} {cells : List C} {l : List α} (h : Fill E z n cells l) (hl : l.length = n) : Els E cells l := by
 obtain ⟨ds, rfl, h1⟩ := h.out
 rw [hl, Nat.sub_self]
 simpa using h1
end
theorem map_take' {l : List R2} {i : Nat} (h : i < l.length) : (l.take (i + 1)).map rt = (l.take i).map rt ++ [rt l[i]] := by
 rw [vD h, List.map_append]
 rfl
theorem pB.step {l : List R2} {i : Nat} (h : i < l.length) (h1 : pB (l.take i)) (h2 : wZ l[i].1 l[i].2) : pB (l.take (i + 1)) := by
 intro p hp
 rw [vD h] at hp
 rcases List.mem_append.1 hp with hp | hp
 ·exact h1 p hp
 ·simp at hp
  subst hp
  exact h2
attribute [local irreducible] yA semH semC qLen qNil qIad qSlc qIdx yW yL xD appX appI slcX awpF yP xI xopF xR qval lval seqQ xL wJ wI xW cnd arith IntKind.wrap
theorem num_In {c : C} {l : List R2} (hc : Ls elP c l) (hv : pB l) (hl : l.length < 1073741824) : semC Tryz.prog n_num_In [.c c] (LsK (elQ 2) (l.map rt)) := by
 refine yD ok_num_In rfl (show HFVs [.c c] from ⟨hc.hf, trivial⟩) ?_
 refine go5 ?_
 refine vT (by rfl) (by rfl) ⟨by omega, by omega, by omega, by omega⟩ ?_
 refine go5 ?_
 refine yT (fun n vs H => ∃ (i : Nat) (cells : List C) (R : Hp), vs = [.c (.sl 0 0 l.length (some l.length) 6), .c c, i64 l.length, i64 i] ∧ H = .live ⟨cells, yZ, .rw⟩ :: R ∧ n = l.length - i ∧ i ≤ l.length ∧ Fill (elQ 2) bH l.length cells ((l.take i).map rt)) (by rfl) ⟨0, _, _, rfl, rfl, rfl, by omega, .zero rfl⟩ ?_
 rintro n vs H ⟨i, cells, R, rfl, rfl, rfl, h1, h2⟩
 refine go5 ?_
 cases hq : yA Cm.lss (i : Int) (l.length : Int)
 ·simp [yA] at hq
  have ei : i = l.length := by omega
  subst ei
  rw [List.take_length] at h2
  have h3 := h2.done (by simp)
  refine go5 ?_
  have h4 := Ls.imm h3
  rw [List.length_map] at h4
  exact ⟨_, .c (.sl (bx := ⟨cells, yZ, .rw⟩) (by rfl) (by simp) (by simp) (by
   rw [List.drop_zero, List.take_of_length_le (by rw [h2.len]; exact Nat.le_refl _)]
   exact .hf h3.hf)), _, rfl, h4⟩
 ·simp [yA] at hq
  refine go5 ?_
  refine qD hc hq (by omega) rfl (fun cs hcs => ?_)
  obtain rfl := hcs
  refine go5 ?_
  refine yB (q_Of (hv _ (vH hq))) (fun u hu => ?_)
  obtain ⟨ds, rfl, hd⟩ := hu
  obtain ⟨_, _, _, _, _, _, rfl⟩ := id hd.six
  have hlen : cells.length = l.length * 6 := h2.len
  have htl : ((l.take i).map rt).length = i := by simp; omega
  refine go5 ?_
  rw [xV i (by omega)]
  have h3 := h2.put (by omega) hd
  rw [htl, ← map_take' hq] at h3
  exact l_n (by rfl) (by omega) ⟨i + 1, _, R ++ [_], rfl, rfl, rfl, by omega, by rw [show 0 + ((i : Nat) : Int).toNat * 6 = i * 6 by omega]; exact h3⟩
theorem pT {k : Nat} {cs : List C} {q : Rat} (hx : IQ k cs q) : semC Tryz.prog n_num_Q_IsZero [.agg cs] (sU (q = 0)) := by
 refine yD ok_num_Q_IsZero rfl (show HFVs [.agg cs] from ⟨hx.hf, trivial⟩) ?_
 obtain ⟨a, b, c, d, e, f, rfl, h1, h2⟩ := hx.is.six
 refine go5 ?_
 refine yB (pI h1) (fun u hu => ?_)
 obtain rfl := hu
 refine go5 ?_
 refine sU.fz ?_
 have : yA Cm.eql (sgn (rp q).1) 0 = true ↔ sgn (rp q).1 = 0 := by simp [yA]
 rw [this, sgn_zero_iff]
 exact Rat.num_eq_zero
end Go.Proofs.YtokckcnfojjpjaaGreat

set_option linter.unusedVariables false
set_option linter.unusedSimpArgs false
namespace Go.Proofs.YtokckcnfojjpjaaGreat
open Go.RowKit
set_option maxRecDepth 20000
section
variable {α : Type} {E : El α}
theorem Out.le {el : TypeId} {m m' : Nat} {H : Hp} {c : C} {l : List α} (h : Out E el m H c l) (hm : m' ≤ m) : Out E el m' H c l := by
 cases h with
 | nil => exact .nil
 | sl h1 hb hn hc h => exact .sl (by omega) hb hn hc h
end
def delayL (size : Nat) (first : R2) (l : List R2) : List R2 := (List.replicate size first ++ l).take l.length
noncomputable def delayR (size : Int) (first : R2) (l : List R2) : List R2 × Int :=
 bif dec (size < 0 ∨ 64 < size) then ([], 1) else bif dec (64 < l.length) then ([], 3) else bif dec (wZ first.1 first.2 ∧ pB l) then (delayL size.toNat first l, 0) else ([], 1)
def DelK (size : Int) (first : R2) (l : List R2) (u : V) : Prop := ∃ c, u = .tup [.c c, i64 (delayR size first l).2] ∧ Ls elP c (delayR size first l).1
theorem DelK.bad {size : Int} {first : R2} {l : List R2} {H : Hp} {e : Int} (h : delayR size first l = ([], e)) : ∃ d, FzV H (.tup [.c .nilSl, i64 e]) d ∧ DelK size first l d :=
 ⟨_, .tup (.cons (.c (.hf trivial)) (.cons (.c (.hf trivial)) .nil)), .nilSl, by rw [h]; rfl, by rw [h]; exact .nil⟩
theorem DelK.ok {size : Int} {first : R2} {l m : List R2} {H : Hp} {c : C} {el : TypeId} (h : delayR size first l = (m, 0)) (ho : Out elP el 0 H c m) : ∃ d, FzV H (.tup [.c c, i64 0]) d ∧ DelK size first l d := by
 obtain ⟨d, h1, h2⟩ := ho.fz (p := (· ≠ .bor)) (by simp)
 exact ⟨_, .tup (.cons (.c h1) (.cons (.c (.hf trivial)) .nil)), d, by rw [h]; rfl, by rw [h]; exact h2⟩
attribute [local irreducible] yA semH semC qLen qNil qIad qSlc qIdx yW yL xD appX appI slcX awpF yP xI xopF xR qval lval seqQ xL wJ wI xW cnd arith IntKind.wrap
end Go.Proofs.YtokckcnfojjpjaaGreat

set_option linter.unusedVariables false
set_option linter.unusedSimpArgs false
namespace Go.Proofs.YtokckcnfojjpjaaGreat
open Go.RowKit
set_option maxRecDepth 20000
def ev : List Rat → Rat → Rat
 | [], _ => 0
 | a :: l, x => a + x * ev l x
theorem ev_append : ∀ (l m : List Rat) (x : Rat), ev (l ++ m) x = ev l x + x ^ l.length * ev m x
 | [], m, x => by
  simp only [List.nil_append, List.length_nil, ev, Rat.pow_zero]
  grind
 | a :: l, m, x => by
  simp only [List.cons_append, List.length_cons, ev, ev_append l m x, Rat.pow_succ]
  grind
theorem ev_one (a x : Rat) : ev [a] x = a := by
 simp only [ev]
 grind
theorem ev_take {l : List Rat} {i : Nat} (h : i < l.length) (x : Rat) : ev (l.take (i + 1)) x = ev (l.take i) x + x ^ i * l[i] := by
 rw [vD h, ev_append, ev_one, List.length_take, Nat.min_eq_left (by omega)]
theorem ev_drop {l : List Rat} {i : Nat} (h : i < l.length) (x : Rat) : ev (l.drop i) x = l[i] + x * ev (l.drop (i + 1)) x := by
 rw [List.drop_eq_getElem_cons h]
 rfl
theorem ev_set : ∀ {l : List Rat} {i : Nat} (h : i < l.length) (b x : Rat), ev (l.set i b) x = ev l x + x ^ i * (b - l[i])
 | a :: l, 0, h, b, x => by
  simp only [List.set_cons_zero, ev, List.getElem_cons_zero, Rat.pow_zero]
  grind
 | a :: l, i + 1, h, b, x => by
  have h' : i < l.length := Nat.lt_of_succ_lt_succ h
  simp only [List.set_cons_succ, ev, List.getElem_cons_succ, ev_set h' b x, Rat.pow_succ]
  grind
def Top (l : List Rat) : Prop := ∀ h : 0 < l.length, l[l.length - 1] ≠ 0
structure Cut (l m : List Rat) : Prop where
 ev : ∀ x, ev m x = ev l x
 len : m.length ≤ l.length
 top : Top m
def PolyK (E : El Rat) (R : List Rat → Prop) (u : V) : Prop := ∃ c m, u = .c c ∧ Ls E c m ∧ R m
theorem PolyK.fz {E : El Rat} {R : List Rat → Prop} {m : List Rat} {c : C} {H : Hp} (h : Ls E c m) (r : R m) : ∃ d, FzV H (.c c) d ∧ PolyK E R d := ⟨_, .c (.hf h.hf), c, m, rfl, h, r⟩
theorem Sz.mulT {k m : Nat} {a b : Int} (h1 : Sz k a) (h2 : Sz m b) : Sz (k + m) (a * b) := by
 unfold Sz at *
 rw [Int.natAbs_mul, Nat.pow_add]
 exact Nat.mul_lt_mul'' h1 h2
theorem Sz.add2 {k m : Nat} {a b : Int} (h1 : Sz k a) (h2 : Sz k b) (hm : k + 1 ≤ m) : Sz m (a + b) := (h1.add h2).up hm
attribute [local irreducible] yA semH semC qLen qNil qIad qSlc qIdx yW yL xD appX appI slcX awpF yP xI xopF xR qval lval seqQ xL wJ wI xW cnd arith IntKind.wrap
theorem tL {k m : Nat} {cs ds : List C} {a b : Rat} (hx : IQ k cs a) (hy : IQ m ds b) (hk : k + m + 1 ≤ 134217728) : semC Tryz.prog n_num_Q_Add [.agg cs, .agg ds] (QV (k + m + 1) (a + b)) := by
 have s1 : Sz (k + m + 1) _ := (hx.bd.n.mulT hy.bd.d).add2 ((hy.bd.n.mulT hx.bd.d).up (show m + k ≤ k + m by omega)) (Nat.le_refl _)
 have s2 : Sz (k + m + 1) _ := (hx.bd.d.mulT hy.bd.d).up (by omega)
 have hx' := hx.up (show k ≤ k + m by omega)
 have hy' := hy.up (show m ≤ k + m by omega)
 exact uB (fun u hu => hu.rat (dd_ne a b) (rat_add a b) s1 s2) (num_Q_Add (Sz.cl (by omega)) (quoOk (by omega)) hx.is hy.is hx'.bd hy'.bd (by omega) s1 s2)
theorem q_Sub2 {k m : Nat} {cs ds : List C} {a b : Rat} (hx : IQ k cs a) (hy : IQ m ds b) (hk : k + m + 1 ≤ 134217728) : semC Tryz.prog n_num_Q_Sub [.agg cs, .agg ds] (QV (k + m + 1) (a - b)) := by
 have s1 : Sz (k + m + 1) _ := (hx.bd.n.mulT hy.bd.d).add2 ((hy.bd.n.neg.mulT hx.bd.d).up (show m + k ≤ k + m by omega)) (Nat.le_refl _)
 have s2 : Sz (k + m + 1) _ := (hx.bd.d.mulT hy.bd.d).up (by omega)
 have hx' := hx.up (show k ≤ k + m by omega)
 have hy' := hy.up (show m ≤ k + m by omega)
 exact uB (fun u hu => hu.rat (dd_ne a b) (rat_sub a b) s1 s2) (num_Q_Sub (Sz.cl (by omega)) (quoOk (by omega)) hx.is hy.is hx'.bd hy'.bd (by omega) s1 s2)
theorem uC {k m : Nat} {cs ds : List C} {a b : Rat} (hx : IQ k cs a) (hy : IQ m ds b) (hk : k + m ≤ 134217728) : semC Tryz.prog n_num_Q_Mul [.agg cs, .agg ds] (QV (k + m) (a * b)) := by
 have hx' := hx.up (show k ≤ k + m by omega)
 have hy' := hy.up (show m ≤ k + m by omega)
 exact uB (fun u hu => hu.rat (dd_ne a b) (rat_mul a b) (hx.bd.n.mulT hy.bd.n) (hx.bd.d.mulT hy.bd.d)) (num_Q_Mul (Sz.cl (show k + m ≤ 268435456 by omega)) (quoOk (by omega)) hx.is hy.is hx'.bd hy'.bd (by omega) (hx.bd.n.mulT hy.bd.n) (hx.bd.d.mulT hy.bd.d))
theorem q_Div2 {k m : Nat} {cs ds : List C} {a b : Rat} (hx : IQ k cs a) (hy : IQ m ds b) (hk : k + m ≤ 134217728) (h0 : b ≠ 0) : semC Tryz.prog n_num_Q_Div [.agg cs, .agg ds] (QV (k + m) (a / b)) := by
 have s1 := hx.bd.n.mulT hy.bd.d
 have s2 := hx.bd.d.mulT hy.bd.n
 have hx' := hx.up (show k ≤ k + m by omega)
 have hy' := hy.up (show m ≤ k + m by omega)
 exact uB (fun u hu => hu.rat (Int.mul_ne_zero (Int.ne_of_gt (pS a)) (num_ne h0)) (rat_div a b h0) s1 s2) (num_Q_Div (Sz.cl (show k + m ≤ 268435456 by omega)) (quoOk (by omega)) hx.is hy.is hx'.bd hy'.bd (by omega) (num_ne h0) s1 s2)
theorem q_Cmp2 {k m : Nat} {cs ds : List C} {a b : Rat} (hx : IQ k cs a) (hy : IQ m ds b) (hk : k + m ≤ 268435456) : semC Tryz.prog n_num_Q_Cmp [.agg cs, .agg ds] (IntK (cq a b)) := q_Cmp (hx.up (show k ≤ k + m by omega)) (hy.up (show m ≤ k + m by omega)) hk
theorem r_Mul2 {k m : Nat} {cs ds : List C} {a b : Rat} (hx : IR k cs a) (hy : IR m ds b) (hk : k + m ≤ 134217727) : semC Tryz.prog n_ref01_Q_Mul [.agg cs, .agg ds] (RQV (k + m) (a * b)) := by
 have hx' := hx.up (show k ≤ k + m by omega)
 have hy' := hy.up (show m ≤ k + m by omega)
 exact uB (fun u hu => hu.rat (dd_ne a b) (rat_mul a b) (hx.bd.n.mulT hy.bd.n) (hx.bd.d.mulT hy.bd.d)) (ref01_Q_Mul hx.is hy.is hx'.bd hy'.bd (by omega))
theorem r_Cmp2 {k m : Nat} {cs ds : List C} {a b : Rat} (hx : IR k cs a) (hy : IR m ds b) (hk : k + m ≤ 268435456) : semC Tryz.prog n_ref01_Q_Cmp [.agg cs, .agg ds] (IntK (cq a b)) := r_Cmp (hx.up (show k ≤ k + m by omega)) (hy.up (show m ≤ k + m by omega)) hk
theorem qp_Trim {k : Nat} {c : C} {l : List Rat} (hc : Ls (elQ k) c l) (hl : l.length < 1073741824) : semC Tryz.prog n_qp_Trim [.c c] (PolyK (elQ k) (Cut l)) := by
 refine yD ok_qp_Trim rfl (show HFVs [.c c] from ⟨hc.hf, trivial⟩) ?_
 refine go5 ?_
 refine yT (fun n vs H => ∃ (c : C) (m : List Rat), vs = [.c c] ∧ n = m.length ∧ Ls (elQ k) c m ∧ (∀ x, ev m x = ev l x) ∧ m.length ≤ l.length) (by rfl) ⟨c, l, rfl, rfl, hc, fun _ => rfl, Nat.le_refl _⟩ ?_
 clear hc
 rintro n vs H ⟨c, m, rfl, rfl, hc, h1, h2⟩
 refine go5 ?_
 cases hq : yA Cm.gtr (m.length : Int) 0
 ·simp [yA] at hq
  subst hq
  refine go5 ?_
  exact PolyK.fz hc ⟨h1, h2, fun h => absurd h (by simp)⟩
 ·simp [yA] at hq
  have hq0 : 0 < m.length := hq
  have e1 : arith .sub .i64 (m.length : Int) 1 = ((m.length - 1 : Nat) : Int) := by rw [vF, yF (by omega) (by omega)]; omega
  refine go5 ?_
  rw [e1]
  refine go5 ?_
  refine qD hc (i := m.length - 1) (by omega) (by omega) rfl (fun cs hcs => ?_)
  refine go5 ?_
  refine yB (pT hcs) (fun u hu => ?_)
  obtain ⟨z, rfl, hz⟩ := hu
  cases z
  ·refine go5 ?_
   exact PolyK.fz hc ⟨h1, h2, fun h e => absurd (hz.2 e) (by decide)⟩
  ·have hz := hz.1 rfl
   refine go5 ?_
   rw [e1]
   refine go5 ?_
   refine slc_ls (l := m) (b := ((m.length - 1 : Nat) : Int)) (by rfl) hc rfl (by rfl) (by rfl) (by omega) (by omega) (by omega) (fun c' hc' => ?_)
   refine go5 ?_
   have e2 : (m.drop (0 : Int).toNat).take (((m.length - 1 : Nat) : Int).toNat - (0 : Int).toNat) = m.take (m.length - 1) := by simp
   rw [e2] at hc'
   refine l_n (by rfl) (n' := m.length - 1) (by omega) ⟨c', m.take (m.length - 1), rfl, by simp, hc', fun x => ?_, by simp; omega⟩
   have h3 := ev_take (l := m) (i := m.length - 1) (by omega) x
   rw [hz, show m.length - 1 + 1 = m.length by omega, List.take_length] at h3
   rw [← h1 x, h3]
   grind
def evK (k m n : Nat) : Nat := n * (k + m + 1) + 1
theorem evK_mono {k m i n : Nat} (h : i ≤ n) : evK k m i ≤ evK k m n := by
 unfold evK
 have := Nat.mul_le_mul_right (k + m + 1) h
 omega
theorem evK_succ (k m n : Nat) : evK k m (n + 1) = evK k m n + (k + m + 1) := by
 unfold evK
 rw [Nat.succ_mul]
 omega
theorem qp_Eval {k m : Nat} {c : C} {cs : List C} {l : List Rat} {x : Rat} (hc : Ls (elQ k) c l) (hx : IQ m cs x) (hl : l.length < 1073741824) (hk : evK k m l.length ≤ 134217728) : semC Tryz.prog n_qp_P_Eval [.c c, .agg cs] (QV (evK k m l.length) (ev l x)) := by
 refine yD ok_qp_P_Eval rfl (show HFVs [.c c, .agg cs] from ⟨hc.hf, hx.hf, trivial⟩) ?_
 obtain ⟨a, b, c1, d, e, f, rfl⟩ := id hx.six
 refine go5 ?_
 refine yB (vG (g := 0) (by decide)) (fun u hu => ?_)
 obtain ⟨es, rfl, h1⟩ := hu
 obtain ⟨_, _, _, _, _, _, rfl⟩ := id h1.six
 refine go5 ?_
 rw [show arith .sub .i64 (l.length : Int) 1 = (l.length : Int) - 1 by rw [vF, yF (by omega) (by omega)]]
 refine go5 ?_
 simp only [tN, tM, ratC, tY, tX, List.set_cons_zero, List.set_cons_succ, List.nil_append, List.cons_append, List.append_nil, List.replicate_succ, List.replicate_zero, List.length_cons, List.length_nil, splice, List.take_succ_cons, List.take_zero, List.drop_succ_cons, List.drop_zero, List.take_nil, List.drop_nil, Nat.zero_add, Nat.reduceAdd, Nat.reduceMul, Int.reduceToNat, wF, List.getElem?_cons_succ, List.getElem?_cons_zero]
 refine yT (fun n vs H => ∃ (i : Nat) (es : List C) (y : Rat), vs = [.c c, .c (.ptr 0 0), .c (.ptr 1 0), .c (.ptr 2 0), i64 ((i : Int) - 1)] ∧ H = [.live ⟨[a, b, c1, d, e, f], yZ, .rw⟩, .live ⟨bH, yZ, .rw⟩, .live ⟨es, yZ, .rw⟩] ∧ n = i ∧ i ≤ l.length ∧ IQ (evK k m (l.length - i)) es y ∧ y = ev (l.drop i) x) (by rfl) ⟨l.length, _, 0, rfl, rfl, rfl, Nat.le_refl _, h1.up (by unfold evK; omega), by rw [List.drop_length]; rfl⟩ ?_
 clear h1
 rintro n vs H ⟨i, es, y, rfl, rfl, rfl, h2, h3, h4⟩
 obtain ⟨_, _, _, _, _, _, rfl⟩ := id h3.six
 refine go5 ?_
 cases hq : yA Cm.geq ((n : Int) - 1) 0
 ·simp [yA] at hq
  have ei : n = 0 := by omega
  subst ei
  subst h4
  refine go5 ?_
  exact QV.fz h3
 ·simp [yA] at hq
  obtain ⟨j, rfl⟩ : ∃ j, n = j + 1 := ⟨n - 1, by omega⟩
  have hj : j < l.length := by omega
  have ek : l.length - j = (l.length - (j + 1)) + 1 := by omega
  have hle : evK k m (l.length - j) ≤ 134217728 := Nat.le_trans (evK_mono (by omega)) hk
  rw [ek, evK_succ] at hle
  rw [show (((j + 1 : Nat) : Int) - 1) = (j : Int) by omega]
  refine go5 ?_
  refine qD hc (i := j) hj (by omega) rfl (fun ds hds => ?_)
  refine go5 ?_
  refine yE (uC h3 hx (by omega)) (fun u hu => ?_)
  obtain ⟨fs, rfl, h5⟩ := hu
  refine go5 ?_
  refine yE (tL h5 hds (by omega)) (fun u hu => ?_)
  obtain ⟨gs, rfl, h6⟩ := hu
  obtain ⟨_, _, _, _, _, _, rfl⟩ := id h6.six
  refine go5 ?_
  rw [show arith .sub .i64 (j : Int) 1 = (j : Int) - 1 by rw [vF, yF (by omega) (by omega)]]
  refine l_n (by rfl) (n' := j) (by omega) ⟨j, _, _, rfl, rfl, rfl, by omega, h6.up (by rw [ek, evK_succ]; omega), ?_⟩
  rw [ev_drop hj, h4]
  grind
end Go.Proofs.YtokckcnfojjpjaaGreat

set_option linter.unusedVariables false
set_option linter.unusedSimpArgs false
namespace Go.Proofs.YtokckcnfojjpjaaGreat
open Go.RowKit
set_option maxRecDepth 20000
section
variable {α : Type} {E : El α}
end
theorem get_splice {cells cs : List C} {off n : Nat} (h : off ≤ cells.length) (hn : cs.length = n) : ((splice cells off cs).drop off).take n = cs := by
 subst hn
 unfold splice
 rw [List.append_assoc, List.drop_append, List.drop_of_length_le (by simp; omega), List.nil_append, List.length_take, Nat.min_eq_left h, Nat.sub_self, List.drop_zero, List.take_left]
theorem splice_twice {cells cs ds : List C} {off : Nat} (h : off ≤ cells.length) (hl : cs.length = ds.length) : splice (splice cells off cs) off ds = splice cells off ds := by
 unfold splice
 have e1 : (cells.take off ++ cs ++ cells.drop (off + cs.length)).take off = cells.take off := by
  rw [List.append_assoc, List.take_left' (by simp; omega)]
 have e2 : (cells.take off ++ cs ++ cells.drop (off + cs.length)).drop (off + ds.length) = cells.drop (off + ds.length) := by
  rw [← hl]
  have : (cells.take off ++ cs).length = off + cs.length := by simp; omega
  rw [List.drop_left' this]
 rw [e1, e2]
theorem jD {cells cs : List C} {off : Nat} (h : off + cs.length ≤ cells.length) : (splice cells off cs).length = cells.length := by
 unfold splice
 simp
 omega
structure IsProd (p q m : List Rat) : Prop where
 ev : ∀ x, ev m x = ev p x * ev q x
 len : m.length ≤ p.length + q.length - 1
 nil : p = [] ∨ q = [] → m = []
 top : Top m
theorem IsProd.none {p q : List Rat} (h : p = [] ∨ q = []) : IsProd p q [] := by
 refine ⟨fun x => ?_, by simp, fun _ => rfl, fun h => absurd h (by simp)⟩
 rcases h with rfl | rfl <;> simp only [Go.Proofs.YtokckcnfojjpjaaGreat.ev] <;> grind
theorem pow_add' (x : Rat) (i : Nat) : ∀ j, x ^ (i + j) = x ^ i * x ^ j
 | 0 => by rw [Nat.add_zero, Rat.pow_zero]; grind
 | j + 1 => by
  rw [← Nat.add_assoc, Rat.pow_succ, Rat.pow_succ, pow_add' x i j]
  grind
theorem getD_lt {l : List Rat} {i : Nat} (h : i < l.length) : l.getD i 0 = l[i] := by simp [h]
structure Row (p q : List Rat) (i k : Nat) (L : List Rat) : Prop where
 ev : ∀ x, ev L x = ev (p.take i) x * ev q x + x ^ i * (p.getD i 0 * ev (q.take k) x)
theorem Row.step {p q L : List Rat} {i k : Nat} (h : Row p q i k L) (hi : i < p.length) (hk : k < q.length) (hL : i + k < L.length) : Row p q i (k + 1) (L.set (i + k) (L[i + k] + p[i] * q[k])) := ⟨fun x => by
 rw [ev_set hL, h.ev x, ev_take hk, pow_add', getD_lt hi]
 grind⟩
theorem Row.next {p q L : List Rat} {i : Nat} (h : Row p q i q.length L) (hi : i < p.length) : Row p q (i + 1) 0 L := ⟨fun x => by
 rw [h.ev x, ev_take hi, List.take_length, List.take_zero, getD_lt hi]
 simp only [Go.Proofs.YtokckcnfojjpjaaGreat.ev]
 grind⟩
theorem Row.done {p q L : List Rat} (h : Row p q p.length 0 L) (x : Rat) : Go.Proofs.YtokckcnfojjpjaaGreat.ev L x = Go.Proofs.YtokckcnfojjpjaaGreat.ev p x * Go.Proofs.YtokckcnfojjpjaaGreat.ev q x := by
 rw [h.ev x, List.take_length, List.take_zero]
 simp only [Go.Proofs.YtokckcnfojjpjaaGreat.ev]
 grind
theorem Els.up {k m : Nat} {ds : List C} {l : List Rat} (h : Els (elQ k) ds l) (hk : k ≤ m) : Els (elQ m) ds l := h.mono (fun _ _ h => IQ.up h hk)
theorem Ls.up {k m : Nat} {c : C} {l : List Rat} (h : Ls (elQ k) c l) (hk : k ≤ m) : Ls (elQ m) c l := h.mono (fun _ _ h => IQ.up h hk)
attribute [local irreducible] yA semH semC qLen qNil qIad qSlc qIdx yW yL xD appX appI slcX awpF yP xI xopF xR qval lval seqQ xL wJ wI xW cnd arith IntKind.wrap
end Go.Proofs.YtokckcnfojjpjaaGreat

set_option linter.unusedVariables false
set_option linter.unusedSimpArgs false
namespace Go.Proofs.YtokckcnfojjpjaaGreat
open Go.RowKit
set_option maxRecDepth 20000
section
variable {α : Type} {E : El α}
theorem Out.grow {el : TypeId} {m : Nat} {H X : Hp} {c : C} {l : List α} (h : Out E el m H c l) : Out E el m (H ++ X) c l := by
 cases h with
 | nil => exact .nil
 | sl hm hb hn hc h => exact .sl hm (by rw [List.getElem?_append_left (lt_of_getElem? hb)]; exact hb) hn hc h
theorem app_imm {F R : Hp} {el : TypeId} {es bytes : Nat} {s x : Option V} {K : V → Hp → Prop} {c : C} {out : List α} {cs : List C} {a : α} {H : Hp} (hH : H = F ++ R) (ho : Out E el F.length (F ++ R) c out) (hs : s = some (.c c)) (hx : x = some (.c (.imm 1 cs))) (he : E.s = es) (ha : E.p cs a) (hl : (out.length + 1) * bytes ≤ 140737488355328 ∧ out.length + 1 ≤ 140737488355328)
  (k : ∀ R' c', Out E el F.length (F ++ R') c' (out ++ [a]) → K (.c c') (F ++ R')) : appX H el es bytes s x K := by
 subst hH hs hx he
 have hlen := E.len ha
 have hxs : sQ (F ++ R) E.s (.imm 1 cs) = some cs := by
  simp only [sQ]
  rw [Nat.one_mul, List.take_of_length_le (Nat.le_of_eq hlen)]
 cases ho with
 | nil =>
  simp only [appX, hxs, slLen]
  refine xH (by simp [hlen]) (jK rfl (xH ?_ ?_))
  ·simp only [List.length_nil, Nat.zero_add] at hl
   simp only [Bool.and_eq_true, yH]
   exact hl
  ·have := k (R ++ [.live ⟨cs, el, .rw⟩]) (.sl (F ++ R).length 0 1 none E.s) (.sl (cells := cs) (ds := cs) (by simp) (by rw [← List.append_assoc]; exact yJ _ _) rfl (by simp only [List.nil_append, List.length_cons, List.length_nil, Nat.zero_add, Nat.one_mul, List.take_of_length_le (Nat.le_of_eq hlen)]) (.one ha))
   rw [← List.append_assoc] at this
   exact this
 | @sl b n co' cells ds l hm hb hn hc h =>
  subst hn
  have hdl : (cells.take (out.length * E.s)).length = out.length * E.s := by rw [hc]; exact h.len
  have hle : out.length * E.s ≤ cells.length := by
   rw [List.length_take] at hdl
   omega
  have hlt := lt_of_getElem? hb
  refine app_sl (cs := cells) (xs := cs) (m := 1) rfl rfl hxs rfl (by rw [hlen, Nat.one_mul]) hb hle hl.1 hl.2 ?_
  have e : (F ++ R).set b .dead = F ++ R.set (b - F.length) .dead := List.set_append_right _ _ hm
  have e' : (F ++ R).length = (F ++ R.set (b - F.length) .dead).length := by simp
  rw [e, e', List.append_assoc]
  refine k _ _ (.sl (cells := cells.take (out.length * E.s) ++ cs) (ds := ds ++ cs) (by simp) (by rw [← List.append_assoc]; exact yJ _ _) (by simp) ?_ (h.snoc ha))
  rw [hc]
  exact List.take_of_length_le (by rw [List.length_append, h.len, hlen]; simp [Nat.add_mul])
end
attribute [local irreducible] yA semH semC qLen qNil qIad qSlc qIdx yW yL xD appX appI slcX awpF yP xI xopF xR qval lval seqQ xL wJ wI xW cnd arith IntKind.wrap
end Go.Proofs.YtokckcnfojjpjaaGreat

set_option linter.unusedVariables false
set_option linter.unusedSimpArgs false
namespace Go.Proofs.YtokckcnfojjpjaaGreat
open Go.RowKit
set_option maxRecDepth 20000
noncomputable def outsR (m : List Rat) : List R2 × Bool := bif dec (∀ q ∈ m, fitR (rp q) = true) then (m.map rp, true) else ([], false)
def OutsK (m : List Rat) (u : V) : Prop := ∃ c, Ls elP c (outsR m).1 ∧ u = .tup [.c c, .c (.bool (outsR m).2)]
theorem OutsK.no {m : List Rat} {q : Rat} {H : Hp} (hq : q ∈ m) (h : fitR (rp q) = false) : ∃ d, FzV H (.tup [.c .nilSl, .c (.bool false)]) d ∧ OutsK m d := by
 refine ⟨_, .tup (.cons (.c (.hf trivial)) (.cons (.c (.hf trivial)) .nil)), .nilSl, ?_⟩
 unfold outsR
 rw [yM.2 (fun h2 => by have := h2 q hq; rw [h] at this; cases this)]
 exact ⟨.nil, rfl⟩
theorem OutsK.yes {m : List Rat} {c : C} {H : Hp} {d : C} (h : ∀ q ∈ m, fitR (rp q) = true) (hf : Fz (· ≠ .bor) H c d) (hc : Ls elP d (m.map rp)) : ∃ d, FzV H (.tup [.c c, .c (.bool true)]) d ∧ OutsK m d := by
 refine ⟨_, .tup (.cons (.c hf) (.cons (.c (.hf trivial)) .nil)), d, ?_⟩
 unfold outsR
 rw [yH.2 h]
 exact ⟨hc, rfl⟩
abbrev Tm := R2 × List Int
abbrev Pl := List Tm
def vE : Nat := 9223372036854775808
def elI : El Int := ⟨fun cs n => cs = [iC n] ∧ -9223372036854775808 ≤ n ∧ n < 9223372036854775808, 1, fun h => by rw [h.1]; rfl, fun h => by rw [h.1]; exact ⟨trivial, trivial⟩⟩
def elT : El Tm := ⟨fun cs t => ∃ c, cs = ratC t.1 ++ [c] ∧ Ls elI c t.2 ∧ t.2.length < vE, 3, fun h => by obtain ⟨c, rfl, _⟩ := h; rfl, fun h => by obtain ⟨c, rfl, h, _⟩ := h; exact ⟨trivial, trivial, h.hf, trivial⟩⟩
def elM : El Pl := ⟨fun cs p => ∃ c, cs = [c] ∧ Ls elT c p ∧ p.length < vE, 1, fun h => by obtain ⟨c, rfl, _⟩ := h; rfl, fun h => by obtain ⟨c, rfl, h, _⟩ := h; exact ⟨h.hf, trivial⟩⟩
theorem tC {c : C} {l : List Int} {n i : Nat} {K : V → Prop} (hc : Ls elI c l) (hi : i < l.length) (hn : n = i) (k : -9223372036854775808 ≤ l[i] → l[i] < 9223372036854775808 → K (.c (iC l[i]))) : yL (c.ds.drop (n * 1)) false 1 K := by
 subst hn
 obtain ⟨cs, r, ⟨rfl, h1, h2⟩, h⟩ := hc.els.get hi
 have h : c.ds.drop (n * 1) = [iC l[n]] ++ r := h
 rw [h]
 exact k h1 h2
attribute [local irreducible] yA semH semC qLen qNil qIad qSlc qIdx yW yL xD appX appI slcX awpF yP xI xopF xR qval lval seqQ xL wJ wI xW cnd arith IntKind.wrap
theorem jQ {c : C} {l : List R2} (hc : Ls elP c l) (hl : l.length < 9223372036854775808) : semC Tryz.prog n_num_AllValid [.c c] (sU (pB l)) := by
 refine yD ok_num_AllValid rfl (show HFVs [.c c] from ⟨hc.hf, trivial⟩) ?_
 refine go5 ?_
 refine yT (fun n vs H => ∃ i : Nat, vs = [.c c, i64 l.length, i64 i] ∧ n = l.length - i ∧ i ≤ l.length ∧ pB (l.take i)) (by rfl) ⟨0, rfl, rfl, by omega, by intro p hp; simp at hp⟩ ?_
 rintro n vs H ⟨i, rfl, rfl, h1, h2⟩
 refine go5 ?_
 cases hq : yA Cm.lss (i : Int) (l.length : Int)
 ·simp [yA] at hq
  have ei : i = l.length := by omega
  subst ei
  rw [List.take_length] at h2
  refine go5 ?_
  exact sU.fz ⟨fun _ => h2, fun _ => rfl⟩
 ·simp [yA] at hq
  refine go5 ?_
  refine qD hc hq (by omega) rfl (fun cs hcs => ?_)
  obtain rfl := hcs
  refine go5 ?_
  refine yB (pL l[i].1 l[i].2) (fun u hu => ?_)
  obtain ⟨z, rfl, hz⟩ := hu
  cases z
  ·refine go5 ?_
   exact sU.fz ⟨fun h => (by cases h), fun h => absurd (hz.2 (h _ (vH hq))) (by decide)⟩
  ·refine go5 ?_
   rw [xV i (by omega)]
   exact l_n (by rfl) (by omega) ⟨i + 1, rfl, rfl, by omega, h2.step hq (hz.1 rfl)⟩
theorem q_Pow {k : Nat} {cs : List C} {x : Rat} (n : Nat) (hx : IQ k cs x) (hn : n < 1024) (hk : n * k + 1 ≤ 134217727) : semC Tryz.prog n_num_Q_Pow [.agg cs, i64 n] (QV (n * k + 1) (x ^ n)) := by
 refine yD ok_num_Q_Pow rfl (show HFVs [.agg cs, i64 n] from ⟨hx.hf, trivial, trivial⟩) ?_
 obtain ⟨a, b, c, d, e, f, rfl⟩ := id hx.six
 refine go2 ?_
 refine c_f (by simp [yA]) ?_
 refine go2 ?_
 refine yB (vG (g := 1) (by decide)) (fun u hu => ?_)
 obtain ⟨es, rfl, h1⟩ := hu
 obtain ⟨_, _, _, _, _, _, rfl⟩ := id h1.six
 refine go2 ?_
 simp only [tN, tM, ratC, tY, tX, List.set_cons_zero, List.set_cons_succ, List.nil_append, List.cons_append, List.append_nil, List.replicate_succ, List.replicate_zero, List.length_cons, List.length_nil, splice, List.take_succ_cons, List.take_zero, List.drop_succ_cons, List.drop_zero, List.take_nil, List.drop_nil, Nat.zero_add, Nat.reduceAdd, Nat.reduceMul, Int.reduceToNat, wF, List.getElem?_cons_succ, List.getElem?_cons_zero]
 refine yT (fun m vs H => ∃ (i : Nat) (es : List C), vs = [.c (.ptr 0 0), .c (.ptr 1 0), .c (.ptr 2 0), i64 n, i64 i] ∧ H = [.live ⟨[a, b, c, d, e, f], yZ, .rw⟩, .live ⟨bH, yZ, .rw⟩, .live ⟨es, yZ, .rw⟩] ∧ m = n - i ∧ i ≤ n ∧ IQ (i * k + 1) es (x ^ i)) (by rfl) ⟨0, _, rfl, rfl, rfl, by omega, by rw [Nat.zero_mul, Rat.pow_zero]; exact h1⟩ ?_
 clear h1
 rintro m vs H ⟨i, es, rfl, rfl, rfl, h2, h3⟩
 obtain ⟨_, _, _, _, _, _, rfl⟩ := id h3.six
 refine go2 ?_
 cases hq : yA Cm.lss (i : Int) (n : Int)
 ·simp [yA] at hq
  have ei : i = n := by omega
  subst ei
  refine go2 ?_
  exact QV.fz h3
 ·simp [yA] at hq
  have hle := Nat.mul_le_mul_right k (show i + 1 ≤ n from hq)
  rw [Nat.succ_mul] at hle
  refine go2 ?_
  refine yB (uC h3 hx (by omega)) (fun u hu => ?_)
  obtain ⟨gs, rfl, j1⟩ := hu
  obtain ⟨_, _, _, _, _, _, rfl⟩ := id j1.six
  refine go2 ?_
  rw [xV i (by omega)]
  refine l_n (by rfl) (by omega) ⟨i + 1, _, rfl, rfl, rfl, by omega, ?_⟩
  rw [Rat.pow_succ, Nat.succ_mul]
  exact j1.up (by omega)
theorem num_Outs {k : Nat} {c : C} {m : List Rat} (hc : Ls (elQ k) c m) (hm : m.length < 1048576) : semC Tryz.prog n_num_Outs [.c c] (OutsK m) := by
 refine yD ok_num_Outs rfl (show HFVs [.c c] from ⟨hc.hf, trivial⟩) ?_
 refine go5 ?_
 refine vT (by rfl) (by rfl) ⟨by omega, by omega, by omega, by omega⟩ ?_
 refine go5 ?_
 simp only [tN, tM, ratC, tY, tX, List.set_cons_zero, List.set_cons_succ, List.nil_append, List.cons_append, List.append_nil, List.replicate_succ, List.replicate_zero, List.length_cons, List.length_nil, splice, List.take_succ_cons, List.take_zero, List.drop_succ_cons, List.drop_zero, List.take_nil, List.drop_nil, Nat.zero_add, Nat.reduceAdd, Nat.reduceMul, Int.reduceToNat, wF, List.getElem?_cons_succ, List.getElem?_cons_zero]
 refine yT (fun w vs H => ∃ (i : Nat) (cells : List C) (R : Hp), vs = [.c (.sl 0 0 m.length (some m.length) 2), .c c, i64 m.length, i64 i] ∧ H = .live ⟨cells, sM, .rw⟩ :: R ∧ w = m.length - i ∧ i ≤ m.length ∧ Fill elP (ratC (0, 0)) m.length cells ((m.take i).map rp) ∧ ∀ q ∈ m.take i, fitR (rp q) = true) (by rfl) ⟨0, _, _, rfl, rfl, rfl, by omega, .zero rfl, by simp⟩ ?_
 rintro w vs H ⟨i, cells, R, rfl, rfl, rfl, h1, h2, h3⟩
 have hcl : cells.length = m.length * 2 := h2.len
 have htl : ((m.take i).map rp).length = i := by simp; omega
 refine go5 ?_
 cases hi : yA Cm.lss (i : Int) (m.length : Int)
 case false =>
  simp [yA] at hi
  have ei : i = m.length := by omega
  subst ei
  rw [List.take_length] at h2 h3
  have h4 := h2.done (by simp)
  have h5 := Ls.imm h4
  rw [List.length_map] at h5
  refine go5 ?_
  exact OutsK.yes h3 (fz_sl (bx := ⟨cells, sM, .rw⟩) (ds := cells) (by rfl) (by simp) (by simp) (by rw [List.drop_zero, List.take_of_length_le (by simp only; omega)]) h4.hf) h5
 simp [yA] at hi
 refine go5 ?_
 refine qD hc (i := i) hi (by omega) rfl (fun cs hcs => ?_)
 obtain ⟨q1, q2, q3, q4, q5, q6, rfl⟩ := id (show IQ k _ _ from hcs).six
 refine go5 ?_
 first | refine yE (pM (show IQ k _ _ from hcs).is (pS m[i])) (fun u hu => ?_) | refine yB (pM (show IQ k _ _ from hcs).is (pS m[i])) (fun u hu => ?_)
 obtain rfl := hu
 unfold outV
 cases hf : fitR (rp m[i])
 case false =>
  refine go5 ?_
  exact OutsK.no (vH hi) hf
 have h4 := h2.put (cs := ratC (rp m[i])) (a := rp m[i]) (by rw [htl]; omega) rfl
 rw [htl, show (m.take i).map rp ++ [rp m[i]] = (m.take (i + 1)).map rp by rw [vD hi, List.map_append]; rfl] at h4
 have h5 : ∀ q ∈ m.take (i + 1), fitR (rp q) = true := fun q hq => by
  rw [vD hi] at hq
  rcases List.mem_append.1 hq with hq | hq
  ·exact h3 q hq
  ·simp at hq
   subst hq
   exact hf
 refine go5 ?_
 rw [xV i (by omega)]
 exact l_n (by rfl) (n' := m.length - (i + 1)) (by omega) ⟨i + 1, _, _, rfl, rfl, rfl, by omega, by rw [show 0 + ((i : Nat) : Int).toNat * 2 = i * 2 by omega]; exact h4, h5⟩
end Go.Proofs.YtokckcnfojjpjaaGreat

set_option linter.unusedVariables false
set_option linter.unusedSimpArgs false
namespace Go.Proofs.YtokckcnfojjpjaaGreat
open Go.RowKit
set_option maxRecDepth 20000
theorem xQ (R S : Hp) (a b : Slot) : ((R ++ a :: S) ++ [b])[R.length]? = some a := by simp
theorem xP (R S : Hp) (a : Slot) : (R ++ a :: S)[R.length]? = some a := by simp
def cmpI (a b : Int) : Int := if a < b then -1 else if b < a then 1 else 0
def lexI : List Int → List Int → Int
 | [], [] => 0
 | [], _ :: _ => -1
 | _ :: _, [] => 1
 | a :: l, b :: m => if a < b then -1 else if b < a then 1 else lexI l m
theorem lex_same {a : Int} {l m : List Int} : lexI (a :: l) (a :: m) = lexI l m := by simp [lexI]
theorem lex_drop {X Y : List Int} {i : Nat} (h1 : i < X.length) (h2 : i < Y.length) (h : X[i] = Y[i]) : lexI (X.drop i) (Y.drop i) = lexI (X.drop (i + 1)) (Y.drop (i + 1)) := by
 rw [List.drop_eq_getElem_cons h1, List.drop_eq_getElem_cons h2, h, lex_same]
theorem lex_diff {X Y : List Int} {i : Nat} (h1 : i < X.length) (h2 : i < Y.length) (h : cmpI X[i] Y[i] ≠ 0) : lexI (X.drop i) (Y.drop i) = cmpI X[i] Y[i] := by
 rw [List.drop_eq_getElem_cons h1, List.drop_eq_getElem_cons h2]
 unfold cmpI at *
 simp only [lexI]
 by_cases a : X[i] < Y[i]
 ·simp [a]
 ·by_cases b : Y[i] < X[i]
  ·simp [a, b]
  ·simp [a, b] at h
theorem cmp_zero {a b : Int} (h : cmpI a b = 0) : a = b := by
 unfold cmpI at h
 by_cases h1 : a < b
 ·simp [h1] at h
 ·by_cases h2 : b < a
  ·simp [h1, h2] at h
  ·omega
theorem go11 {A B : Prop} (k : B) (h : Held B → A := by
 intro hgo
 repeat (first | (refine g_o ?_; first | (refine o_some ?_; try (first | (refine x_q (by rfl) ?_; try (first | refine q_mv (by rfl) ?_ | refine wO (by rfl) ?_ | (refine uO ?_; try (first | refine uD (by rfl) (by assumption) ?_ | refine vA (by rfl) (by assumption) ?_ | refine vB (by rfl) ?_ | refine xY (by rfl) ?_ | refine xX (by rfl) ?_)) | (refine uQ ?_; try (first | refine uE (by rfl) (by rfl) (by assumption) (by omega) (by omega) ?_ | refine wS (by rfl) (by rfl) (by assumption) (by omega) (by omega) ?_ | refine wW (by rfl) (by rfl) (by decide) (by decide) ?_ | refine yG (by rfl) (by rfl) (by decide) (by decide) ?_ | refine wM (by rfl) (by rfl) (by decide) (by decide) ?_ | refine yG (by rfl) (by rfl) (by omega) (by omega) ?_)) | refine q_cm (by rfl) (by rfl) ?_ | refine q_ar (by rfl) (by rfl) (by rfl) ?_ | refine vJ (by rfl) ?_ | (refine uU ?_; try (first | refine wG (by rfl) ?_ | refine wH (by rfl) ?_ | refine vC (by rfl) ?_)) | refine uT (by rfl) (by rfl) ?_ | refine wN (by rfl) ?_ | refine wP (by rfl) ?_ | refine uK (by rfl) (by rfl) (by first | decide | omega) ?_ | refine uJ (by rfl) (by rfl) (by first | decide | omega) ?_ | refine uV (by rfl) (by rfl) ?_ | refine uW (by rfl) (by rfl) (by rfl) ?_ | refine uM (by rfl) ?_ | refine uL (by rfl) ?_ | refine xZ (by rfl) (by rfl) ?_ | refine wA (by rfl) (by rfl) ?_ | refine uI ?_ | refine uP ?_ | refine uS (by rfl) (by rfl) ?_ | refine vI (by rfl) (by rfl) ?_ | refine wC (by rfl) ?_ | refine q_mx (by rfl) (by rfl) ?_ | refine q_mn (by rfl) (by rfl) ?_ | refine uN (by rfl) (by rfl) (by rfl) ?_ | refine uR (by rfl) ?_ | refine vK (by rfl) ?_ | refine vL (by rfl) ?_ | refine wB (by rfl) ?_ | refine wQ (by rfl) (by rfl) ?_ | refine wR (by rfl) (by rfl) ?_)) | (refine gB ?_; try (first | (refine uX (by rfl) ?_; try (first | refine yN (by rfl) (by rfl) ?_ | refine yI (by rfl) (by rfl) ?_ | refine yN (yJ _ _) (by rfl) ?_ | refine yI (yJ _ _) (by rfl) ?_ | refine yN (xQ _ _ _ _) (by rfl) ?_ | refine yI (xQ _ _ _ _) (by rfl) ?_ | refine yN (xP _ _ _) (by rfl) ?_ | refine yI (xP _ _ _) (by rfl) ?_)) | (refine uY (by rfl) ?_; try (first | refine tC (by assumption) (by omega) (by omega) (fun _ _ => ?_) | refine vS (by omega) (by omega) ?_ | refine xN (Nat.le_of_ble_eq_true (by rfl)) ?_ | refine yS (by rfl) (by rfl) (by rfl) (by omega) ?_)))) | refine uZ (by rfl) (by rfl) (by rfl) (by rfl) (Nat.le_of_ble_eq_true (by rfl)) ?_ | (refine qO (by rfl) (by rfl) ?_; try (first | refine yS (by rfl) (by rfl) (by rfl) (Nat.le_of_ble_eq_true (by rfl)) ?_ | refine yS (by rfl) (by rfl) (by rfl) (by omega) ?_)) | refine pQ (by rfl) (by rfl) ?_ | refine x_box (by rfl) (by rfl) ?_ | refine pE ?_ | refine x_frzSl (by rfl) ?_ | refine bJ ?_ | refine gA ?_ | refine pC ?_ | refine pD (by rfl) (by rfl) (by rfl) (by rfl) ?_ | refine sT (by rfl) (by rfl) (by rfl) ?_)) | (refine o_nil ?_; try (first | refine s_n ?_ | refine s_r ?_ | refine s_e ?_ | refine k_n ?_ | refine k_r ?_ | refine k_e (by rfl) ?_ | refine k_o (by rfl) ?_ | refine l_r ?_ | refine l_e ?_ | refine b_r ?_ | refine b_n ?_)) | refine o_guard (by rfl) ?_ | refine bO (by rfl) ?_ | refine o_none ?_ | refine bP (by rfl) ?_) | (refine g_f ?_; first | refine f_seq ?_ | refine f_reg ?_ | (refine f_cond (by rfl) ?_; try (first | refine c_t (by rfl) ?_ | refine c_f (by rfl) ?_)) | refine f_block ?_ | refine f_skip ?_ | refine f_ret ?_ | refine f_exit ?_ | refine f_regD0 ?_ | refine f_regD ?_) | (refine g_s ?_; first | refine s_n ?_ | refine s_r ?_ | refine s_e ?_) | (refine g_d ?_; first | refine d_late (T := none) (by rfl) (by rfl) (by rfl) (by rfl) ?_ | (refine pX (T := none) (by rfl) (by rfl) ?_; try (first | (refine xd_q (by rfl) ?_; try (first | refine q_mv (by rfl) ?_ | refine wO (by rfl) ?_ | (refine uO ?_; try (first | refine uD (by rfl) (by assumption) ?_ | refine vA (by rfl) (by assumption) ?_ | refine vB (by rfl) ?_ | refine xY (by rfl) ?_ | refine xX (by rfl) ?_)) | (refine uQ ?_; try (first | refine uE (by rfl) (by rfl) (by assumption) (by omega) (by omega) ?_ | refine wS (by rfl) (by rfl) (by assumption) (by omega) (by omega) ?_ | refine wW (by rfl) (by rfl) (by decide) (by decide) ?_ | refine yG (by rfl) (by rfl) (by decide) (by decide) ?_ | refine wM (by rfl) (by rfl) (by decide) (by decide) ?_ | refine yG (by rfl) (by rfl) (by omega) (by omega) ?_)) | refine q_cm (by rfl) (by rfl) ?_ | refine q_ar (by rfl) (by rfl) (by rfl) ?_ | refine vJ (by rfl) ?_ | (refine uU ?_; try (first | refine wG (by rfl) ?_ | refine wH (by rfl) ?_ | refine vC (by rfl) ?_)) | refine uT (by rfl) (by rfl) ?_ | refine wN (by rfl) ?_ | refine wP (by rfl) ?_ | refine uK (by rfl) (by rfl) (by first | decide | omega) ?_ | refine uJ (by rfl) (by rfl) (by first | decide | omega) ?_ | refine uV (by rfl) (by rfl) ?_ | refine uW (by rfl) (by rfl) (by rfl) ?_ | refine uM (by rfl) ?_ | refine uL (by rfl) ?_ | refine xZ (by rfl) (by rfl) ?_ | refine wA (by rfl) (by rfl) ?_ | refine uI ?_ | refine uP ?_ | refine uS (by rfl) (by rfl) ?_ | refine vI (by rfl) (by rfl) ?_ | refine wC (by rfl) ?_ | refine q_mx (by rfl) (by rfl) ?_ | refine q_mn (by rfl) (by rfl) ?_ | refine uN (by rfl) (by rfl) (by rfl) ?_ | refine uR (by rfl) ?_ | refine vK (by rfl) ?_ | refine vL (by rfl) ?_ | refine wB (by rfl) ?_ | refine wQ (by rfl) (by rfl) ?_ | refine wR (by rfl) (by rfl) ?_)) | (refine tV ?_; try (first | (refine uX (by rfl) ?_; try (first | refine yN (by rfl) (by rfl) ?_ | refine yI (by rfl) (by rfl) ?_ | refine yN (yJ _ _) (by rfl) ?_ | refine yI (yJ _ _) (by rfl) ?_ | refine yN (xQ _ _ _ _) (by rfl) ?_ | refine yI (xQ _ _ _ _) (by rfl) ?_ | refine yN (xP _ _ _) (by rfl) ?_ | refine yI (xP _ _ _) (by rfl) ?_)) | (refine uY (by rfl) ?_; try (first | refine tC (by assumption) (by omega) (by omega) (fun _ _ => ?_) | refine vS (by omega) (by omega) ?_ | refine xN (Nat.le_of_ble_eq_true (by rfl)) ?_ | refine yS (by rfl) (by rfl) (by rfl) (by omega) ?_)))) | refine wX (by rfl) (by rfl) (by rfl) (by rfl) (Nat.le_of_ble_eq_true (by rfl)) ?_ | (refine vZ (by rfl) (by rfl) ?_; try (first | refine yS (by rfl) (by rfl) (by rfl) (Nat.le_of_ble_eq_true (by rfl)) ?_ | refine yS (by rfl) (by rfl) (by rfl) (by omega) ?_)) | refine tW (by rfl) (by rfl) ?_ | refine sY (by rfl) (by rfl) (by rfl) ?_ | refine uA (by rfl) ?_ | refine pP (by rfl) ?_)) | (refine pX (by rfl) (by rfl) ?_; try (first | (refine xd_q (by rfl) ?_; try (first | refine q_mv (by rfl) ?_ | refine wO (by rfl) ?_ | (refine uO ?_; try (first | refine uD (by rfl) (by assumption) ?_ | refine vA (by rfl) (by assumption) ?_ | refine vB (by rfl) ?_ | refine xY (by rfl) ?_ | refine xX (by rfl) ?_)) | (refine uQ ?_; try (first | refine uE (by rfl) (by rfl) (by assumption) (by omega) (by omega) ?_ | refine wS (by rfl) (by rfl) (by assumption) (by omega) (by omega) ?_ | refine wW (by rfl) (by rfl) (by decide) (by decide) ?_ | refine yG (by rfl) (by rfl) (by decide) (by decide) ?_ | refine wM (by rfl) (by rfl) (by decide) (by decide) ?_ | refine yG (by rfl) (by rfl) (by omega) (by omega) ?_)) | refine q_cm (by rfl) (by rfl) ?_ | refine q_ar (by rfl) (by rfl) (by rfl) ?_ | refine vJ (by rfl) ?_ | (refine uU ?_; try (first | refine wG (by rfl) ?_ | refine wH (by rfl) ?_ | refine vC (by rfl) ?_)) | refine uT (by rfl) (by rfl) ?_ | refine wN (by rfl) ?_ | refine wP (by rfl) ?_ | refine uK (by rfl) (by rfl) (by first | decide | omega) ?_ | refine uJ (by rfl) (by rfl) (by first | decide | omega) ?_ | refine uV (by rfl) (by rfl) ?_ | refine uW (by rfl) (by rfl) (by rfl) ?_ | refine uM (by rfl) ?_ | refine uL (by rfl) ?_ | refine xZ (by rfl) (by rfl) ?_ | refine wA (by rfl) (by rfl) ?_ | refine uI ?_ | refine uP ?_ | refine uS (by rfl) (by rfl) ?_ | refine vI (by rfl) (by rfl) ?_ | refine wC (by rfl) ?_ | refine q_mx (by rfl) (by rfl) ?_ | refine q_mn (by rfl) (by rfl) ?_ | refine uN (by rfl) (by rfl) (by rfl) ?_ | refine uR (by rfl) ?_ | refine vK (by rfl) ?_ | refine vL (by rfl) ?_ | refine wB (by rfl) ?_ | refine wQ (by rfl) (by rfl) ?_ | refine wR (by rfl) (by rfl) ?_)) | (refine tV ?_; try (first | (refine uX (by rfl) ?_; try (first | refine yN (by rfl) (by rfl) ?_ | refine yI (by rfl) (by rfl) ?_ | refine yN (yJ _ _) (by rfl) ?_ | refine yI (yJ _ _) (by rfl) ?_ | refine yN (xQ _ _ _ _) (by rfl) ?_ | refine yI (xQ _ _ _ _) (by rfl) ?_ | refine yN (xP _ _ _) (by rfl) ?_ | refine yI (xP _ _ _) (by rfl) ?_)) | (refine uY (by rfl) ?_; try (first | refine tC (by assumption) (by omega) (by omega) (fun _ _ => ?_) | refine vS (by omega) (by omega) ?_ | refine xN (Nat.le_of_ble_eq_true (by rfl)) ?_ | refine yS (by rfl) (by rfl) (by rfl) (by omega) ?_)))) | refine wX (by rfl) (by rfl) (by rfl) (by rfl) (Nat.le_of_ble_eq_true (by rfl)) ?_ | (refine vZ (by rfl) (by rfl) ?_; try (first | refine yS (by rfl) (by rfl) (by rfl) (Nat.le_of_ble_eq_true (by rfl)) ?_ | refine yS (by rfl) (by rfl) (by rfl) (by omega) ?_)) | refine tW (by rfl) (by rfl) ?_ | refine sY (by rfl) (by rfl) (by rfl) ?_ | refine uA (by rfl) ?_ | refine pP (by rfl) ?_)) | (refine d_nil ?_; try (first | refine s_n ?_ | refine s_r ?_ | refine s_e ?_ | refine k_n ?_ | refine k_r ?_ | refine k_e (by rfl) ?_ | refine k_o (by rfl) ?_ | refine l_r ?_ | refine l_e ?_ | refine b_r ?_ | refine b_n ?_)) | refine d_none (by rfl) (by rfl) ?_ | refine d_guard (by rfl) (by rfl) (by rfl) ?_) | (refine g_x ?_; first | (refine x_q (by rfl) ?_; try (first | refine q_mv (by rfl) ?_ | refine wO (by rfl) ?_ | (refine uO ?_; try (first | refine uD (by rfl) (by assumption) ?_ | refine vA (by rfl) (by assumption) ?_ | refine vB (by rfl) ?_ | refine xY (by rfl) ?_ | refine xX (by rfl) ?_)) | (refine uQ ?_; try (first | refine uE (by rfl) (by rfl) (by assumption) (by omega) (by omega) ?_ | refine wS (by rfl) (by rfl) (by assumption) (by omega) (by omega) ?_ | refine wW (by rfl) (by rfl) (by decide) (by decide) ?_ | refine yG (by rfl) (by rfl) (by decide) (by decide) ?_ | refine wM (by rfl) (by rfl) (by decide) (by decide) ?_ | refine yG (by rfl) (by rfl) (by omega) (by omega) ?_)) | refine q_cm (by rfl) (by rfl) ?_ | refine q_ar (by rfl) (by rfl) (by rfl) ?_ | refine vJ (by rfl) ?_ | (refine uU ?_; try (first | refine wG (by rfl) ?_ | refine wH (by rfl) ?_ | refine vC (by rfl) ?_)) | refine uT (by rfl) (by rfl) ?_ | refine wN (by rfl) ?_ | refine wP (by rfl) ?_ | refine uK (by rfl) (by rfl) (by first | decide | omega) ?_ | refine uJ (by rfl) (by rfl) (by first | decide | omega) ?_ | refine uV (by rfl) (by rfl) ?_ | refine uW (by rfl) (by rfl) (by rfl) ?_ | refine uM (by rfl) ?_ | refine uL (by rfl) ?_ | refine xZ (by rfl) (by rfl) ?_ | refine wA (by rfl) (by rfl) ?_ | refine uI ?_ | refine uP ?_ | refine uS (by rfl) (by rfl) ?_ | refine vI (by rfl) (by rfl) ?_ | refine wC (by rfl) ?_ | refine q_mx (by rfl) (by rfl) ?_ | refine q_mn (by rfl) (by rfl) ?_ | refine uN (by rfl) (by rfl) (by rfl) ?_ | refine uR (by rfl) ?_ | refine vK (by rfl) ?_ | refine vL (by rfl) ?_ | refine wB (by rfl) ?_ | refine wQ (by rfl) (by rfl) ?_ | refine wR (by rfl) (by rfl) ?_)) | (refine gB ?_; try (first | (refine uX (by rfl) ?_; try (first | refine yN (by rfl) (by rfl) ?_ | refine yI (by rfl) (by rfl) ?_ | refine yN (yJ _ _) (by rfl) ?_ | refine yI (yJ _ _) (by rfl) ?_ | refine yN (xQ _ _ _ _) (by rfl) ?_ | refine yI (xQ _ _ _ _) (by rfl) ?_ | refine yN (xP _ _ _) (by rfl) ?_ | refine yI (xP _ _ _) (by rfl) ?_)) | (refine uY (by rfl) ?_; try (first | refine tC (by assumption) (by omega) (by omega) (fun _ _ => ?_) | refine vS (by omega) (by omega) ?_ | refine xN (Nat.le_of_ble_eq_true (by rfl)) ?_ | refine yS (by rfl) (by rfl) (by rfl) (by omega) ?_)))) | refine uZ (by rfl) (by rfl) (by rfl) (by rfl) (Nat.le_of_ble_eq_true (by rfl)) ?_ | (refine qO (by rfl) (by rfl) ?_; try (first | refine yS (by rfl) (by rfl) (by rfl) (Nat.le_of_ble_eq_true (by rfl)) ?_ | refine yS (by rfl) (by rfl) (by rfl) (by omega) ?_)) | refine pQ (by rfl) (by rfl) ?_ | refine x_box (by rfl) (by rfl) ?_ | refine pE ?_ | refine x_frzSl (by rfl) ?_ | refine bJ ?_ | refine gA ?_ | refine pC ?_ | refine pD (by rfl) (by rfl) (by rfl) (by rfl) ?_ | refine sT (by rfl) (by rfl) (by rfl) ?_) | (refine g_q ?_; first | refine q_mv (by rfl) ?_ | refine wO (by rfl) ?_ | (refine uO ?_; try (first | refine uD (by rfl) (by assumption) ?_ | refine vA (by rfl) (by assumption) ?_ | refine vB (by rfl) ?_ | refine xY (by rfl) ?_ | refine xX (by rfl) ?_)) | (refine uQ ?_; try (first | refine uE (by rfl) (by rfl) (by assumption) (by omega) (by omega) ?_ | refine wS (by rfl) (by rfl) (by assumption) (by omega) (by omega) ?_ | refine wW (by rfl) (by rfl) (by decide) (by decide) ?_ | refine yG (by rfl) (by rfl) (by decide) (by decide) ?_ | refine wM (by rfl) (by rfl) (by decide) (by decide) ?_ | refine yG (by rfl) (by rfl) (by omega) (by omega) ?_)) | refine q_cm (by rfl) (by rfl) ?_ | refine q_ar (by rfl) (by rfl) (by rfl) ?_ | refine vJ (by rfl) ?_ | (refine uU ?_; try (first | refine wG (by rfl) ?_ | refine wH (by rfl) ?_ | refine vC (by rfl) ?_)) | refine uT (by rfl) (by rfl) ?_ | refine wN (by rfl) ?_ | refine wP (by rfl) ?_ | refine uK (by rfl) (by rfl) (by first | decide | omega) ?_ | refine uJ (by rfl) (by rfl) (by first | decide | omega) ?_ | refine uV (by rfl) (by rfl) ?_ | refine uW (by rfl) (by rfl) (by rfl) ?_ | refine uM (by rfl) ?_ | refine uL (by rfl) ?_ | refine xZ (by rfl) (by rfl) ?_ | refine wA (by rfl) (by rfl) ?_ | refine uI ?_ | refine uP ?_ | refine uS (by rfl) (by rfl) ?_ | refine vI (by rfl) (by rfl) ?_ | refine wC (by rfl) ?_ | refine q_mx (by rfl) (by rfl) ?_ | refine q_mn (by rfl) (by rfl) ?_ | refine uN (by rfl) (by rfl) (by rfl) ?_ | refine uR (by rfl) ?_ | refine vK (by rfl) ?_ | refine vL (by rfl) ?_ | refine wB (by rfl) ?_ | refine wQ (by rfl) (by rfl) ?_ | refine wR (by rfl) (by rfl) ?_) | (refine g_c ?_; first | refine c_t (by rfl) ?_ | refine c_f (by rfl) ?_) | (refine g_k ?_; first | refine k_n ?_ | refine k_r ?_ | refine k_e (by rfl) ?_ | refine k_o (by rfl) ?_) | (refine g_lo ?_; first | refine l_r ?_ | refine l_e ?_) | (refine g_xd ?_; first | (refine xd_q (by rfl) ?_; try (first | refine q_mv (by rfl) ?_ | refine wO (by rfl) ?_ | (refine uO ?_; try (first | refine uD (by rfl) (by assumption) ?_ | refine vA (by rfl) (by assumption) ?_ | refine vB (by rfl) ?_ | refine xY (by rfl) ?_ | refine xX (by rfl) ?_)) | (refine uQ ?_; try (first | refine uE (by rfl) (by rfl) (by assumption) (by omega) (by omega) ?_ | refine wS (by rfl) (by rfl) (by assumption) (by omega) (by omega) ?_ | refine wW (by rfl) (by rfl) (by decide) (by decide) ?_ | refine yG (by rfl) (by rfl) (by decide) (by decide) ?_ | refine wM (by rfl) (by rfl) (by decide) (by decide) ?_ | refine yG (by rfl) (by rfl) (by omega) (by omega) ?_)) | refine q_cm (by rfl) (by rfl) ?_ | refine q_ar (by rfl) (by rfl) (by rfl) ?_ | refine vJ (by rfl) ?_ | (refine uU ?_; try (first | refine wG (by rfl) ?_ | refine wH (by rfl) ?_ | refine vC (by rfl) ?_)) | refine uT (by rfl) (by rfl) ?_ | refine wN (by rfl) ?_ | refine wP (by rfl) ?_ | refine uK (by rfl) (by rfl) (by first | decide | omega) ?_ | refine uJ (by rfl) (by rfl) (by first | decide | omega) ?_ | refine uV (by rfl) (by rfl) ?_ | refine uW (by rfl) (by rfl) (by rfl) ?_ | refine uM (by rfl) ?_ | refine uL (by rfl) ?_ | refine xZ (by rfl) (by rfl) ?_ | refine wA (by rfl) (by rfl) ?_ | refine uI ?_ | refine uP ?_ | refine uS (by rfl) (by rfl) ?_ | refine vI (by rfl) (by rfl) ?_ | refine wC (by rfl) ?_ | refine q_mx (by rfl) (by rfl) ?_ | refine q_mn (by rfl) (by rfl) ?_ | refine uN (by rfl) (by rfl) (by rfl) ?_ | refine uR (by rfl) ?_ | refine vK (by rfl) ?_ | refine vL (by rfl) ?_ | refine wB (by rfl) ?_ | refine wQ (by rfl) (by rfl) ?_ | refine wR (by rfl) (by rfl) ?_)) | (refine tV ?_; try (first | (refine uX (by rfl) ?_; try (first | refine yN (by rfl) (by rfl) ?_ | refine yI (by rfl) (by rfl) ?_ | refine yN (yJ _ _) (by rfl) ?_ | refine yI (yJ _ _) (by rfl) ?_ | refine yN (xQ _ _ _ _) (by rfl) ?_ | refine yI (xQ _ _ _ _) (by rfl) ?_ | refine yN (xP _ _ _) (by rfl) ?_ | refine yI (xP _ _ _) (by rfl) ?_)) | (refine uY (by rfl) ?_; try (first | refine tC (by assumption) (by omega) (by omega) (fun _ _ => ?_) | refine vS (by omega) (by omega) ?_ | refine xN (Nat.le_of_ble_eq_true (by rfl)) ?_ | refine yS (by rfl) (by rfl) (by rfl) (by omega) ?_)))) | refine wX (by rfl) (by rfl) (by rfl) (by rfl) (Nat.le_of_ble_eq_true (by rfl)) ?_ | (refine vZ (by rfl) (by rfl) ?_; try (first | refine yS (by rfl) (by rfl) (by rfl) (Nat.le_of_ble_eq_true (by rfl)) ?_ | refine yS (by rfl) (by rfl) (by rfl) (by omega) ?_)) | refine tW (by rfl) (by rfl) ?_ | refine sY (by rfl) (by rfl) (by rfl) ?_ | refine uA (by rfl) ?_ | refine pP (by rfl) ?_) | (refine g_l ?_; first | (refine uX (by rfl) ?_; try (first | refine yN (by rfl) (by rfl) ?_ | refine yI (by rfl) (by rfl) ?_ | refine yN (yJ _ _) (by rfl) ?_ | refine yI (yJ _ _) (by rfl) ?_ | refine yN (xQ _ _ _ _) (by rfl) ?_ | refine yI (xQ _ _ _ _) (by rfl) ?_ | refine yN (xP _ _ _) (by rfl) ?_ | refine yI (xP _ _ _) (by rfl) ?_)) | (refine uY (by rfl) ?_; try (first | refine tC (by assumption) (by omega) (by omega) (fun _ _ => ?_) | refine vS (by omega) (by omega) ?_ | refine xN (Nat.le_of_ble_eq_true (by rfl)) ?_ | refine yS (by rfl) (by rfl) (by rfl) (by omega) ?_))) | (refine g_len ?_; first | refine uD (by rfl) (by assumption) ?_ | refine vA (by rfl) (by assumption) ?_ | refine vB (by rfl) ?_ | refine xY (by rfl) ?_ | refine xX (by rfl) ?_) | (refine g_nil ?_; first | refine wG (by rfl) ?_ | refine wH (by rfl) ?_ | refine vC (by rfl) ?_) | (refine g_iad ?_; first | refine uE (by rfl) (by rfl) (by assumption) (by omega) (by omega) ?_ | refine wS (by rfl) (by rfl) (by assumption) (by omega) (by omega) ?_ | refine wW (by rfl) (by rfl) (by decide) (by decide) ?_ | refine yG (by rfl) (by rfl) (by decide) (by decide) ?_ | refine wM (by rfl) (by rfl) (by decide) (by decide) ?_ | refine yG (by rfl) (by rfl) (by omega) (by omega) ?_) | (refine g_box ?_; first | refine yN (by rfl) (by rfl) ?_ | refine yI (by rfl) (by rfl) ?_ | refine yN (yJ _ _) (by rfl) ?_ | refine yI (yJ _ _) (by rfl) ?_ | refine yN (xQ _ _ _ _) (by rfl) ?_ | refine yI (xQ _ _ _ _) (by rfl) ?_ | refine yN (xP _ _ _) (by rfl) ?_ | refine yI (xP _ _ _) (by rfl) ?_) | (refine g_cells ?_; first | refine tC (by assumption) (by omega) (by omega) (fun _ _ => ?_) | refine vS (by omega) (by omega) ?_ | refine xN (Nat.le_of_ble_eq_true (by rfl)) ?_) | (refine g_st ?_; first | refine yS (by rfl) (by rfl) (by rfl) (Nat.le_of_ble_eq_true (by rfl)) ?_) | (refine g_b ?_; first | refine b_r ?_ | refine b_n ?_) | (refine g_r ?_; first | refine r_tmp (by rfl) ?_ | refine r_cell ?_ | refine r_nil ?_))
 exact hgo.out) : A := h ⟨k⟩
section
variable {α : Type} {E : El α}
theorem app_lsS {F R : Hp} {el : TypeId} {es bytes : Nat} {s x : Option V} {K : V → Hp → Prop} {c d : C} {out l : List α} {H : Hp} (hH : H = F ++ R) (ho : Out E el F.length (F ++ R) c out) (hs : s = some (.c c)) (hx : x = some (.c d)) (hd : Ls E d l) (he : E.s = es) (hl : (out.length + l.length) * bytes ≤ 140737488355328 ∧ out.length + l.length ≤ 140737488355328)
  (k : ∀ R' c', Out E el F.length (F ++ R') c' (out ++ l) → K (.c c') (F ++ R')) : appX H el es bytes s x K := by
 subst hH hs hx he
 obtain ⟨xs, hxs, hm, hxl, hxe⟩ : ∃ xs, sQ (F ++ R) E.s d = some xs ∧ slLen d = some l.length ∧ xs.length = l.length * E.s ∧ Els E xs l := by
  cases hd with
  | nil => exact ⟨[], rfl, rfl, by simp, .nil⟩
  | @imm ds l h =>
   have h2 := h.len
   exact ⟨ds, by simp only [sQ]; rw [List.take_of_length_le (by omega)], rfl, h2, h⟩
 cases ho with
 | nil =>
  simp only [appX, hxs, hm]
  refine xH (by simp [hxl]) ?_
  rcases Nat.eq_zero_or_pos l.length with h0 | h0
  ·have : l = [] := List.eq_nil_of_length_eq_zero h0
   subst this
   exact hU rfl (k _ _ .nil)
  ·refine jK (by cases hL : l.length; omega; rfl) (xH (by simp only [List.length_nil, Nat.zero_add] at hl; simp only [Bool.and_eq_true, yH]; exact hl) ?_)
   have := k (R ++ [.live ⟨xs, el, .rw⟩]) (.sl (F ++ R).length 0 l.length none E.s) (.sl (cells := xs) (ds := xs) (by simp) (by rw [← List.append_assoc]; exact yJ _ _) rfl (by simp only [List.nil_append]; exact List.take_of_length_le (by omega)) hxe)
   rw [← List.append_assoc] at this
   exact this
 | @sl b n co' cells ds l' hm' hb hn hc h =>
  subst hn
  have hdl : (cells.take (out.length * E.s)).length = out.length * E.s := by rw [hc]; exact h.len
  have hle : out.length * E.s ≤ cells.length := by
   rw [List.length_take] at hdl
   omega
  have hlt := lt_of_getElem? hb
  refine app_sl (cs := cells) (xs := xs) (m := l.length) rfl rfl hxs hm hxl hb hle hl.1 hl.2 ?_
  have e : (F ++ R).set b .dead = F ++ R.set (b - F.length) .dead := List.set_append_right _ _ hm'
  have e' : (F ++ R).length = (F ++ R.set (b - F.length) .dead).length := by simp
  rw [e, e', List.append_assoc]
  refine k _ _ (.sl (cells := cells.take (out.length * E.s) ++ xs) (ds := ds ++ xs) (by simp) (by rw [← List.append_assoc]; exact yJ _ _) (by simp) ?_ (h.append hxe))
  rw [hc]
  exact List.take_of_length_le (by rw [List.length_append, List.length_append, h.len, hxl, Nat.add_mul]; exact Nat.le_refl _)
end
attribute [local irreducible] yA semH semC qLen qNil qIad qSlc qIdx yW yL xD appX appI slcX awpF yP xI xopF xR qval lval seqQ xL wJ wI xW cnd arith IntKind.wrap
theorem jR (a : Int) : semC Tryz.prog n_cmp_isNaN_int [i64 a] (fun u => u = .c (.bool false)) := by
 refine yD ok_cmp_isNaN_int rfl (show HFVs [i64 a] from ⟨trivial, trivial⟩) ?_
 refine go11 ?_
 rw [show yA Cm.neq a a = false by simp [yA]]
 exact ⟨_, .c (.hf trivial), rfl⟩
theorem cmp_Compare_int (a b : Int) : semC Tryz.prog n_cmp_Compare_int [i64 a, i64 b] (IntK (cmpI a b)) := by
 refine yD ok_cmp_Compare_int rfl (show HFVs [i64 a, i64 b] from ⟨trivial, trivial, trivial⟩) ?_
 refine go11 ?_
 first | refine yE (jR a) (fun u hu => ?_) | refine yB (jR a) (fun u hu => ?_)
 obtain rfl := hu
 refine go11 ?_
 first | refine yE (jR b) (fun u hu => ?_) | refine yB (jR b) (fun u hu => ?_)
 obtain rfl := hu
 refine go11 ?_
 unfold cmpI
 cases h1 : yA Cm.lss a b
 case true =>
  simp [yA] at h1
  rw [if_pos h1]
  refine go11 ?_
  exact IntK.fz
 simp [yA] at h1
 rw [if_neg (by omega)]
 refine go11 ?_
 cases h2 : yA Cm.gtr a b
 case true =>
  simp [yA] at h2
  rw [if_pos h2]
  refine go11 ?_
  exact IntK.fz
 simp [yA] at h2
 rw [if_neg (by omega)]
 refine go11 ?_
 exact IntK.fz
theorem slices_Compare {c d : C} {X Y : List Int} (hc : Ls elI c X) (hd : Ls elI d Y) (hx : X.length < vE) (hy : Y.length < vE) : semC Tryz.prog n_slices_Compare_sl_int_int [.c c, .c d] (IntK (lexI X Y)) := by
 unfold vE at hx hy
 refine yD ok_slices_Compare_sl_int_int rfl (show HFVs [.c c, .c d] from ⟨hc.hf, hd.hf, trivial⟩) ?_
 refine go11 ?_
 refine yT (fun w vs H => ∃ (i : Nat), vs = [.c c, .c d, .c c, i64 X.length, i64 i] ∧ w = X.length - i ∧ i ≤ X.length ∧ i ≤ Y.length ∧ lexI X Y = lexI (X.drop i) (Y.drop i)) (by rfl) ⟨0, rfl, rfl, by omega, by omega, rfl⟩ ?_
 rintro w vs H ⟨i, rfl, rfl, h1, h2, h3⟩
 refine go11 ?_
 cases hi : yA Cm.lss (i : Int) (X.length : Int)
 case false =>
  simp [yA] at hi
  have ei : i = X.length := by omega
  refine go11 ?_
  cases hj : yA Cm.lss (X.length : Int) (Y.length : Int)
  case true =>
   simp [yA] at hj
   rw [h3, show lexI (X.drop i) (Y.drop i) = -1 by rw [List.drop_of_length_le (by omega), List.drop_eq_getElem_cons (show i < Y.length by omega)]; rfl]
   refine go11 ?_
   exact IntK.fz
  simp [yA] at hj
  rw [h3, show lexI (X.drop i) (Y.drop i) = 0 by rw [List.drop_of_length_le (by omega), List.drop_of_length_le (by omega)]; rfl]
  refine go11 ?_
  exact IntK.fz
 simp [yA] at hi
 refine go11 ?_
 cases hj : yA Cm.geq (i : Int) (Y.length : Int)
 case true =>
  simp [yA] at hj
  rw [h3, show lexI (X.drop i) (Y.drop i) = 1 by rw [show Y.drop i = [] from List.drop_of_length_le (by omega), List.drop_eq_getElem_cons hi]; rfl]
  refine go11 ?_
  exact IntK.fz
 simp [yA] at hj
 refine go11 ?_
 first | refine yE (cmp_Compare_int X[i] Y[i]) (fun u hu => ?_) | refine yB (cmp_Compare_int X[i] Y[i]) (fun u hu => ?_)
 obtain rfl := hu
 refine go11 ?_
 cases hk : yA Cm.neq (cmpI X[i] Y[i]) 0
 case true =>
  simp [yA] at hk
  rw [h3, lex_diff hi (by omega) hk]
  refine go11 ?_
  exact IntK.fz
 simp [yA] at hk
 refine go11 ?_
 rw [xV i (by omega)]
 exact l_n (by rfl) (n' := X.length - (i + 1)) (by omega) ⟨i + 1, rfl, rfl, by omega, by omega, h3.trans (lex_drop hi (by omega) (cmp_zero hk))⟩
theorem step_Check_1 (a : Int) : semC Tryz.prog n_step_Check_1 [i64 a] (fun u => u = .c (.bool (yA Cm.lss a 0))) := by
 refine yD ok_step_Check_1 rfl (show HFVs [i64 a] from ⟨trivial, trivial⟩) ?_
 refine go11 ?_
 exact ⟨_, .c (.hf trivial), rfl⟩
theorem bL {c : C} {X : List Int} (hc : Ls elI c X) (hx : X.length < vE) : semC Tryz.prog n_slices_IndexFunc_sl_int_int [.c c, .c (.fn n_step_Check_1 [])] (fun u => ∃ n : Int, u = i64 n ∧ (0 ≤ n ↔ ∃ k ∈ X, k < 0)) := by
 unfold vE at hx
 refine yD ok_slices_IndexFunc_sl_int_int rfl (show HFVs [.c c, .c (.fn n_step_Check_1 [])] from ⟨hc.hf, ⟨trivial, trivial⟩⟩) ?_
 refine go11 ?_
 refine yT (fun w vs H => ∃ (i : Nat), vs = [.c c, .c (.fn n_step_Check_1 []), i64 X.length, i64 i] ∧ w = X.length - i ∧ i ≤ X.length ∧ ∀ k ∈ X.take i, ¬ k < 0) (by rfl) ⟨0, rfl, rfl, by omega, by simp⟩ ?_
 rintro w vs H ⟨i, rfl, rfl, h1, h2⟩
 refine go11 ?_
 cases hi : yA Cm.lss (i : Int) (X.length : Int)
 case false =>
  simp [yA] at hi
  rw [List.take_of_length_le (by omega)] at h2
  refine go11 ?_
  exact ⟨_, .c (.hf trivial), -1, rfl, fun h => absurd h (by decide), fun ⟨k, hk, h⟩ => absurd h (h2 k hk)⟩
 simp [yA] at hi
 refine go11 ?_
 first | refine yE (step_Check_1 X[i]) (fun u hu => ?_) | refine yB (step_Check_1 X[i]) (fun u hu => ?_)
 obtain rfl := hu
 refine go11 ?_
 cases hn : yA Cm.lss X[i] 0
 case true =>
  simp [yA] at hn
  refine go11 ?_
  exact ⟨_, .c (.hf trivial), i, rfl, fun _ => ⟨X[i], vH hi, hn⟩, fun _ => by omega⟩
 simp [yA] at hn
 refine go11 ?_
 rw [xV i (by omega)]
 refine l_n (by rfl) (n' := X.length - (i + 1)) (by omega) ⟨i + 1, rfl, rfl, by omega, fun k hk => ?_⟩
 rw [vD hi] at hk
 rcases List.mem_append.1 hk with hk | hk
 ·exact h2 k hk
 ·simp at hk
  subst hk
  omega
theorem slices_Contains {c : C} {X : List Int} (hc : Ls elI c X) (hx : X.length < vE) : semC Tryz.prog n_slices_ContainsFunc_sl_int_int [.c c, .c (.fn n_step_Check_1 [])] (sU (∃ k ∈ X, k < 0)) := by
 refine yD ok_slices_ContainsFunc_sl_int_int rfl (show HFVs [.c c, .c (.fn n_step_Check_1 [])] from ⟨hc.hf, ⟨trivial, trivial⟩⟩) ?_
 refine go11 ?_
 first | refine yE (bL hc hx) (fun u hu => ?_) | refine yB (bL hc hx) (fun u hu => ?_)
 obtain ⟨n, rfl, hn⟩ := hu
 refine go11 ?_
 cases h : yA Cm.geq n 0
 ·simp [yA] at h
  exact ⟨_, .c (.hf trivial), false, rfl, ⟨fun h2 => (by cases h2), fun h2 => by have := hn.2 h2; omega⟩⟩
 ·simp [yA] at h
  exact ⟨_, .c (.hf trivial), true, rfl, ⟨fun _ => hn.1 h, fun _ => rfl⟩⟩
end Go.Proofs.YtokckcnfojjpjaaGreat

set_option linter.unusedVariables false
set_option linter.unusedSimpArgs false
namespace Go.Proofs.YtokckcnfojjpjaaGreat
open Go.RowKit
set_option maxRecDepth 20000
def sumP : List Int → Int
 | [] => 0
 | x :: r => (if 0 < x then x else 0) + sumP r
def cut13 (x : Int) : Int := if (if (13 : Int) < x then 13 else x) > 0 then (if (13 : Int) < x then 13 else x) else 0
def sF : List Int → Int
 | [] => 0
 | x :: r => cut13 x + sF r
theorem cut_bd (x : Int) : 0 ≤ cut13 x ∧ cut13 x ≤ 13 := by unfold cut13; split <;> split <;> omega
theorem sum13_append : ∀ (l m : List Int), sF (l ++ m) = sF l + sF m
 | [], m => by simp [sF]
 | x :: l, m => by simp only [List.cons_append, sF, sum13_append l m]; omega
theorem sum13_bd : ∀ (l : List Int), 0 ≤ sF l ∧ sF l ≤ 13 * l.length
 | [] => by simp [sF]
 | x :: l => by
  have := sum13_bd l
  have := cut_bd x
  simp only [sF, List.length_cons]
  omega
theorem sumP_nn : ∀ (l : List Int), 0 ≤ sumP l
 | [] => by simp [sumP]
 | x :: l => by
  have := sumP_nn l
  simp only [sumP]
  split <;> omega
theorem sum13_le : ∀ (l : List Int), sF l ≤ sumP l ∧ (sF l ≤ 12 → sF l = sumP l)
 | [] => by simp [sF, sumP]
 | x :: l => by
  have h := sum13_le l
  have h0 := (sum13_bd l).1
  have h1 := sumP_nn l
  have h2 := cut_bd x
  have h3 : cut13 x ≤ (if 0 < x then x else 0) ∧ (cut13 x ≤ 12 → cut13 x = if 0 < x then x else 0) := by
   unfold cut13
   (repeat' split) <;> omega
  simp only [sF, sumP]
  refine ⟨by omega, fun h4 => ?_⟩
  have := h.2 (by omega)
  have := h3.2 (by omega)
  omega
theorem sum13_gt {l : List Int} {m : Int} (hm : m ≤ 12) : m < sF l ↔ m < sumP l := by
 have h := sum13_le l
 constructor
 ·intro; omega
 ·intro h1
  by_cases h2 : sF l ≤ 12
  ·have := h.2 h2; omega
  ·omega
theorem sum13_take {l : List Int} {i : Nat} (h : i < l.length) : sF (l.take (i + 1)) = sF (l.take i) + cut13 l[i] := by
 rw [vD h, sum13_append]
 simp [sF]
def WideT (cubic : Bool) (t : Tm) : Prop := 12 < sumP t.2 ∨ (cubic = true ∧ 3 < sumP (t.2.take (t.2.length - 1)))
def WideP (cubic : Bool) (p : Pl) : Prop := 60 < p.length ∨ ∃ t ∈ p, WideT cubic t
def BadT (u : Int) (t : Tm) : Prop := (t.2.length : Int) ≠ u ∨ ¬ wZ t.1.1 t.1.2 ∨ t.1.1 = 0 ∨ ∃ k ∈ t.2, k < 0
def BadAt (u : Int) (p : Pl) (i : Nat) : Prop := ∃ h : i < p.length, BadT u p[i] ∨ (0 < i ∧ lexI (p[i - 1]'(by omega)).2 p[i].2 ≤ 0)
def BadP (u : Int) (p : Pl) : Prop := ∃ i, BadAt u p i
noncomputable def sysE (least u : Int) (cubic : Bool) (f : List Pl) : Int :=
 bif dec ((f.length : Int) < least ∨ 3 < f.length) then 1 else bif dec (∃ p ∈ f, WideP cubic p) then 3 else bif dec (∃ p ∈ f, BadP u p) then 1 else 0
def hZ (f : List Pl) : Prop := ∀ p ∈ f, ∀ t ∈ p, t.2.length < 1099511627776
def jA (least u : Int) (cubic : Bool) (f : List Pl) (v : V) : Prop := ∃ e : Int, v = i64 e ∧ (hZ f → e = sysE least u cubic f) ∧ (e = 0 → hZ f) ∧ 0 ≤ e ∧ e ≤ 3
section
variable {least u : Int} {cubic : Bool} {f : List Pl}
theorem bK (h : (f.length : Int) < least ∨ 3 < f.length) : sysE least u cubic f = 1 := by
 unfold sysE
 rw [yH.2 h]
 rfl
theorem sys_wide (h : ¬ ((f.length : Int) < least ∨ 3 < f.length)) (h2 : ∃ p ∈ f, WideP cubic p) : sysE least u cubic f = 3 := by
 unfold sysE
 rw [yM.2 h, yH.2 h2]
 rfl
theorem sys_bad (h : ¬ ((f.length : Int) < least ∨ 3 < f.length)) (h2 : ¬ ∃ p ∈ f, WideP cubic p) (h3 : ∃ p ∈ f, BadP u p) : sysE least u cubic f = 1 := by
 unfold sysE
 rw [yM.2 h, yM.2 h2, yH.2 h3]
 rfl
theorem sys_ok (h : ¬ ((f.length : Int) < least ∨ 3 < f.length)) (h2 : ¬ ∃ p ∈ f, WideP cubic p) (h3 : ¬ ∃ p ∈ f, BadP u p) : sysE least u cubic f = 0 := by
 unfold sysE
 rw [yM.2 h, yM.2 h2, yM.2 h3]
 rfl
theorem sys_zero (h : sysE least u cubic f = 0) : ¬ ((f.length : Int) < least ∨ 3 < f.length) ∧ (¬ ∃ p ∈ f, WideP cubic p) ∧ ¬ ∃ p ∈ f, BadP u p := by
 by_cases h1 : (f.length : Int) < least ∨ 3 < f.length
 ·rw [bK h1] at h; cases h
 by_cases h2 : ∃ p ∈ f, WideP cubic p
 ·rw [sys_wide h1 h2] at h; cases h
 by_cases h3 : ∃ p ∈ f, BadP u p
 ·rw [sys_bad h1 h2 h3] at h; cases h
 exact ⟨h1, h2, h3⟩
theorem jA.of {e : Int} {H : Hp} (h1 : hZ f → e = sysE least u cubic f) (h2 : e = 0 → hZ f) (h3 : 0 ≤ e ∧ e ≤ 3) : ∃ d, FzV H (i64 e) d ∧ jA least u cubic f d := ⟨_, .c (.hf trivial), e, rfl, h1, h2, h3⟩
end
theorem ld_tx {c : C} {l : List Tm} {n i : Nat} {K : V → Prop} (hc : Ls elT c l) (hi : i < l.length) (hn : n = i) (k : ∀ d, Ls elI d l[i].2 → l[i].2.length < vE → K (.c d)) : yL ((c.ds.drop (n * 3)).drop 2) false 1 K := by
 subst hn
 obtain ⟨cs, r, ⟨d, rfl, h1, h2⟩, h⟩ := hc.els.get hi
 have h : c.ds.drop (n * 3) = (ratC l[n].1 ++ [d]) ++ r := h
 rw [h]
 exact k d h1 h2
theorem add13 {X : List Int} {s : Int} {k : Nat} (hk : k < X.length) (h : X.length < 1099511627776 → s = sF (X.take k)) : X.length < 1099511627776 → arith .add .i64 s (cut13 X[k]) = sF (X.take (k + 1)) := fun hl => by
 rw [sum13_take hk, h hl, yU]
 have := sum13_bd (X.take k)
 have := cut_bd X[k]
 have : (X.take k).length ≤ X.length := by rw [List.length_take]; omega
 exact yF (by omega) (by omega)
theorem subI1' {n : Nat} (h : n < 9223372036854775808) : arith .sub .i64 (n : Int) 1 = (n : Int) - 1 := by
 rw [vF]
 exact yF (by omega) (by omega)
attribute [local irreducible] yA semH semC qLen qNil qIad qSlc qIdx yW yL xD appX appI slcX awpF yP xI xopF xR qval lval seqQ xL wJ wI xW cnd arith IntKind.wrap
theorem step_Check {c : C} {f : List Pl} (least u : Int) (cubic : Bool) (hc : Ls elM c f) (hf : f.length < vE) (hu : f.length ≤ 3 → u < 1099511627776) : semC Tryz.prog n_step_Check [.c c, i64 least, i64 u, .c (.bool cubic)] (jA least u cubic f) := by
 unfold vE at hf
 refine yD ok_step_Check rfl (show HFVs [.c c, i64 least, i64 u, .c (.bool cubic)] from ⟨hc.hf, trivial, trivial, trivial, trivial⟩) ?_
 refine go11 ?_
 cases h1 : yA Cm.lss (f.length : Int) least
 case true =>
  simp [yA] at h1
  refine go11 ?_
  exact jA.of (fun _ => (bK (.inl h1)).symm) (fun h => absurd h (by decide)) (by decide)
 simp [yA] at h1
 refine go11 ?_
 cases h2 : yA Cm.gtr (f.length : Int) 3
 case true =>
  simp [yA] at h2
  refine go11 ?_
  exact jA.of (fun _ => (bK (.inr (by omega))).symm) (fun h => absurd h (by decide)) (by decide)
 simp [yA] at h2
 have hcount : ¬ ((f.length : Int) < least ∨ 3 < f.length) := by omega
 have hu := hu (by omega)
 refine go11 ?_
 refine yT (fun w vs H => ∃ (i : Nat), vs = [.c c, i64 u, .c (.bool cubic), .c c, i64 f.length, i64 i] ∧ w = f.length - i ∧ i ≤ f.length ∧ (hZ f → ∀ p ∈ f.take i, ¬ WideP cubic p)) (by rfl) ⟨0, rfl, rfl, by omega, fun _ => by simp⟩ ?_
 rintro w vs H ⟨i, rfl, rfl, i1, i2⟩
 refine go11 ?_
 cases hi : yA Cm.lss (i : Int) (f.length : Int)
 case false =>
  simp [yA] at hi
  rw [List.take_of_length_le (by omega)] at i2
  clear i1
  refine go11 ?_
  have hnw : hZ f → ¬ ∃ p ∈ f, WideP cubic p := fun hS ⟨p, hp, h⟩ => i2 hS p hp h
  refine yT (fun w vs H => ∃ (i : Nat), vs = [i64 u, .c c, i64 f.length, i64 i] ∧ w = f.length - i ∧ i ≤ f.length ∧ ∀ p ∈ f.take i, ¬ BadP u p) (by rfl) ⟨0, rfl, rfl, by omega, by simp⟩ ?_
  clear hi i2
  rintro w vs H ⟨i, rfl, rfl, i1, i2⟩
  refine go11 ?_
  cases hi : yA Cm.lss (i : Int) (f.length : Int)
  case false =>
   simp [yA] at hi
   rw [List.take_of_length_le (by omega)] at i2
   have hS : hZ f := fun p hp t ht => by
    obtain ⟨j, hj, rfl⟩ := List.getElem_of_mem ht
    have h : ¬ BadT u p[j] := fun h => i2 p hp ⟨j, hj, .inl h⟩
    have : (p[j].2.length : Int) = u := Classical.byContradiction fun h2 => h (.inl h2)
    omega
   refine go11 ?_
   exact jA.of (fun hS => (sys_ok hcount (hnw hS) (fun ⟨p, hp, h⟩ => i2 p hp h)).symm) (fun _ => hS) (by decide)
  simp [yA] at hi
  have bad : ∀ {j : Nat}, BadAt u f[i] j → hZ f → (1 : Int) = sysE least u cubic f := fun h hS => (sys_bad hcount (hnw hS) ⟨f[i], vH hi, _, h⟩).symm
  refine go11 ?_
  refine qD hc (i := i) hi (by omega) rfl (fun cs hcs => ?_)
  obtain ⟨d, rfl, hd, hdl⟩ := hcs
  unfold vE at hdl
  refine go11 ?_
  simp only [tN, tM, ratC, tY, tX, List.set_cons_zero, List.set_cons_succ, List.nil_append, List.cons_append, List.append_nil, List.replicate_succ, List.replicate_zero, List.length_cons, List.length_nil, splice, List.take_succ_cons, List.take_zero, List.drop_succ_cons, List.drop_zero, List.take_nil, List.drop_nil, Nat.zero_add, Nat.reduceAdd, Nat.reduceMul, Int.reduceToNat, wF, List.getElem?_cons_succ, List.getElem?_cons_zero]
  refine yT (fun w vs H' => ∃ (j : Nat) (S : Hp), vs = [i64 u, .c (.ptr H.length 0), .c c, i64 f.length, i64 i, .c d, i64 f[i].length, i64 j] ∧ H' = H ++ .live ⟨[d], T_api_Many, .rw⟩ :: S ∧ w = f[i].length - j ∧ j ≤ f[i].length ∧ ∀ a, a < j → ¬ BadAt u f[i] a) (by rfl) ⟨0, [], rfl, rfl, rfl, by omega, fun a h => by omega⟩ ?_
  rintro w vs H' ⟨j, S, rfl, rfl, rfl, j1, j2⟩
  refine go11 ?_
  cases hj : yA Cm.lss (j : Int) (f[i].length : Int)
  case false =>
   simp [yA] at hj
   refine go11 ?_
   rw [xV i (by omega)]
   refine l_n (by rfl) (n' := f.length - (i + 1)) (by omega) ⟨i + 1, rfl, rfl, by omega, fun p hp => ?_⟩
   rw [vD hi] at hp
   rcases List.mem_append.1 hp with hp | hp
   ·exact i2 p hp
   ·simp at hp
    subst hp
    rintro ⟨a, ha⟩
    obtain ⟨hl, _⟩ := id ha
    exact j2 a (by omega) ha
  simp [yA] at hj
  refine go11 ?_
  refine qD hd (i := j) hj (by omega) rfl (fun cs hcs => ?_)
  obtain ⟨e, rfl, he, hel⟩ := hcs
  refine go11 ?_
  cases c1 : yA Cm.neq (f[i][j].2.length : Int) u
  case true =>
   simp [yA] at c1
   refine go11 ?_
   exact jA.of (bad ⟨hj, .inl (.inl c1)⟩) (fun h => absurd h (by decide)) (by decide)
  simp [yA] at c1
  refine go11 ?_
  first | refine yE (pL f[i][j].1.1 f[i][j].1.2) (fun u hu => ?_) | refine yB (pL f[i][j].1.1 f[i][j].1.2) (fun u hu => ?_)
  obtain ⟨z1, rfl, hz1⟩ := hu
  cases z1
  case false =>
   refine go11 ?_
   exact jA.of (bad ⟨hj, .inl (.inr (.inl fun h => by cases hz1.2 h))⟩) (fun h => absurd h (by decide)) (by decide)
  have hz1 := hz1.1 rfl
  refine go11 ?_
  cases c2 : yA Cm.eql f[i][j].1.1 0
  case true =>
   simp [yA] at c2
   refine go11 ?_
   exact jA.of (bad ⟨hj, .inl (.inr (.inr (.inl c2)))⟩) (fun h => absurd h (by decide)) (by decide)
  simp [yA] at c2
  refine go11 ?_
  first | refine yE (slices_Contains he hel) (fun u hu => ?_) | refine yB (slices_Contains he hel) (fun u hu => ?_)
  obtain ⟨z2, rfl, hz2⟩ := hu
  cases z2
  case true =>
   refine go11 ?_
   exact jA.of (bad ⟨hj, .inl (.inr (.inr (.inr (hz2.1 rfl))))⟩) (fun h => absurd h (by decide)) (by decide)
  have hgood : ¬ BadT u f[i][j] := by
   rintro (h | h | h | h)
   ·exact h c1
   ·exact h hz1
   ·exact c2 h
   ·cases hz2.2 h
  refine go11 ?_
  cases c3 : yA Cm.gtr (j : Int) 0
  case false =>
   simp [yA] at c3
   refine go11 ?_
   rw [xV j (by omega)]
   refine l_n (by rfl) (n' := f[i].length - (j + 1)) (by omega) ⟨j + 1, _, rfl, by rw [List.append_assoc]; rfl, rfl, by omega, fun a ha => ?_⟩
   rcases Nat.lt_or_ge a j with h | h
   ·exact j2 a h
   ·have : a = j := by omega
    subst this
    rintro ⟨_, h | ⟨h, _⟩⟩
    ·exact hgood h
    ·omega
  simp [yA] at c3
  refine go11 ?_
  rw [pR j (by omega) (by omega)]
  refine go11 ?_
  refine ld_tx hd (i := j - 1) (by omega) (by omega) (fun g hg hgl => ?_)
  refine go11 ?_
  first | refine yE (slices_Compare hg he hgl hel) (fun u hu => ?_) | refine yB (slices_Compare hg he hgl hel) (fun u hu => ?_)
  obtain rfl := hu
  refine go11 ?_
  cases c4 : yA Cm.leq (lexI f[i][j - 1].2 f[i][j].2) 0
  case true =>
   simp [yA] at c4
   refine go11 ?_
   exact jA.of (bad ⟨hj, .inr ⟨by omega, c4⟩⟩) (fun h => absurd h (by decide)) (by decide)
  simp [yA] at c4
  refine go11 ?_
  rw [xV j (by omega)]
  refine l_n (by rfl) (n' := f[i].length - (j + 1)) (by omega) ⟨j + 1, _, rfl, by rw [List.append_assoc]; rfl, rfl, by omega, fun a ha => ?_⟩
  rcases Nat.lt_or_ge a j with h | h
  ·exact j2 a h
  ·have : a = j := by omega
   subst this
   rintro ⟨_, h | ⟨_, h⟩⟩
   ·exact hgood h
   ·omega
 simp [yA] at hi
 refine go11 ?_
 refine qD hc (i := i) hi (by omega) rfl (fun cs hcs => ?_)
 obtain ⟨d, rfl, hd, hdl⟩ := hcs
 unfold vE at hdl
 refine go11 ?_
 cases h3 : yA Cm.gtr (f[i].length : Int) 60
 case true =>
  simp [yA] at h3
  refine go11 ?_
  exact jA.of (fun _ => (sys_wide hcount ⟨f[i], vH hi, .inl (by omega)⟩).symm) (fun h => absurd h (by decide)) (by decide)
 simp [yA] at h3
 refine go11 ?_
 refine yT (fun w vs H => ∃ (j : Nat), vs = [.c c, i64 u, .c (.bool cubic), .c c, i64 f.length, i64 i, .c d, i64 f[i].length, i64 j] ∧ w = f[i].length - j ∧ j ≤ f[i].length ∧ (hZ f → ∀ t ∈ f[i].take j, ¬ WideT cubic t)) (by rfl) ⟨0, rfl, rfl, by omega, fun _ => by simp⟩ ?_
 rintro w vs H ⟨j, rfl, rfl, j1, j2⟩
 refine go11 ?_
 cases hj : yA Cm.lss (j : Int) (f[i].length : Int)
 case false =>
  simp [yA] at hj
  rw [List.take_of_length_le (by omega)] at j2
  refine go11 ?_
  rw [xV i (by omega)]
  refine l_n (by rfl) (n' := f.length - (i + 1)) (by omega) ⟨i + 1, rfl, rfl, by omega, fun hS p hp => ?_⟩
  rw [vD hi] at hp
  rcases List.mem_append.1 hp with hp | hp
  ·exact i2 hS p hp
  ·simp at hp
   subst hp
   rintro (h | ⟨t, ht, h⟩)
   ·omega
   ·exact j2 hS t ht h
 simp [yA] at hj
 refine go11 ?_
 refine qD hd (i := j) hj (by omega) rfl (fun cs hcs => ?_)
 obtain ⟨e, rfl, he, hel⟩ := hcs
 unfold vE at hel
 refine go11 ?_
 simp only [tN, tM, ratC, tY, tX, List.set_cons_zero, List.set_cons_succ, List.nil_append, List.cons_append, List.append_nil, List.replicate_succ, List.replicate_zero, List.length_cons, List.length_nil, splice, List.take_succ_cons, List.take_zero, List.drop_succ_cons, List.drop_zero, List.take_nil, List.drop_nil, Nat.zero_add, Nat.reduceAdd, Nat.reduceMul, Int.reduceToNat, wF, List.getElem?_cons_succ, List.getElem?_cons_zero]
 refine yT (fun w vs H' => ∃ (k : Nat) (s o : Int), vs = [.c c, i64 u, .c (.bool cubic), .c (.ptr H.length 0), i64 s, i64 o, .c c, i64 f.length, i64 i, .c d, i64 f[i].length, i64 j, .c e, i64 f[i][j].2.length, i64 k] ∧ H' = H ++ [.live ⟨[iC f[i][j].1.1, iC f[i][j].1.2, e], T_api_Term, .rw⟩] ∧ w = f[i][j].2.length - k ∧ k ≤ f[i][j].2.length ∧ (f[i][j].2.length < 1099511627776 → s = sF (f[i][j].2.take k)) ∧ (f[i][j].2.length < 1099511627776 → o = sF (f[i][j].2.take (min k (f[i][j].2.length - 1))))) (by rfl) ⟨0, 0, 0, rfl, rfl, rfl, by omega, fun _ => by simp [sF], fun _ => by simp [sF]⟩ ?_
 rintro w vs H' ⟨k, s, o, rfl, rfl, rfl, k1, k2, k3⟩
 refine go11 ?_
 cases hk : yA Cm.lss (k : Int) (f[i][j].2.length : Int)
 case false =>
  simp [yA] at hk
  have ek : k = f[i][j].2.length := by omega
  rw [List.take_of_length_le (by omega)] at k2
  rw [show min k (f[i][j].2.length - 1) = f[i][j].2.length - 1 by omega] at k3
  have hsm : hZ f → s = sF f[i][j].2 ∧ o = sF (f[i][j].2.take (f[i][j].2.length - 1)) := fun hS => by
   have := hS f[i] (vH hi) f[i][j] (vH hj)
   exact ⟨k2 this, k3 this⟩
  refine go11 ?_
  cases h4 : yA Cm.gtr s 12
  case true =>
   simp [yA] at h4
   refine go11 ?_
   refine jA.of (fun hS => (sys_wide hcount ⟨f[i], vH hi, .inr ⟨f[i][j], vH hj, .inl ?_⟩⟩).symm) (fun h => absurd h (by decide)) (by decide)
   rw [(hsm hS).1] at h4
   exact (sum13_gt (by decide)).1 h4
  simp [yA] at h4
  refine go11 ?_
  cases cubic
  case false =>
   refine go11 ?_
   rw [xV j (by omega)]
   refine l_n (by rfl) (n' := f[i].length - (j + 1)) (by omega) ⟨j + 1, rfl, rfl, by omega, fun hS t ht => ?_⟩
   rw [vD hj] at ht
   rcases List.mem_append.1 ht with ht | ht
   ·exact j2 hS t ht
   ·simp at ht
    subst ht
    rintro (h | ⟨h, _⟩)
    ·have := (sum13_gt (m := 12) (by decide)).2 h
     rw [← (hsm hS).1] at this
     omega
    ·cases h
  refine go11 ?_
  cases h5 : yA Cm.gtr o 3
  case true =>
   simp [yA] at h5
   refine go11 ?_
   refine jA.of (fun hS => (sys_wide hcount ⟨f[i], vH hi, .inr ⟨f[i][j], vH hj, .inr ⟨rfl, ?_⟩⟩⟩).symm) (fun h => absurd h (by decide)) (by decide)
   rw [(hsm hS).2] at h5
   exact (sum13_gt (by decide)).1 h5
  simp [yA] at h5
  refine go11 ?_
  rw [xV j (by omega)]
  refine l_n (by rfl) (n' := f[i].length - (j + 1)) (by omega) ⟨j + 1, rfl, rfl, by omega, fun hS t ht => ?_⟩
  rw [vD hj] at ht
  rcases List.mem_append.1 ht with ht | ht
  ·exact j2 hS t ht
  ·simp at ht
   subst ht
   rintro (h | ⟨_, h⟩)
   ·have := (sum13_gt (m := 12) (by decide)).2 h
    rw [← (hsm hS).1] at this
    omega
   ·have := (sum13_gt (m := 3) (by decide)).2 h
    rw [← (hsm hS).2] at this
    omega
 simp [yA] at hk
 have ka := add13 hk k2
 refine go11 ?_
 rw [subI1' (by omega)]
 cases hq : yA Cm.lss (k : Int) ((f[i][j].2.length : Int) - 1)
 case true =>
  simp [yA] at hq
  refine go11 ?_
  rw [xV k (by omega)]
  refine l_n (by rfl) (n' := f[i][j].2.length - (k + 1)) (by omega) ⟨k + 1, _, _, rfl, rfl, rfl, by omega, ka, ?_⟩
  rw [show min (k + 1) (f[i][j].2.length - 1) = k + 1 by omega]
  exact ka
 simp [yA] at hq
 refine go11 ?_
 rw [xV k (by omega)]
 refine l_n (by rfl) (n' := f[i][j].2.length - (k + 1)) (by omega) ⟨k + 1, _, _, rfl, rfl, rfl, by omega, ka, ?_⟩
 rw [show min (k + 1) (f[i][j].2.length - 1) = min k (f[i][j].2.length - 1) by omega]
 exact k3
end Go.Proofs.YtokckcnfojjpjaaGreat

set_option linter.unusedVariables false
set_option linter.unusedSimpArgs false
namespace Go.Proofs.YtokckcnfojjpjaaGreat
open Go.RowKit
set_option maxRecDepth 20000
def Cap (D B : Nat) (q : Rat) : Prop := ∃ n : Int, q * (D : Rat) = (n : Rat) ∧ n.natAbs ≤ B * D
theorem Cap.mul {D E B C : Nat} {q r : Rat} (h1 : Cap D B q) (h2 : Cap E C r) : Cap (D * E) (B * C) (q * r) := by
 obtain ⟨n, h1, h3⟩ := h1
 obtain ⟨m, h2, h4⟩ := h2
 refine ⟨n * m, ?_, ?_⟩
 ·push_cast
  rw [← h1, ← h2]
  grind
 ·rw [Int.natAbs_mul]
  calc n.natAbs * m.natAbs ≤ (B * D) * (C * E) := Nat.mul_le_mul h3 h4
   _ = B * C * (D * E) := by rw [Nat.mul_mul_mul_comm]
theorem Cap.add {D B C : Nat} {q r : Rat} (h1 : Cap D B q) (h2 : Cap D C r) : Cap D (B + C) (q + r) := by
 obtain ⟨n, h1, h3⟩ := h1
 obtain ⟨m, h2, h4⟩ := h2
 refine ⟨n + m, ?_, ?_⟩
 ·push_cast
  rw [← h1, ← h2]
  grind
 ·rw [Nat.add_mul]
  omega
theorem Cap.neg {D B : Nat} {q : Rat} (h : Cap D B q) : Cap D B (-q) := by
 obtain ⟨n, h1, h3⟩ := h
 refine ⟨-n, ?_, by rwa [Int.natAbs_neg]⟩
 push_cast
 rw [← h1]
 grind
theorem Cap.sub {D B C : Nat} {q r : Rat} (h1 : Cap D B q) (h2 : Cap D C r) : Cap D (B + C) (q - r) := by
 have := h1.add h2.neg
 rwa [← Rat.sub_eq_add_neg] at this
theorem Cap.dvd {D E B : Nat} {q : Rat} (h : Cap D B q) (hd : D ∣ E) : Cap E B q := by
 obtain ⟨n, h1, h3⟩ := h
 obtain ⟨k, rfl⟩ := hd
 refine ⟨n * k, ?_, ?_⟩
 ·push_cast
  rw [← h1]
  grind
 ·rw [Int.natAbs_mul, Int.natAbs_natCast, ← Nat.mul_assoc]
  exact Nat.mul_le_mul_right k h3
theorem Cap.mono {D B C : Nat} {q : Rat} (h : Cap D B q) (hb : B ≤ C) : Cap D C q := by
 obtain ⟨n, h1, h3⟩ := h
 exact ⟨n, h1, Nat.le_trans h3 (Nat.mul_le_mul_right D hb)⟩
theorem Cap.int {D : Nat} (z : Int) : Cap D z.natAbs (z : Rat) := ⟨z * D, by push_cast; rfl, by rw [Int.natAbs_mul, Int.natAbs_natCast]; exact Nat.le_refl _⟩
theorem Cap.one {D : Nat} : Cap D 1 1 := Cap.int 1
theorem Cap.zero {D B : Nat} : Cap D B 0 := ⟨0, by simp, by simp⟩
theorem Cap.pow {D B : Nat} {q : Rat} (h : Cap D B q) : ∀ n : Nat, Cap (D ^ n) (B ^ n) (q ^ n)
 | 0 => by
  rw [Nat.pow_zero, Nat.pow_zero, Rat.pow_zero]
  exact Cap.one
 | n + 1 => by
  rw [Nat.pow_succ, Nat.pow_succ, Rat.pow_succ]
  exact (Cap.pow h n).mul h
theorem Cap.rat {p : R2} (h : wZ p.1 p.2) : Cap p.2.natAbs 1000000000000 (rt p) := by
 obtain ⟨h1, h2, h3, h4, h5⟩ := h
 have e : ((p.2.natAbs : Nat) : Int) = p.2 := by omega
 have e2 : ((p.2.natAbs : Nat) : Rat) = (p.2 : Rat) := by
  rw [← Rat.intCast_natCast, e]
 refine ⟨p.1, ?_, ?_⟩
 ·rw [e2]
  unfold rt
  rw [Rat.divInt_eq_div]
  have : (p.2 : Rat) ≠ 0 := by
   intro h
   have : p.2 = 0 := by exact_mod_cast h
   omega
  rw [Rat.div_mul_cancel this]
 ·have : 1 ≤ p.2.natAbs := by omega
  calc p.1.natAbs ≤ 1000000000000 * 1 := by omega
   _ ≤ 1000000000000 * p.2.natAbs := Nat.mul_le_mul_left _ this
theorem sz_lt {n : Int} {k e : Nat} (h : n.natAbs ≤ 2 ^ e) (he : e < 32 * k) : Sz k n := by
 unfold Sz
 calc n.natAbs ≤ 2 ^ e := h
  _ < 2 ^ (32 * k) := Nat.pow_lt_pow_right (by decide) he
  _ = 4294967296 ^ k := by rw [Nat.pow_mul]
theorem bd_divS {n d : Int} {q : Rat} {k : Nat} (hd : d ≠ 0) (e : Rat.divInt n d = q) (h1 : Sz k n) (h2 : Sz k d) : Bd k (rp q) := by
 have hdq : ((q.den : Nat) : Int) ≠ 0 := by exact_mod_cast q.den_nz
 have e2 : q.num * d = n * (q.den : Int) := by
  have : Rat.divInt q.num q.den = Rat.divInt n d := by rw [e]; exact Rat.num_divInt_den q
  exact (Rat.divInt_eq_divInt_iff hdq hd).1 this
 have e3 : q.num.natAbs * d.natAbs = n.natAbs * q.den := by
  have := congrArg Int.natAbs e2
  rwa [Int.natAbs_mul, Int.natAbs_mul, Int.natAbs_natCast] at this
 have c := q.reduced
 have hd' : 0 < d.natAbs := Int.natAbs_pos.2 hd
 have l1 : q.num.natAbs ≤ n.natAbs := by
  rcases Nat.eq_zero_or_pos n.natAbs with h0 | h0
  ·rw [h0, Nat.zero_mul] at e3
   rcases Nat.mul_eq_zero.1 e3 with h | h
   ·omega
   ·omega
  ·exact Nat.le_of_dvd h0 (c.dvd_of_dvd_mul_right ⟨d.natAbs, e3.symm⟩)
 have l2 : q.den ≤ d.natAbs := Nat.le_of_dvd hd' (c.symm.dvd_of_dvd_mul_left ⟨n.natAbs, by rw [e3, Nat.mul_comm]⟩)
 exact ⟨Nat.lt_of_le_of_lt l1 h1, Nat.lt_of_le_of_lt (by simpa [rp] using l2) h2, pS q⟩
theorem Cap.bd {D d b k : Nat} {q : Rat} (h : Cap D (2 ^ b) q) (h0 : 0 < D) (h1 : D ≤ 2 ^ d) (h2 : b + d < 32 * k) : Bd k (rp q) := by
 obtain ⟨n, h3, h4⟩ := h
 have hD : (D : Rat) ≠ 0 := by
  intro h
  have : D = 0 := by exact_mod_cast h
  omega
 refine bd_divS (n := n) (d := (D : Int)) (by omega) ?_ (sz_lt (e := b + d) ?_ h2) (sz_lt (e := b + d) ?_ h2)
 ·rw [Rat.divInt_eq_div, ← h3]
  rw [Rat.intCast_natCast, Rat.mul_div_cancel hD]
 ·rw [Nat.pow_add]
  exact Nat.le_trans h4 (Nat.mul_le_mul_left _ h1)
 ·rw [Int.natAbs_natCast]
  exact Nat.le_trans h1 (Nat.pow_le_pow_right (by decide) (by omega))
def CpL (n : Nat) (l : List Rat) : Prop := ∃ D, 0 < D ∧ D ≤ 2 ^ n ∧ ∀ q ∈ l, Cap D (2 ^ n) q
theorem CpL.bd {n k : Nat} {l : List Rat} (h : CpL n l) (hk : n + n < 32 * k) {q : Rat} (hq : q ∈ l) : Bd k (rp q) := by
 obtain ⟨D, h1, h2, h3⟩ := h
 exact (h3 q hq).bd h1 h2 hk
theorem CpL.mono {n m : Nat} {l : List Rat} (h : CpL n l) (hm : n ≤ m) : CpL m l := by
 obtain ⟨D, h1, h2, h3⟩ := h
 have := Nat.pow_le_pow_right (show 0 < 2 by decide) hm
 exact ⟨D, h1, Nat.le_trans h2 this, fun q hq => (h3 q hq).mono this⟩
theorem CpL.sub {n : Nat} {l m : List Rat} (h : CpL n l) (hm : ∀ q ∈ m, q ∈ l) : CpL n m := by
 obtain ⟨D, h1, h2, h3⟩ := h
 exact ⟨D, h1, h2, fun q hq => h3 q (hm q hq)⟩
theorem CpL.append {n k : Nat} {l m : List Rat} (h : CpL n l) (h' : CpL k m) : CpL (n + k) (l ++ m) := by
 obtain ⟨D, h1, h2, h3⟩ := h
 obtain ⟨E, g1, g2, g3⟩ := h'
 refine ⟨D * E, Nat.mul_pos h1 g1, by rw [Nat.pow_add]; exact Nat.mul_le_mul h2 g2, fun q hq => ?_⟩
 rcases List.mem_append.1 hq with hq | hq
 ·exact ((h3 q hq).dvd ⟨E, rfl⟩).mono (Nat.pow_le_pow_right (by decide) (by omega))
 ·exact ((g3 q hq).dvd ⟨D, Nat.mul_comm _ _⟩).mono (Nat.pow_le_pow_right (by decide) (by omega))
theorem CpL.none : CpL 0 [] := ⟨1, by decide, by decide, by simp⟩
theorem CpL.one {p : R2} (h : wZ p.1 p.2) : CpL 40 [rt p] := by
 refine ⟨p.2.natAbs, by have := h.1; omega, by have := h.1; have := h.2.1; omega, fun q hq => ?_⟩
 simp at hq
 subst hq
 exact (Cap.rat h).mono (by decide)
theorem CpL.rats : ∀ {X : List R2}, pB X → CpL (40 * X.length) (X.map rt)
 | [], _ => CpL.none
 | p :: X, h => by
  have h1 := CpL.one (h p (by simp))
  have h2 := CpL.rats (X := X) (fun q hq => h q (by simp [hq]))
  have := h1.append h2
  rw [List.map_cons, List.length_cons, show 40 * (X.length + 1) = 40 + 40 * X.length by omega]
  exact this
def monV : List Rat → List Int → Rat
 | x :: xs, n :: X => x ^ n.toNat * monV xs X
 | _, _ => 1
def polV (xs : List Rat) : Pl → Rat
 | [] => 0
 | t :: p => rt t.1 * monV xs t.2 + polV xs p
def jH (f : List Pl) (xs : List Rat) : List Rat := f.map (polV xs)
theorem monV_append : ∀ {xs ys : List Rat} {X Y : List Int}, xs.length = X.length → monV (xs ++ ys) (X ++ Y) = monV xs X * monV ys Y
 | [], ys, [], Y, _ => by simp [monV]
 | x :: xs, ys, n :: X, Y, h => by
  simp only [List.cons_append, monV]
  rw [monV_append (by simpa using h), Rat.mul_assoc]
 | [], _, _ :: _, _, h => by simp at h
 | _ :: _, _, [], _, h => by simp at h
theorem monV_take {xs : List Rat} {X : List Int} {k : Nat} (h : xs.length = X.length) (hk : k < X.length) : monV (xs.take (k + 1)) (X.take (k + 1)) = monV (xs.take k) (X.take k) * (xs[k]'(by omega)) ^ X[k].toNat := by
 rw [vD (l := xs) (by omega), vD hk, monV_append (by simp; omega)]
 simp [monV]
theorem polV_append (xs : List Rat) : ∀ (p q : Pl), polV xs (p ++ q) = polV xs p + polV xs q
 | [], q => by simp [polV, Rat.zero_add]
 | t :: p, q => by
  simp only [List.cons_append, polV]
  rw [polV_append xs p q, Rat.add_assoc]
theorem polV_take {xs : List Rat} {p : Pl} {j : Nat} (h : j < p.length) : polV xs (p.take (j + 1)) = polV xs (p.take j) + rt p[j].1 * monV xs p[j].2 := by
 rw [vD h, polV_append]
 simp [polV, Rat.add_zero]
structure TermOk (m : Nat) (t : Tm) : Prop where
 len : t.2.length = m
 rat : wZ t.1.1 t.1.2
 nn : ∀ k ∈ t.2, 0 ≤ k
 deg : sumP t.2 ≤ 12
structure PolyOk (m : Nat) (p : Pl) : Prop where
 len : p.length ≤ 60
 term : ∀ t ∈ p, TermOk m t
structure SysOk (m : Nat) (f : List Pl) : Prop where
 len : f.length ≤ 3
 poly : ∀ p ∈ f, PolyOk m p
theorem cap_mon {D B : Nat} : ∀ {xs : List Rat} {X : List Int}, (∀ q ∈ xs, Cap D B q) → (∀ k ∈ X, 0 ≤ k) → 0 < D → 0 < B → Cap (D ^ (sumP X).toNat) (B ^ (sumP X).toNat) (monV xs X)
 | [], X, _, _, h3, h4 => by
  rw [show monV [] X = 1 by cases X <;> rfl]
  exact (Cap.one).mono (Nat.pow_pos h4)
 | x :: xs, [], _, _, h3, h4 => by
  exact (Cap.one).mono (Nat.pow_pos h4)
 | x :: xs, n :: X, h1, h2, h3, h4 => by
  have hn := h2 n (by simp)
  have ih := cap_mon (xs := xs) (X := X) (fun q hq => h1 q (by simp [hq])) (fun k hk => h2 k (by simp [hk])) h3 h4
  have e : (sumP (n :: X)).toNat = n.toNat + (sumP X).toNat := by
   have := sumP_nn X
   simp only [sumP]
   split <;> omega
  rw [e, Nat.pow_add, Nat.pow_add]
  exact ((h1 x (by simp)).pow n.toNat).mul ih
theorem sumP_take : ∀ (X : List Int) (k : Nat), sumP (X.take k) ≤ sumP X
 | [], k => by simp
 | x :: X, 0 => by have := sumP_nn (x :: X); simpa [sumP] using this
 | x :: X, k + 1 => by
  have := sumP_take X k
  simp only [List.take_succ_cons, sumP]
  omega
def dens : Pl → Nat
 | [] => 1
 | t :: p => t.1.2.natAbs * dens p
def densS : List Pl → Nat
 | [] => 1
 | p :: f => dens p * densS f
theorem dens_dvd : ∀ {p : Pl} {t : Tm}, t ∈ p → t.1.2.natAbs ∣ dens p
 | t :: p, u, h => by
  rcases List.mem_cons.1 h with rfl | h
  ·exact ⟨dens p, rfl⟩
  ·exact Nat.dvd_trans (dens_dvd h) ⟨t.1.2.natAbs, Nat.mul_comm _ _⟩
theorem densS_dvd : ∀ {f : List Pl} {p : Pl}, p ∈ f → dens p ∣ densS f
 | p :: f, q, h => by
  rcases List.mem_cons.1 h with rfl | h
  ·exact ⟨densS f, rfl⟩
  ·exact Nat.dvd_trans (densS_dvd h) ⟨dens p, Nat.mul_comm _ _⟩
theorem dens_le : ∀ {p : Pl}, (∀ t ∈ p, wZ t.1.1 t.1.2) → 0 < dens p ∧ dens p ≤ 2 ^ (40 * p.length)
 | [], _ => by decide
 | t :: p, h => by
  have ih := dens_le (p := p) (fun u hu => h u (by simp [hu]))
  have h1 := h t (by simp)
  have h2 := h1.1
  have h3 := h1.2.1
  refine ⟨Nat.mul_pos (by omega) ih.1, ?_⟩
  rw [List.length_cons, show 40 * (p.length + 1) = 40 + 40 * p.length by omega, Nat.pow_add]
  exact Nat.mul_le_mul (by omega) ih.2
theorem two_mul {a b c d e : Nat} (h : e = c + d) (h1 : a ≤ 2 ^ c) (h2 : b ≤ 2 ^ d) : a * b ≤ 2 ^ e := by
 subst h
 rw [Nat.pow_add]
 exact Nat.mul_le_mul h1 h2
theorem two_up {a c d : Nat} (h : a ≤ 2 ^ c) (h2 : c ≤ d) : a ≤ 2 ^ d := Nat.le_trans h (Nat.pow_le_pow_right (by decide) h2)
theorem densS_le {m : Nat} : ∀ {f : List Pl}, (∀ p ∈ f, PolyOk m p) → 0 < densS f ∧ densS f ≤ 2 ^ (2400 * f.length)
 | [], _ => by decide
 | p :: f, h => by
  have ih := densS_le (f := f) (fun u hu => h u (by simp [hu]))
  have h1 := h p (by simp)
  have h2 := dens_le (p := p) (fun t ht => (h1.term t ht).rat)
  have h3 := h1.len
  refine ⟨Nat.mul_pos h2.1 ih.1, ?_⟩
  exact two_mul (c := 40 * p.length + (2400 - 40 * p.length)) (d := 2400 * f.length) (by rw [List.length_cons]; omega) (two_up h2.2 (by omega)) ih.2
theorem cap_term {D B m k : Nat} {xs : List Rat} {t : Tm} (ht : TermOk m t) (hx : ∀ q ∈ xs, Cap D B q) (hD : 0 < D) (hB : 0 < B) : Cap (t.1.2.natAbs * D ^ 12) (1000000000000 * B ^ 12) (rt t.1 * monV (xs.take k) (t.2.take k)) := by
 have h1 := cap_mon (xs := xs.take k) (X := t.2.take k) (fun q hq => hx q (List.mem_of_mem_take hq)) (fun j hj => ht.nn j (List.mem_of_mem_take hj)) hD hB
 have h2 := sumP_take t.2 k
 have h3 := ht.deg
 have h4 : (sumP (t.2.take k)).toNat ≤ 12 := by omega
 have h5 := (h1.dvd (Nat.pow_dvd_pow D h4)).mono (Nat.pow_le_pow_right hB h4)
 exact (Cap.rat ht.rat).mul h5
theorem sD {α : Type} {l : List α} {n : Nat} (h : l.length ≤ n) : l.take n = l := List.take_of_length_le h
theorem cap_term' {D B m : Nat} {xs : List Rat} {t : Tm} (ht : TermOk m t) (hx : ∀ q ∈ xs, Cap D B q) (hD : 0 < D) (hB : 0 < B) : Cap (t.1.2.natAbs * D ^ 12) (1000000000000 * B ^ 12) (rt t.1 * monV xs t.2) := by
 have h := cap_term (k := max xs.length t.2.length) ht hx hD hB
 rwa [sD (by omega), sD (by omega)] at h
theorem cap_pol {D B m : Nat} {xs : List Rat} (hx : ∀ q ∈ xs, Cap D B q) (hD : 0 < D) (hB : 0 < B) : ∀ {E : Nat} {p : Pl}, (∀ t ∈ p, TermOk m t) → (∀ t ∈ p, t.1.2.natAbs ∣ E) → Cap (E * D ^ 12) (p.length * (1000000000000 * B ^ 12)) (polV xs p)
 | E, [], _, _ => Cap.zero
 | E, t :: p, h1, h2 => by
  have ih := cap_pol hx hD hB (E := E) (p := p) (fun u hu => h1 u (by simp [hu])) (fun u hu => h2 u (by simp [hu]))
  have h3 := (cap_term' (h1 t (by simp)) hx hD hB).dvd (Nat.mul_dvd_mul_right (h2 t (by simp)) _)
  rw [List.length_cons, Nat.add_mul, Nat.add_comm, Nat.one_mul]
  exact h3.add ih
theorem pow12 {n : Nat} : (2 ^ n) ^ 12 = 2 ^ (12 * n) := by rw [← Nat.pow_mul, Nat.mul_comm]
theorem bnd_pol {c n : Nat} (h : c ≤ 64) : c * (1000000000000 * (2 ^ n) ^ 12) ≤ 2 ^ (46 + 12 * n) := by
 rw [pow12, Nat.pow_add, ← Nat.mul_assoc]
 exact Nat.mul_le_mul_right _ (by omega)
theorem field_cpl {n m : Nat} {f : List Pl} {xs : List Rat} (hf : SysOk m f) (hx : CpL n xs) : CpL (7200 + 12 * n) (jH f xs) := by
 obtain ⟨D, h1, h2, h3⟩ := hx
 have hd := densS_le hf.poly
 have hl := hf.len
 refine ⟨densS f * D ^ 12, Nat.mul_pos hd.1 (Nat.pow_pos h1), ?_, fun q hq => ?_⟩
 ·exact two_mul (c := 2400 * f.length + (7200 - 2400 * f.length)) (d := 12 * n) (by omega) (two_up hd.2 (by omega)) (by rw [← pow12]; exact Nat.pow_le_pow_left h2 12)
 ·obtain ⟨p, hp, rfl⟩ := List.mem_map.1 hq
  have hpo := hf.poly p hp
  have := cap_pol h3 h1 (Nat.pow_pos (by decide)) (E := densS f) (p := p) hpo.term (fun t ht => Nat.dvd_trans (dens_dvd ht) (densS_dvd hp))
  refine this.mono (Nat.le_trans (bnd_pol (by have := hpo.len; omega)) (Nat.pow_le_pow_right (by decide) (by omega)))
theorem term_bd {n m k K : Nat} {xs : List Rat} {t : Tm} (ht : TermOk m t) (hx : CpL n xs) (hn : 80 + 24 * n < 32 * K) : Bd K (rp (rt t.1 * monV (xs.take k) (t.2.take k))) := by
 obtain ⟨D, h1, h2, h3⟩ := hx
 have h4 := cap_term (k := k) ht h3 h1 (Nat.pow_pos (by decide))
 have hr := ht.rat
 have r1 := hr.1
 have r2 := hr.2.1
 refine Cap.bd (b := 40 + 12 * n) (d := 40 + 12 * n) (h4.mono ?_) (Nat.mul_pos (by omega) (Nat.pow_pos h1)) ?_ (by omega)
 ·rw [pow12, Nat.pow_add]
  exact Nat.mul_le_mul_right _ (by decide)
 ·rw [Nat.pow_add, ← pow12]
  exact Nat.mul_le_mul (by omega) (Nat.pow_le_pow_left h2 12)
theorem pol_bd {n m j K : Nat} {xs : List Rat} {p : Pl} (hp : PolyOk m p) (hx : CpL n xs) (hn : 2446 + 24 * n < 32 * K) : Bd K (rp (polV xs (p.take j))) := by
 obtain ⟨D, h1, h2, h3⟩ := hx
 have hl := hp.len
 have hl2 : (p.take j).length ≤ 60 := by rw [List.length_take]; omega
 have hd := dens_le (p := p.take j) (fun t ht => (hp.term t (List.mem_of_mem_take ht)).rat)
 have h4 := cap_pol (m := m) h3 h1 (Nat.pow_pos (by decide)) (E := dens (p.take j)) (p := p.take j) (fun t ht => hp.term t (List.mem_of_mem_take ht)) (fun t ht => dens_dvd ht)
 refine Cap.bd (b := 46 + 12 * n) (d := 2400 + 12 * n) (h4.mono (bnd_pol (by omega))) (Nat.mul_pos hd.1 (Nat.pow_pos h1)) ?_ (by omega)
 exact two_mul (c := 40 * (p.take j).length + (2400 - 40 * (p.take j).length)) (d := 12 * n) (by omega) (two_up hd.2 (by omega)) (by rw [← pow12]; exact Nat.pow_le_pow_left h2 12)
end Go.Proofs.YtokckcnfojjpjaaGreat

set_option linter.unusedVariables false
set_option linter.unusedSimpArgs false
namespace Go.Proofs.YtokckcnfojjpjaaGreat
open Go.RowKit
set_option maxRecDepth 20000
theorem closeB_getS : ∀ {bs : List Nat} {H : Hp} {b : Nat} {cells : List C} {el : TypeId}, b ∈ bs → H[b]? = some (.live ⟨cells, el, .rw⟩) → (wF H bs)[b]? = some (.live ⟨cells, el, .ro⟩) := by
 have keep : ∀ {bs : List Nat} {H : Hp} {b : Nat} {cells : List C} {el : TypeId} {kd : BK}, H[b]? = some (.live ⟨cells, el, kd⟩) → (wF H bs)[b]? = some (.live ⟨cells, el, kd⟩) ∨ (wF H bs)[b]? = some (.live ⟨cells, el, .ro⟩) := by
  intro bs
  induction bs with
  | nil => intro H b cells el kd h; exact .inl h
  | cons a r ih =>
   intro H b cells el kd h
   have h2 := ih h
   unfold wF
   split
   ·rename_i bx hbx
    split
    ·rename_i hk
     by_cases e : a = b
     ·subst e
      rw [List.getElem?_set_self (lt_of_getElem? hbx)]
      rcases h2 with h2 | h2
      ·rw [h2] at hbx
       cases hbx
       exact .inr rfl
      ·rw [h2] at hbx
       cases hbx
       exact .inr rfl
     ·rw [List.getElem?_set_ne e]
      exact h2
    ·exact h2
   ·exact h2
 intro bs
 induction bs with
 | nil => intro H b cells el hm; cases hm
 | cons a r ih =>
  intro H b cells el hm h
  by_cases e : a = b
  ·subst e
   have h2 := keep (bs := r) h
   unfold wF
   rcases h2 with h2 | h2
   ·rw [h2]
    simp only
    rw [List.getElem?_set_self (lt_of_getElem? h2)]
   ·rw [h2]
    exact h2
  ·have hm : b ∈ r := by
    rcases List.mem_cons.1 hm with h3 | h3
    ·exact absurd h3.symm e
    ·exact h3
   have h2 := ih hm h
   unfold wF
   split
   ·split
    ·rw [List.getElem?_set_ne e]
     exact h2
    ·exact h2
   ·exact h2
theorem Out.closeS {α : Type} {E : El α} {el : TypeId} {m : Nat} {H : Hp} {c : C} {l : List α} (h : Out E el m H c l) : ∃ bs d, Fz (· = .ro) (wF H bs) c d ∧ Ls E d l := by
 cases h with
 | nil => exact ⟨[], _, .hf trivial, .nil⟩
 | sl hm hb hn hc h =>
  rename_i b n co cells ds
  subst hn
  refine ⟨[b], _, .sl (closeB_getS (List.mem_cons_self) hb) rfl (by simp) ?_, .imm h⟩
  simp only [List.drop_zero]
  rw [hc]
  exact .hf h.hf
theorem IQ.tightS {k m : Nat} {cs : List C} {q : Rat} (h : IQ k cs q) (hb : Bd m (rp q)) : IQ m cs q := ⟨h.is, hb⟩
theorem IR.tightS {k m : Nat} {cs : List C} {q : Rat} (h : IR k cs q) (hb : Bd m (rp q)) : IR m cs q := ⟨h.is, hb⟩
theorem ld_splice {s : Option Slot} {cells cs : List C} {el : TypeId} {kd : BK} {size off off' : Nat} {K : V → Prop} (h : s = some (.live ⟨splice cells off cs, el, kd⟩)) (hl : cs.length = size) (hf : off' = off) (ho : off + size ≤ cells.length) (k : K (.agg cs)) : yW s true size off' K := by
 subst hf
 refine yI h (Nat.ble_eq_true_of_le (by simp only; rw [jD (by omega)]; exact ho)) ?_
 simp only
 rw [get_splice (by omega) hl]
 exact k
theorem sumP_mem {x : Int} : ∀ {X : List Int}, x ∈ X → x ≤ sumP X
 | y :: X, h => by
  have h0 := sumP_nn X
  simp only [sumP]
  rcases List.mem_cons.1 h with rfl | h
  ·split <;> omega
  ·have := sumP_mem h
   split <;> omega
def xG (x : List Rat) (c : Rat) (k : List Rat) : List Rat := List.zipWith (fun a b => a + c * b) x k
attribute [local irreducible] yA semH semC qLen qNil qIad qSlc qIdx yW yL xD appX appI slcX awpF yP xI xopF xR qval lval seqQ xL wJ wI xW cnd arith IntKind.wrap
theorem step_At {cf cx : C} {f : List Pl} {xs : List Rat} {n : Nat} (hc : Ls elM cf f) (hf : SysOk xs.length f) (hx : Ls (elQ 4194304) cx xs) (hb : CpL n xs) (hn : 2446 + 24 * n < 134217728) : semC Tryz.prog n_step_At [.c cf, .c cx] (LsK (elQ 4194304) (jH f xs)) := by
 refine yD ok_step_At rfl (show HFVs [.c cf, .c cx] from ⟨hc.hf, hx.hf, trivial⟩) ?_
 have hlen := hf.len
 refine go11 ?_
 refine vT (by rfl) (by rfl) ⟨by omega, by omega, by omega, by omega⟩ ?_
 refine go11 ?_
 simp only [tN, tM, ratC, tY, tX, List.set_cons_zero, List.set_cons_succ, List.nil_append, List.cons_append, List.append_nil, List.replicate_succ, List.replicate_zero, List.length_cons, List.length_nil, splice, List.take_succ_cons, List.take_zero, List.drop_succ_cons, List.drop_zero, List.take_nil, List.drop_nil, Nat.zero_add, Nat.reduceAdd, Nat.reduceMul, Int.reduceToNat, wF, List.getElem?_cons_succ, List.getElem?_cons_zero]
 refine yT (fun w vs H => ∃ (i : Nat) (cells : List C) (R : Hp), vs = [.c cx, .c (.sl 0 0 f.length (some f.length) 6), .c cf, i64 f.length, i64 i] ∧ H = .live ⟨cells, yZ, .rw⟩ :: R ∧ w = f.length - i ∧ i ≤ f.length ∧ Fill (elQ 4194304) bH f.length cells ((jH f xs).take i)) (by rfl) ⟨0, _, [], rfl, rfl, rfl, by omega, .zero rfl⟩ ?_
 rintro w vs H ⟨i, cells, R, rfl, rfl, rfl, i1, i2⟩
 have hcl : cells.length = f.length * 6 := i2.len
 have hfl : (jH f xs).length = f.length := by simp [jH]
 have htl : ((jH f xs).take i).length = i := by rw [List.length_take]; omega
 refine go11 ?_
 cases hi : yA Cm.lss (i : Int) (f.length : Int)
 case false =>
  simp [yA] at hi
  have ei : i = f.length := by omega
  subst ei
  rw [sD (by omega)] at i2
  have h4 := i2.done (by omega)
  have h5 := Ls.imm h4
  rw [hfl] at h5
  refine go11 ?_
  exact ⟨_, .c (fz_sl (bx := ⟨cells, yZ, .rw⟩) (ds := cells) (by rfl) (by simp) (by simp) (by rw [List.drop_zero, List.take_of_length_le (by simp only; omega)]) h4.hf), _, rfl, h5⟩
 simp [yA] at hi
 refine go11 ?_
 refine qD hc (i := i) hi (by omega) rfl (fun cs hcs => ?_)
 obtain ⟨d, rfl, hd, hdl⟩ := hcs
 unfold vE at hdl
 have hp := hf.poly f[i] (vH hi)
 have hpl := hp.len
 refine go11 ?_
 first | refine yE (vG (g := 0) (by decide)) (fun u hu => ?_) | refine yB (vG (g := 0) (by decide)) (fun u hu => ?_)
 obtain ⟨es, rfl, g0⟩ := hu
 obtain ⟨_, _, _, _, _, _, rfl⟩ := id g0.six
 refine go11 ?_
 refine yT (fun w vs H => ∃ (j : Nat) (acc : List C) (R : Hp), vs = [.c cx, .c (.sl 0 0 f.length (some f.length) 6), i64 i, .c cf, i64 f.length, i64 i, .c d, i64 f[i].length, i64 j] ∧ H = .live ⟨splice cells (i * 6) acc, yZ, .rw⟩ :: R ∧ w = f[i].length - j ∧ j ≤ f[i].length ∧ IQ 4194304 acc (polV xs (f[i].take j))) (by rfl) ⟨0, _, _, rfl, by rw [Nat.zero_add]; rfl, rfl, by omega, g0.up (by decide)⟩ ?_
 clear g0
 rintro w vs H ⟨j, acc, R, rfl, rfl, rfl, j1, j2⟩
 obtain ⟨a0, a1, a2, a3, a4, a5, rfl⟩ := id j2.six
 refine go11 ?_
 cases hj : yA Cm.lss (j : Int) (f[i].length : Int)
 case false =>
  simp [yA] at hj
  rw [sD (by omega)] at j2
  refine go11 ?_
  rw [xV i (by omega)]
  have h4 := i2.put (cs := [a0, a1, a2, a3, a4, a5]) (a := polV xs f[i]) (by rw [htl]; exact hi) j2
  rw [htl] at h4
  refine l_n (by rfl) (n' := f.length - (i + 1)) (by omega) ⟨i + 1, _, _, rfl, rfl, rfl, by omega, ?_⟩
  rw [vD (show i < (jH f xs).length by omega), show (jH f xs)[i]'(by omega) = polV xs f[i] by simp [jH]]
  exact h4
 simp [yA] at hj
 refine go11 ?_
 refine qD hd (i := j) hj (by omega) rfl (fun cs hcs => ?_)
 obtain ⟨e, rfl, he, hel⟩ := hcs
 unfold vE at hel
 have ht := hp.term f[i][j] (vH hj)
 have hxl := ht.len
 refine go11 ?_
 first | refine yE (q_Of ht.rat) (fun u hu => ?_) | refine yB (q_Of ht.rat) (fun u hu => ?_)
 obtain ⟨es, rfl, g1⟩ := hu
 obtain ⟨_, _, _, _, _, _, rfl⟩ := id g1.six
 refine go11 ?_
 refine yT (fun w vs H => ∃ (k : Nat) (ac : List C), vs = [.c cx, .c (.sl 0 0 f.length (some f.length) 6), i64 i, .c (.ptr (((.live ⟨splice cells (i * 6) [a0, a1, a2, a3, a4, a5], yZ, .rw⟩ :: R) ++ [.live ⟨[iC f[i][j].1.1, iC f[i][j].1.2, e], T_api_Term, .rw⟩]) : Hp).length 0), .c cf, i64 f.length, i64 i, .c d, i64 f[i].length, i64 j, .c e, i64 f[i][j].2.length, i64 k] ∧ H = ((.live ⟨splice cells (i * 6) [a0, a1, a2, a3, a4, a5], yZ, .rw⟩ :: R) ++ [.live ⟨[iC f[i][j].1.1, iC f[i][j].1.2, e], T_api_Term, .rw⟩]) ++ [.live ⟨ac, yZ, .rw⟩] ∧ w = f[i][j].2.length - k ∧ k ≤ f[i][j].2.length ∧ IQ 4194304 ac (rt f[i][j].1 * monV (xs.take k) (f[i][j].2.take k))) (by rfl) ⟨0, _, rfl, rfl, rfl, by omega, by rw [List.take_zero, List.take_zero]; simp only [monV]; rw [Rat.mul_one]; exact g1.up (by decide)⟩ ?_
 clear g1
 rintro w vs H ⟨k, ac, rfl, rfl, rfl, k1, k2⟩
 obtain ⟨b0, b1, b2, b3, b4, b5, rfl⟩ := id k2.six
 refine go11 ?_
 cases hk : yA Cm.lss (k : Int) (f[i][j].2.length : Int)
 case false =>
  simp [yA] at hk
  rw [sD (by omega), sD (by omega)] at k2
  refine go11 ?_
  refine ld_splice (cells := cells) (off := i * 6) (cs := [a0, a1, a2, a3, a4, a5]) (by rfl) (by rfl) (by omega) (by omega) ?_
  refine go11 ?_
  first | refine yE (tL j2 k2 (by decide)) (fun u hu => ?_) | refine yB (tL j2 k2 (by decide)) (fun u hu => ?_)
  obtain ⟨gs, rfl, g2⟩ := hu
  have hs : polV xs (f[i].take j) + rt f[i][j].1 * monV xs f[i][j].2 = polV xs (f[i].take (j + 1)) := (polV_take hj).symm
  rw [hs] at g2
  have g2 := g2.tightS (pol_bd (j := j + 1) (K := 4194304) hp hb (by omega))
  obtain ⟨_, _, _, _, _, _, rfl⟩ := id g2.six
  refine go11 ?_
  refine yS (cs := splice cells (i * 6) [a0, a1, a2, a3, a4, a5]) (by rfl) (by rfl) (by rfl) (by rw [jD (by simp only [List.length_cons, List.length_nil]; omega)]; omega) ?_
  refine go11 ?_
  rw [xV j (by omega)]
  refine l_n (by rfl) (n' := f[i].length - (j + 1)) (by omega) ⟨j + 1, _, _, rfl, by rw [Nat.zero_add, Int.toNat_natCast, splice_twice (by omega) (by rfl)]; rfl, rfl, by omega, g2⟩
 simp [yA] at hk
 have hnn := ht.nn _ (vH hk)
 have hmt := monV_take (xs := xs) (X := f[i][j].2) (k := k) hxl.symm hk
 refine go11 ?_
 cases hz : yA Cm.gtr f[i][j].2[k] 0
 case false =>
  simp [yA] at hz
  have e0 : f[i][j].2[k].toNat = 0 := by omega
  rw [e0, Rat.pow_zero, Rat.mul_one] at hmt
  refine go11 ?_
  rw [xV k (by omega)]
  refine l_n (by rfl) (n' := f[i][j].2.length - (k + 1)) (by omega) ⟨k + 1, _, rfl, rfl, rfl, by omega, ?_⟩
  rw [hmt]
  exact k2
 refine go11 ?_
 refine qD hx (i := k) (by omega) (by omega) rfl (fun cs hcs => ?_)
 refine go11 ?_
 obtain ⟨m, hm⟩ := Int.eq_ofNat_of_zero_le hnn
 have hm2 : f[i][j].2[k].toNat = m := by omega
 have hle : m ≤ 12 := by
  have h1 := ht.deg
  have h2 := sumP_mem (vH hk) (X := f[i][j].2)
  omega
 rw [hm]
 first | refine yE (q_Pow m hcs (by omega) (by omega)) (fun u hu => ?_) | refine yB (q_Pow m hcs (by omega) (by omega)) (fun u hu => ?_)
 obtain ⟨gs, rfl, g2⟩ := hu
 refine go11 ?_
 first | refine yE (uC k2 g2 (by omega)) (fun u hu => ?_) | refine yB (uC k2 g2 (by omega)) (fun u hu => ?_)
 obtain ⟨ms, rfl, g3⟩ := hu
 rw [hm2] at hmt
 have hs : rt f[i][j].1 * monV (xs.take k) (f[i][j].2.take k) * (xs[k]'(by omega)) ^ m = rt f[i][j].1 * monV (xs.take (k + 1)) (f[i][j].2.take (k + 1)) := by rw [hmt, Rat.mul_assoc]
 rw [hs] at g3
 have g3 := g3.tightS (term_bd (k := k + 1) (K := 4194304) ht hb (by omega))
 obtain ⟨_, _, _, _, _, _, rfl⟩ := id g3.six
 refine go11 ?_
 rw [xV k (by omega)]
 exact l_n (by rfl) (n' := f[i][j].2.length - (k + 1)) (by omega) ⟨k + 1, _, rfl, rfl, rfl, by omega, g3⟩
end Go.Proofs.YtokckcnfojjpjaaGreat
