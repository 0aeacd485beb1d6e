/-
  Parts of the proof: The polynomial through points; tables of the reference: pieces, values.
-/
import Derived.Test.YtjncgcnofiaiaaaGreatMg22
set_option linter.unusedVariables false
set_option linter.unusedSimpArgs false
namespace Go.Proofs.YtjncgcnofiaiaaaGreat
open Go.RowKit
set_option maxRecDepth 20000
def prodTo (xs : List Rat) (i : Nat) (x : Rat) : Nat → Rat
 | 0 => 1
 | o + 1 => if o = i then prodTo xs i x o else prodTo xs i x o * ((x - xs.getD o 0) * (xs.getD i 0 - xs.getD o 0)⁻¹)
def lagTo (xs ys : List Rat) (x : Rat) : Nat → Rat
 | 0 => 0
 | i + 1 => lagTo xs ys x i + ys.getD i 0 * prodTo xs i x xs.length
def thF (k m : Nat) : Nat → Nat
 | 0 => k
 | j + 1 => evK (thF k m j) m ((j + 1) * 2) + (2 * m + 1)
theorem thF_succ {k m j : Nat} : thF k m j ≤ thF k m (j + 1) := by
 simp only [thF, evK]
 have := Nat.le_mul_of_pos_left (thF k m j + m + 1) (show 0 < (j + 1) * 2 by omega)
 omega
theorem thF_mono {k m i n : Nat} (h : i ≤ n) : thF k m i ≤ thF k m n := by
 induction h with
 | refl => exact Nat.le_refl _
 | step _ ih => exact Nat.le_trans ih thF_succ
def thO (k m n : Nat) : Nat → Nat
 | 0 => 1
 | i + 1 => thO k m n i + thF k m n + 1
theorem thO_mono {k m n i j : Nat} (h : i ≤ j) : thO k m n i ≤ thO k m n j := by
 induction h with
 | refl => exact Nat.le_refl _
 | step _ ih =>
  simp only [thO]
  omega
theorem thO_pos {k m n i : Nat} : 1 ≤ thO k m n i := by
 cases i <;> simp only [thO] <;> omega
structure IsThrough (xs ys m : List Rat) : Prop where
 ev : ∀ x, ev m x = lagTo xs ys x xs.length
 len : m.length ≤ xs.length + 1
 top : Top m
theorem line_through {xs ys : List Rat} {i : Nat} {x : Rat} (h : xs.getD i 0 < xs.getD (i + 1) 0) (hi : i + 1 < xs.length) (hlen : ys.length = xs.length) : lagTo ((xs.drop i).take 2) ((ys.drop i).take 2) x 2 = qA xs ys i x := by
 have l2 : ((xs.drop i).take 2).length = 2 := by simp; omega
 have ex : (xs.drop i).take 2 = [xs.getD i 0, xs.getD (i + 1) 0] := by
  apply List.ext_getElem
  ·simp; omega
  ·intro j h1 h2
   rw [List.getElem_take, List.getElem_drop]
   have : j < 2 := by simpa using h2
   match j, this with
   | 0, _ => simp [show i < xs.length by omega]
   | 1, _ => simp [hi]
 have ey : (ys.drop i).take 2 = [ys.getD i 0, ys.getD (i + 1) 0] := by
  apply List.ext_getElem
  ·simp; omega
  ·intro j h1 h2
   rw [List.getElem_take, List.getElem_drop]
   have : j < 2 := by simpa using h2
   match j, this with
   | 0, _ => simp [show i < ys.length by omega]
   | 1, _ => simp [show i + 1 < ys.length by omega]
 rw [ex, ey]
 have n1 := pT h
 simp only [lagTo, prodTo, List.length_cons, List.length_nil, List.getD_cons_zero, List.getD_cons_succ, if_pos, Nat.zero_add, Nat.reduceAdd, Nat.one_ne_zero, if_false, Nat.zero_ne_one]
 unfold qA slope
 rw [Rat.div_def]
 generalize xs.getD i 0 = a at *
 generalize xs.getD (i + 1) 0 = b at *
 generalize ys.getD i 0 = c
 generalize ys.getD (i + 1) 0 = d
 have n2 : a - b ≠ 0 := fun e => by grind
 have e1 : (a - b)⁻¹ = -(b - a)⁻¹ := by
  have h1 : (b - a) * (b - a)⁻¹ = 1 := Rat.mul_inv_cancel _ n1
  have h2 : (a - b) * (a - b)⁻¹ = 1 := Rat.mul_inv_cancel _ n2
  generalize (b - a)⁻¹ = u at *
  generalize (a - b)⁻¹ = v at *
  grind
 rw [e1]
 have h1 : (b - a) * (b - a)⁻¹ = 1 := Rat.mul_inv_cancel _ n1
 generalize (b - a)⁻¹ = u at *
 grind
theorem elR_two {k : Nat} {cs ds : List C} {a b : Rat} (h1 : IR k cs a) (h2 : IR k ds b) : Els (elR k) (cs ++ ds) [a, b] := .cons h1 (.one h2)
structure RTab (kind : Int) (cx cy : C) (xs ys : List Rat) (K : Nat) (pc : Nat → Rat → Rat) : Prop where
 x : Ls (elR 2) cx xs
 y : Ls (elR 2) cy ys
 len : ys.length = xs.length
 pos : 0 < xs.length
 small : xs.length ≤ 1024
 piece : ∀ i, i + 1 < xs.length → semC Tryz.prog n_ref24_table_piece [.agg [iC kind, cx, cy], i64 i] (vQ (elR K) (jE (pc i)))
theorem row_len {l : List Rat} {i : Nat} (hi : i + 1 < l.length) : ((l.drop i).take 2).length = 2 := by simp; omega
theorem row_ne {l : List Rat} {i : Nat} (hr : tK l) (hi : i + 1 < l.length) : ∀ a b (ha : a < ((l.drop i).take 2).length) (hb : b < ((l.drop i).take 2).length), a ≠ b → ((l.drop i).take 2)[a] ≠ ((l.drop i).take 2)[b] := by
 intro a b ha hb hab
 have e := row_len hi
 have h := hr i hi
 simp only [List.getElem_take, List.getElem_drop]
 obtain rfl | rfl : a = 0 ∨ a = 1 := by omega
 ·obtain rfl | rfl : b = 0 ∨ b = 1 := by omega
  ·exact absurd rfl hab
  ·simp only [Nat.add_zero]
   grind
 ·obtain rfl | rfl : b = 0 ∨ b = 1 := by omega
  ·simp only [Nat.add_zero]
   grind
  ·exact absurd rfl hab
attribute [local irreducible] yA semH semC qLen qNil qIad qSlc qIdx xA yM xH appX appI slcX awpF yQ xM xopF xT qval lval seqQ xO wT wL wI cnd arith IntKind.wrap
theorem ref02_Through {k m : Nat} {cx cy : C} {xs ys : List Rat} (hx : Ls (elR m) cx xs) (hy : Ls (elR k) cy ys) (hlen : ys.length = xs.length) (hl : xs.length < 1024) (hm : 1 ≤ m) (hd : ∀ a b (ha : a < xs.length) (hb : b < xs.length), a ≠ b → xs[a] ≠ xs[b]) (hF : thF k m xs.length ≤ 134217727) (hO : thO k m xs.length xs.length ≤ 134217727) (hF1 : 1 ≤ k) : semC Tryz.prog n_ref02_Through [.c cx, .c cy] (vQ (elR (thO k m xs.length xs.length)) (IsThrough xs ys)) := by
 refine yC ok_ref02_Through rfl (show HFVs [.c cx, .c cy] from ⟨hx.hf, hy.hf, trivial⟩) ?_
 refine go8 ?_
 refine yB (r_Int (g := 1) (by decide)) (fun u hu => ?_)
 obtain ⟨os, rfl, g1⟩ := hu
 obtain ⟨o1, o2, o3, o4, rfl⟩ := id g1.four
 refine go8 ?_
 simp only [uA, vW, ratC, uX, uW, List.set_cons_zero, List.set_cons_succ, List.nil_append, List.cons_append, List.append_nil, List.replicate_succ, List.replicate_zero, List.length_cons, List.length_nil, splice, List.take_succ_cons, List.take_zero, List.drop_succ_cons, List.drop_zero, List.take_nil, List.drop_nil, Nat.zero_add, Nat.reduceAdd, Nat.reduceMul, Int.reduceToNat, xS, List.getElem?_cons_succ, List.getElem?_cons_zero]
 refine yS (fun w vs H => ∃ (i : Nat) (o : C) (O : List Rat) (R : Hp), vs = [.c cx, .c cy, .c o, .c (.ptr 0 0), i64 i] ∧ H = .live ⟨[o1, .bool o2, o3, .bool o4], yF, .rw⟩ :: R ∧ w = xs.length - i ∧ i ≤ xs.length ∧ Ls (elR (thO k m xs.length i)) o O ∧ O.length ≤ xs.length + 1 ∧ (∀ x, ev O x = lagTo xs ys x i) ∧ Top O) (by rfl) ⟨0, _, [], [], rfl, rfl, rfl, by omega, .nil, by simp, fun x => rfl, fun h => absurd h (by simp)⟩ ?_
 rintro w vs H ⟨i, o, O, R, rfl, rfl, rfl, h1, h2, h3, h4, h5⟩
 refine go8 ?_
 cases hi : yA Cm.lss (i : Int) (xs.length : Int)
 case false =>
  simp [yA] at hi
  have ei : i = xs.length := by omega
  subst ei
  refine go8 ?_
  exact vQ.fz h2 ⟨h4, h3, h5⟩
 simp [yA] at hi
 refine go8 ?_
 refine xW hy (i := i) (by omega) (by omega) rfl (fun ds hds => ?_)
 obtain ⟨d1, d2, d3, d4, rfl⟩ := id hds.four
 refine go8 ?_
 simp only [uA, vW, ratC, uX, uW, List.set_cons_zero, List.set_cons_succ, List.nil_append, List.cons_append, List.append_nil, List.replicate_succ, List.replicate_zero, List.length_cons, List.length_nil, splice, List.take_succ_cons, List.take_zero, List.drop_succ_cons, List.drop_zero, List.take_nil, List.drop_nil, Nat.zero_add, Nat.reduceAdd, Nat.reduceMul, Int.reduceToNat, xS, List.getElem?_cons_succ, List.getElem?_cons_zero]
 refine yS (fun w vs H => ∃ (j : Nat) (f : C) (F : List Rat) (R : Hp), vs = [.c cx, .c cy, .c o, .c (.ptr 0 0), i64 i, .c f, i64 j] ∧ H = .live ⟨[o1, .bool o2, o3, .bool o4], yF, .rw⟩ :: R ∧ w = xs.length - j ∧ j ≤ xs.length ∧ Ls (elR (thF k m j)) f F ∧ F.length ≤ j + 1 ∧ ∀ x, ev F x = ys[i] * prodTo xs i x j) (by rfl) ⟨0, _, [ys[i]], R, rfl, rfl, rfl, by omega, .imm (.one hds), by simp, fun x => by rw [pY]; simp only [prodTo]; grind⟩ ?_
 clear hds
 rintro w vs H ⟨j, f, F, R, rfl, rfl, rfl, j1, j2, j3, j4⟩
 refine go8 ?_
 cases hj : yA Cm.lss (j : Int) (xs.length : Int)
 case false =>
  simp [yA] at hj
  have ej : j = xs.length := by omega
  subst ej
  refine go8 ?_
  refine yB (pF j2 (by omega)) (fun u hu => ?_)
  obtain ⟨ct, T, rfl, t1, t2⟩ := hu
  have t3 := t2.len
  have hO1 := Nat.le_trans (thO_mono (k := k) (m := m) (n := xs.length) (show i + 1 ≤ xs.length by omega)) hO
  simp only [thO] at hO1
  refine go8 ?_
  refine yB (ref02_Plus h2 t1 (by omega) (by omega) thO_pos (Nat.le_trans hF1 (thF_mono (k := k) (m := m) (Nat.zero_le _))) (by omega)) (fun u hu => ?_)
  obtain ⟨cp, P, rfl, p1, p2⟩ := hu
  have p3 := p2.len
  refine go8 ?_
  rw [xD i (by omega)]
  refine l_n (by rfl) (n' := xs.length - (i + 1)) (by omega) ⟨i + 1, cp, P, _, rfl, rfl, rfl, by omega, p1, by omega, fun x => ?_, p2.top⟩
  rw [p2.ev, h4, t2.ev, j4]
  simp only [lagTo]
  rw [yX (l := ys) (i := i) (by omega)]
 simp [yA] at hj
 have hFj := Nat.le_trans (thF_mono (k := k) (m := m) (show j + 1 ≤ xs.length by omega)) hF
 simp only [thF] at hFj
 have hF1' := evK_le (k := thF k m j) (m := m) (n := (j + 1) * 2)
 refine go8 ?_
 cases hji : yA Cm.neq (j : Int) (i : Int)
 case false =>
  simp [yA] at hji
  refine go8 ?_
  rw [xD j (by omega)]
  refine l_n (by rfl) (n' := xs.length - (j + 1)) (by omega) ⟨j + 1, f, F, _, rfl, rfl, rfl, by omega, j2.up' thF_succ, by omega, fun x => ?_⟩
  rw [j4]
  simp only [prodTo]
  rw [if_pos (by omega)]
 simp [yA] at hji
 have hji : j ≠ i := by omega
 refine go8 ?_
 refine xW hx (i := j) (by omega) (by omega) rfl (fun av has => ?_)
 refine go8 ?_
 refine xW hx (i := i) (by omega) (by omega) rfl (fun bs hbs => ?_)
 refine go8 ?_
 refine xW hx (i := j) (by omega) (by omega) rfl (fun cs hcs => ?_)
 refine go8 ?_
 refine yG (r_Neg has (by omega)) (fun u hu => ?_)
 obtain ⟨es, rfl, g2⟩ := hu
 obtain ⟨e1, e2, e3, e4, rfl⟩ := id g2.four
 refine go8 ?_
 have g3 := elR_two g2 (g1.up hm)
 have hle : evK (thF k m j) m (F.length * 2) ≤ evK (thF k m j) m ((j + 1) * 2) := jY (by omega)
 refine yG (ref02_Times j2 (.imm g3) (by omega) (by simp) (by simp only [List.length_cons, List.length_nil, Nat.zero_add, Nat.reduceAdd]; omega)) (fun u hu => ?_)
 obtain ⟨ct, T, rfl, t1, t2⟩ := hu
 have t3 := t2.len
 simp only [List.length_cons, List.length_nil, Nat.zero_add, Nat.reduceAdd] at t1 t3
 refine go8 ?_
 refine yG (r_Sub2 hbs hcs (by omega)) (fun u hu => ?_)
 obtain ⟨fs, rfl, g4⟩ := hu
 have hne : xs[i] - xs[j] ≠ 0 := fun e => hd i j (by omega) (by omega) (fun e => hji e.symm) (by grind)
 refine go8 ?_
 refine yG (r_Inv g4 (by omega) hne) (fun u hu => ?_)
 obtain ⟨gs, rfl, g5⟩ := hu
 refine go8 ?_
 refine yG (ref02_Scale t1 g5 (by omega) (by omega)) (fun u hu => ?_)
 obtain ⟨cu, U, rfl, u1, u2⟩ := hu
 have u3 := u2.len
 refine go8 ?_
 rw [xD j (by omega)]
 refine l_n (by rfl) (n' := xs.length - (j + 1)) (by omega) ⟨j + 1, cu, U, _, rfl, rfl, rfl, by omega, u1.up' (by simp only [thF]; omega), by omega, fun x => ?_⟩
 rw [u2.ev, t2.ev, j4, ev_two]
 simp only [prodTo]
 rw [if_neg hji, yX (l := xs) (i := j) (by omega), yX (l := xs) (i := i) (by omega)]
 grind
theorem ref24_piece_hold {cx cy : C} {xs ys : List Rat} {i : Nat} (hx : Ls (elR 2) cx xs) (hy : Ls (elR 2) cy ys) (hlen : ys.length = xs.length) (hl : xs.length ≤ 1024) (hi : i + 1 < xs.length) : semC Tryz.prog n_ref24_table_piece [.agg [iC 0, cx, cy], i64 i] (vQ (elR 40) (jE (holdP xs ys i))) := by
 refine yC ok_ref24_table_piece rfl (show HFVs [.agg [iC 0, cx, cy], i64 i] from ⟨⟨trivial, hx.hf, hy.hf, trivial⟩, trivial, trivial⟩) ?_
 refine go8 ?_
 refine c_t (by simp [yA]) ?_
 refine go8 ?_
 refine xW hy (i := i) (by omega) (by omega) rfl (fun av has => ?_)
 obtain ⟨a1, a2, a3, a4, rfl⟩ := id has.four
 refine go8 ?_
 simp only [uA, vW, ratC, uX, uW, List.set_cons_zero, List.set_cons_succ, List.nil_append, List.cons_append, List.append_nil, List.replicate_succ, List.replicate_zero, List.length_cons, List.length_nil, splice, List.take_succ_cons, List.take_zero, List.drop_succ_cons, List.drop_zero, List.take_nil, List.drop_nil, Nat.zero_add, Nat.reduceAdd, Nat.reduceMul, Int.reduceToNat, xS, List.getElem?_cons_succ, List.getElem?_cons_zero]
 refine yB (pF (.imm (.one has)) (by simp)) (fun u hu => ?_)
 obtain ⟨ct, T, rfl, t1, t2⟩ := hu
 have t3 := t2.len
 simp only [List.length_cons, List.length_nil] at t3
 refine go8 ?_
 refine vQ.fz (t1.up' (by decide)) ⟨fun x => ?_, by omega, t2.top⟩
 rw [t2.ev, pY]
 unfold holdP
 rw [yX (l := ys) (i := i) (by omega)]
theorem ref24_piece_line {cx cy : C} {xs ys : List Rat} {i : Nat} (hx : Ls (elR 2) cx xs) (hy : Ls (elR 2) cy ys) (hr : tK xs) (hlen : ys.length = xs.length) (hl : xs.length ≤ 1024) (hi : i + 1 < xs.length) : semC Tryz.prog n_ref24_table_piece [.agg [iC 1, cx, cy], i64 i] (vQ (elR (thO 2 2 2 2)) (jE (qA xs ys i))) := by
 refine yC ok_ref24_table_piece rfl (show HFVs [.agg [iC 1, cx, cy], i64 i] from ⟨⟨trivial, hx.hf, hy.hf, trivial⟩, trivial, trivial⟩) ?_
 refine go8 ?_
 refine c_f (by simp [yA]) ?_
 refine go8 ?_
 refine c_t (by simp [yA]) ?_
 refine go8 ?_
 rw [show arith .add .i64 (i : Int) 2 = ((i + 2 : Nat) : Int) by rw [yW, yE (by omega) (by omega)]; omega]
 refine pE (l := xs) (a := (i : Int)) (b := ((i + 2 : Nat) : Int)) (by rfl) hx rfl (by rfl) (by rfl) (by omega) (by omega) (by omega) (fun c1 hc1 => ?_)
 refine go8 ?_
 rw [show arith .add .i64 (i : Int) 2 = ((i + 2 : Nat) : Int) by rw [yW, yE (by omega) (by omega)]; omega]
 refine pE (l := ys) (a := (i : Int)) (b := ((i + 2 : Nat) : Int)) (by rfl) hy rfl (by rfl) (by rfl) (by omega) (by omega) (by omega) (fun c2 hc2 => ?_)
 rw [show ((i : Nat) : Int).toNat = i by omega, show ((i + 2 : Nat) : Int).toNat - i = 2 by omega] at hc1 hc2
 have l1 := row_len hi
 have l2 : ((ys.drop i).take 2).length = 2 := row_len (by omega)
 refine go8 ?_
 refine yG (ref02_Through hc1 hc2 (by omega) (by omega) (by decide) (row_ne hr hi) (by rw [l1]; decide) (by rw [l1]; decide) (by decide)) (fun u hu => ?_)
 obtain ⟨ct, T, rfl, t1, t2⟩ := hu
 have t3 := t2.len
 rw [l1] at t1 t3
 refine go8 ?_
 refine vQ.fz t1 ⟨fun x => ?_, by omega, t2.top⟩
 rw [t2.ev, l1]
 exact line_through (hr.get hi) hi hlen
theorem ref24_last {kind : Int} {cx cy : C} {k : Nat} {xs : List Rat} (hx : Ls (elR k) cx xs) (hy : HFC cy) (hl : xs.length < 1048576) (hp : 0 < xs.length) : semC Tryz.prog n_ref24_table_last [.agg [iC kind, cx, cy]] (IntK ((xs.length - 1 : Nat) : Int)) := by
 refine yC ok_ref24_table_last rfl (show HFVs [.agg [iC kind, cx, cy]] from ⟨⟨trivial, hx.hf, hy, trivial⟩, trivial⟩) ?_
 refine go5 ?_
 rw [show arith .sub .i64 (xs.length : Int) 1 = ((xs.length - 1 : Nat) : Int) by rw [xV, yE (by omega) (by omega)]; omega]
 refine go5 ?_
 exact IntK.fz
theorem ref24_value {kind : Int} {cx cy : C} {xs ys : List Rat} {K k : Nat} {pc : Nat → Rat → Rat} {cs : List C} {x : Rat} (h : RTab kind cx cy xs ys K pc) (hc : IR k cs x) (hK : vaK K k 4 ≤ 134217727) (hk4 : 4 * k + 1 ≤ 134217727) (hK2 : 2 ≤ K) : semC Tryz.prog n_ref24_table_value [.agg [iC kind, cx, cy], .agg cs] (RQV (vaK K k 4) (valR pc xs ys x)) := by
 have hx := h.x
 have hy := h.y
 refine yC ok_ref24_table_value rfl (show HFVs [.agg [iC kind, cx, cy], .agg cs] from ⟨⟨trivial, hx.hf, hy.hf, trivial⟩, hc.hf, trivial⟩) ?_
 obtain ⟨a, b, c1, d, rfl⟩ := id hc.four
 have hlen := h.len
 have hpos := h.pos
 have hsm := h.small
 have hkk : k + 2 ≤ 268435456 := by omega
 have h2k : 2 ≤ vaK K k 4 := by
  simp only [vaK]
  omega
 refine go5 ?_
 refine yB (ref24_last hx hy.hf (by omega) hpos) (fun u hu => ?_)
 obtain rfl := hu
 refine go5 ?_
 refine xW hx (i := 0) hpos (by omega) rfl (fun ds hds => ?_)
 refine go5 ?_
 refine yG (r_Cmp2 hc hds hkk) (fun u hu => ?_)
 obtain rfl := hu
 refine go5 ?_
 rw [cq_leq]
 cases h1 : dec (x ≤ xs[0])
 case true =>
  have h1 := yI.1 h1
  rw [← yX hpos] at h1
  refine go5 ?_
  refine xW hy (i := 0) (by omega) (by omega) rfl (fun es hes => ?_)
  obtain ⟨_, _, _, _, rfl⟩ := id hes.four
  refine go5 ?_
  refine RQV.fz (IR.up ?_ h2k)
  rw [val_lo h1, yX (l := ys) (i := 0) (by omega)]
  exact hes
 have h1 := yK.1 h1
 rw [← yX hpos] at h1
 refine go5 ?_
 refine xW hx (i := xs.length - 1) (by omega) (by omega) rfl (fun es hes => ?_)
 refine go5 ?_
 refine yG (r_Cmp2 hc hes hkk) (fun u hu => ?_)
 obtain rfl := hu
 refine go5 ?_
 rw [cq_geq]
 cases h2 : dec (xs[xs.length - 1] ≤ x)
 case true =>
  have h2 := yI.1 h2
  rw [← yX (l := xs) (i := xs.length - 1) (by omega)] at h2
  refine go5 ?_
  refine xW hy (i := xs.length - 1) (by omega) (by omega) rfl (fun es hes => ?_)
  obtain ⟨_, _, _, _, rfl⟩ := id hes.four
  refine go5 ?_
  refine RQV.fz (IR.up ?_ h2k)
  rw [val_hi h1 h2, yX (l := ys) (i := xs.length - 1) (by omega)]
  exact hes
 have h2 := yK.1 h2
 rw [← yX (l := xs) (i := xs.length - 1) (by omega)] at h2
 refine go5 ?_
 refine yS (fun w vs H => ∃ (i : Nat), vs = [.c (.ptr 0 0), .c (.ptr 1 0), .c (.ptr 2 0), i64 i] ∧ H = [.live ⟨[iC kind, cx, cy], vJ, .rw⟩, .live ⟨[a, .bool b, c1, .bool d], yF, .rw⟩, .live ⟨zeroRQ, yF, .rw⟩] ∧ w = xs.length - i ∧ i + 1 < xs.length ∧ ∀ j, j < i → xs.getD (j + 1) 0 ≤ x) (by rfl) ⟨0, rfl, rfl, rfl, ?_, fun j hj => by omega⟩ ?_
 ·rcases Nat.lt_or_ge 1 xs.length with h3 | h3
  ·omega
  ·have : xs.length - 1 = 0 := by omega
   rw [this] at h2
   grind
 rintro w vs H ⟨i, rfl, rfl, rfl, h3, h4⟩
 refine go5 ?_
 rw [xD i (by omega)]
 refine go5 ?_
 refine xW hx (i := i + 1) h3 (by omega) rfl (fun fs hfs => ?_)
 refine go5 ?_
 refine yG (r_Cmp2 hc hfs (by omega)) (fun u hu => ?_)
 obtain rfl := hu
 refine go5 ?_
 rw [cq_geq]
 cases h5 : dec (xs[i + 1] ≤ x)
 case true =>
  have h5 := yI.1 h5
  rw [← yX (l := xs) (i := i + 1) (by omega)] at h5
  refine go5 ?_
  rw [xD i (by omega)]
  refine l_n (by rfl) (n' := xs.length - (i + 1)) (by omega) ⟨i + 1, rfl, rfl, rfl, ?_, fun j hj => ?_⟩
  ·rcases Nat.lt_or_ge (i + 1 + 1) xs.length with h6 | h6
   ·exact h6
   ·have : xs.length - 1 = i + 1 := by omega
    rw [this] at h2
    exact absurd h5 h2
  ·rcases Nat.lt_or_ge j i with h6 | h6
   ·exact h4 j h6
   ·have : j = i := by omega
    subst this
    exact h5
 have h5 := yK.1 h5
 rw [← yX (l := xs) (i := i + 1) (by omega)] at h5
 refine go5 ?_
 refine yG (h.piece i h3) (fun u hu => ?_)
 obtain ⟨cp, mp, rfl, g1, g2⟩ := hu
 have l1 := g2.len
 have hE := Nat.le_trans (vaK_mono (k := K) (m := k) l1) hK
 have hk5 := Nat.mul_le_mul_right k l1
 refine go5 ?_
 refine yG (ref02_Value g1 hc (by omega) hE (by omega)) (fun u hu => ?_)
 obtain ⟨es, rfl, g3⟩ := hu
 obtain ⟨_, _, _, _, rfl⟩ := id g3.four
 refine go5 ?_
 refine RQV.fz (IR.up ?_ (vaK_mono l1))
 rw [val_in h1 h2 h3 (Rat.not_le.1 h5) h4, ← g2.ev]
 exact g3
theorem ref24_number {k : Nat} {cs : List C} {q : Rat} (hc : IR k cs q) : semC Tryz.prog n_ref24_number [.agg cs] (NumK q) := by
 refine yC ok_ref24_number rfl (show HFVs [.agg cs] from ⟨hc.hf, trivial⟩) ?_
 obtain ⟨a, b, c1, d, rfl⟩ := id hc.four
 refine go5 ?_
 refine yB (ref01_Rat hc.is (rp_pos q)) (fun u hu => ?_)
 obtain rfl := hu
 unfold outV
 cases h : fitR (rp q)
 ·refine go5 ?_
  exact NumK.no h
 ·refine go5 ?_
  exact NumK.yes h
end Go.Proofs.YtjncgcnofiaiaaaGreat

set_option linter.unusedVariables false
set_option linter.unusedSimpArgs false
namespace Go.Proofs.YtjncgcnofiaiaaaGreat
open Go.RowKit
set_option maxRecDepth 20000
noncomputable def lagX (d w : R2) : Rat := rt w - rt d
def LagOk (t v : List R2) (d w : R2) : Prop := sJ t ∧ sJ v ∧ tU d.1 d.2 ∧ tU w.1 w.2 ∧ 0 ≤ d.1 ∧ tK (t.map rt)
def LagOut (t : List R2) (x : Rat) : Prop := t = [] ∨ x < (t.map rt).getD 0 0 ∨ (t.map rt).getD ((t.map rt).length - 1) 0 < x
noncomputable def lagV (t v : List R2) (x : Rat) : Rat := valR (qA (t.map rt) (v.map rt)) (t.map rt) (v.map rt) x
noncomputable def lagR (t v : List R2) (d w : R2) : R2 × Bool × Int :=
 bif dec (64 < t.length ∨ 64 < v.length) then ((0, 0), false, 3) else
 bif dec (LagOk t v d w) then
  bif dec (t.length = v.length) then
   bif dec (LagOut t (lagX d w)) then ((0, 0), false, 0) else ((numR (lagV t v (lagX d w))).1, dec ((numR (lagV t v (lagX d w))).2 = 0), (numR (lagV t v (lagX d w))).2)
  else ((0, 0), false, 8)
 else ((0, 0), false, 1)
def LagK (t v : List R2) (d w : R2) (u : V) : Prop := u = .tup [.agg (ratC (lagR t v d w).1), .c (.bool (lagR t v d w).2.1), i64 (lagR t v d w).2.2]
theorem LagK.fz {t v : List R2} {d w : R2} {H : Hp} {r : R2} {b : Bool} {e : Int} (h : lagR t v d w = (r, b, e)) : ∃ x, FzV H (.tup [.agg (ratC r), .c (.bool b), i64 e]) x ∧ LagK t v d w x := by
 refine ⟨_, .tup (.cons (.agg (.hf (sN _))) (.cons (.c (.hf trivial)) (.cons (.c (.hf trivial)) .nil))), ?_⟩
 unfold LagK
 rw [h]
 rfl
theorem LagK.bad {t v : List R2} {d w : R2} {H : Hp} {e : Int} (h : lagR t v d w = ((0, 0), false, e)) : ∃ x, FzV H (.tup [.agg [.int .i64 0, .int .i64 0], .c (.bool false), i64 e]) x ∧ LagK t v d w x := LagK.fz h
attribute [local irreducible] yA semH semC qLen qNil qIad qSlc qIdx xA yM xH appX appI slcX awpF yQ xM xopF xT qval lval seqQ xO wT wL wI cnd arith IntKind.wrap
theorem line_shape {cx cy : C} {xs ys : List Rat} (hx : Ls (elQ 2) cx xs) (hy : Ls (elQ 2) cy ys) (hr : tK xs) (hlen : ys.length = xs.length) (hpos : 0 < xs.length) (hl : xs.length ≤ 1024) : Shape (.ifaceA jD [cx, cy]) cx cy xs ys 42 (qA xs ys) :=
 ⟨⟨hx.hf, hy.hf, trivial⟩, hx, hy, hlen, hpos, hl, table_at_line hx.hf hy.hf, fun i hi => table_piece_line hx hy hr hlen hl hi⟩
theorem line_rtab {cx cy : C} {xs ys : List Rat} (hx : Ls (elR 2) cx xs) (hy : Ls (elR 2) cy ys) (hr : tK xs) (hlen : ys.length = xs.length) (hpos : 0 < xs.length) (hl : xs.length ≤ 1024) : RTab 1 cx cy xs ys (thO 2 2 2 2) (qA xs ys) :=
 ⟨hx, hy, hlen, hpos, hl, fun i hi => ref24_piece_line hx hy hr hlen hl hi⟩
end Go.Proofs.YtjncgcnofiaiaaaGreat

set_option linter.unusedVariables false
set_option linter.unusedSimpArgs false
namespace Go.Proofs.YtjncgcnofiaiaaaGreat
open Go.RowKit
set_option maxRecDepth 20000
def TabOk (kind : Int) (X Y : List R2) : Prop := 0 ≤ kind ∧ kind ≤ 3 ∧ X ≠ [] ∧ X.length = Y.length ∧ sJ X ∧ sJ Y ∧ tK (X.map rt)
noncomputable def valE (kind : Int) (X Y : List R2) : Int := bif dec (24 < X.length ∨ 24 < Y.length) then 3 else bif dec (TabOk kind X Y) then 0 else 1
theorem val_long {kind : Int} {X Y : List R2} (h : 24 < X.length ∨ 24 < Y.length) : valE kind X Y = 3 := by
 unfold valE
 rw [yI.2 h]
 rfl
theorem sX {kind : Int} {X Y : List R2} (h : ¬ (24 < X.length ∨ 24 < Y.length)) (h2 : ¬ TabOk kind X Y) : valE kind X Y = 1 := by
 unfold valE
 rw [yK.2 h, yK.2 h2]
 rfl
theorem val_ok {kind : Int} {X Y : List R2} (h : ¬ (24 < X.length ∨ 24 < Y.length)) (h2 : TabOk kind X Y) : valE kind X Y = 0 := by
 unfold valE
 rw [yK.2 h, yI.2 h2]
 rfl
theorem qT {kind : Int} {X Y : List R2} (h : valE kind X Y = 0) : ¬ (24 < X.length ∨ 24 < Y.length) ∧ TabOk kind X Y := by
 unfold valE at h
 cases h1 : dec (24 < X.length ∨ 24 < Y.length)
 ·cases h2 : dec (TabOk kind X Y)
  ·rw [h1, h2] at h
   cases h
  ·exact ⟨yK.1 h1, yI.1 h2⟩
 ·rw [h1] at h
  cases h
theorem IntK.of {n m : Int} {H : Hp} (h : m = n) : ∃ d, FzV H (i64 n) d ∧ IntK m d := by
 subst h
 exact IntK.fz
noncomputable def tH (kind : Int) (X Y l : List R2) : Int := bif dec (valE kind X Y = 0) then bif dec (sJ l) then 0 else 1 else valE kind X Y
theorem with_val {kind : Int} {X Y l : List R2} (h : valE kind X Y ≠ 0) : tH kind X Y l = valE kind X Y := by
 unfold tH
 rw [yK.2 h]
 rfl
theorem with_bad {kind : Int} {X Y l : List R2} (h : valE kind X Y = 0) (h2 : ¬ sJ l) : tH kind X Y l = 1 := by
 unfold tH
 rw [yI.2 h, yK.2 h2]
 rfl
theorem with_ok {kind : Int} {X Y l : List R2} (h : valE kind X Y = 0) (h2 : sJ l) : tH kind X Y l = 0 := by
 unfold tH
 rw [yI.2 h, yI.2 h2]
 rfl
theorem jI {kind : Int} {X Y l : List R2} (h : tH kind X Y l = 0) : valE kind X Y = 0 ∧ sJ l := by
 unfold tH at h
 cases h1 : dec (valE kind X Y = 0)
 ·rw [h1] at h
  exact absurd h (yK.1 h1)
 ·cases h2 : dec (sJ l)
  ·rw [h1, h2] at h
   cases h
  ·exact ⟨yI.1 h1, yI.1 h2⟩
def qV : Nat := 65536
def MadeK (xs ys : List Rat) (pc : Nat → Rat → Rat) (u : V) : Prop := ∃ s cx cy K, u = .c s ∧ (2 ≤ K ∧ K ≤ qV) ∧ Shape s cx cy xs ys K pc
theorem MadeK.fz {xs ys : List Rat} {pc : Nat → Rat → Rat} {s cx cy : C} {K : Nat} {H : Hp} (h : Shape s cx cy xs ys K pc) (hK : 2 ≤ K ∧ K ≤ qV) : ∃ d, FzV H (.c s) d ∧ MadeK xs ys pc d := ⟨_, .c (.hf h.hf), s, cx, cy, K, rfl, hK, h⟩
noncomputable def gL (pc : Nat → Rat → Rat) (kind : Int) (X Y : List R2) (x : R2) : R2 × Int := bif dec (tH kind X Y [x] = 0) then numR (valR pc (X.map rt) (Y.map rt) (rt x)) else ((0, 0), tH kind X Y [x])
def PairK (r : R2 × Int) (u : V) : Prop := u = .tup [.agg (ratC r.1), i64 r.2]
theorem PairK.of {r r' : R2 × Int} {H : Hp} (h : r' = r) : ∃ d, FzV H (.tup [.agg (ratC r.1), i64 r.2]) d ∧ PairK r' d := by
 subst h
 exact ⟨_, .tup (.cons (.agg (.hf (sN _))) (.cons (.c (.hf trivial)) .nil)), rfl⟩
theorem PairK.bad {r' : R2 × Int} {e : Int} {H : Hp} (h : r' = ((0, 0), e)) : ∃ d, FzV H (.tup [.agg [.int .i64 0, .int .i64 0], i64 e]) d ∧ PairK r' d := PairK.of h
theorem evK_cap {K : Nat} (h : K ≤ qV) : evK K 2 4 ≤ 134217728 := by
 unfold evK
 unfold qV at h
 omega
theorem neq_dec (a b : Int) : yA Cm.neq a b = dec (a ≠ b) := rfl
attribute [local irreducible] yA semH semC qLen qNil qIad qSlc qIdx xA yM xH appX appI slcX awpF yQ xM xopF xT qval lval seqQ xO wT wL wI cnd arith IntKind.wrap
theorem table_Validate {cx cy : C} {X Y : List R2} (kind : Int) (hx : Ls elP cx X) (hy : Ls elP cy Y) : semC Tryz.prog n_table_Validate [.agg [iC kind, cx, cy]] (IntK (valE kind X Y)) := by
 refine yC ok_table_Validate rfl (show HFVs [.agg [iC kind, cx, cy]] from ⟨⟨trivial, hx.hf, hy.hf, trivial⟩, trivial⟩) ?_
 refine go5 ?_
 cases h1 : yA Cm.gtr (X.length : Int) 24
 case true =>
  simp [yA] at h1
  refine go5 ?_
  exact IntK.of (val_long (.inl (by omega)))
 simp [yA] at h1
 refine go5 ?_
 cases h2 : yA Cm.gtr (Y.length : Int) 24
 case true =>
  simp [yA] at h2
  refine go5 ?_
  exact IntK.of (val_long (.inr (by omega)))
 simp [yA] at h2
 have hs : ¬ (24 < X.length ∨ 24 < Y.length) := by omega
 have hl : X.length < 1073741824 := by omega
 have hl2 : Y.length < 1073741824 := by omega
 refine go5 ?_
 cases h3 : yA Cm.lss kind 0
 case true =>
  simp [yA] at h3
  refine go5 ?_
  exact IntK.of (sX hs (fun h => absurd h.1 (by omega)))
 simp [yA] at h3
 refine go5 ?_
 cases h4 : yA Cm.gtr kind 3
 case true =>
  simp [yA] at h4
  refine go5 ?_
  exact IntK.of (sX hs (fun h => absurd h.2.1 (by omega)))
 simp [yA] at h4
 refine go5 ?_
 cases h5 : yA Cm.eql (X.length : Int) 0
 case true =>
  simp [yA] at h5
  refine go5 ?_
  exact IntK.of (sX hs (fun h => h.2.2.1 h5))
 simp [yA] at h5
 refine go5 ?_
 cases h6 : yA Cm.neq (X.length : Int) (Y.length : Int)
 case true =>
  simp [yA] at h6
  refine go5 ?_
  exact IntK.of (sX hs (fun h => absurd h.2.2.2.1 (by omega)))
 simp [yA] at h6
 refine go5 ?_
 refine yB (num_AllValid hx hl) (fun u hu => ?_)
 obtain ⟨z1, rfl, k1⟩ := hu
 cases z1
 case false =>
  refine go5 ?_
  exact IntK.of (sX hs (fun h => absurd (k1.2 h.2.2.2.2.1) (by decide)))
 refine go5 ?_
 refine yB (num_AllValid hy hl2) (fun u hu => ?_)
 obtain ⟨z2, rfl, k2⟩ := hu
 cases z2
 case false =>
  refine go5 ?_
  exact IntK.of (sX hs (fun h => absurd (k2.2 h.2.2.2.2.2.1) (by decide)))
 have k1 := k1.1 rfl
 have k2 := k2.1 rfl
 refine go5 ?_
 refine yS (fun n vs H => ∃ (i : Nat), vs = [.c (.ptr 0 0), i64 i] ∧ H = [.live ⟨[iC kind, cx, cy], xR, .rw⟩] ∧ n = X.length + 1 - i ∧ 1 ≤ i ∧ i ≤ X.length + 1 ∧ ∀ j (h : j + 1 < (X.map rt).length), j + 1 < i → (X.map rt)[j] < (X.map rt)[j + 1]) (by rfl) ⟨1, rfl, rfl, rfl, by omega, by omega, fun j _ h => by omega⟩ ?_
 rintro n vs H ⟨i, rfl, rfl, rfl, j1, j2, j3⟩
 refine go5 ?_
 cases hi : yA Cm.lss (i : Int) (X.length : Int)
 case true =>
  simp [yA] at hi
  have hi1 : i - 1 < X.length := by omega
  refine go5 ?_
  rw [show arith .sub .i64 (i : Int) 1 = ((i - 1 : Nat) : Int) by rw [xV, yE (by omega) (by omega)]; omega]
  refine go5 ?_
  refine xW hx hi1 (by omega) rfl (fun cs hcs => ?_)
  obtain rfl := hcs
  refine go5 ?_
  refine xW hx hi (by omega) rfl (fun cs hcs => ?_)
  obtain rfl := hcs
  refine go5 ?_
  refine yG (q_Of (k1 _ (sP hi1))) (fun u hu => ?_)
  obtain ⟨ds, rfl, hd⟩ := hu
  refine go5 ?_
  refine yG (q_Of (k1 _ (sP hi))) (fun u hu => ?_)
  obtain ⟨es, rfl, he⟩ := hu
  refine go5 ?_
  refine yG (q_Cmp hd he (by decide)) (fun u hu => ?_)
  obtain rfl := hu
  refine go5 ?_
  rw [cq_geq]
  cases hg : dec (rt X[i] ≤ rt X[i - 1])
  ·refine go5 ?_
   rw [xD i (by omega)]
   refine l_n (by rfl) (n' := X.length + 1 - (i + 1)) (by omega) ⟨i + 1, rfl, rfl, rfl, by omega, by omega, ?_⟩
   refine rises_take (by simpa using hi) j3 (fun h0 => ?_)
   have := yK.1 hg
   simp only [List.getElem_map]
   exact Rat.not_le.1 this
  ·refine go5 ?_
   refine IntK.of (sX hs (fun h => ?_))
   have h5 := h.2.2.2.2.2.2 (i - 1) (by simp; omega)
   simp only [List.getElem_map, show i - 1 + 1 = i by omega] at h5
   exact absurd (yI.1 hg) (Rat.not_le.2 h5)
 simp [yA] at hi
 have hr : tK (X.map rt) := fun j hj => j3 j hj (by simp at hj; omega)
 refine go5 ?_
 exact IntK.of (val_ok hs ⟨by omega, by omega, h5, by omega, k1, k2, hr⟩)
theorem ref24_Validate {cx cy : C} {X Y : List R2} (kind : Int) (hx : Ls elP cx X) (hy : Ls elP cy Y) : semC Tryz.prog n_ref24_Validate [.agg [iC kind, cx, cy]] (IntK (valE kind X Y)) := by
 refine yC ok_ref24_Validate rfl (show HFVs [.agg [iC kind, cx, cy]] from ⟨⟨trivial, hx.hf, hy.hf, trivial⟩, trivial⟩) ?_
 refine go5 ?_
 cases h1 : yA Cm.gtr (X.length : Int) 24
 case true =>
  simp [yA] at h1
  refine go5 ?_
  exact IntK.of (val_long (.inl (by omega)))
 simp [yA] at h1
 refine go5 ?_
 cases h2 : yA Cm.gtr (Y.length : Int) 24
 case true =>
  simp [yA] at h2
  refine go5 ?_
  exact IntK.of (val_long (.inr (by omega)))
 simp [yA] at h2
 have hs : ¬ (24 < X.length ∨ 24 < Y.length) := by omega
 have hl : X.length < 1073741824 := by omega
 have hl2 : Y.length < 1073741824 := by omega
 refine go5 ?_
 cases h3 : yA Cm.lss kind 0
 case true =>
  simp [yA] at h3
  refine go5 ?_
  exact IntK.of (sX hs (fun h => absurd h.1 (by omega)))
 simp [yA] at h3
 refine go5 ?_
 cases h4 : yA Cm.gtr kind 3
 case true =>
  simp [yA] at h4
  refine go5 ?_
  exact IntK.of (sX hs (fun h => absurd h.2.1 (by omega)))
 simp [yA] at h4
 refine go5 ?_
 cases h5 : yA Cm.eql (X.length : Int) 0
 case true =>
  simp [yA] at h5
  refine go5 ?_
  exact IntK.of (sX hs (fun h => h.2.2.1 h5))
 simp [yA] at h5
 refine go5 ?_
 cases h6 : yA Cm.neq (X.length : Int) (Y.length : Int)
 case true =>
  simp [yA] at h6
  refine go5 ?_
  exact IntK.of (sX hs (fun h => absurd h.2.2.2.1 (by omega)))
 simp [yA] at h6
 refine go5 ?_
 refine yB (ref01_Are hx hl) (fun u hu => ?_)
 obtain ⟨z1, rfl, k1⟩ := hu
 cases z1
 case false =>
  refine go5 ?_
  exact IntK.of (sX hs (fun h => absurd (k1.2 h.2.2.2.2.1) (by decide)))
 refine go5 ?_
 refine yB (ref01_Are hy hl2) (fun u hu => ?_)
 obtain ⟨z2, rfl, k2⟩ := hu
 cases z2
 case false =>
  refine go5 ?_
  exact IntK.of (sX hs (fun h => absurd (k2.2 h.2.2.2.2.2.1) (by decide)))
 have k1 := k1.1 rfl
 have k2 := k2.1 rfl
 refine go5 ?_
 refine yB (ref24_rises hx k1 hl) (fun u hu => ?_)
 obtain ⟨z3, rfl, k3⟩ := hu
 cases z3
 case false =>
  refine go5 ?_
  exact IntK.of (sX hs (fun h => absurd (k3.2 h.2.2.2.2.2.2) (by decide)))
 refine go5 ?_
 exact IntK.of (val_ok hs ⟨by omega, by omega, h5, by omega, k1, k2, k3.1 rfl⟩)
theorem table_with {cx cy cl : C} {X Y l : List R2} (kind : Int) (hx : Ls elP cx X) (hy : Ls elP cy Y) (hc : Ls elP cl l) (hl3 : l.length < 1073741824) : semC Tryz.prog n_table_with [.agg [iC kind, cx, cy], .c cl] (IntK (tH kind X Y l)) := by
 refine yC ok_table_with rfl (show HFVs [.agg [iC kind, cx, cy], .c cl] from ⟨⟨trivial, hx.hf, hy.hf, trivial⟩, hc.hf, trivial⟩) ?_
 refine go5 ?_
 refine yB (table_Validate kind hx hy) (fun u hu => ?_)
 obtain rfl := hu
 refine go5 ?_
 rw [neq_dec]
 cases h1 : dec (valE kind X Y ≠ 0)
 case true =>
  refine go5 ?_
  exact IntK.of (with_val (yI.1 h1))
 have h1 : valE kind X Y = 0 := Classical.byContradiction (yK.1 h1)
 refine go5 ?_
 refine yS (fun n vs H => ∃ (i : Nat), vs = [.c cl, i64 l.length, i64 i] ∧ n = l.length - i ∧ i ≤ l.length ∧ sJ (l.take i)) (by rfl) ⟨0, rfl, rfl, by omega, by intro p hp; simp at hp⟩ ?_
 rintro n vs H ⟨i, rfl, rfl, j1, j2⟩
 refine go5 ?_
 cases hi : yA Cm.lss (i : Int) (l.length : Int)
 case false =>
  simp [yA] at hi
  have ei : i = l.length := by omega
  subst ei
  rw [List.take_length] at j2
  refine go5 ?_
  exact IntK.of (with_ok h1 j2)
 simp [yA] at hi
 refine go5 ?_
 refine xW hc hi (by omega) rfl (fun cs hcs => ?_)
 obtain rfl := hcs
 refine go5 ?_
 refine yB (rat_Validate l[i]) (fun u hu => ?_)
 obtain rfl := hu
 cases hz : dec (tU l[i].1 l[i].2)
 case false =>
  refine go5 ?_
  refine c_t (by simp [yA]) ?_
  refine go5 ?_
  exact IntK.of (with_bad h1 (fun h => yK.1 hz (h _ (sP hi))))
 refine go5 ?_
 refine c_f (by simp [yA]) ?_
 refine go5 ?_
 rw [xD i (by omega)]
 exact l_n (by rfl) (by omega) ⟨i + 1, rfl, rfl, by omega, j2.step hi (yI.1 hz)⟩
theorem table_made_line {cx cy : C} {X Y : List R2} (hx : Ls elP cx X) (hy : Ls elP cy Y) (h : valE 1 X Y = 0) : semC Tryz.prog n_table_made [.agg [iC 1, cx, cy]] (MadeK (X.map rt) (Y.map rt) (qA (X.map rt) (Y.map rt))) := by
 obtain ⟨h1, h2⟩ := qT h
 refine yC ok_table_made rfl (show HFVs [.agg [iC 1, cx, cy]] from ⟨⟨trivial, hx.hf, hy.hf, trivial⟩, trivial⟩) ?_
 refine go5 ?_
 refine yG (num_In hx h2.2.2.2.2.1 (by omega)) (fun u hu => ?_)
 obtain ⟨dx, rfl, g1⟩ := hu
 refine go5 ?_
 refine yG (num_In hy h2.2.2.2.2.2.1 (by omega)) (fun u hu => ?_)
 obtain ⟨dy, rfl, g2⟩ := hu
 refine go5 ?_
 refine c_t (by simp [yA]) ?_
 refine go5 ?_
 have hpos := List.length_pos_iff.2 h2.2.2.1
 have hlen := h2.2.2.2.1
 exact MadeK.fz (line_shape g1 g2 h2.2.2.2.2.2.2 (by simp; omega) (by simpa using hpos) (by simp; omega)) (by decide)
theorem table_Value {cx cy : C} {X Y : List R2} {pc : Nat → Rat → Rat} (kind : Int) (x : R2) (hx : Ls elP cx X) (hy : Ls elP cy Y) (hm : valE kind X Y = 0 → semC Tryz.prog n_table_made [.agg [iC kind, cx, cy]] (MadeK (X.map rt) (Y.map rt) pc)) : semC Tryz.prog n_table_Value [.agg [iC kind, cx, cy], .agg (ratC x)] (PairK (gL pc kind X Y x)) := by
 refine yC ok_table_Value rfl (show HFVs [.agg [iC kind, cx, cy], .agg (ratC x)] from ⟨⟨trivial, hx.hf, hy.hf, trivial⟩, sN _, trivial⟩) ?_
 refine go8 ?_
 simp only [uA, vW, ratC, uX, uW, List.set_cons_zero, List.set_cons_succ, List.nil_append, List.cons_append, List.append_nil, List.replicate_succ, List.replicate_zero, List.length_cons, List.length_nil, splice, List.take_succ_cons, List.take_zero, List.drop_succ_cons, List.drop_zero, List.take_nil, List.drop_nil, Nat.zero_add, Nat.reduceAdd, Nat.reduceMul, Int.reduceToNat, xS, List.getElem?_cons_succ, List.getElem?_cons_zero]
 have hc : Ls elP (.imm 1 (ratC x)) [x] := .imm (.one rfl)
 refine yB (table_with kind hx hy hc (by simp)) (fun u hu => ?_)
 obtain rfl := hu
 refine go8 ?_
 rw [neq_dec]
 cases h1 : dec (tH kind X Y [x] ≠ 0)
 case true =>
  refine go8 ?_
  refine PairK.bad ?_
  unfold gL
  rw [yK.2 (yI.1 h1)]
  rfl
 have h1 : tH kind X Y [x] = 0 := Classical.byContradiction (yK.1 h1)
 obtain ⟨h2, h3⟩ := jI h1
 refine go8 ?_
 refine yG (hm h2) (fun u hu => ?_)
 obtain ⟨s, dx, dy, K, rfl, hK, hS⟩ := hu
 refine go8 ?_
 refine yG (q_Of (h3 x (by simp))) (fun u hu => ?_)
 obtain ⟨es, rfl, g1⟩ := hu
 refine go8 ?_
 refine yG (table_value hS g1 (evK_cap hK.2)) (fun u hu => ?_)
 obtain ⟨fs, rfl, g2⟩ := hu
 refine go8 ?_
 refine yG (gB g2) (fun u hu => ?_)
 obtain rfl := hu
 refine go8 ?_
 refine PairK.of ?_
 unfold gL
 rw [yI.2 h1]
 rfl
end Go.Proofs.YtjncgcnofiaiaaaGreat

set_option linter.unusedVariables false
set_option linter.unusedSimpArgs false
namespace Go.Proofs.YtjncgcnofiaiaaaGreat
open Go.RowKit
set_option maxRecDepth 20000
theorem ev_pad {g : Nat → Rat} {n : Nat} (x : Rat) (h : ∀ j, n ≤ j → g j = 0) (m : Nat) : ev ((List.range (n + m)).map g) x = ev ((List.range n).map g) x := by
 induction m with
 | zero => rfl
 | succ m ih =>
  have e : (List.range (n + (m + 1))).map g = (List.range (n + m)).map g ++ [g (n + m)] := by
   rw [← Nat.add_assoc, List.range_succ, List.map_append]
   rfl
  rw [e, sH, ih, pY, h (n + m) (by omega)]
  grind
theorem integ_ext {l m : List Rat} (h : ∀ x, ev l x = ev m x) (x : Rat) : ev (integ l) x = ev (integ m) x := by
 have hc := coef_eq h
 have key : ∀ (l : List Rat) (n : Nat), ev ((List.range (l.length + n)).map fun i => l.getD i 0 / (((i + 1 : Nat) : Int) : Rat)) x = ev ((List.range l.length).map fun i => l.getD i 0 / (((i + 1 : Nat) : Int) : Rat)) x := fun l n => ev_pad x (fun j hj => by
  rw [getD_ge hj, Rat.div_def, Rat.zero_mul]) n
 unfold integ
 rw [show ev (0 :: (List.range l.length).map fun i => l.getD i 0 / (((i + 1 : Nat) : Int) : Rat)) x = 0 + x * ev ((List.range l.length).map fun i => l.getD i 0 / (((i + 1 : Nat) : Int) : Rat)) x from rfl,
  show ev (0 :: (List.range m.length).map fun i => m.getD i 0 / (((i + 1 : Nat) : Int) : Rat)) x = 0 + x * ev ((List.range m.length).map fun i => m.getD i 0 / (((i + 1 : Nat) : Int) : Rat)) x from rfl,
  ← key l m.length, ← key m l.length, Nat.add_comm m.length l.length]
 congr 3
 apply List.map_congr_left
 intro i _
 rw [hc i]
noncomputable def polyOf (f : Rat → Rat) : List Rat := Classical.epsilon fun m => ∀ x, ev m x = f x
noncomputable def prim (f : Rat → Rat) (x : Rat) : Rat := ev (integ (polyOf f)) x
theorem prim_eq {f : Rat → Rat} {m : List Rat} (h : ∀ x, ev m x = f x) (x : Rat) : ev (integ m) x = prim f x := by
 have h2 : ∀ x, ev (polyOf f) x = f x := Classical.epsilon_spec (p := fun m => ∀ x, ev m x = f x) ⟨m, h⟩
 exact integ_ext (fun x => (h x).trans (h2 x).symm) x
theorem Out.swap {α : Type} {E : El α} {el : TypeId} {F G R : Hp} {c : C} {l : List α} (h : Out E el F.length (F ++ R) c l) (hl : G.length = F.length) : Out E el F.length (G ++ R) c l := by
 cases h with
 | nil => exact .nil
 | @sl b n co cells ds l hm hb hn hc h =>
  have hb' : (G ++ R)[b]? = some (.live ⟨cells, el, .rw⟩) := by
   rw [List.getElem?_append_right hm] at hb
   rw [List.getElem?_append_right (by omega), hl]
   exact hb
  exact .sl hm hb' hn hc h
def mxQ (a b : Rat) : Rat := if a < b then b else a
def mnQ (a b : Rat) : Rat := if b < a then b else a
abbrev Part : Type := (Rat → Rat) × Rat × Rat
def clip (f : Rat → Rat) (a b lo hi : Rat) : List Part := if mxQ a lo < mnQ b hi then [(f, mxQ a lo, mnQ b hi)] else []
def bD (pc : Nat → Rat → Rat) (xs : List Rat) (lo hi : Rat) : Nat → List Part
 | 0 => []
 | i + 1 => bD pc xs lo hi i ++ clip (pc i) (xs.getD i 0) (xs.getD (i + 1) 0) lo hi
def bL (pc : Nat → Rat → Rat) (xs ys : List Rat) (lo hi : Rat) : List Part := clip (fun _ => ys.getD 0 0) lo (xs.getD 0 0) lo hi ++ bD pc xs lo hi (xs.length - 1) ++ clip (fun _ => ys.getD (xs.length - 1) 0) (xs.getD (xs.length - 1) 0) hi lo hi
noncomputable def termP (p : Part) : Rat := prim p.1 p.2.2 - prim p.1 p.2.1
noncomputable def bJ : List Part → Rat
 | [] => 0
 | p :: r => termP p + bJ r
theorem areaL_snoc (p : Part) : ∀ l, bJ (l ++ [p]) = bJ l + termP p
 | [] => by
  simp only [List.nil_append, bJ]
  grind
 | q :: r => by
  simp only [List.cons_append, bJ, areaL_snoc p r]
  grind
theorem areaL_take {l : List Part} {i : Nat} (h : i < l.length) : bJ (l.take (i + 1)) = bJ (l.take i) + termP l[i] := by
 rw [qU h, areaL_snoc]
theorem clip_len {f : Rat → Rat} {a b lo hi : Rat} : (clip f a b lo hi).length ≤ 1 := by
 unfold clip
 split <;> simp
theorem partsTo_len {pc : Nat → Rat → Rat} {xs : List Rat} {lo hi : Rat} : ∀ i, (bD pc xs lo hi i).length ≤ i
 | 0 => Nat.le_refl _
 | i + 1 => by
  have h1 := partsTo_len (pc := pc) (xs := xs) (lo := lo) (hi := hi) i
  have h2 := clip_len (f := pc i) (a := xs.getD i 0) (b := xs.getD (i + 1) 0) (lo := lo) (hi := hi)
  simp only [bD, List.length_append]
  omega
theorem partsR_len {pc : Nat → Rat → Rat} {xs ys : List Rat} {lo hi : Rat} : (bL pc xs ys lo hi).length ≤ xs.length + 2 := by
 have h1 := clip_len (f := fun _ => ys.getD 0 0) (a := lo) (b := xs.getD 0 0) (lo := lo) (hi := hi)
 have h2 := clip_len (f := fun _ => ys.getD (xs.length - 1) 0) (a := xs.getD (xs.length - 1) 0) (b := hi) (lo := lo) (hi := hi)
 have h3 := partsTo_len (pc := pc) (xs := xs) (lo := lo) (hi := hi) (xs.length - 1)
 simp only [bL, List.length_append]
 omega
structure IsPart (K : Nat) (cs : List C) (q : Part) : Prop where
 is : ∃ c m av bs, cs = c :: (av ++ bs) ∧ Ls (elQ K) c m ∧ jE q.1 m ∧ IQ 2 av q.2.1 ∧ IQ 2 bs q.2.2
def elPart (K : Nat) : El Part := ⟨IsPart K, 13, fun h => by
 obtain ⟨c, m, av, bs, rfl, _, _, h1, h2⟩ := h.is
 obtain ⟨_, _, _, _, _, _, rfl⟩ := h1.six
 obtain ⟨_, _, _, _, _, _, rfl⟩ := h2.six
 rfl, fun h => by
 obtain ⟨c, m, av, bs, rfl, h3, _, h1, h2⟩ := h.is
 exact ⟨h3.hf, HFL_app h1.hf h2.hf⟩⟩
theorem mx_rp (a b : Rat) : mxR (rp a) (rp b) = rp (mxQ a b) := by
 unfold mxR mxQ
 rw [less_rp]
 by_cases h : a < b
 ·rw [yI.2 h, if_pos h]
  rfl
 ·rw [yK.2 h, if_neg h]
  rfl
theorem mn_rp (a b : Rat) : mnR (rp a) (rp b) = rp (mnQ a b) := by
 unfold mnR mnQ
 rw [less_rp]
 by_cases h : b < a
 ·rw [yI.2 h, if_pos h]
  rfl
 ·rw [yK.2 h, if_neg h]
  rfl
theorem mx_bd {k : Nat} {a b : Rat} (h1 : Bd k (rp a)) (h2 : Bd k (rp b)) : Bd k (rp (mxQ a b)) := by
 unfold mxQ
 split
 ·exact h2
 ·exact h1
theorem mn_bd {k : Nat} {a b : Rat} (h1 : Bd k (rp a)) (h2 : Bd k (rp b)) : Bd k (rp (mnQ a b)) := by
 unfold mnQ
 split
 ·exact h2
 ·exact h1
theorem get2a {H : Hp} {a b : Slot} : ((H ++ [a]) ++ [b])[H.length]? = some a := by simp
theorem get2b {H : Hp} {a b : Slot} : ((H ++ [a]) ++ [b])[H.length + 1]? = some b := by simp
theorem set2a {H : Hp} {a b c : Slot} : ((H ++ [a]) ++ [b]).set H.length c = (H ++ [c]) ++ [b] := by simp
theorem set2b {H : Hp} {a b c : Slot} : ((H ++ [a]) ++ [b]).set (H.length + 1) c = (H ++ [a]) ++ [c] := by simp
theorem len1 {H : Hp} {a : Slot} : (H ++ [a]).length = H.length + 1 := by simp
theorem bM {H : Hp} {a b s : Slot} {i : Nat} (h : H[i]? = some s) : ((H ++ [a]) ++ [b])[i]? = some s := by
 have := lt_of_getElem? h
 rw [List.getElem?_append_left (by simp; omega), List.getElem?_append_left this]
 exact h
attribute [local irreducible] yA semH semC qLen qNil qIad qSlc qIdx xA yM xH appX appI slcX awpF yQ xM xopF xT qval lval seqQ xO wT wL wI cnd arith IntKind.wrap
theorem q_Max {k : Nat} {cs ds : List C} {a b : Rat} (hx : IQ k cs a) (hy : IQ k ds b) (hk : k ≤ 268435456) : semC Tryz.prog n_num_Max [.agg cs, .agg ds] (QV k (mxQ a b)) := by
 refine vR (fun u hu => ?_) (num_Max hx.is hy.is hx.bd hy.bd hk)
 obtain ⟨cs, rfl, h1⟩ := hu
 rw [mx_rp] at h1
 exact ⟨cs, rfl, h1, mx_bd hx.bd hy.bd⟩
theorem q_Min {k : Nat} {cs ds : List C} {a b : Rat} (hx : IQ k cs a) (hy : IQ k ds b) (hk : k ≤ 268435456) : semC Tryz.prog n_num_Min [.agg cs, .agg ds] (QV k (mnQ a b)) := by
 refine vR (fun u hu => ?_) (num_Min hx.is hy.is hx.bd hy.bd hk)
 obtain ⟨cs, rfl, h1⟩ := hu
 rw [mn_rp] at h1
 exact ⟨cs, rfl, h1, mn_bd hx.bd hy.bd⟩
theorem parts_add {K : Nat} {cp o : C} {m : List Rat} {f : Rat → Rat} {av bs fs ts : List C} {a b lo hi : Rat} {x2 : Slot} {R : Hp} {L : List Part} (hp : Ls (elQ K) cp m) (hf : jE f m) (ha : IQ 2 av a) (hb : IQ 2 bs b) (hfs : IQ 2 fs lo) (hts : IQ 2 ts hi)
  (hL : L.length < 1000000) (ho : Out (elPart K) T_table_part 4 (.live ⟨fs, wS, .rw⟩ :: .live ⟨ts, wS, .rw⟩ :: x2 :: .live ⟨[o], vI, .rw⟩ :: R) o L) :
  semH Tryz.prog n_table_parts_1 [.c cp, .agg av, .agg bs, .c (.ptr 0 0), .c (.ptr 1 0), .c (.ptr 3 0)] (.live ⟨fs, wS, .rw⟩ :: .live ⟨ts, wS, .rw⟩ :: x2 :: .live ⟨[o], vI, .rw⟩ :: R)
   (fun _ H' => ∃ o' R', H' = .live ⟨fs, wS, .rw⟩ :: .live ⟨ts, wS, .rw⟩ :: x2 :: .live ⟨[o'], vI, .rw⟩ :: R' ∧ Out (elPart K) T_table_part 4 (.live ⟨fs, wS, .rw⟩ :: .live ⟨ts, wS, .rw⟩ :: x2 :: .live ⟨[o'], vI, .rw⟩ :: R') o' (L ++ clip f a b lo hi)) := by
 refine gC ok_table_parts_1 rfl ?_
 obtain ⟨a1, a2, a3, a4, a5, a6, rfl⟩ := id ha.six
 obtain ⟨b1, b2, b3, b4, b5, b6, rfl⟩ := id hb.six
 obtain ⟨f1, f2, f3, f4, f5, f6, rfl⟩ := id hfs.six
 obtain ⟨t1, t2, t3, t4, t5, t6, rfl⟩ := id hts.six
 generalize hH : (Slot.live ⟨[f1, f2, f3, f4, f5, f6], wS, .rw⟩ :: .live ⟨[t1, t2, t3, t4, t5, t6], wS, .rw⟩ :: x2 :: .live ⟨[o], vI, .rw⟩ :: R) = H
 have g0 : H[0]? = some (.live ⟨[f1, f2, f3, f4, f5, f6], wS, .rw⟩) := by rw [← hH]; rfl
 have g1 : H[1]? = some (.live ⟨[t1, t2, t3, t4, t5, t6], wS, .rw⟩) := by rw [← hH]; rfl
 have g3 : H[3]? = some (.live ⟨[o], vI, .rw⟩) := by rw [← hH]; rfl
 have hHR : H = [.live ⟨[f1, f2, f3, f4, f5, f6], wS, .rw⟩, .live ⟨[t1, t2, t3, t4, t5, t6], wS, .rw⟩, x2, .live ⟨[o], vI, .rw⟩] ++ R := hH.symm
 refine go8 ?_
 rw [len1]
 refine yN get2a (by rfl) ?_
 refine go8 ?_
 refine yN (bM g0) (by rfl) ?_
 refine go8 ?_
 refine yN (bM g1) (by rfl) ?_
 refine go8 ?_
 refine yG (q_Max ha hfs (by decide)) (fun u hu => ?_)
 obtain ⟨ms, rfl, h1⟩ := hu
 obtain ⟨m1, m2, m3, m4, m5, m6, rfl⟩ := id h1.six
 refine go8 ?_
 refine yG (q_Min hb hts (by decide)) (fun u hu => ?_)
 obtain ⟨ns, rfl, h2⟩ := hu
 obtain ⟨n1, n2, n3, n4, n5, n6, rfl⟩ := id h2.six
 refine go8 ?_
 refine yP get2a (by rfl) (by rfl) (by simp) ?_
 rw [set2a]
 simp only [len1]
 refine go8 ?_
 refine yP get2b (by rfl) (by rfl) (by simp) ?_
 rw [set2b]
 refine go8 ?_
 refine yN get2a (by rfl) ?_
 refine go8 ?_
 refine yN get2b (by rfl) ?_
 refine go8 ?_
 refine yB (q_Cmp2 h1 h2 (by decide)) (fun u hu => ?_)
 obtain rfl := hu
 refine go8 ?_
 rw [cq_lss]
 cases hlt : dec (mxQ a lo < mnQ b hi)
 case false =>
  refine go8 ?_
  refine ⟨o, (R ++ [_]) ++ [_], by rw [hHR]; rfl, ?_⟩
  have e : clip f a b lo hi = [] := by
   unfold clip
   rw [if_neg (yK.1 hlt)]
  rw [e, List.append_nil]
  exact (ho.grow (X := [_])).grow (X := [_])
 have e : clip f a b lo hi = [(f, mxQ a lo, mnQ b hi)] := by
  unfold clip
  rw [if_pos (yI.1 hlt)]
 have hP : (elPart K).p (cp :: ([m1, m2, m3, m4, m5, m6] ++ [n1, n2, n3, n4, n5, n6])) (f, mxQ a lo, mnQ b hi) := ⟨cp, m, _, _, rfl, hp, hf, h1, h2⟩
 refine go8 ?_
 refine yV (bM g3) (by rfl) ?_
 refine go8 ?_
 refine yN get2a (by rfl) ?_
 refine go8 ?_
 refine yN get2b (by rfl) ?_
 refine go8 ?_
 refine gF (F := [.live ⟨[f1, f2, f3, f4, f5, f6], wS, .rw⟩, .live ⟨[t1, t2, t3, t4, t5, t6], wS, .rw⟩, x2, .live ⟨[o], vI, .rw⟩]) (R := (R ++ [_]) ++ [_]) (by rw [hHR]; rfl) ((ho.grow (X := [_])).grow (X := [_])) (by rfl) (by rfl) rfl hP (by omega) (fun R' o' h4 => ?_)
 refine go8 ?_
 rw [e]
 refine ⟨o', R', rfl, ?_⟩
 exact h4.swap (G := [.live ⟨[f1, f2, f3, f4, f5, f6], wS, .rw⟩, .live ⟨[t1, t2, t3, t4, t5, t6], wS, .rw⟩, x2, .live ⟨[o'], vI, .rw⟩]) rfl
end Go.Proofs.YtjncgcnofiaiaaaGreat

set_option linter.unusedVariables false
set_option linter.unusedSimpArgs false
namespace Go.Proofs.YtjncgcnofiaiaaaGreat
open Go.RowKit
set_option maxRecDepth 20000
def arK (K n : Nat) : Nat := n * (evK (K + 1) 2 5 + evK (K + 1) 2 5 + 2) + 1
theorem arK_succ (K n : Nat) : arK K (n + 1) = arK K n + (evK (K + 1) 2 5 + evK (K + 1) 2 5 + 2) := by
 unfold arK
 rw [Nat.succ_mul]
 omega
theorem arK_mono {K i n : Nat} (h : i ≤ n) : arK K i ≤ arK K n := by
 unfold arK
 have := Nat.mul_le_mul_right (evK (K + 1) 2 5 + evK (K + 1) 2 5 + 2) h
 omega
theorem arK_cap {K : Nat} (h : K ≤ qV) : arK K 26 ≤ 134217728 := by
 unfold arK evK
 unfold qV at h
 omega
noncomputable def sumR (pc : Nat → Rat → Rat) (xs ys : List Rat) (x y : Rat) : Rat := if y < x then -bJ (bL pc xs ys (mnQ x y) (mxQ x y)) else bJ (bL pc xs ys (mnQ x y) (mxQ x y))
noncomputable def integR (pc : Nat → Rat → Rat) (kind : Int) (X Y : List R2) (x y : R2) : R2 × Int := bif dec (tH kind X Y [x, y] = 0) then numR (sumR pc (X.map rt) (Y.map rt) (rt x) (rt y)) else ((0, 0), tH kind X Y [x, y])
theorem const_piece {q : Rat} {m : List Rat} (h : Cut [q] m) : jE (fun _ => q) m := ⟨fun x => by rw [h.ev, pY], by have := h.len; simp at this; omega, h.top⟩
attribute [local irreducible] yA semH semC qLen qNil qIad qSlc qIdx xA yM xH appX appI slcX awpF yQ xM xopF xT qval lval seqQ xO wT wL wI cnd arith IntKind.wrap
theorem table_parts {s cx cy : C} {xs ys : List Rat} {K : Nat} {pc : Nat → Rat → Rat} {fs ts : List C} {lo hi : Rat} (h : Shape s cx cy xs ys K pc) (hK : 2 ≤ K) (hfs : IQ 2 fs lo) (hts : IQ 2 ts hi) : semC Tryz.prog n_table_parts [.c s, .agg fs, .agg ts] (LsK (elPart K) (bL pc xs ys lo hi)) := by
 refine yC ok_table_parts rfl (show HFVs [.c s, .agg fs, .agg ts] from ⟨h.hf, hfs.hf, hts.hf, trivial⟩) ?_
 obtain ⟨f1, f2, f3, f4, f5, f6, rfl⟩ := id hfs.six
 obtain ⟨t1, t2, t3, t4, t5, t6, rfl⟩ := id hts.six
 have hx := h.x
 have hy := h.y
 have hlen := h.len
 have hpos := h.pos
 have hsm := h.small
 have e1 : arith .sub .i64 (xs.length : Int) 1 = ((xs.length - 1 : Nat) : Int) := by rw [xV, yE (by omega) (by omega)]; omega
 refine go9 ?_
 refine yB h.at_ (fun u hu => ?_)
 obtain rfl := hu
 refine go9 ?_
 refine xW hy (i := 0) (by omega) (by omega) rfl (fun av has => ?_)
 refine go9 ?_
 refine xW hx (i := 0) (by omega) (by omega) rfl (fun bv hbs => ?_)
 refine go9 ?_
 refine yG (qp_Const has) (fun u hu => ?_)
 obtain ⟨cp, m, rfl, g1, g2⟩ := hu
 refine go9 ?_
 rw [← yX (l := ys) (i := 0) (by omega)] at g2
 rw [← yX (l := xs) (i := 0) (by omega)] at hbs
 simp only [uA, vW, ratC, uX, uW, List.set_cons_zero, List.set_cons_succ, List.nil_append, List.cons_append, List.append_nil, List.replicate_succ, List.replicate_zero, List.length_cons, List.length_nil, splice, List.take_succ_cons, List.take_zero, List.drop_succ_cons, List.drop_zero, List.take_nil, List.drop_nil, Nat.zero_add, Nat.reduceAdd, Nat.reduceMul, Int.reduceToNat, xS, List.getElem?_cons_succ, List.getElem?_cons_zero]
 refine x_callc (by rfl) (by rfl) ?_
 refine semH_mono (fun u H' hK' => ?_) (parts_add (R := []) (L := []) (g1.up hK) (const_piece g2) hfs hbs hfs hts (by simp) .nil)
 obtain ⟨o1, R1, rfl, g3⟩ := hK'
 rw [List.nil_append] at g3
 refine go9 ?_
 rw [e1]
 have c0 := clip_len (f := fun _ => ys.getD 0 0) (a := lo) (b := xs.getD 0 0) (lo := lo) (hi := hi)
 refine yS (fun w vs H => ∃ (i : Nat) (o : C) (R : Hp), vs = [.c s, .c (.ptr 1 0), .c (.ptr 2 0), i64 xs.length, .c (.ptr 3 0), .c (.fn 130 [.ptr 0 0, .ptr 1 0, .ptr 3 0]), i64 ((xs.length - 1 : Nat) : Int), i64 i] ∧ H = .live ⟨[f1, f2, f3, f4, f5, f6], wS, .rw⟩ :: .live ⟨[t1, t2, t3, t4, t5, t6], wS, .rw⟩ :: .live ⟨[cx, cy], vS, .rw⟩ :: .live ⟨[o], vI, .rw⟩ :: R ∧ w = xs.length - 1 - i ∧ i ≤ xs.length - 1 ∧ Out (elPart K) T_table_part 4 (.live ⟨[f1, f2, f3, f4, f5, f6], wS, .rw⟩ :: .live ⟨[t1, t2, t3, t4, t5, t6], wS, .rw⟩ :: .live ⟨[cx, cy], vS, .rw⟩ :: .live ⟨[o], vI, .rw⟩ :: R) o (clip (fun _ => ys.getD 0 0) lo (xs.getD 0 0) lo hi ++ bD pc xs lo hi i)) (by rfl) ⟨0, o1, R1, rfl, rfl, rfl, by omega, by simpa [bD] using g3⟩ ?_
 clear g1 g2 g3 has hbs
 rintro w vs H ⟨i, o, R, rfl, rfl, rfl, h1, h2⟩
 have c1 := partsTo_len (pc := pc) (xs := xs) (lo := lo) (hi := hi) i
 refine go9 ?_
 cases hi' : yA Cm.lss (i : Int) ((xs.length - 1 : Nat) : Int)
 case true =>
  simp [yA] at hi'
  refine go9 ?_
  refine xW hx (i := i) (by omega) (by omega) rfl (fun av has => ?_)
  refine go9 ?_
  rw [xD i (by omega)]
  refine go9 ?_
  refine xW hx (i := i + 1) (by omega) (by omega) rfl (fun bv hbs => ?_)
  refine go9 ?_
  refine yG (h.piece i (by omega)) (fun u hu => ?_)
  obtain ⟨cp, m, rfl, g1, g2⟩ := hu
  rw [← yX (l := xs) (i := i) (by omega)] at has
  rw [← yX (l := xs) (i := i + 1) (by omega)] at hbs
  refine go9 ?_
  refine x_callc (by rfl) (by rfl) ?_
  refine semH_mono (fun u H' hK' => ?_) (parts_add g1 g2 has hbs hfs hts (by rw [List.length_append]; omega) h2)
  obtain ⟨o2, R2, rfl, g3⟩ := hK'
  refine go9 ?_
  rw [xD i (by omega)]
  refine l_n (by rfl) (n' := xs.length - 1 - (i + 1)) (by omega) ⟨i + 1, o2, R2, rfl, rfl, rfl, by omega, ?_⟩
  simp only [bD]
  rw [← List.append_assoc]
  exact g3
 simp [yA] at hi'
 have ei : i = xs.length - 1 := by omega
 refine go9 ?_
 rw [e1]
 refine go9 ?_
 refine xW hy (i := xs.length - 1) (by omega) (by omega) rfl (fun av has => ?_)
 refine go9 ?_
 rw [e1]
 refine go9 ?_
 refine xW hx (i := xs.length - 1) (by omega) (by omega) rfl (fun bv hbs => ?_)
 refine go9 ?_
 refine yG (qp_Const has) (fun u hu => ?_)
 obtain ⟨cp, m, rfl, g1, g2⟩ := hu
 rw [← yX (l := ys) (i := xs.length - 1) (by omega)] at g2
 rw [← yX (l := xs) (i := xs.length - 1) (by omega)] at hbs
 refine go9 ?_
 refine x_callc (by rfl) (by rfl) ?_
 refine semH_mono (fun u H' hK' => ?_) (parts_add (g1.up hK) (const_piece g2) hbs hts hfs hts (by rw [List.length_append]; omega) h2)
 obtain ⟨o2, R2, rfl, g3⟩ := hK'
 refine go9 ?_
 rw [ei] at g3
 exact g3.done
theorem table_Integral {cx cy : C} {X Y : List R2} {pc : Nat → Rat → Rat} (kind : Int) (x y : R2) (hx : Ls elP cx X) (hy : Ls elP cy Y) (hm : valE kind X Y = 0 → semC Tryz.prog n_table_made [.agg [iC kind, cx, cy]] (MadeK (X.map rt) (Y.map rt) pc)) : semC Tryz.prog n_table_Integral [.agg [iC kind, cx, cy], .agg (ratC x), .agg (ratC y)] (PairK (integR pc kind X Y x y)) := by
 refine yC ok_table_Integral rfl (show HFVs [.agg [iC kind, cx, cy], .agg (ratC x), .agg (ratC y)] from ⟨⟨trivial, hx.hf, hy.hf, trivial⟩, sN _, sN _, trivial⟩) ?_
 refine go8 ?_
 simp only [uA, vW, ratC, uX, uW, List.set_cons_zero, List.set_cons_succ, List.nil_append, List.cons_append, List.append_nil, List.replicate_succ, List.replicate_zero, List.length_cons, List.length_nil, splice, List.take_succ_cons, List.take_zero, List.drop_succ_cons, List.drop_zero, List.take_nil, List.drop_nil, Nat.zero_add, Nat.reduceAdd, Nat.reduceMul, Int.reduceToNat, xS, List.getElem?_cons_succ, List.getElem?_cons_zero]
 have hc : Ls elP (.imm 2 (ratC x ++ ratC y)) [x, y] := .imm (.cons rfl (.one rfl))
 refine yB (table_with kind hx hy hc (by simp)) (fun u hu => ?_)
 obtain rfl := hu
 refine go8 ?_
 rw [neq_dec]
 cases h1 : dec (tH kind X Y [x, y] ≠ 0)
 case true =>
  refine go8 ?_
  refine PairK.bad ?_
  unfold integR
  rw [yK.2 (yI.1 h1)]
  rfl
 have h1 : tH kind X Y [x, y] = 0 := Classical.byContradiction (yK.1 h1)
 obtain ⟨h2, h3⟩ := jI h1
 have h24 := (qT h2).1
 refine go8 ?_
 refine yG (q_Of (h3 x (by simp))) (fun u hu => ?_)
 obtain ⟨es, rfl, g1⟩ := hu
 obtain ⟨x1, x2, x3, x4, x5, x6, rfl⟩ := id g1.six
 refine go8 ?_
 refine yG (q_Of (h3 y (by simp))) (fun u hu => ?_)
 obtain ⟨fs, rfl, g2⟩ := hu
 obtain ⟨y1, y2, y3, y4, y5, y6, rfl⟩ := id g2.six
 refine go8 ?_
 refine yB (hU (g := 0) (by decide)) (fun u hu => ?_)
 obtain ⟨zs, rfl, g3⟩ := hu
 obtain ⟨z1, z2, z3, z4, z5, z6, rfl⟩ := id g3.six
 refine go8 ?_
 simp only [uA, vW, ratC, uX, uW, List.set_cons_zero, List.set_cons_succ, List.nil_append, List.cons_append, List.append_nil, List.replicate_succ, List.replicate_zero, List.length_cons, List.length_nil, splice, List.take_succ_cons, List.take_zero, List.drop_succ_cons, List.drop_zero, List.take_nil, List.drop_nil, Nat.zero_add, Nat.reduceAdd, Nat.reduceMul, Int.reduceToNat, xS, List.getElem?_cons_succ, List.getElem?_cons_zero]
 refine yG (hm h2) (fun u hu => ?_)
 obtain ⟨s, dx, dy, K, rfl, hK, hS⟩ := hu
 refine go8 ?_
 refine yG (q_Min g1 g2 (by decide)) (fun u hu => ?_)
 obtain ⟨ls, rfl, g4⟩ := hu
 refine go8 ?_
 refine yG (q_Max g1 g2 (by decide)) (fun u hu => ?_)
 obtain ⟨hs, rfl, g5⟩ := hu
 refine go8 ?_
 refine yG (table_parts hS hK.1 g4 g5) (fun u hu => ?_)
 obtain ⟨cp, rfl, g6⟩ := hu
 have hll : (bL pc (X.map rt) (Y.map rt) (mnQ (rt x) (rt y)) (mxQ (rt x) (rt y))).length ≤ 26 := by
  have := partsR_len (pc := pc) (xs := X.map rt) (ys := Y.map rt) (lo := mnQ (rt x) (rt y)) (hi := mxQ (rt x) (rt y))
  rw [List.length_map] at this
  omega
 have hsum : ∀ S : Rat, bJ (bL pc (X.map rt) (Y.map rt) (mnQ (rt x) (rt y)) (mxQ (rt x) (rt y))) = S → integR pc kind X Y x y = numR (if rt y < rt x then -S else S) := by
  intro S hS
  unfold integR sumR
  rw [yI.2 h1, hS]
  rfl
 generalize bL pc (X.map rt) (Y.map rt) (mnQ (rt x) (rt y)) (mxQ (rt x) (rt y)) = L at g6 hll hsum
 have hcap := arK_cap hK.2
 refine go8 ?_
 refine yS (fun w vs H => ∃ (i : Nat) (ss : List C) (b0 b1 b2 : Slot) (R : Hp), vs = [.c (.ptr 3 0), .c (.ptr 4 0), .c (.ptr 5 0), .c (.ptr 6 0), .c cp, i64 L.length, i64 i] ∧ H = b0 :: b1 :: b2 :: .live ⟨[.int .i64 0, .int .i64 0], xL, .rw⟩ :: .live ⟨[x1, x2, x3, x4, x5, x6], wS, .rw⟩ :: .live ⟨[y1, y2, y3, y4, y5, y6], wS, .rw⟩ :: .live ⟨ss, wS, .rw⟩ :: R ∧ w = L.length - i ∧ i ≤ L.length ∧ IQ (arK K i) ss (bJ (L.take i))) (by rfl) ⟨0, _, _, _, _, [], rfl, rfl, rfl, by omega, g3.up (by unfold arK; omega)⟩ ?_
 clear g3
 rintro w vs H ⟨i, ss, b0, b1, b2, R, rfl, rfl, rfl, j1, j2⟩
 obtain ⟨s1, s2, s3, s4, s5, s6, rfl⟩ := id j2.six
 refine go8 ?_
 cases hi : yA Cm.lss (i : Int) (L.length : Int)
 case true =>
  simp [yA] at hi
  have hk1 := Nat.le_trans (arK_mono (K := K) (show i + 1 ≤ 26 by omega)) hcap
  rw [arK_succ] at hk1
  refine go8 ?_
  refine xW g6 (i := i) hi (by omega) rfl (fun cs hcs => ?_)
  obtain ⟨c, m, av, bv, rfl, p1, p2, p3, p4⟩ := IsPart.is hcs
  obtain ⟨a1, a2, a3, a4, a5, a6, rfl⟩ := id p3.six
  obtain ⟨d1, d2, d3, d4, d5, d6, rfl⟩ := id p4.six
  have l1 := p2.len
  refine go8 ?_
  refine yB (qp_Integral p1 (by omega) (by unfold evK at hk1; omega)) (fun u hu => ?_)
  obtain ⟨cf, F, rfl, q1, q2⟩ := hu
  have l2 := q2.len
  have hE := jY (k := K + 1) (m := 2) (show F.length ≤ 5 by omega)
  refine go8 ?_
  refine yG (qp_Eval q1 p4 (by omega) (by omega)) (fun u hu => ?_)
  obtain ⟨us, rfl, q3⟩ := hu
  refine go8 ?_
  refine yG (qp_Eval q1 p3 (by omega) (by omega)) (fun u hu => ?_)
  obtain ⟨ws, rfl, q4⟩ := hu
  refine go8 ?_
  refine yG (gR (q3.up hE) (q4.up hE) (by omega)) (fun u hu => ?_)
  obtain ⟨rs, rfl, q5⟩ := hu
  refine go8 ?_
  refine yG (q_Add2 j2 q5 (by omega)) (fun u hu => ?_)
  obtain ⟨ts, rfl, q6⟩ := hu
  obtain ⟨t1, t2, t3, t4, t5, t6, rfl⟩ := id q6.six
  refine go8 ?_
  rw [xD i (by omega)]
  refine l_n (by rfl) (n' := L.length - (i + 1)) (by omega) ⟨i + 1, _, b0, b1, b2, _, rfl, rfl, rfl, by omega, ?_⟩
  rw [areaL_take hi, arK_succ]
  have e : bJ (L.take i) + termP L[i] = bJ (L.take i) + (ev F L[i].2.2 - ev F L[i].2.1) := by
   unfold termP
   rw [q2.ev, q2.ev, prim_eq p2.ev, prim_eq p2.ev]
  rw [e]
  exact q6.up (by omega)
 simp [yA] at hi
 have ei : i = L.length := by omega
 rw [ei, List.take_length] at j2
 have hk2 := Nat.le_trans (arK_mono (K := K) hll) hcap
 refine go8 ?_
 refine yB (q_Cmp2 g2 g1 (by decide)) (fun u hu => ?_)
 obtain rfl := hu
 refine go8 ?_
 rw [cq_lss]
 cases hyx : dec (rt y < rt x)
 case true =>
  refine go8 ?_
  refine yB (q_Neg j2 (by omega)) (fun u hu => ?_)
  obtain ⟨ns, rfl, k1⟩ := hu
  obtain ⟨n1, n2, n3, n4, n5, n6, rfl⟩ := id k1.six
  refine go8 ?_
  refine yB (gB k1) (fun u hu => ?_)
  obtain rfl := hu
  refine go8 ?_
  refine PairK.of ?_
  rw [hsum _ rfl, if_pos (yI.1 hyx)]
 refine go8 ?_
 refine yB (gB j2) (fun u hu => ?_)
 obtain rfl := hu
 refine go8 ?_
 refine PairK.of ?_
 rw [hsum _ rfl, if_neg (yK.1 hyx)]
end Go.Proofs.YtjncgcnofiaiaaaGreat

set_option linter.unusedVariables false
set_option linter.unusedSimpArgs false
namespace Go.Proofs.YtjncgcnofiaiaaaGreat
open Go.RowKit
set_option maxRecDepth 20000
def exX : List R2 := [(0, 1), (2, 1)]
def exY : List R2 := [(0, 1), (4, 1)]
theorem ex_x : exX.map rt = [0, 2] := by decide +kernel
theorem ex_y : exY.map rt = [0, 4] := by decide +kernel
theorem israt_int {n : Int} (h : -1000000000000 ≤ n) (h2 : n ≤ 1000000000000) : tU n 1 := ⟨by decide, by decide, h, h2, by simp⟩
theorem ex_valid : valE 1 exX exY = 0 := by
 refine val_ok (by decide) ⟨by decide, by decide, by decide, by decide, ?_, ?_, ?_⟩
 ·intro p hp
  simp [exX] at hp
  rcases hp with rfl | rfl <;> exact israt_int (by decide) (by decide)
 ·intro p hp
  simp [exY] at hp
  rcases hp with rfl | rfl <;> exact israt_int (by decide) (by decide)
 ·rw [ex_x]
  intro i hi
  have : i = 0 := by simp at hi; omega
  subst this
  show (0 : Rat) < 2
  decide +kernel
theorem num_int {q : Rat} {n : Int} (h : q = (n : Rat)) (h1 : -1000000000000 ≤ n) (h2 : n ≤ 1000000000000) : numR q = ((n, 1), 0) := by
 subst h
 unfold numR fitR
 rw [rp_int, yI.2 ⟨h1, h2, (by decide : (1 : Int) ≤ 1000000000000)⟩]
 rfl
theorem ex_value : gL (qA (exX.map rt) (exY.map rt)) 1 exX exY (1, 2) = ((1, 1), 0) := by
 have hv : sJ [((1, 2) : R2)] := by
  intro p hp
  simp at hp
  subst hp
  exact ⟨by decide, by decide, by decide, by decide, by decide⟩
 unfold gL
 rw [yI.2 (with_ok ex_valid hv), ex_x, ex_y]
 exact num_int (n := 1) (by decide +kernel) (by decide) (by decide)
theorem ex_line : ∀ x, ev [0, 2] x = qA [0, 2] [0, 4] 0 x := by
 intro x
 have h : slope [0, 2] [0, 4] 0 = 2 := by decide +kernel
 unfold qA
 rw [h]
 simp only [ev, List.getD_cons_zero]
 grind
theorem ex_parts : bL (qA [0, 2] [0, 4]) [0, 2] [0, 4] 0 2 = [(qA [0, 2] [0, 4] 0, 0, 2)] := by
 have c0 : clip (fun _ => ([0, 4] : List Rat).getD 0 0) 0 (([0, 2] : List Rat).getD 0 0) 0 2 = [] := by
  unfold clip
  rw [if_neg (by decide +kernel)]
 have c1 : clip (fun _ => ([0, 4] : List Rat).getD (([0, 2] : List Rat).length - 1) 0) (([0, 2] : List Rat).getD (([0, 2] : List Rat).length - 1) 0) 2 0 2 = [] := by
  unfold clip
  rw [if_neg (by decide +kernel)]
 have c2 : clip (qA [0, 2] [0, 4] 0) (([0, 2] : List Rat).getD 0 0) (([0, 2] : List Rat).getD (0 + 1) 0) 0 2 = [(qA [0, 2] [0, 4] 0, 0, 2)] := by
  unfold clip
  rw [if_pos (by decide +kernel)]
  have e1 : mxQ (([0, 2] : List Rat).getD 0 0) 0 = 0 := by decide +kernel
  have e2 : mnQ (([0, 2] : List Rat).getD (0 + 1) 0) 2 = 2 := by decide +kernel
  rw [e1, e2]
 unfold bL
 rw [c0, c1]
 simp only [bD, List.length_cons, List.length_nil, Nat.zero_add, Nat.reduceAdd, Nat.reduceSub, List.nil_append, List.append_nil]
 exact c2
theorem ex_area : sumR (qA [0, 2] [0, 4]) [0, 2] [0, 4] 0 2 = ((4 : Int) : Rat) := by
 unfold sumR
 have e1 : mnQ 0 2 = 0 := by decide +kernel
 have e2 : mxQ 0 2 = 2 := by decide +kernel
 rw [if_neg (by decide +kernel), e1, e2, ex_parts]
 simp only [bJ, termP]
 rw [← prim_eq ex_line, ← prim_eq ex_line]
 decide +kernel
theorem ex_integral : integR (qA (exX.map rt) (exY.map rt)) 1 exX exY (0, 1) (2, 1) = ((4, 1), 0) := by
 have hv : sJ [((0, 1) : R2), (2, 1)] := by
  intro p hp
  simp at hp
  rcases hp with rfl | rfl <;> exact israt_int (by decide) (by decide)
 unfold integR
 rw [yI.2 (with_ok ex_valid hv), ex_x, ex_y]
 have e1 : rt (0, 1) = 0 := by decide +kernel
 have e2 : rt (2, 1) = 2 := by decide +kernel
 rw [e1, e2]
 exact num_int ex_area (by decide) (by decide)
def TrueK (u : V) : Prop := u = .c (.bool true)
theorem TrueK.fz {H : Hp} : ∃ d, FzV H (.c (.bool true)) d ∧ TrueK d := ⟨_, .c (.hf trivial), rfl⟩
attribute [local irreducible] yA semH semC qLen qNil qIad qSlc qIdx xA yM xH appX appI slcX awpF yQ xM xopF xT qval lval seqQ xO wT wL wI cnd arith IntKind.wrap
theorem tT (n : Int) : semC Tryz.prog n_law24_known_1 [i64 n] (EqK (.agg (ratC (n, 1)))) := by
 refine yC ok_law24_known_1 rfl (show HFVs [i64 n] from ⟨trivial, trivial⟩) ?_
 refine go5 ?_
 simp only [uA, vW, ratC, uX, uW, List.set_cons_zero, List.set_cons_succ, List.nil_append, List.cons_append, List.append_nil, List.replicate_succ, List.replicate_zero, List.length_cons, List.length_nil, splice, List.take_succ_cons, List.take_zero, List.drop_succ_cons, List.drop_zero, List.take_nil, List.drop_nil, Nat.zero_add, Nat.reduceAdd, Nat.reduceMul, Int.reduceToNat, xS, List.getElem?_cons_succ, List.getElem?_cons_zero]
 exact ⟨_, .agg (.hf (sN (n, 1))), rfl⟩
theorem law24_known : semC Tryz.prog n_law24_known [] TrueK := by
 refine yC ok_law24_known rfl (show HFVs [] from trivial) ?_
 refine go8 ?_
 refine yB (tT 0) (fun u hu => ?_)
 obtain rfl := hu
 refine go8 ?_
 refine yB (tT 2) (fun u hu => ?_)
 obtain rfl := hu
 refine go8 ?_
 refine yB (tT 0) (fun u hu => ?_)
 obtain rfl := hu
 refine go8 ?_
 refine yB (tT 4) (fun u hu => ?_)
 obtain rfl := hu
 refine go8 ?_
 simp only [uA, vW, ratC, uX, uW, List.set_cons_zero, List.set_cons_succ, List.nil_append, List.cons_append, List.append_nil, List.replicate_succ, List.replicate_zero, List.length_cons, List.length_nil, splice, List.take_succ_cons, List.take_zero, List.drop_succ_cons, List.drop_zero, List.take_nil, List.drop_nil, Nat.zero_add, Nat.reduceAdd, Nat.reduceMul, Int.reduceToNat, xS, List.getElem?_cons_succ, List.getElem?_cons_zero]
 have hx : Ls elP (.imm 2 (ratC (0, 1) ++ ratC (2, 1))) exX := .imm (.cons rfl (.one rfl))
 have hy : Ls elP (.imm 2 (ratC (0, 1) ++ ratC (4, 1))) exY := .imm (.cons rfl (.one rfl))
 refine yB (table_Value 1 (1, 2) hx hy (table_made_line hx hy)) (fun u hu => ?_)
 rw [ex_value] at hu
 obtain rfl := hu
 refine go8 ?_
 refine yG (tT 0) (fun u hu => ?_)
 obtain rfl := hu
 refine go8 ?_
 refine yG (tT 2) (fun u hu => ?_)
 obtain rfl := hu
 refine go8 ?_
 refine yG (table_Integral 1 (0, 1) (2, 1) hx hy (table_made_line hx hy)) (fun u hu => ?_)
 rw [ex_integral] at hu
 obtain rfl := hu
 refine go8 ?_
 refine yG (tT 1) (fun u hu => ?_)
 obtain rfl := hu
 refine go8 ?_
 rw [show yA Cm.eql (((1, 1), 0) : R2 × Int).snd 0 = true by simp [yA]]
 refine go8 ?_
 refine yG (tT 4) (fun u hu => ?_)
 obtain rfl := hu
 refine go8 ?_
 rw [show yA Cm.eql (((4, 1), 0) : R2 × Int).snd 0 = true by simp [yA]]
 refine go8 ?_
 exact TrueK.fz
end Go.Proofs.YtjncgcnofiaiaaaGreat

set_option linter.unusedVariables false
set_option linter.unusedSimpArgs false
namespace Go.Proofs.YtjncgcnofiaiaaaGreat
open Go.RowKit
set_option maxRecDepth 20000
theorem bd_div {n d : Int} {q : Rat} {k : Nat} (hd : d ≠ 0) (e : Rat.divInt n d = q) (h1 : Sz k n) (h2 : Sz k d) : Bd k (rp q) := by
 have hdq : ((q.den : Nat) : Int) ≠ 0 := by exact_mod_cast q.den_nz
 have e2 : q.num * d = n * (q.den : Int) := by
  have : Rat.divInt q.num q.den = Rat.divInt n d := by rw [e]; exact Rat.num_divInt_den q
  exact (Rat.divInt_eq_divInt_iff hdq hd).1 this
 have e3 : q.num.natAbs * d.natAbs = n.natAbs * q.den := by
  have := congrArg Int.natAbs e2
  rwa [Int.natAbs_mul, Int.natAbs_mul, Int.natAbs_natCast] at this
 have c := q.reduced
 have hd' : 0 < d.natAbs := Int.natAbs_pos.2 hd
 have l1 : q.num.natAbs ≤ n.natAbs := by
  rcases Nat.eq_zero_or_pos n.natAbs with h0 | h0
  ·rw [h0, Nat.zero_mul] at e3
   rcases Nat.mul_eq_zero.1 e3 with h | h
   ·omega
   ·omega
  ·exact Nat.le_of_dvd h0 (c.dvd_of_dvd_mul_right ⟨d.natAbs, e3.symm⟩)
 have l2 : q.den ≤ d.natAbs := Nat.le_of_dvd hd' (c.symm.dvd_of_dvd_mul_left ⟨n.natAbs, by rw [e3, Nat.mul_comm]⟩)
 exact ⟨Nat.lt_of_le_of_lt l1 h1, Nat.lt_of_le_of_lt (by simpa [rp] using l2) h2, rp_pos q⟩
theorem bq_add {k m : Nat} {a b : Rat} (h1 : Bd k (rp a)) (h2 : Bd m (rp b)) : Bd (k + m + 1) (rp (a + b)) :=
 bd_div (dd_ne a b) (rat_add a b) ((h1.n.mulT h2.d).add2 ((h2.n.mulT h1.d).up (show m + k ≤ k + m by omega)) (Nat.le_refl _)) ((h1.d.mulT h2.d).up (by omega))
theorem bq_sub {k m : Nat} {a b : Rat} (h1 : Bd k (rp a)) (h2 : Bd m (rp b)) : Bd (k + m + 1) (rp (a - b)) :=
 bd_div (dd_ne a b) (rat_sub a b) ((h1.n.mulT h2.d).add2 ((h2.n.neg.mulT h1.d).up (show m + k ≤ k + m by omega)) (Nat.le_refl _)) ((h1.d.mulT h2.d).up (by omega))
theorem bq_mul {k m : Nat} {a b : Rat} (h1 : Bd k (rp a)) (h2 : Bd m (rp b)) : Bd (k + m) (rp (a * b)) :=
 bd_div (dd_ne a b) (rat_mul a b) (h1.n.mulT h2.n) (h1.d.mulT h2.d)
theorem bq_div {k m : Nat} {a b : Rat} (h1 : Bd k (rp a)) (h2 : Bd m (rp b)) (h0 : b ≠ 0) : Bd (k + m) (rp (a / b)) :=
 bd_div (Int.mul_ne_zero (Int.ne_of_gt (rp_pos a)) (num_ne h0)) (rat_div a b h0) (h1.n.mulT h2.d) (h1.d.mulT h2.n)
theorem bq_int {g : Int} (h : g.natAbs < 4294967296) : Bd 1 (rp (g : Rat)) := by
 rw [rp_int]
 exact one_bd (k := 0) h
def curve (xs ys : List Rat) (k : Nat) : Rat := (slope xs ys (k + 1) - slope xs ys k) / (xs.getD (k + 2) 0 - xs.getD k 0)
def paraS (xs ys : List Rat) (k i : Nat) : Rat := slope xs ys k + curve xs ys k * ((xs.getD i 0 - xs.getD k 0) + (xs.getD i 0 - xs.getD (k + 1) 0))
def tY (xs ys : List Rat) (i : Nat) : Rat := if xs.length = 1 then 0 else if xs.length = 2 then slope xs ys 0 else paraS xs ys (min (i - 1) (xs.length - 3)) i
def pN (xs ys : List Rat) (i : Nat) : Rat := if xs.length = 1 then 0 else if i = 0 then slope xs ys 0 else if i = xs.length - 1 then slope xs ys (xs.length - 2) else if slope xs ys (i - 1) * slope xs ys i ≤ 0 then 0 else 2 * slope xs ys (i - 1) * slope xs ys i / (slope xs ys (i - 1) + slope xs ys i)
def BdL (k : Nat) (l : List Rat) : Prop := ∀ i, i < l.length → Bd k (rp (l.getD i 0))
theorem tK.lt {l : List Rat} (h : tK l) {i j : Nat} (hij : i < j) (hj : j < l.length) : l.getD i 0 < l.getD j 0 := by
 induction j with
 | zero => omega
 | succ j ih =>
  have h2 := h.get hj
  rcases Nat.lt_or_ge i j with h3 | h3
  ·have := ih h3 (by omega)
   grind
  ·have : i = j := by omega
   subst this
   exact h2
theorem gY {xs ys : List Rat} {k i : Nat} (hx : BdL k xs) (hy : BdL k ys) (hr : tK xs) (hlen : ys.length = xs.length) (hi : i + 1 < xs.length) : Bd (4 * k + 2) (rp (slope xs ys i)) := by
 have := bq_div (bq_sub (hy (i + 1) (by omega)) (hy i (by omega))) (bq_sub (hx (i + 1) hi) (hx i (by omega))) (pT (hr.get hi))
 exact this.to (by omega)
theorem bd_para {xs ys : List Rat} {k i a : Nat} (hx : BdL k xs) (hy : BdL k ys) (hr : tK xs) (hlen : ys.length = xs.length) (ha : a + 2 < xs.length) (hi : i < xs.length) : Bd (18 * k + 13) (rp (paraS xs ys a i)) := by
 have h1 := gY hx hy hr hlen (i := a) (by omega)
 have h2 := gY hx hy hr hlen (i := a + 1) (by omega)
 have h3 := bq_div (bq_sub h2 h1) (bq_sub (hx (a + 2) ha) (hx a (by omega))) (pT (hr.lt (show a < a + 2 by omega) ha))
 have h4 := bq_add (bq_sub (hx i hi) (hx a (by omega))) (bq_sub (hx i hi) (hx (a + 1) (by omega)))
 exact (bq_add h1 (bq_mul h3 h4)).to (by omega)
theorem bd_zero {k : Nat} : Bd (k + 1) (rp 0) := by
 have := bq_int (g := 0) (by decide)
 exact this.to (by omega)
theorem bd_smooth {xs ys : List Rat} {k i : Nat} (hx : BdL k xs) (hy : BdL k ys) (hr : tK xs) (hlen : ys.length = xs.length) (hi : i < xs.length) : Bd (18 * k + 13) (rp (tY xs ys i)) := by
 unfold tY
 split
 ·exact bd_zero
 ·split
  ·exact (gY hx hy hr hlen (i := 0) (by omega)).to (by omega)
  ·exact bd_para hx hy hr hlen (by omega) hi
theorem keep_ne {a b : Rat} (h : ¬ a * b ≤ 0) : a + b ≠ 0 := by
 intro e
 have : b = -a := by grind
 subst this
 apply h
 have h2 : 0 ≤ a * a := by
  rcases Rat.le_total (a := 0) (b := a) with h3 | h3
  ·exact Rat.mul_nonneg h3 h3
  ·have h4 : 0 ≤ -a := by grind
   have := Rat.mul_nonneg h4 h4
   grind
 grind
theorem bd_keep {xs ys : List Rat} {k i : Nat} (hx : BdL k xs) (hy : BdL k ys) (hr : tK xs) (hlen : ys.length = xs.length) (hi : i < xs.length) : Bd (18 * k + 13) (rp (pN xs ys i)) := by
 unfold pN
 split
 ·exact bd_zero
 split
 ·exact (gY hx hy hr hlen (i := 0) (by omega)).to (by omega)
 split
 ·exact (gY hx hy hr hlen (i := xs.length - 2) (by omega)).to (by omega)
 split
 ·exact bd_zero
 rename_i h
 have h1 := gY hx hy hr hlen (i := i - 1) (by omega)
 have h2 := gY hx hy hr hlen (i := i) (by omega)
 have h3 := bq_div (bq_mul (bq_mul (bq_int (g := 2) (by decide)) h1) h2) (bq_add h1 h2) (keep_ne h)
 exact h3.to (by omega)
def cubA (xs ys : List Rat) (m : Nat → Rat) (i : Nat) : Rat := (3 * slope xs ys i - 2 * m i - m (i + 1)) / (xs.getD (i + 1) 0 - xs.getD i 0)
def cubB (xs ys : List Rat) (m : Nat → Rat) (i : Nat) : Rat := (m i + m (i + 1) - 2 * slope xs ys i) / ((xs.getD (i + 1) 0 - xs.getD i 0) * (xs.getD (i + 1) 0 - xs.getD i 0))
def cubP (m : Nat → Rat) (xs ys : List Rat) (i : Nat) (x : Rat) : Rat := ys.getD i 0 + m i * (x - xs.getD i 0) + cubA xs ys m i * (x - xs.getD i 0) ^ 2 + cubB xs ys m i * (x - xs.getD i 0) ^ 3
end Go.Proofs.YtjncgcnofiaiaaaGreat

set_option linter.unusedVariables false
set_option linter.unusedSimpArgs false
namespace Go.Proofs.YtjncgcnofiaiaaaGreat
open Go.RowKit
set_option maxRecDepth 20000
def der (l : List Rat) : List Rat := (List.range (l.length - 1)).map fun i => l.getD (i + 1) 0 * (((i + 1 : Nat) : Int) : Rat)
theorem der_ext {l m : List Rat} (h : ∀ x, ev l x = ev m x) (x : Rat) : ev (der l) x = ev (der m) x := by
 have hc := coef_eq h
 have key : ∀ (l : List Rat) (n : Nat), l.length - 1 ≤ n → ev ((List.range n).map fun i => l.getD (i + 1) 0 * (((i + 1 : Nat) : Int) : Rat)) x = ev (der l) x := fun l n hn => by
  obtain ⟨d, rfl⟩ := Nat.le.dest hn
  exact ev_pad x (fun j hj => by rw [getD_ge (by omega), Rat.zero_mul]) d
 rw [← key l (l.length + m.length) (by omega), ← key m (l.length + m.length) (by omega)]
 congr 1
 apply List.map_congr_left
 intro i _
 rw [hc (i + 1)]
theorem row_three {xs : List Rat} {i : Nat} (hi : i + 2 < xs.length) : (xs.drop i).take 3 = [xs.getD i 0, xs.getD (i + 1) 0, xs.getD (i + 2) 0] := by
 apply List.ext_getElem
 ·simp; omega
 ·intro j h1 h2
  rw [List.getElem_take, List.getElem_drop]
  have : j < 3 := by simpa using h2
  match j, this with
  | 0, _ => simp [show i < xs.length by omega]
  | 1, _ => simp [show i + 1 < xs.length by omega]
  | 2, _ => simp [hi]
theorem inv_neg {a b : Rat} (h : b - a ≠ 0) : (a - b)⁻¹ = -(b - a)⁻¹ := by
 have n2 : a - b ≠ 0 := fun e => h (by grind)
 have h1 : (b - a) * (b - a)⁻¹ = 1 := Rat.mul_inv_cancel _ h
 have h2 : (a - b) * (a - b)⁻¹ = 1 := Rat.mul_inv_cancel _ n2
 generalize (b - a)⁻¹ = u at *
 generalize (a - b)⁻¹ = v at *
 grind
theorem lag_three {a b c d e f x : Rat} (h1 : b - a ≠ 0) (h2 : c - b ≠ 0) (h3 : c - a ≠ 0) :
  lagTo [a, b, c] [d, e, f] x 3 = d + (e - d) / (b - a) * (x - a) + ((f - e) / (c - b) - (e - d) / (b - a)) / (c - a) * ((x - a) * (x - b)) := by
 simp only [lagTo, prodTo, List.length_cons, List.length_nil, List.getD_cons_zero, List.getD_cons_succ, if_pos, Nat.zero_add, Nat.reduceAdd, if_false, Nat.reduceEqDiff, Nat.one_ne_zero, Nat.zero_ne_one]
 rw [inv_neg h1, inv_neg h2, inv_neg h3, Rat.div_def, Rat.div_def, Rat.div_def]
 have e1 := Rat.mul_inv_cancel _ h1
 have e2 := Rat.mul_inv_cancel _ h2
 have e3 := Rat.mul_inv_cancel _ h3
 generalize (b - a)⁻¹ = u at *
 generalize (c - b)⁻¹ = v at *
 generalize (c - a)⁻¹ = w at *
 grind
theorem der_two (p q x : Rat) : ev (der [p, q]) x = q := by
 simp only [der, List.length_cons, List.length_nil, Nat.reduceAdd, Nat.reduceSub, List.range_succ, List.range_zero, List.map_append, List.map_cons, List.map_nil, List.getD_cons_succ, List.getD_cons_zero, List.nil_append, ev]
 grind
theorem der_three (p q r x : Rat) : ev (der [p, q, r]) x = q + 2 * r * x := by
 simp only [der, List.length_cons, List.length_nil, Nat.reduceAdd, Nat.reduceSub, List.range_succ, List.range_zero, List.map_append, List.map_cons, List.map_nil, List.getD_cons_succ, List.getD_cons_zero, List.nil_append, List.cons_append, ev]
 grind
theorem smooth_two {xs ys m : List Rat} {x : Rat} (hr : tK xs) (hlen : ys.length = xs.length) (h2 : xs.length = 2) (h : ∀ x, ev m x = lagTo ((xs.drop 0).take 2) ((ys.drop 0).take 2) x 2) : ev (der m) x = slope xs ys 0 := by
 have e : ∀ x, ev m x = ev [ys.getD 0 0 - slope xs ys 0 * xs.getD 0 0, slope xs ys 0] x := fun x => by
  rw [h, line_through (hr.get (by omega)) (by omega) hlen]
  unfold qA
  simp only [ev]
  grind
 rw [der_ext e, der_two]
theorem smooth_three {xs ys m : List Rat} {k i : Nat} (hr : tK xs) (hlen : ys.length = xs.length) (hk : k + 2 < xs.length) (h : ∀ x, ev m x = lagTo ((xs.drop k).take 3) ((ys.drop k).take 3) x 3) : ev (der m) (xs.getD i 0) = paraS xs ys k i := by
 have e : ∀ x, ev m x = ev [ys.getD k 0 - slope xs ys k * xs.getD k 0 + curve xs ys k * (xs.getD k 0 * xs.getD (k + 1) 0), slope xs ys k - curve xs ys k * (xs.getD k 0 + xs.getD (k + 1) 0), curve xs ys k] x := fun x => by
  rw [h, row_three hk, row_three (by omega), lag_three (pT (hr.get (by omega))) (pT (hr.get (by omega))) (pT (hr.lt (show k < k + 2 by omega) hk))]
  unfold curve slope
  simp only [ev, show k + 1 + 1 = k + 2 from rfl]
  generalize ((ys.getD (k + 2) 0 - ys.getD (k + 1) 0) / (xs.getD (k + 2) 0 - xs.getD (k + 1) 0) - (ys.getD (k + 1) 0 - ys.getD k 0) / (xs.getD (k + 1) 0 - xs.getD k 0)) / (xs.getD (k + 2) 0 - xs.getD k 0) = w
  generalize (ys.getD (k + 1) 0 - ys.getD k 0) / (xs.getD (k + 1) 0 - xs.getD k 0) = v
  grind
 rw [der_ext e, der_three]
 unfold paraS
 generalize slope xs ys k = s
 generalize curve xs ys k = c
 grind
def jG (a b : Rat) : Nat → Nat → Rat := fun i j => if i % 2 = 0 then (if i = 0 then a else b) ^ j else if j = 0 then 0 else (if i = 1 then a else b) ^ (j - 1) * ((j : Int) : Rat)
def bV (y0 m0 y1 m1 : Rat) : Nat → Rat := fun i => if i = 0 then y0 else if i = 1 then m0 else if i = 2 then y1 else m1
def hermS (a y0 m0 c d : Rat) : Nat → Rat := fun j => if j = 0 then y0 - m0 * a + c * a ^ 2 - d * a ^ 3 else if j = 1 then m0 - 2 * c * a + 3 * d * a ^ 2 else if j = 2 then c - 3 * d * a else d
theorem herm_solves_iff {a b y0 m0 y1 m1 : Rat} {v : Nat → Rat} : qK 4 4 (pB (jG a b) (bV y0 m0 y1 m1) 4) v ↔
  v 0 + a * v 1 + a ^ 2 * v 2 + a ^ 3 * v 3 = y0 ∧ v 1 + 2 * a * v 2 + 3 * a ^ 2 * v 3 = m0 ∧ v 0 + b * v 1 + b ^ 2 * v 2 + b ^ 3 * v 3 = y1 ∧ v 1 + 2 * b * v 2 + 3 * b ^ 2 * v 3 = m1 := by
 have all : (∀ i, i < 4 → tA (fun j => pB (jG a b) (bV y0 m0 y1 m1) 4 i j * v j) 4 = pB (jG a b) (bV y0 m0 y1 m1) 4 i 4) ↔
   (∀ i, i < 4 → tA (fun j => jG a b i j * v j) 4 = bV y0 m0 y1 m1 i) := by
  constructor
  ·intro h i hi
   have := h i hi
   simpa [pB, tA] using this
  ·intro h i hi
   have := h i hi
   simpa [pB, tA] using this
 unfold qK
 rw [all]
 constructor
 ·intro h
  have h0 := h 0 (by omega)
  have h1 := h 1 (by omega)
  have h2 := h 2 (by omega)
  have h3 := h 3 (by omega)
  simp [tA, jG, bV] at h0 h1 h2 h3
  refine ⟨?_, ?_, ?_, ?_⟩ <;> grind
 ·rintro ⟨h0, h1, h2, h3⟩ i hi
  match i, hi with
  | 0, _ => simp [tA, jG, bV]; grind
  | 1, _ => simp [tA, jG, bV]; grind
  | 2, _ => simp [tA, jG, bV]; grind
  | 3, _ => simp [tA, jG, bV]; grind
end Go.Proofs.YtjncgcnofiaiaaaGreat

set_option linter.unusedVariables false
set_option linter.unusedSimpArgs false
namespace Go.Proofs.YtjncgcnofiaiaaaGreat
open Go.RowKit
set_option maxRecDepth 20000
theorem herm_solves {a b y0 m0 y1 m1 s c d : Rat} (h : b - a ≠ 0) (hs : s = (y1 - y0) / (b - a)) (hc : c = (3 * s - 2 * m0 - m1) / (b - a)) (hd : d = (m0 + m1 - 2 * s) / ((b - a) * (b - a))) :
  qK 4 4 (pB (jG a b) (bV y0 m0 y1 m1) 4) (hermS a y0 m0 c d) ∧ ∀ v, qK 4 4 (pB (jG a b) (bV y0 m0 y1 m1) 4) v → ∀ q, q < 4 → v q = hermS a y0 m0 c d q := by
 have h2 : (b - a) * (b - a) ≠ 0 := fun e => by
  rcases Rat.mul_eq_zero.1 e with e | e <;> exact h e
 have e1 := Rat.mul_inv_cancel _ h
 have e2 := Rat.mul_inv_cancel _ h2
 rw [Rat.div_def] at hs hc hd
 generalize (b - a)⁻¹ = u at *
 generalize ((b - a) * (b - a))⁻¹ = t at *
 have et : t = u * u := by grind
 subst et
 have hw : b = a + (b - a) := by grind
 generalize b - a = w at *
 subst hw
 subst hs hc hd
 constructor
 ·rw [herm_solves_iff]
  simp only [hermS, if_true, Nat.one_ne_zero, if_false, Nat.reduceEqDiff]
  refine ⟨?_, ?_, ?_, ?_⟩ <;> grind
 ·intro v hv
  rw [herm_solves_iff] at hv
  obtain ⟨v0, v1, v2, v3⟩ := hv
  have k3 : w ^ 3 * v 3 = (m0 + m1) * w - 2 * (y1 - y0) := by grind
  have k3' : v 3 = (m0 + m1 - 2 * ((y1 - y0) * u)) * (u * u) := by grind
  have k2 : w * v 2 * 2 = m1 - m0 - 3 * ((a + w) ^ 2 - a ^ 2) * v 3 := by grind
  have k2' : v 2 = (3 * ((y1 - y0) * u) - 2 * m0 - m1) * u - 3 * v 3 * a := by grind
  have k1' : v 1 = m0 - 2 * a * v 2 - 3 * a ^ 2 * v 3 := by
   clear k3 k3' k2 k2' v0 v2 v3 e1 e2 h h2
   grind
  have k0' : v 0 = y0 - a * v 1 - a ^ 2 * v 2 - a ^ 3 * v 3 := by
   clear k3 k3' k2 k2' k1' v1 v2 v3 e1 e2 h h2
   grind
  clear v0 v1 v2 v3 k3 k2 e1 e2 h h2
  have hh : v 3 = hermS a y0 m0 ((3 * ((y1 - y0) * u) - 2 * m0 - m1) * u) ((m0 + m1 - 2 * ((y1 - y0) * u)) * (u * u)) 3 := k3'
  generalize (m0 + m1 - 2 * ((y1 - y0) * u)) * (u * u) = d at *
  generalize (3 * ((y1 - y0) * u) - 2 * m0 - m1) * u = c at *
  rw [k3'] at k2' k1' k0'
  rw [k2'] at k1' k0'
  rw [k1'] at k0'
  intro q hq
  match q, hq with
  | 0, _ =>
   rw [k0']
   simp only [hermS, if_true]
   all_goals grind
  | 1, _ =>
   rw [k1']
   simp only [hermS, if_true, Nat.one_ne_zero, if_false]
   all_goals grind
  | 2, _ =>
   rw [k2']
   simp only [hermS, if_true, Nat.reduceEqDiff, if_false]
   all_goals grind
  | 3, _ => exact hh
theorem herm_ev {a y0 m0 c d x : Rat} : ev ((List.range 4).map (hermS a y0 m0 c d)) x = y0 + m0 * (x - a) + c * (x - a) ^ 2 + d * (x - a) ^ 3 := by
 rw [show List.range 4 = [0, 1, 2, 3] from rfl]
 simp only [List.map_cons, List.map_nil, ev, hermS, if_true, Nat.one_ne_zero, if_false, Nat.reduceEqDiff]
 grind
end Go.Proofs.YtjncgcnofiaiaaaGreat

set_option linter.unusedVariables false
set_option linter.unusedSimpArgs false
namespace Go.Proofs.YtjncgcnofiaiaaaGreat
open Go.RowKit
set_option maxRecDepth 20000
theorem Els.bdR {k : Nat} : ∀ {l : List Rat} {ds : List C}, Els (elR k) ds l → BdL k l := by
 intro l ds h i hi
 obtain ⟨cs, r, h1, _⟩ := h.get hi
 rw [yX hi]
 exact (show IR k cs l[i] from h1).bd
theorem Ls.bdR {k : Nat} {c : C} {l : List Rat} (h : Ls (elR k) c l) : BdL k l := h.els.bdR
theorem IR.tight {k m : Nat} {cs : List C} {q : Rat} (h : IR k cs q) (hb : Bd m (rp q)) : IR m cs q := ⟨h.is, hb⟩
structure IsPrime (p m : List Rat) : Prop where
 ev : ∀ x, ev m x = ev (der p) x
 len : m.length ≤ p.length - 1
 top : Top m
theorem der_len {p : List Rat} : (der p).length = p.length - 1 := by simp [der]
theorem der_get {p : List Rat} {i : Nat} (h : i < (der p).length) : (der p)[i] = p.getD (i + 1) 0 * (((i + 1 : Nat) : Int) : Rat) := by simp [der]
theorem Out.close {α : Type} {E : El α} {el : TypeId} {m : Nat} {H : Hp} {c : C} {l : List α} (h : Out E el m H c l) : ∃ bs d, Fz (· = .ro) (xS H bs) c d ∧ Ls E d l := by
 cases h with
 | nil => exact ⟨[], _, .hf trivial, .nil⟩
 | sl hm hb hn hc h =>
  rename_i b n co cells ds
  subst hn
  refine ⟨[b], _, .sl (gX (List.mem_cons_self) hb) rfl (by simp) ?_, .imm h⟩
  simp only [List.drop_zero]
  rw [hc]
  exact .hf h.hf
def sgR (q : Rat) : Int := sgn (rp q).1
theorem jK (q : Rat) : (sgR q = -1 ∧ q < 0) ∨ (sgR q = 0 ∧ q = 0) ∨ (sgR q = 1 ∧ 0 < q) := by
 unfold sgR sgn rp
 simp only
 rcases Int.lt_trichotomy q.num 0 with h | h | h
 ·left
  exact ⟨by rw [if_pos h], Rat.not_le.1 (fun h2 => by have := Rat.num_nonneg.2 h2; omega)⟩
 ·right; left
  exact ⟨by rw [if_neg (by omega), if_pos h], Rat.num_eq_zero.1 h⟩
 ·right; right
  exact ⟨by rw [if_neg (by omega), if_neg (by omega)], by
   have h2 : 0 ≤ q := Rat.num_nonneg.1 (by omega)
   have h3 : q ≠ 0 := fun e => by rw [e] at h; exact absurd h (by decide)
   grind⟩
attribute [local irreducible] yA semH semC qLen qNil qIad qSlc qIdx xA yM xH appX appI slcX awpF yQ xM xopF xT qval lval seqQ xO wT wL wI cnd arith IntKind.wrap
theorem ref01_Q_Sign {k : Nat} {cs : List C} {q : Rat} (hx : IR k cs q) : semC Tryz.prog n_ref01_Q_Sign [.agg cs] (IntK (sgR q)) := by
 refine yC ok_ref01_Q_Sign rfl (show HFVs [.agg cs] from ⟨hx.hf, trivial⟩) ?_
 obtain ⟨a, b, c, d, x, rfl, h1, h2, e⟩ := hx.is.four
 obtain ⟨c1, l, mi, h3, hw, hn, hm, hz⟩ := h1.two
 cases h3
 refine go5 ?_
 refine yB (tZ h1) (fun u hu => ?_)
 obtain ⟨z, rfl, hz2⟩ := hu
 unfold sgR
 cases z
 case true =>
  rw [hz2.1 rfl]
  refine go5 ?_
  exact IntK.fz
 have hne : (rp q).1 ≠ 0 := fun e => absurd (hz2.2 e) (by decide)
 cases b
 ·have : sgn (rp q).1 = 1 := by
   rw [hz] at hne ⊢
   simp only [amt, cond_false] at hne ⊢
   exact sgn_pos (by omega)
  rw [this]
  refine go5 ?_
  exact IntK.fz
 ·have : sgn (rp q).1 = -1 := by
   rw [hz] at hne ⊢
   simp only [amt, cond_true] at hne ⊢
   exact sgn_lt (by omega)
  rw [this]
  refine go5 ?_
  exact IntK.fz
theorem r_Pow {k : Nat} {cs : List C} {x : Rat} (n : Nat) (hx : IR k cs x) (hn : n < 1024) (hk : n * k + 1 ≤ 134217727) : semC Tryz.prog n_ref01_Q_Pow [.agg cs, i64 n] (RQV (n * k + 1) (x ^ n)) := by
 refine yC ok_ref01_Q_Pow rfl (show HFVs [.agg cs, i64 n] from ⟨hx.hf, trivial, trivial⟩) ?_
 obtain ⟨a, b, c, d, rfl⟩ := id hx.four
 refine go5 ?_
 refine c_f (by simp [yA]) ?_
 refine go5 ?_
 refine yB (r_Int (g := 1) (by decide)) (fun u hu => ?_)
 obtain ⟨es, rfl, h1⟩ := hu
 obtain ⟨_, _, _, _, rfl⟩ := id h1.four
 refine go5 ?_
 simp only [uA, vW, ratC, uX, uW, List.set_cons_zero, List.set_cons_succ, List.nil_append, List.cons_append, List.append_nil, List.replicate_succ, List.replicate_zero, List.length_cons, List.length_nil, splice, List.take_succ_cons, List.take_zero, List.drop_succ_cons, List.drop_zero, List.take_nil, List.drop_nil, Nat.zero_add, Nat.reduceAdd, Nat.reduceMul, Int.reduceToNat, xS, List.getElem?_cons_succ, List.getElem?_cons_zero]
 refine yS (fun m vs H => ∃ (i : Nat) (es : List C), vs = [i64 n, .c (.ptr 0 0), .c (.ptr 1 0), .c (.ptr 2 0), i64 i] ∧ H = [.live ⟨[a, .bool b, c, .bool d], yF, .rw⟩, .live ⟨zeroRQ, yF, .rw⟩, .live ⟨es, yF, .rw⟩] ∧ m = n - i ∧ i ≤ n ∧ IR (i * k + 1) es (x ^ i)) (by rfl) ⟨0, _, rfl, rfl, rfl, by omega, by rw [Nat.zero_mul, Rat.pow_zero]; exact h1⟩ ?_
 clear h1
 rintro m vs H ⟨i, es, rfl, rfl, rfl, h2, h3⟩
 obtain ⟨_, _, _, _, rfl⟩ := id h3.four
 refine go5 ?_
 cases hq : yA Cm.lss (i : Int) (n : Int)
 ·simp [yA] at hq
  have ei : i = n := by omega
  subst ei
  refine go5 ?_
  exact RQV.fz h3
 ·simp [yA] at hq
  have hle := Nat.mul_le_mul_right k (show i + 1 ≤ n from hq)
  rw [Nat.succ_mul] at hle
  refine go5 ?_
  refine yB (gQ h3 hx (by omega)) (fun u hu => ?_)
  obtain ⟨gs, rfl, j1⟩ := hu
  obtain ⟨_, _, _, _, rfl⟩ := id j1.four
  refine go5 ?_
  rw [xD i (by omega)]
  refine l_n (by rfl) (by omega) ⟨i + 1, _, rfl, rfl, rfl, by omega, ?_⟩
  rw [Rat.pow_succ, Nat.succ_mul]
  exact j1.up (by omega)
theorem ref02_Prime {k : Nat} {c : C} {p : List Rat} (hc : Ls (elR k) c p) (hp : p.length < 524288) (hk : k + 1 ≤ 134217727) : semC Tryz.prog n_ref02_Poly_Prime [.c c] (vQ (elR (k + 1)) (IsPrime p)) := by
 refine yC ok_ref02_Poly_Prime rfl (show HFVs [.c c] from ⟨hc.hf, trivial⟩) ?_
 refine go9 ?_
 refine yS (fun w vs H => ∃ (i : Nat) (o : C), vs = [.c c, .c o, i64 i] ∧ w = p.length + 1 - i ∧ 1 ≤ i ∧ i ≤ p.length + 1 ∧ Out (elR (k + 1)) yF 0 H o ((der p).take (i - 1))) (by rfl) ⟨1, _, rfl, rfl, by omega, by omega, .nil⟩ ?_
 rintro w vs H ⟨i, o, rfl, rfl, h1, h2, h3⟩
 refine go9 ?_
 cases hi : yA Cm.lss (i : Int) (p.length : Int)
 case false =>
  simp [yA] at hi
  rw [List.take_of_length_le (by rw [der_len]; omega)] at h3
  obtain ⟨bs, d, f1, l1⟩ := h3.close
  refine go9 ?_
  refine yR bs (.cons (.c f1) .nil) (pF l1 (by rw [der_len]; omega)) (fun u hu => ?_)
  obtain ⟨c', r, rfl, h6, h7⟩ := hu
  refine go9 ?_
  exact vQ.fz h6 ⟨h7.ev, by have := h7.len; rwa [der_len] at this, h7.top⟩
 simp [yA] at hi
 refine go9 ?_
 refine xW hc (i := i) hi (by omega) rfl (fun cs hcs => ?_)
 refine go9 ?_
 refine yB (r_Int (g := (i : Int)) (by omega)) (fun u hu => ?_)
 obtain ⟨ds, rfl, hds⟩ := hu
 refine go9 ?_
 refine yB (gQ hcs hds hk) (fun u hu => ?_)
 obtain ⟨es, rfl, hes⟩ := hu
 obtain ⟨_, _, _, _, rfl⟩ := id hes.four
 have hdl : (der p).length = p.length - 1 := der_len
 refine go9 ?_
 refine gF (F := []) (R := _) rfl (h3.grow (X := List.replicate (0 + 1) Slot.unb)) (by rfl) (by rfl) rfl hes (by simp; omega) (fun R' o' h4 => ?_)
 refine go9 ?_
 rw [xD i (by omega)]
 refine l_n (by rfl) (n' := p.length + 1 - (i + 1)) (by omega) ⟨i + 1, o', rfl, rfl, by omega, by omega, ?_⟩
 rw [show i + 1 - 1 = (i - 1) + 1 by omega, qU (l := der p) (i := i - 1) (by omega), der_get, show i - 1 + 1 = i by omega, yX (l := p) (i := i) hi]
 exact h4
theorem ref24_line {kind : Int} {cx cy : C} {xs ys : List Rat} {i : Nat} (hx : Ls (elR 2) cx xs) (hy : Ls (elR 2) cy ys) (hr : tK xs) (hlen : ys.length = xs.length) (hl : xs.length ≤ 1024) (hi : i + 1 < xs.length) : semC Tryz.prog n_ref24_table_line [.agg [iC kind, cx, cy], i64 i] (RQV 10 (slope xs ys i)) := by
 refine yC ok_ref24_table_line rfl (show HFVs [.agg [iC kind, cx, cy], i64 i] from ⟨⟨trivial, hx.hf, hy.hf, trivial⟩, trivial, trivial⟩) ?_
 refine go5 ?_
 rw [xD i (by omega)]
 refine go5 ?_
 refine xW hy (i := i + 1) (by omega) (by omega) rfl (fun cs hcs => ?_)
 refine go5 ?_
 refine xW hy (i := i) (by omega) (by omega) rfl (fun ds hds => ?_)
 refine go5 ?_
 rw [xD i (by omega)]
 refine go5 ?_
 refine xW hx (i := i + 1) (by omega) (by omega) rfl (fun es hes => ?_)
 refine go5 ?_
 refine xW hx (i := i) (by omega) (by omega) rfl (fun fs hfs => ?_)
 have hne : xs[i + 1] - xs[i] ≠ 0 := pT (hr i hi)
 refine go5 ?_
 refine yG (r_Sub2 hcs hds (by decide)) (fun u hu => ?_)
 obtain ⟨gs, rfl, g1⟩ := hu
 refine go5 ?_
 refine yG (r_Sub2 hes hfs (by decide)) (fun u hu => ?_)
 obtain ⟨hs, rfl, g2⟩ := hu
 refine go5 ?_
 refine yG (r_Div2 g1 g2 (by decide) hne) (fun u hu => ?_)
 obtain ⟨js, rfl, g3⟩ := hu
 obtain ⟨_, _, _, _, rfl⟩ := id g3.four
 refine go5 ?_
 refine RQV.fz ?_
 unfold slope
 rw [yX (l := ys) (i := i + 1) (by omega), yX (l := ys) (i := i) (by omega), yX (l := xs) (i := i + 1) (by omega), yX (l := xs) (i := i) (by omega)]
 exact g3
end Go.Proofs.YtjncgcnofiaiaaaGreat

set_option linter.unusedVariables false
set_option linter.unusedSimpArgs false
namespace Go.Proofs.YtjncgcnofiaiaaaGreat
open Go.RowKit
set_option maxRecDepth 20000
theorem sg_le (a b : Rat) : (sgR a ≠ sgR b ∨ a = 0) ↔ a * b ≤ 0 := by
 have np : ∀ {x y : Rat}, x < 0 → 0 < y → x * y ≤ 0 := fun {x y} h1 h2 => by
  have h3 : 0 < -x := by grind
  have := Rat.mul_pos h3 h2
  grind
 rcases jK a with ⟨e1, h1⟩ | ⟨e1, h1⟩ | ⟨e1, h1⟩ <;> rcases jK b with ⟨e2, h2⟩ | ⟨e2, h2⟩ | ⟨e2, h2⟩ <;> rw [e1, e2]
 ·constructor
  ·rintro (h | h)
   ·exact absurd rfl h
   ·subst h
    exact absurd h1 Rat.lt_irrefl
  ·intro h
   have h3 : 0 < -a := by grind
   have h4 : 0 < -b := by grind
   have := Rat.mul_pos h3 h4
   grind
 ·subst h2
  exact ⟨fun _ => by rw [Rat.mul_zero]; exact Rat.le_refl, fun _ => .inl (by decide)⟩
 ·exact ⟨fun _ => np h1 h2, fun _ => .inl (by decide)⟩
 ·subst h1
  exact ⟨fun _ => by rw [Rat.zero_mul]; exact Rat.le_refl, fun _ => .inl (by decide)⟩
 ·subst h1
  exact ⟨fun _ => by rw [Rat.zero_mul]; exact Rat.le_refl, fun _ => .inr rfl⟩
 ·subst h1
  exact ⟨fun _ => by rw [Rat.zero_mul]; exact Rat.le_refl, fun _ => .inl (by decide)⟩
 ·exact ⟨fun _ => by rw [Rat.mul_comm]; exact np h2 h1, fun _ => .inl (by decide)⟩
 ·subst h2
  exact ⟨fun _ => by rw [Rat.mul_zero]; exact Rat.le_refl, fun _ => .inl (by decide)⟩
 ·constructor
  ·rintro (h | h)
   ·exact absurd rfl h
   ·subst h
    exact absurd h1 Rat.lt_irrefl
  ·intro h
   have := Rat.mul_pos h1 h2
   grind
attribute [local irreducible] yA semH semC qLen qNil qIad qSlc qIdx xA yM xH appX appI slcX awpF yQ xM xopF xT qval lval seqQ xO wT wL wI cnd arith IntKind.wrap
theorem ref24_slope_smooth {cx cy : C} {xs ys : List Rat} {i : Nat} (hx : Ls (elR 2) cx xs) (hy : Ls (elR 2) cy ys) (hr : tK xs) (hlen : ys.length = xs.length) (hl : xs.length ≤ 1024) (h2 : 2 ≤ xs.length) (hi : i < xs.length) : semC Tryz.prog n_ref24_table_slope [.agg [iC 2, cx, cy], i64 i] (RQV 49 (tY xs ys i)) := by
 refine yC ok_ref24_table_slope rfl (show HFVs [.agg [iC 2, cx, cy], i64 i] from ⟨⟨trivial, hx.hf, hy.hf, trivial⟩, trivial, trivial⟩) ?_
 refine go9 ?_
 refine yB (ref24_last hx hy.hf (by omega) (by omega)) (fun u hu => ?_)
 obtain rfl := hu
 refine go9 ?_
 refine c_t (by simp [yA]) ?_
 refine go9 ?_
 rw [show arith .sub .i64 ((xs.length - 1 : Nat) : Int) 2 = (xs.length : Int) - 3 by rw [xV, yE (by omega) (by omega)]; omega, show arith .sub .i64 (i : Int) 1 = (i : Int) - 1 by rw [xV, yE (by omega) (by omega)]]
 obtain ⟨lo, w, hc⟩ : ∃ lo w : Nat, (xs.length = 2 ∧ lo = 0 ∧ w = 2) ∨ (3 ≤ xs.length ∧ lo = min (i - 1) (xs.length - 3) ∧ w = 3) := by
  rcases Nat.lt_or_ge 2 xs.length with h | h
  ·exact ⟨_, _, .inr ⟨h, rfl, rfl⟩⟩
  ·exact ⟨_, _, .inl ⟨by omega, rfl, rfl⟩⟩
 have hlw : lo + w ≤ xs.length := by omega
 have hww : w = 2 ∨ w = 3 := by omega
 rw [show (if (if (xs.length : Int) - 3 < (i : Int) - 1 then (xs.length : Int) - 3 else (i : Int) - 1) > 0 then (if (xs.length : Int) - 3 < (i : Int) - 1 then (xs.length : Int) - 3 else (i : Int) - 1) else 0) = (lo : Int) by
  split <;> split <;> omega]
 rw [show arith .add .i64 (lo : Int) 2 = ((lo + 2 : Nat) : Int) by rw [yW, yE (by omega) (by omega)]; omega]
 rw [show (if ((lo + 2 : Nat) : Int) < ((xs.length - 1 : Nat) : Int) then ((lo + 2 : Nat) : Int) else ((xs.length - 1 : Nat) : Int)) = ((lo + w - 1 : Nat) : Int) by
  split <;> omega]
 rw [show arith .add .i64 ((lo + w - 1 : Nat) : Int) 1 = ((lo + w : Nat) : Int) by rw [yW, yE (by omega) (by omega)]; omega]
 refine pE (l := xs) (a := (lo : Int)) (b := ((lo + w : Nat) : Int)) (by rfl) hx rfl (by rfl) (by rfl) (by omega) (by omega) (by omega) (fun c1 hc1 => ?_)
 refine go9 ?_
 rw [show arith .add .i64 ((lo + w - 1 : Nat) : Int) 1 = ((lo + w : Nat) : Int) by rw [yW, yE (by omega) (by omega)]; omega]
 refine pE (l := ys) (a := (lo : Int)) (b := ((lo + w : Nat) : Int)) (by rfl) hy rfl (by rfl) (by rfl) (by omega) (by omega) (by omega) (fun c2 hc2 => ?_)
 rw [show ((lo : Nat) : Int).toNat = lo by omega, show ((lo + w : Nat) : Int).toNat - lo = w by omega] at hc1 hc2
 have l1 : ((xs.drop lo).take w).length = w := by simp; omega
 have l2 : ((ys.drop lo).take w).length = w := by simp; omega
 have hne : ∀ a b (ha : a < ((xs.drop lo).take w).length) (hb : b < ((xs.drop lo).take w).length), a ≠ b → ((xs.drop lo).take w)[a] ≠ ((xs.drop lo).take w)[b] := by
  intro a b ha hb hab
  rw [l1] at ha hb
  simp only [List.getElem_take, List.getElem_drop]
  rw [← yX (l := xs) (i := lo + a) (by omega), ← yX (l := xs) (i := lo + b) (by omega)]
  rcases Nat.lt_or_ge a b with h | h
  ·exact fun e => absurd (hr.lt (show lo + a < lo + b by omega) (by omega)) (by rw [e]; exact Rat.lt_irrefl)
  ·exact fun e => absurd (hr.lt (show lo + b < lo + a by omega) (by omega)) (by rw [e]; exact Rat.lt_irrefl)
 have k1 : thF 2 2 ((xs.drop lo).take w).length ≤ 134217727 := by
  rw [l1]
  rcases hww with rfl | rfl <;> decide
 have k2 : thO 2 2 ((xs.drop lo).take w).length ((xs.drop lo).take w).length ≤ 4096 := by
  rw [l1]
  rcases hww with rfl | rfl <;> decide
 refine go9 ?_
 refine xW hx (i := i) hi (by omega) rfl (fun cs hcs => ?_)
 refine go9 ?_
 refine yG (ref02_Through hc1 hc2 (by omega) (by omega) (by decide) hne k1 (by omega) (by decide)) (fun u hu => ?_)
 obtain ⟨ct, T, rfl, t1, t2⟩ := hu
 have t1 := t1.up' k2
 have t3 := t2.len
 rw [l1] at t3
 refine go9 ?_
 refine yG (ref02_Prime t1 (by omega) (by decide)) (fun u hu => ?_)
 obtain ⟨cd, D, rfl, d1, d2⟩ := hu
 have d3 := d2.len
 have k3 := vaK_mono (k := 4096 + 1) (m := 2) (show D.length ≤ 3 by omega)
 rw [show vaK (4096 + 1) 2 3 = 12304 by decide] at k3
 refine go9 ?_
 refine yB (ref02_Value d1 hcs (by omega) (by omega) (by omega)) (fun u hu => ?_)
 obtain ⟨es, rfl, hes⟩ := hu
 obtain ⟨_, _, _, _, rfl⟩ := id hes.four
 refine go9 ?_
 refine RQV.fz ?_
 have e : ev D xs[i] = tY xs ys i := by
  rw [d2.ev, ← yX (l := xs) (i := i) hi]
  unfold tY
  rw [if_neg (by omega)]
  rcases hc with ⟨n2, rfl, rfl⟩ | ⟨n3, e1, rfl⟩
  ·rw [if_pos n2]
   exact smooth_two hr hlen n2 (fun x => by rw [t2.ev, l1])
  ·rw [if_neg (by omega), ← e1]
   exact smooth_three hr hlen (by omega) (fun x => by rw [t2.ev, l1])
 rw [← e]
 refine hes.tight ?_
 rw [e]
 exact bd_smooth hx.bdR hy.bdR hr hlen hi
theorem ref24_slope_keep {cx cy : C} {xs ys : List Rat} {i : Nat} (hx : Ls (elR 2) cx xs) (hy : Ls (elR 2) cy ys) (hr : tK xs) (hlen : ys.length = xs.length) (hl : xs.length ≤ 1024) (h2 : 2 ≤ xs.length) (hi : i < xs.length) : semC Tryz.prog n_ref24_table_slope [.agg [iC 3, cx, cy], i64 i] (RQV 49 (pN xs ys i)) := by
 refine yC ok_ref24_table_slope rfl (show HFVs [.agg [iC 3, cx, cy], i64 i] from ⟨⟨trivial, hx.hf, hy.hf, trivial⟩, trivial, trivial⟩) ?_
 have hbd := bd_keep hx.bdR hy.bdR hr hlen hi
 unfold pN at hbd ⊢
 rw [if_neg (show ¬ xs.length = 1 by omega)] at hbd ⊢
 refine go9 ?_
 refine yB (ref24_last hx hy.hf (by omega) (by omega)) (fun u hu => ?_)
 obtain rfl := hu
 refine go9 ?_
 refine c_f (by simp [yA]) ?_
 refine go9 ?_
 cases h0 : yA Cm.eql (i : Int) 0
 case true =>
  simp [yA] at h0
  rw [if_pos h0]
  refine go9 ?_
  refine yB (ref24_line (i := 0) hx hy hr hlen hl (by omega)) (fun u hu => ?_)
  obtain ⟨es, rfl, hes⟩ := hu
  obtain ⟨_, _, _, _, rfl⟩ := id hes.four
  refine go9 ?_
  exact RQV.fz (hes.up (by decide))
 simp [yA] at h0
 rw [if_neg h0] at hbd ⊢
 refine go9 ?_
 cases h1 : yA Cm.eql (i : Int) ((xs.length - 1 : Nat) : Int)
 case true =>
  simp [yA] at h1
  rw [if_pos (show i = xs.length - 1 by omega)]
  refine go9 ?_
  rw [show arith .sub .i64 ((xs.length - 1 : Nat) : Int) 1 = ((xs.length - 2 : Nat) : Int) by rw [xV, yE (by omega) (by omega)]; omega]
  refine yB (ref24_line (i := xs.length - 2) hx hy hr hlen hl (by omega)) (fun u hu => ?_)
  obtain ⟨es, rfl, hes⟩ := hu
  obtain ⟨_, _, _, _, rfl⟩ := id hes.four
  refine go9 ?_
  exact RQV.fz (hes.up (by decide))
 simp [yA] at h1
 rw [if_neg (show ¬ i = xs.length - 1 by omega)] at hbd ⊢
 refine go9 ?_
 rw [show arith .sub .i64 (i : Int) 1 = ((i - 1 : Nat) : Int) by rw [xV, yE (by omega) (by omega)]; omega]
 refine yG (ref24_line (i := i - 1) hx hy hr hlen hl (by omega)) (fun u hu => ?_)
 obtain ⟨es, rfl, hes⟩ := hu
 obtain ⟨e1, e2, e3, e4, rfl⟩ := id hes.four
 refine go9 ?_
 refine yG (ref24_line (i := i) hx hy hr hlen hl (by omega)) (fun u hu => ?_)
 obtain ⟨fs, rfl, hfs⟩ := hu
 obtain ⟨f1, f2, f3, f4, rfl⟩ := id hfs.four
 refine go9 ?_
 simp only [uA, vW, ratC, uX, uW, List.set_cons_zero, List.set_cons_succ, List.nil_append, List.cons_append, List.append_nil, List.replicate_succ, List.replicate_zero, List.length_cons, List.length_nil, splice, List.take_succ_cons, List.take_zero, List.drop_succ_cons, List.drop_zero, List.take_nil, List.drop_nil, Nat.zero_add, Nat.reduceAdd, Nat.reduceMul, Int.reduceToNat, xS, List.getElem?_cons_succ, List.getElem?_cons_zero]
 refine yG (ref01_Q_Sign hes) (fun u hu => ?_)
 obtain rfl := hu
 refine go9 ?_
 refine yB (ref01_Q_Sign hfs) (fun u hu => ?_)
 obtain rfl := hu
 refine go9 ?_
 have hsg := sg_le (slope xs ys (i - 1)) (slope xs ys i)
 cases h3 : yA Cm.neq (sgR (slope xs ys (i - 1))) (sgR (slope xs ys i))
 case true =>
  simp [yA] at h3
  rw [if_pos (hsg.1 (.inl h3))]
  refine go9 ?_
  exact RQV.fz (pJ.up (by decide))
 simp [yA] at h3
 refine go9 ?_
 refine yG (qF hes) (fun u hu => ?_)
 obtain ⟨z, rfl, hz⟩ := hu
 cases z
 case true =>
  rw [if_pos (hsg.1 (.inr (hz.1 rfl)))]
  refine go9 ?_
  exact RQV.fz (pJ.up (by decide))
 have hnz : ¬ slope xs ys (i - 1) * slope xs ys i ≤ 0 := fun h => by
  rcases hsg.2 h with h | h
  ·exact h h3
  ·exact absurd (hz.2 h) (by decide)
 rw [if_neg hnz] at hbd ⊢
 refine go9 ?_
 refine yG (gQ hes hfs (by decide)) (fun u hu => ?_)
 obtain ⟨gs, rfl, g1⟩ := hu
 refine go9 ?_
 refine yG (r_Int (g := 2) (by decide)) (fun u hu => ?_)
 obtain ⟨hs, rfl, g2⟩ := hu
 refine go9 ?_
 refine yG (gQ g1 g2 (by decide)) (fun u hu => ?_)
 obtain ⟨js, rfl, g3⟩ := hu
 refine go9 ?_
 refine yB (r_Add2 hes hfs (by decide)) (fun u hu => ?_)
 obtain ⟨ks, rfl, g4⟩ := hu
 refine go9 ?_
 refine yB (r_Div2 g3 g4 (by decide) (keep_ne hnz)) (fun u hu => ?_)
 obtain ⟨ls, rfl, g5⟩ := hu
 obtain ⟨_, _, _, _, rfl⟩ := id g5.four
 refine go9 ?_
 rw [show slope xs ys (i - 1) * slope xs ys i * ((2 : Int) : Rat) = 2 * slope xs ys (i - 1) * slope xs ys i by grind] at g5
 exact RQV.fz (g5.tight hbd)
end Go.Proofs.YtjncgcnofiaiaaaGreat

set_option linter.unusedVariables false
set_option linter.unusedSimpArgs false
namespace Go.Proofs.YtjncgcnofiaiaaaGreat
open Go.RowKit
set_option maxRecDepth 20000
structure RowP (c : C) (bx : Nat → Nat) (ds : Nat → List C) (H : Hp) (n w : Nat) (V : Nat → Nat → Rat) (K : Nat) : Prop where
 T : (n = 0 ∧ c = .nilSl) ∨ ∃ b, c = .sl b 0 n none 1 ∧ H[b]? = some (.live ⟨(List.range n).map (rowC bx (fun _ => some w) w), yY, .rw⟩)
 row : ∀ l, l < n → H[bx l]? = some (.live ⟨ds l, yF, .rw⟩)
 len : ∀ l, l < n → (ds l).length = w * 4
 at_ : ∀ l j, l < n → j < w → IR K (((ds l).drop (j * 4)).take 4) (V l j)
theorem RowP.grow {c : C} {bx : Nat → Nat} {ds : Nat → List C} {H X : Hp} {n w : Nat} {V : Nat → Nat → Rat} {K : Nat} (h : RowP c bx ds H n w V K) : RowP c bx ds (H ++ X) n w V K := by
 refine ⟨?_, fun l hl => by
  have := h.row l hl
  rw [List.getElem?_append_left (lt_of_getElem? this)]
  exact this, h.len, h.at_⟩
 rcases h.T with h1 | ⟨b, h1, h2⟩
 ·exact .inl h1
 ·exact .inr ⟨b, h1, by rw [List.getElem?_append_left (lt_of_getElem? h2)]; exact h2⟩
theorem Els.at4 {k : Nat} {ds : List C} {l : List Rat} {j : Nat} (h : Els (elR k) ds l) (hj : j < l.length) : IR k ((ds.drop (j * 4)).take 4) (l.getD j 0) := by
 obtain ⟨cs, r, h1, h2⟩ := h.get hj
 have h3 : cs.length = 4 := (elR k).len h1
 rw [show j * 4 = j * (elR k).s from rfl, h2, List.take_left' h3, yX hj]
 exact h1
theorem RowP.close {c : C} {bx : Nat → Nat} {ds : Nat → List C} {H : Hp} {n w : Nat} {V : Nat → Nat → Rat} {K : Nat} (h : RowP c bx ds H n w V K) (hn : 0 < n) : ∃ bs d, Fz (· = .ro) (xS H bs) c d ∧ Tab ds d n w V (fun _ _ => K) := by
 rcases h.T with ⟨h0, _⟩ | ⟨b, rfl, hb⟩
 ·omega
 refine ⟨b :: (List.range n).map bx, _, .sl (gX List.mem_cons_self hb) rfl (by simp) ?_, rfl, h.len, h.at_⟩
 rw [List.drop_zero, List.take_of_length_le (by simp)]
 exact fz_rowsK (p := (· = .ro)) (H := xS H (b :: (List.range n).map bx)) (bx := bx) (co := fun _ => some w) (ds := ds) (w := w) (l := List.range n) rfl (by simp) (fun i hi => ⟨gX (List.mem_cons_of_mem _ (List.mem_map_of_mem hi)) (h.row i (by simpa using hi)), h.len i (by simpa using hi), gV (h.len i (by simpa using hi)) (fun j hj => (h.at_ i j (by simpa using hi) hj).hf)⟩)
theorem sO {H X : Hp} {l : Nat} {s : Slot} (h : H[l]? = some s) : (H ++ X)[l]? = some s := by
 rw [List.getElem?_append_left (lt_of_getElem? h)]
 exact h
def addF {α : Type} (f : Nat → α) (n : Nat) (a b : α) : Nat → α := fun l => if l = n then a else if l = n + 1 then b else f l
theorem addF_old {α : Type} {f : Nat → α} {n l : Nat} {a b : α} (h : l < n) : addF f n a b l = f l := by
 unfold addF
 rw [if_neg (by omega), if_neg (by omega)]
theorem addF_fst {α : Type} {f : Nat → α} {n : Nat} {a b : α} : addF f n a b n = a := by simp [addF]
theorem addF_snd {α : Type} {f : Nat → α} {n : Nat} {a b : α} : addF f n a b (n + 1) = b := by simp [addF]
abbrev Stay (H H' : Hp) : Prop := ∀ (l : Nat) (cells : List C) (el : TypeId), el ≠ yY → H[l]? = some (Slot.live ⟨cells, el, BK.rw⟩) → H'[l]? = some (Slot.live ⟨cells, el, BK.rw⟩)
theorem RowP.two {c : C} {bx : Nat → Nat} {ds : Nat → List C} {H : Hp} {n : Nat} {V : Nat → Nat → Rat} {K : Nat} {c1 c2 : List C} {s x : Option Go.Proofs.YtjncgcnofiaiaaaGreat.V} {k : Go.Proofs.YtjncgcnofiaiaaaGreat.V → Hp → Prop} (h : RowP c bx ds H n 4 V K) (hn : n < 1024) (l1 : c1.length = 16) (l2 : c2.length = 16) (h1 : ∀ j, j < 4 → IR K ((c1.drop (j * 4)).take 4) (V n j)) (h2 : ∀ j, j < 4 → IR K ((c2.drop (j * 4)).take 4) (V (n + 1) j))
  (hs : s = some (.c c)) (hx : x = some (.c (.imm 2 [.sl H.length 0 4 (some 4) 4, .sl (H.length + 1) 0 4 (some 4) 4])))
  (hk : ∀ c' H', Stay H H' → RowP c' (addF bx n H.length (H.length + 1)) (addF ds n c1 c2) H' (n + 2) 4 V K → k (.c c') H') : appX ((H ++ [.live ⟨c1, yF, .rw⟩]) ++ [.live ⟨c2, yF, .rw⟩]) yY 1 24 s x k := by
 subst hs hx
 have hrow : ∀ {H' : Hp}, Stay ((H ++ [.live ⟨c1, yF, .rw⟩]) ++ [Slot.live ⟨c2, yF, .rw⟩]) H' → ∀ l, l < n + 2 → H'[addF bx n H.length (H.length + 1) l]? = some (.live ⟨addF ds n c1 c2 l, yF, .rw⟩) := fun hH l hl => by
  refine hH _ _ _ (by decide) ?_
  rcases Nat.lt_or_ge l n with e | e
  ·rw [addF_old e, addF_old e]
   exact bM (h.row l e)
  ·rcases Nat.lt_or_ge n l with e2 | e2
   ·have : l = n + 1 := by omega
    subst this
    rw [addF_snd, addF_snd]
    exact get2b
   ·have : l = n := by omega
    subst this
    rw [addF_fst, addF_fst]
    exact get2a
 have hlen : ∀ l, l < n + 2 → (addF ds n c1 c2 l).length = 4 * 4 := fun l hl => by
  rcases Nat.lt_or_ge l n with e | e
  ·rw [addF_old e]
   exact h.len l e
  ·rcases Nat.lt_or_ge n l with e2 | e2
   ·have : l = n + 1 := by omega
    subst this
    rw [addF_snd]
    exact l2
   ·have : l = n := by omega
    subst this
    rw [addF_fst]
    exact l1
 have hat : ∀ l j, l < n + 2 → j < 4 → IR K (((addF ds n c1 c2 l).drop (j * 4)).take 4) (V l j) := fun l j hl hj => by
  rcases Nat.lt_or_ge l n with e | e
  ·rw [addF_old e]
   exact h.at_ l j e hj
  ·rcases Nat.lt_or_ge n l with e2 | e2
   ·have : l = n + 1 := by omega
    subst this
    rw [addF_snd]
    exact h2 j hj
   ·have : l = n := by omega
    subst this
    rw [addF_fst]
    exact h1 j hj
 have hcells : (List.range (n + 2)).map (rowC (addF bx n H.length (H.length + 1)) (fun _ => some 4) 4) = (List.range n).map (rowC bx (fun _ => some 4) 4) ++ [.sl H.length 0 4 (some 4) 4, .sl (H.length + 1) 0 4 (some 4) 4] := by
  rw [List.range_succ, List.range_succ, List.map_append, List.map_append, List.append_assoc]
  congr 1
  ·apply List.map_congr_left
   intro l hl
   have := List.mem_range.1 hl
   unfold rowC
   rw [addF_old this]
  ·simp only [List.map_cons, List.map_nil, rowC, addF_fst, addF_snd, List.cons_append, List.nil_append]
 have hxs : tF ((H ++ [.live ⟨c1, yF, .rw⟩]) ++ [Slot.live ⟨c2, yF, .rw⟩]) 1 (.imm 2 [.sl H.length 0 4 (some 4) 4, .sl (H.length + 1) 0 4 (some 4) 4]) = some [.sl H.length 0 4 (some 4) 4, .sl (H.length + 1) 0 4 (some 4) 4] := rfl
 rcases h.T with ⟨rfl, rfl⟩ | ⟨b, rfl, hb⟩
 ·simp only [appX, hxs, gO]
  refine yZ (by rfl) (sT rfl (yZ (by simp only [Bool.and_eq_true, yI]; decide) (hk _ _ (fun l cells el he hl => sO (bM hl)) ⟨.inr ⟨_, rfl, ?_⟩, hrow (fun l cells el he hl => sO hl), hlen, hat⟩)))
  rw [hcells]
  exact yJ _ _
 ·have hbn : ∀ {l : Nat} {cells : List C} {el : TypeId}, el ≠ yY → ((H ++ [.live ⟨c1, yF, .rw⟩]) ++ [Slot.live ⟨c2, yF, .rw⟩])[l]? = some (.live ⟨cells, el, .rw⟩) → b ≠ l := fun he hl e => by
   subst e
   rw [bM hb] at hl
   cases hl
   exact he rfl
  refine app_sl (m := 2) rfl rfl hxs rfl rfl (bM hb) (by simp) (by omega) (by omega) (hk _ _ (fun l cells el he hl => ?_) ⟨.inr ⟨_, rfl, ?_⟩, hrow (fun l cells el he hl => ?_), hlen, hat⟩)
  ·have := bM (a := Slot.live ⟨c1, yF, .rw⟩) (b := Slot.live ⟨c2, yF, .rw⟩) hl
   exact sO (by rw [List.getElem?_set_ne (hbn he this)]; exact this)
  ·rw [hcells]
   rw [List.getElem?_append_right (by simp), List.length_set, Nat.sub_self, List.take_of_length_le (by simp)]
   rfl
  ·exact sO (by rw [List.getElem?_set_ne (hbn he hl)]; exact hl)
theorem xd_mkSl {P : Program} {e : Env} {H : Hp} {nid : Nat} {K : V → Hp → Prop} {el : TypeId} {es bytes : Nat} {zero : List C} {l c : AO} {m n : Int} (h : l.ev e = some (.c (.int .i64 m))) (h2 : c.ev e = some (.c (.int .i64 n))) (h3 : 0 ≤ m ∧ m ≤ n ∧ n * bytes ≤ 281474976710656 ∧ n ≤ 281474976710656) (hn : H[nid]? = some .unb)
  (k : K (.c (.sl nid 0 m.toNat (some n.toNat) es)) (H.set nid (.live ⟨(List.replicate n.toNat zero).flatten, el, .rw⟩))) : xT P e H nid (.mkSl el es bytes zero l c) K := by
 simp only [xT, dstep, aval, h, h2]
 refine yZ (yI.2 h3) ?_
 simp only [hn]
 exact k
theorem beq_succ (n : Nat) : Nat.beq n (n + 1) = false := by
 cases h : Nat.beq n (n + 1)
 ·rfl
 ·exact absurd (Nat.eq_of_beq_eq_true h) (by omega)
theorem two_drawn {H : Hp} {a b : Slot} : ((H ++ List.replicate (1 + 1) Slot.unb).set (H.length + 0) a).set (H.length + 1) b = (H ++ [a]) ++ [b] := by
 simp [List.set_append]
attribute [local irreducible] yA semH semC qLen qNil qIad qSlc qIdx xA yM xH appX appI slcX awpF yQ xM xopF xT qval lval seqQ xO wT wL wI cnd arith IntKind.wrap
theorem bC {kind : Int} {cx cy : C} {xs ys : List Rat} {m : Nat → Rat} {i : Nat} (hk : kind = 2 ∨ kind = 3) (hx : Ls (elR 2) cx xs) (hy : Ls (elR 2) cy ys) (hr : tK xs) (hlen : ys.length = xs.length) (hl : xs.length ≤ 1024) (hi : i + 1 < xs.length) (hm : ∀ j, j < xs.length → semC Tryz.prog n_ref24_table_slope [.agg [iC kind, cx, cy], i64 j] (RQV 49 (m j))) : semC Tryz.prog n_ref24_table_piece [.agg [iC kind, cx, cy], i64 i] (vQ (elR 12629) (jE (cubP m xs ys i))) := by
 refine yC ok_ref24_table_piece rfl (show HFVs [.agg [iC kind, cx, cy], i64 i] from ⟨⟨trivial, hx.hf, hy.hf, trivial⟩, trivial, trivial⟩) ?_
 refine go8 ?_
 refine c_f (by simp [yA]; omega) ?_
 refine go8 ?_
 refine c_f (by simp [yA]; omega) ?_
 refine go8 ?_
 refine yS (fun n vs H => ∃ (o : Nat) (c : C) (bx : Nat → Nat) (ds : Nat → List C), vs = [i64 i, .c (.ptr 0 0), .c c, i64 ((i + o : Nat) : Int)] ∧ n = 2 - o ∧ o ≤ 2 ∧ H[0]? = some (.live ⟨[iC kind, cx, cy], vJ, .rw⟩) ∧ RowP c bx ds H (2 * o) 4 (jG (xs.getD i 0) (xs.getD (i + 1) 0)) 49) (by rfl) ⟨0, _, fun _ => 0, fun _ => [], rfl, rfl, by omega, rfl, ⟨.inl ⟨rfl, rfl⟩, fun l h => by omega, fun l h => by omega, fun l j h => by omega⟩⟩ ?_
 rintro n vs H ⟨o, c, bx, ds, rfl, rfl, o1, g0, o2⟩
 refine go8 ?_
 rw [show arith .add .i64 (i : Int) 2 = ((i + 2 : Nat) : Int) by rw [yW, yE (by omega) (by omega)]; omega]
 cases ho : yA Cm.lss ((i + o : Nat) : Int) ((i + 2 : Nat) : Int)
 case true =>
  simp [yA] at ho
  have hio : i + o < xs.length := by omega
  refine go8 ?_
  refine xd_mkSl (by rfl) (by rfl) (by decide) (by simp) ?_
  refine go8 ?_
  refine pH (T := some (H.length + 1)) (by rfl) (by simp [qR, tch, same?, beq_succ]) ?_
  refine xd_mkSl (by rfl) (by rfl) (by decide) (by simp) ?_
  rw [two_drawn]
  refine go8 ?_
  refine yS (fun n vs H' => ∃ (q : Nat) (c1 c2 : List C) (L1 L2 : List Rat), vs = [i64 i, .c (.ptr 0 0), .c c, i64 ((i + o : Nat) : Int), .c (.sl H.length 0 4 (some 4) 4), .c (.sl (H.length + 1) 0 4 (some 4) 4), i64 q] ∧ H' = (H ++ [.live ⟨c1, yF, .rw⟩]) ++ [.live ⟨c2, yF, .rw⟩] ∧ n = 4 - q ∧ q ≤ 4 ∧ L1.length = 4 ∧ L2.length = 4 ∧ Els (elR 49) c1 L1 ∧ Els (elR 49) c2 L2 ∧ L2.getD 0 0 = 0 ∧ (∀ j, j < q → L1.getD j 0 = xs.getD (i + o) 0 ^ j) ∧ ∀ j, 0 < j → j < q → L2.getD j 0 = xs.getD (i + o) 0 ^ (j - 1) * ((j : Int) : Rat)) (by rfl) ⟨0, _, _, List.replicate 4 0, List.replicate 4 0, rfl, rfl, rfl, by omega, rfl, rfl, (Els.rep (E := elR 1) pJ 4).up' (by decide), (Els.rep (E := elR 1) pJ 4).up' (by decide), rfl, fun j h => by omega, fun j _ h => by omega⟩ ?_
  rintro n vs H1 ⟨q, c1, c2, L1, L2, rfl, rfl, rfl, q1, q2, q3, q4, q5, q6, q7, q8⟩
  have hH0 := lt_of_getElem? g0
  have hcl1 : c1.length = 16 := by rw [q4.len, q2]; rfl
  have hcl2 : c2.length = 16 := by rw [q5.len, q3]; rfl
  refine go8 ?_
  cases hq : yA Cm.lss (q : Int) 4
  case true =>
   simp [yA] at hq
   have hq : q < 4 := by omega
   refine go8 ?_
   refine yV (bM g0) (by rfl) ?_
   refine go8 ?_
   refine xW hx (i := i + o) hio (by omega) rfl (fun cs hcs => ?_)
   rw [← yX (l := xs) (i := i + o) hio] at hcs
   refine go8 ?_
   refine yB (r_Pow q hcs (by omega) (by omega)) (fun u hu => ?_)
   obtain ⟨es, rfl, hes⟩ := hu
   obtain ⟨e1, e2, e3, e4, rfl⟩ := id hes.four
   refine go8 ?_
   refine yP get2a (by rfl) (by rfl) (by omega) ?_
   rw [set2a, show 0 + ((q : Nat) : Int).toNat * 4 = q * 4 by omega]
   have k1 := q4.set (i := q) (by omega) (show (elR 49).p _ _ from hes.up (show q * 2 + 1 ≤ 49 by omega))
   have k2 : ∀ j, j < q + 1 → (L1.set q (xs.getD (i + o) 0 ^ q)).getD j 0 = xs.getD (i + o) 0 ^ j := fun j hj => by
    by_cases e : j = q
    ·subst e
     simp [List.getD, q2, hq]
    ·have := q7 j (by omega)
     simpa [List.getD, List.getElem?_set_ne (show q ≠ j from fun x => e x.symm)] using this
   refine go8 ?_
   cases hq0 : yA Cm.gtr (q : Int) 0
   case false =>
    simp [yA] at hq0
    refine go8 ?_
    rw [xD q (by omega)]
    exact l_n (by rfl) (n' := 4 - (q + 1)) (by omega) ⟨q + 1, _, _, _, _, rfl, rfl, rfl, by omega, by simp [q2], q3, k1, q5, q6, k2, fun j _ h => by omega⟩
   simp [yA] at hq0
   refine go8 ?_
   refine yV (bM g0) (by rfl) ?_
   refine go8 ?_
   refine xW hx (i := i + o) hio (by omega) rfl (fun ds hds => ?_)
   rw [← yX (l := xs) (i := i + o) hio] at hds
   refine go8 ?_
   rw [show arith .sub .i64 (q : Int) 1 = ((q - 1 : Nat) : Int) by rw [xV, yE (by omega) (by omega)]; omega]
   refine yB (r_Pow (q - 1) hds (by omega) (by omega)) (fun u hu => ?_)
   obtain ⟨fs, rfl, hfs⟩ := hu
   refine go8 ?_
   refine yB (r_Int (g := (q : Int)) (by omega)) (fun u hu => ?_)
   obtain ⟨gs, rfl, hgs⟩ := hu
   refine go8 ?_
   refine yB (gQ hfs hgs (by omega)) (fun u hu => ?_)
   obtain ⟨hs, rfl, hhs⟩ := hu
   obtain ⟨h1, h2, h3, h4, rfl⟩ := id hhs.four
   refine go8 ?_
   refine yP get2b (by rfl) (by rfl) (by omega) ?_
   rw [set2b, show 0 + ((q : Nat) : Int).toNat * 4 = q * 4 by omega]
   refine go8 ?_
   rw [xD q (by omega)]
   refine l_n (by rfl) (n' := 4 - (q + 1)) (by omega) ⟨q + 1, _, _, _, _, rfl, rfl, rfl, by omega, by simp [q2], by simp [q3], k1, q5.set (i := q) (by omega) (show (elR 49).p _ _ from hhs.up (show (q - 1) * 2 + 1 + 1 ≤ 49 by omega)), ?_, k2, fun j j0 hj => ?_⟩
   ·simpa [List.getD, List.getElem?_set_ne (show q ≠ 0 by omega)] using q6
   ·by_cases e : j = q
    ·subst e
     simp [List.getD, q3, hq]
    ·have := q8 j j0 (by omega)
     simpa [List.getD, List.getElem?_set_ne (show q ≠ j from fun x => e x.symm)] using this
  simp [yA] at hq
  have eq : q = 4 := by omega
  subst eq
  refine go8 ?_
  have r1 : ∀ j, j < 4 → IR 49 ((c1.drop (j * 4)).take 4) (jG (xs.getD i 0) (xs.getD (i + 1) 0) (2 * o) j) := fun j hj => by
   have := q4.at4 (j := j) (by omega)
   rw [q7 j hj] at this
   have e : jG (xs.getD i 0) (xs.getD (i + 1) 0) (2 * o) j = xs.getD (i + o) 0 ^ j := by
    have : o = 0 ∨ o = 1 := by omega
    rcases this with rfl | rfl <;> simp [jG]
   rw [e]
   exact this
  have r2 : ∀ j, j < 4 → IR 49 ((c2.drop (j * 4)).take 4) (jG (xs.getD i 0) (xs.getD (i + 1) 0) (2 * o + 1) j) := fun j hj => by
   have := q5.at4 (j := j) (by omega)
   have e : jG (xs.getD i 0) (xs.getD (i + 1) 0) (2 * o + 1) j = if j = 0 then 0 else xs.getD (i + o) 0 ^ (j - 1) * ((j : Int) : Rat) := by
    have : o = 0 ∨ o = 1 := by omega
    rcases this with rfl | rfl <;> simp [jG]
   rw [e]
   split
   ·rename_i e0
    subst e0
    rw [q6] at this
    exact this
   ·rw [q8 j (by omega) hj] at this
    exact this
  refine o2.two (by omega) hcl1 hcl2 r1 r2 (by rfl) (by rfl) (fun c' H' f1 f2 => ?_)
  refine go8 ?_
  rw [xD (i + o) (by omega)]
  exact l_n (by rfl) (n' := 2 - (o + 1)) (by omega) ⟨o + 1, c', _, _, rfl, rfl, by omega, f1 0 _ _ (by decide) g0, f2⟩
 simp [yA] at ho
 have eo : o = 2 := by omega
 subst eo
 refine go8 ?_
 have hH0 := lt_of_getElem? g0
 refine yV (sO g0) (by rfl) ?_
 refine go9 ?_
 refine xW hy (i := i) (by omega) (by omega) rfl (fun av hav => ?_)
 rw [← yX (l := ys) (i := i) (by omega)] at hav
 refine go9 ?_
 refine yN (sO g0) (by rfl) ?_
 refine go9 ?_
 refine yV (sO g0) (by rfl) ?_
 refine go9 ?_
 rw [xD i (by omega)]
 refine go9 ?_
 refine xW hy (i := i + 1) (by omega) (by omega) rfl (fun bv hbv => ?_)
 rw [← yX (l := ys) (i := i + 1) (by omega)] at hbv
 refine go9 ?_
 refine yN (sO g0) (by rfl) ?_
 refine go9 ?_
 refine yG (hm i (by omega)) (fun u hu => ?_)
 obtain ⟨cv, rfl, hcv⟩ := hu
 refine go9 ?_
 rw [xD i (by omega)]
 refine yG (hm (i + 1) hi) (fun u hu => ?_)
 obtain ⟨dv, rfl, hdv⟩ := hu
 obtain ⟨a1, a2, a3, a4, rfl⟩ := id (show IR 2 av _ from hav).four
 obtain ⟨b1, b2, b3, b4, rfl⟩ := id (show IR 2 bv _ from hbv).four
 obtain ⟨c1, c2, c3, c4, rfl⟩ := id hcv.four
 obtain ⟨d1, d2, d3, d4, rfl⟩ := id hdv.four
 refine go9 ?_
 obtain ⟨bs, d, f1, t1⟩ := (o2.grow (X := List.replicate (0 + 1) Slot.unb)).close (by omega)
 have hw := pT (hr.get hi)
 obtain ⟨s1, s2⟩ := herm_solves (a := xs.getD i 0) (b := xs.getD (i + 1) 0) (y0 := ys.getD i 0) (m0 := m i) (y1 := ys.getD (i + 1) 0) (m1 := m (i + 1)) (s := slope xs ys i) (c := cubA xs ys m i) (d := cubB xs ys m i) hw rfl rfl rfl
 have hb : Ls (elR 49) (.imm 4 [a1, .bool a2, a3, .bool a4, c1, .bool c2, c3, .bool c4, b1, .bool b2, b3, .bool b4, d1, .bool d2, d3, .bool d4]) ((List.range 4).map (bV (ys.getD i 0) (m i) (ys.getD (i + 1) 0) (m (i + 1)))) := by
  rw [show (List.range 4).map (bV (ys.getD i 0) (m i) (ys.getD (i + 1) 0) (m (i + 1))) = [ys.getD i 0, m i, ys.getD (i + 1) 0, m (i + 1)] from rfl]
  exact .imm (.cons (show (elR 49).p _ _ from (show IR 2 _ _ from hav).up (by decide)) (.cons (show (elR 49).p _ _ from hcv) (.cons (show (elR 49).p _ _ from (show IR 2 _ _ from hbv).up (by decide)) (.one (show (elR 49).p _ _ from hdv)))))
 refine yR bs (.cons (.c f1) (.cons (.c (.hf trivial)) (.cons (.c (.hf hb.hf)) .nil))) (ref04_Solution t1 hb (by decide) (by decide) (by decide) (by decide) (by decide) (by decide) s1 s2) (fun u hu => ?_)
 obtain ⟨ce, rfl, e1⟩ := hu
 refine go9 ?_
 refine yB (pF e1 (by simp)) (fun u hu => ?_)
 obtain ⟨cr, r, rfl, e2, e3⟩ := hu
 refine go9 ?_
 refine vQ.fz e2 ⟨fun x => ?_, by have := e3.len; simpa using this, e3.top⟩
 rw [e3.ev, herm_ev]
 rfl
end Go.Proofs.YtjncgcnofiaiaaaGreat

set_option linter.unusedVariables false
set_option linter.unusedSimpArgs false
namespace Go.Proofs.YtjncgcnofiaiaaaGreat
open Go.RowKit
set_option maxRecDepth 20000
theorem Els.bdQ {k : Nat} {l : List Rat} {ds : List C} (h : Els (elQ k) ds l) : BdL k l := by
 intro i hi
 obtain ⟨cs, r, h1, _⟩ := h.get hi
 rw [yX hi]
 exact (show IQ k cs l[i] from h1).bd
theorem Ls.bdQ {k : Nat} {c : C} {l : List Rat} (h : Ls (elQ k) c l) : BdL k l := h.els.bdQ
theorem IQ.tight {k m : Nat} {cs : List C} {q : Rat} (h : IQ k cs q) (hb : Bd m (rp q)) : IQ m cs q := ⟨h.is, hb⟩
theorem sg_mul (a b : Rat) : yA Cm.leq (arith .mul .i64 (sgn (rp a).1) (sgn (rp b).1)) 0 = dec (a * b ≤ 0) := by
 have h := sg_le a b
 have h2 := sg_le b a
 show yA Cm.leq (arith .mul .i64 (sgR a) (sgR b)) 0 = _
 have key : (sgR a * sgR b ≤ 0) ↔ a * b ≤ 0 := by
  rcases jK a with ⟨e1, h1⟩ | ⟨e1, h1⟩ | ⟨e1, h1⟩ <;> rcases jK b with ⟨e2, h2⟩ | ⟨e2, h2⟩ | ⟨e2, h2⟩ <;> rw [e1, e2] at h ⊢ <;> constructor <;> intro h3
  all_goals first | (exact absurd h3 (by decide)) | decide | skip
  all_goals first | (refine h.1 ?_; first | exact .inl (by decide) | exact .inr (by assumption)) | skip
  all_goals (rcases h.2 h3 with h4 | h4 <;> first | exact absurd rfl h4 | (subst h4; exact absurd h1 Rat.lt_irrefl))
 have hb : ∀ q, -1 ≤ sgR q ∧ sgR q ≤ 1 := fun q => by
  rcases jK q with ⟨e, _⟩ | ⟨e, _⟩ | ⟨e, _⟩ <;> rw [e] <;> omega
 have hm : -1 ≤ sgR a * sgR b ∧ sgR a * sgR b ≤ 1 := by
  rcases jK a with ⟨e1, h1⟩ | ⟨e1, h1⟩ | ⟨e1, h1⟩ <;> rcases jK b with ⟨e2, h2⟩ | ⟨e2, h2⟩ | ⟨e2, h2⟩ <;> rw [e1, e2] <;> decide
 rw [show arith .mul .i64 (sgR a) (sgR b) = sgR a * sgR b from by
  show IntKind.i64.wrap _ = _
  rw [yE (by omega) (by omega)]]
 show dec _ = _
 rw [propext key]
theorem jM {E : El Rat} {c : C} {l : List Rat} {es n i : Nat} {K : V → Prop} (hc : Ls E c l) (hi : i < l.length) (hn : n = i) (he : E.s = es) (k : ∀ cs, E.p cs (l.getD i 0) → K (.agg cs)) : yM (c.ds.drop (n * es)) true es K :=
 xW hc hi hn he (fun cs h => k cs (by rw [yX hi]; exact h))
attribute [local irreducible] yA semH semC qLen qNil qIad qSlc qIdx xA yM xH appX appI slcX awpF yQ xM xopF xT qval lval seqQ xO wT wL wI cnd arith IntKind.wrap
theorem table_parabola {cx cy : C} {xs ys : List Rat} {a i : Nat} (hx : Ls (elQ 2) cx xs) (hy : Ls (elQ 2) cy ys) (hr : tK xs) (hlen : ys.length = xs.length) (hl : xs.length ≤ 1024) (ha : a + 2 < xs.length) (hi : i < xs.length) : semC Tryz.prog n_table_hold_parabola [.agg [cx, cy], i64 a, i64 i] (QV 49 (paraS xs ys a i)) := by
 refine yC ok_table_hold_parabola rfl (show HFVs [.agg [cx, cy], i64 a, i64 i] from ⟨⟨hx.hf, hy.hf, trivial⟩, trivial, trivial, trivial⟩) ?_
 have hsl : (slopes xs ys).length = xs.length - 1 := pD
 refine go9 ?_
 refine yB (sF hx hy hr hlen (by omega) (by decide)) (fun u hu => ?_)
 obtain ⟨cl, rfl, g1⟩ := hu
 refine go9 ?_
 rw [xD a (by omega)]
 refine go9 ?_
 refine xW g1 (i := a + 1) (by omega) (by omega) rfl (fun av hav => ?_)
 rw [uV] at hav
 refine go9 ?_
 refine xW g1 (i := a) (by omega) (by omega) rfl (fun bv hbv => ?_)
 rw [uV] at hbv
 refine go9 ?_
 rw [show arith .add .i64 (a : Int) 2 = ((a + 2 : Nat) : Int) by rw [yW, yE (by omega) (by omega)]; omega]
 refine go9 ?_
 refine xW hx (i := a + 2) (by omega) (by omega) rfl (fun cv hcv => ?_)
 rw [← yX (l := xs) (i := a + 2) (by omega)] at hcv
 refine go9 ?_
 refine xW hx (i := a) (by omega) (by omega) rfl (fun dv hdv => ?_)
 rw [← yX (l := xs) (i := a) (by omega)] at hdv
 refine go9 ?_
 refine yG (gR hav hbv (by decide)) (fun u hu => ?_)
 obtain ⟨es, rfl, h1⟩ := hu
 refine go9 ?_
 refine yG (gR hcv hdv (by decide)) (fun u hu => ?_)
 obtain ⟨fs, rfl, h2⟩ := hu
 refine go9 ?_
 refine yG (q_Div2 h1 h2 (by decide) (pT (hr.lt (show a < a + 2 by omega) ha))) (fun u hu => ?_)
 obtain ⟨gs, rfl, h3⟩ := hu
 obtain ⟨z1, z2, z3, z4, z5, z6, rfl⟩ := id h3.six
 refine go9 ?_
 simp only [uA, vW, ratC, uX, uW, List.set_cons_zero, List.set_cons_succ, List.nil_append, List.cons_append, List.append_nil, List.replicate_succ, List.replicate_zero, List.length_cons, List.length_nil, splice, List.take_succ_cons, List.take_zero, List.drop_succ_cons, List.drop_zero, List.take_nil, List.drop_nil, Nat.zero_add, Nat.reduceAdd, Nat.reduceMul, Int.reduceToNat, xS, List.getElem?_cons_succ, List.getElem?_cons_zero]
 refine xW g1 (i := a) (by omega) (by omega) rfl (fun iv hiv => ?_)
 rw [uV] at hiv
 refine go9 ?_
 refine jM hx (i := i) hi (by omega) rfl (fun jv hjv => ?_)
 refine go9 ?_
 refine jM hx (i := a) (by omega) (by omega) rfl (fun kv hkv => ?_)
 refine go9 ?_
 refine jM hx (i := i) hi (by omega) rfl (fun lv hlv => ?_)
 refine go9 ?_
 rw [xD a (by omega)]
 refine go9 ?_
 refine jM hx (i := a + 1) (by omega) (by omega) rfl (fun mv hmv => ?_)
 refine go9 ?_
 refine yG (gR hjv hkv (by decide)) (fun u hu => ?_)
 obtain ⟨ns, rfl, h4⟩ := hu
 refine go9 ?_
 refine yG (gR hlv hmv (by decide)) (fun u hu => ?_)
 obtain ⟨os, rfl, h5⟩ := hu
 refine go9 ?_
 refine yG (q_Add2 h4 h5 (by decide)) (fun u hu => ?_)
 obtain ⟨ps, rfl, h6⟩ := hu
 refine go9 ?_
 refine yB (q_Mul2 h3 h6 (by decide)) (fun u hu => ?_)
 obtain ⟨qs, rfl, h7⟩ := hu
 refine go9 ?_
 refine yB (q_Add2 hiv h7 (by decide)) (fun u hu => ?_)
 obtain ⟨rs, rfl, h8⟩ := hu
 obtain ⟨_, _, _, _, _, _, rfl⟩ := id h8.six
 refine go9 ?_
 exact QV.fz (h8.tight (bd_para hx.bdQ hy.bdQ hr hlen ha hi))
theorem table_smooth {cx cy : C} {xs ys : List Rat} (hx : Ls (elQ 2) cx xs) (hy : Ls (elQ 2) cy ys) (hr : tK xs) (hlen : ys.length = xs.length) (hl : xs.length ≤ 1024) : semC Tryz.prog n_table_hold_smooth [.agg [cx, cy]] (LsK (elQ 49) ((List.range xs.length).map (tY xs ys))) := by
 refine yC ok_table_hold_smooth rfl (show HFVs [.agg [cx, cy]] from ⟨⟨hx.hf, hy.hf, trivial⟩, trivial⟩) ?_
 have hsl : (slopes xs ys).length = xs.length - 1 := pD
 generalize hn : xs.length = n at *
 refine go9 ?_
 rw [hn]
 refine vM (by rfl) (by rfl) ⟨by omega, by omega, by omega, by omega⟩ ?_
 refine go9 ?_
 simp only [uA, vW, ratC, uX, uW, List.set_cons_zero, List.set_cons_succ, List.nil_append, List.cons_append, List.append_nil, List.replicate_succ, List.replicate_zero, List.length_cons, List.length_nil, splice, List.take_succ_cons, List.take_zero, List.drop_succ_cons, List.drop_zero, List.take_nil, List.drop_nil, Nat.zero_add, Nat.reduceAdd, Nat.reduceMul, Int.reduceToNat, xS, List.getElem?_cons_succ, List.getElem?_cons_zero]
 refine yS (fun w vs H => ∃ (i : Nat) (cells : List C), vs = [.c (.ptr 0 0), i64 n, .c (.sl 1 0 n (some n) 6), i64 n, i64 i] ∧ H = [.live ⟨[cx, cy], vS, .rw⟩, .live ⟨cells, wS, .rw⟩] ∧ w = n - i ∧ i ≤ n ∧ Fill (elQ 49) zeroQ n cells ((List.range i).map (tY xs ys))) (by rfl) ⟨0, _, rfl, rfl, rfl, by omega, .zero rfl⟩ ?_
 rintro w vs H ⟨i, cells, rfl, rfl, rfl, h1, h2⟩
 have hcl : cells.length = n * 6 := h2.len
 have htl : ((List.range i).map (tY xs ys)).length = i := by simp
 refine go9 ?_
 cases hi : yA Cm.lss (i : Int) (n : Int)
 case false =>
  simp [yA] at hi
  have ei : i = n := by omega
  subst ei
  have h3 := h2.done htl
  have h4 := Ls.imm h3
  rw [htl] at h4
  refine go9 ?_
  exact ⟨_, .c (fz_sl (bx := ⟨cells, wS, .rw⟩) (ds := cells) (by rfl) (by simp) (by simp) (by rw [List.drop_zero, List.take_of_length_le (by simp only; omega)]) h3.hf), _, rfl, h4⟩
 simp [yA] at hi
 have fin : ∀ {cs : List C}, IQ 49 cs (tY xs ys i) → Fill (elQ 49) zeroQ n (splice cells (0 + ((i : Nat) : Int).toNat * 6) cs) ((List.range (i + 1)).map (tY xs ys)) := fun h => by
  have h3 := h2.put (by rw [htl]; omega) h
  rw [htl, ← uB] at h3
  rw [show 0 + ((i : Nat) : Int).toNat * 6 = i * 6 by omega]
  exact h3
 refine go9 ?_
 cases hn1 : yA Cm.eql (n : Int) 1
 case true =>
  simp [yA] at hn1
  refine go9 ?_
  refine yB (hU (g := 0) (by decide)) (fun u hu => ?_)
  obtain ⟨es, rfl, hes⟩ := hu
  have hes : IQ 49 es (tY xs ys i) := by
   unfold tY
   rw [if_pos (by omega)]
   exact hes.up (by decide)
  obtain ⟨_, _, _, _, _, _, rfl⟩ := id hes.six
  refine go9 ?_
  rw [xD i (by omega)]
  exact l_n (by rfl) (by omega) ⟨i + 1, _, rfl, rfl, rfl, by omega, fin hes⟩
 simp [yA] at hn1
 refine go9 ?_
 cases hn2 : yA Cm.eql (n : Int) 2
 case true =>
  simp [yA] at hn2
  refine go9 ?_
  refine yB (sF hx hy hr (by omega) (by omega) (by decide)) (fun u hu => ?_)
  obtain ⟨cl, rfl, g1⟩ := hu
  refine go9 ?_
  refine xW g1 (i := 0) (by omega) rfl rfl (fun es hes => ?_)
  rw [uV] at hes
  have hes : IQ 49 es (tY xs ys i) := by
   unfold tY
   rw [if_neg (by omega), if_pos (by omega)]
   exact (show IQ 10 _ _ from hes).up (by decide)
  obtain ⟨_, _, _, _, _, _, rfl⟩ := id hes.six
  refine go9 ?_
  rw [xD i (by omega)]
  exact l_n (by rfl) (by omega) ⟨i + 1, _, rfl, rfl, rfl, by omega, fin hes⟩
 simp [yA] at hn2
 refine go9 ?_
 rw [show arith .sub .i64 (n : Int) 3 = (n : Int) - 3 by rw [xV, yE (by omega) (by omega)], show arith .sub .i64 (i : Int) 1 = (i : Int) - 1 by rw [xV, yE (by omega) (by omega)]]
 rw [show (if (n : Int) - 3 < (if 0 > (i : Int) - 1 then 0 else (i : Int) - 1) then (n : Int) - 3 else (if 0 > (i : Int) - 1 then 0 else (i : Int) - 1)) = ((min (i - 1) (n - 3) : Nat) : Int) by split <;> split <;> omega]
 refine yB (table_parabola (a := min (i - 1) (n - 3)) (i := i) hx hy hr (by omega) (by omega) (by omega) (by omega)) (fun u hu => ?_)
 obtain ⟨es, rfl, hes⟩ := hu
 have hes : IQ 49 es (tY xs ys i) := by
  unfold tY
  rw [if_neg (by omega), if_neg (by omega), hn]
  exact hes
 obtain ⟨_, _, _, _, _, _, rfl⟩ := id hes.six
 refine go9 ?_
 rw [xD i (by omega)]
 exact l_n (by rfl) (by omega) ⟨i + 1, _, rfl, rfl, rfl, by omega, fin hes⟩
theorem table_keep {cx cy : C} {xs ys : List Rat} (hx : Ls (elQ 2) cx xs) (hy : Ls (elQ 2) cy ys) (hr : tK xs) (hlen : ys.length = xs.length) (hl : xs.length ≤ 1024) : semC Tryz.prog n_table_hold_keep [.agg [cx, cy]] (LsK (elQ 49) ((List.range xs.length).map (pN xs ys))) := by
 refine yC ok_table_hold_keep rfl (show HFVs [.agg [cx, cy]] from ⟨⟨hx.hf, hy.hf, trivial⟩, trivial⟩) ?_
 have hsl : (slopes xs ys).length = xs.length - 1 := pD
 have hbd := fun i hi => bd_keep (i := i) hx.bdQ hy.bdQ hr hlen hi
 generalize hn : xs.length = n at *
 refine go9 ?_
 refine yB (sF hx hy hr (by omega) (by omega) (by decide)) (fun u hu => ?_)
 obtain ⟨cl, rfl, g1⟩ := hu
 refine go9 ?_
 rw [hn]
 refine vM (by rfl) (by rfl) ⟨by omega, by omega, by omega, by omega⟩ ?_
 refine go9 ?_
 simp only [uA, vW, ratC, uX, uW, List.set_cons_zero, List.set_cons_succ, List.nil_append, List.cons_append, List.append_nil, List.replicate_succ, List.replicate_zero, List.length_cons, List.length_nil, splice, List.take_succ_cons, List.take_zero, List.drop_succ_cons, List.drop_zero, List.take_nil, List.drop_nil, Nat.zero_add, Nat.reduceAdd, Nat.reduceMul, Int.reduceToNat, xS, List.getElem?_cons_succ, List.getElem?_cons_zero]
 refine yS (fun w vs H => ∃ (i : Nat) (cells : List C), vs = [i64 n, .c cl, .c (.sl 1 0 n (some n) 6), i64 n, i64 i] ∧ H = [.live ⟨[cx, cy], vS, .rw⟩, .live ⟨cells, wS, .rw⟩] ∧ w = n - i ∧ i ≤ n ∧ Fill (elQ 49) zeroQ n cells ((List.range i).map (pN xs ys))) (by rfl) ⟨0, _, rfl, rfl, rfl, by omega, .zero rfl⟩ ?_
 rintro w vs H ⟨i, cells, rfl, rfl, rfl, h1, h2⟩
 have hcl : cells.length = n * 6 := h2.len
 have htl : ((List.range i).map (pN xs ys)).length = i := by simp
 refine go9 ?_
 cases hi : yA Cm.lss (i : Int) (n : Int)
 case false =>
  simp [yA] at hi
  have ei : i = n := by omega
  subst ei
  have h3 := h2.done htl
  have h4 := Ls.imm h3
  rw [htl] at h4
  refine go9 ?_
  exact ⟨_, .c (fz_sl (bx := ⟨cells, wS, .rw⟩) (ds := cells) (by rfl) (by simp) (by simp) (by rw [List.drop_zero, List.take_of_length_le (by simp only; omega)]) h3.hf), _, rfl, h4⟩
 simp [yA] at hi
 have fin : ∀ {cs : List C}, IQ 49 cs (pN xs ys i) → Fill (elQ 49) zeroQ n (splice cells (0 + ((i : Nat) : Int).toNat * 6) cs) ((List.range (i + 1)).map (pN xs ys)) := fun h => by
  have h3 := h2.put (by rw [htl]; omega) h
  rw [htl, ← uB] at h3
  rw [show 0 + ((i : Nat) : Int).toNat * 6 = i * 6 by omega]
  exact h3
 refine go9 ?_
 cases hn1 : yA Cm.eql (n : Int) 1
 case true =>
  simp [yA] at hn1
  refine go9 ?_
  refine yB (hU (g := 0) (by decide)) (fun u hu => ?_)
  obtain ⟨es, rfl, hes⟩ := hu
  have hes : IQ 49 es (pN xs ys i) := by
   unfold pN
   rw [if_pos (by omega)]
   exact hes.up (by decide)
  obtain ⟨_, _, _, _, _, _, rfl⟩ := id hes.six
  refine go9 ?_
  rw [xD i (by omega)]
  exact l_n (by rfl) (by omega) ⟨i + 1, _, rfl, rfl, rfl, by omega, fin hes⟩
 simp [yA] at hn1
 refine go9 ?_
 cases hi0 : yA Cm.eql (i : Int) 0
 case true =>
  simp [yA] at hi0
  refine go9 ?_
  refine xW g1 (i := 0) (by omega) rfl rfl (fun es hes => ?_)
  rw [uV] at hes
  have hes : IQ 49 es (pN xs ys i) := by
   unfold pN
   rw [if_neg (by omega), if_pos hi0]
   exact (show IQ 10 _ _ from hes).up (by decide)
  obtain ⟨_, _, _, _, _, _, rfl⟩ := id hes.six
  refine go9 ?_
  rw [xD i (by omega)]
  exact l_n (by rfl) (by omega) ⟨i + 1, _, rfl, rfl, rfl, by omega, fin hes⟩
 simp [yA] at hi0
 refine go9 ?_
 rw [show arith .sub .i64 (n : Int) 1 = ((n - 1 : Nat) : Int) by rw [xV, yE (by omega) (by omega)]; omega]
 cases hi1 : yA Cm.eql (i : Int) ((n - 1 : Nat) : Int)
 case true =>
  simp [yA] at hi1
  refine go9 ?_
  rw [show arith .sub .i64 (n : Int) 2 = ((n - 2 : Nat) : Int) by rw [xV, yE (by omega) (by omega)]; omega]
  refine go9 ?_
  refine xW g1 (i := n - 2) (by omega) (by omega) rfl (fun es hes => ?_)
  rw [uV] at hes
  have hes : IQ 49 es (pN xs ys i) := by
   unfold pN
   rw [if_neg (by omega), if_neg hi0, if_pos (by omega), hn]
   exact (show IQ 10 _ _ from hes).up (by decide)
  obtain ⟨_, _, _, _, _, _, rfl⟩ := id hes.six
  refine go9 ?_
  rw [xD i (by omega)]
  exact l_n (by rfl) (by omega) ⟨i + 1, _, rfl, rfl, rfl, by omega, fin hes⟩
 simp [yA] at hi1
 refine go9 ?_
 have e1 : arith .sub .i64 (i : Int) 1 = ((i - 1 : Nat) : Int) := by rw [xV, yE (by omega) (by omega)]; omega
 rw [e1]
 refine go9 ?_
 refine xW g1 (i := i - 1) (by omega) (by omega) rfl (fun av hav => ?_)
 rw [uV] at hav
 refine go9 ?_
 refine xW g1 (i := i) (by omega) (by omega) rfl (fun bv hbv => ?_)
 rw [uV] at hbv
 refine go9 ?_
 refine yB (num_Q_Sign (show IQ 10 _ _ from hav).is) (fun u hu => ?_)
 obtain rfl := hu
 refine go9 ?_
 refine yB (num_Q_Sign (show IQ 10 _ _ from hbv).is) (fun u hu => ?_)
 obtain rfl := hu
 refine go9 ?_
 rw [sg_mul]
 cases hm : dec (slope xs ys (i - 1) * slope xs ys i ≤ 0)
 case true =>
  have hm := yI.1 hm
  refine go9 ?_
  refine yB (hU (g := 0) (by decide)) (fun u hu => ?_)
  obtain ⟨es, rfl, hes⟩ := hu
  have hes : IQ 49 es (pN xs ys i) := by
   unfold pN
   rw [if_neg (by omega), if_neg hi0, if_neg (by omega), if_pos hm]
   exact hes.up (by decide)
  obtain ⟨_, _, _, _, _, _, rfl⟩ := id hes.six
  refine go9 ?_
  rw [xD i (by omega)]
  exact l_n (by rfl) (by omega) ⟨i + 1, _, rfl, rfl, rfl, by omega, fin hes⟩
 have hm := yK.1 hm
 refine go9 ?_
 rw [e1]
 refine go9 ?_
 refine xW g1 (i := i - 1) (by omega) (by omega) rfl (fun av hav => ?_)
 rw [uV] at hav
 refine go9 ?_
 refine xW g1 (i := i) (by omega) (by omega) rfl (fun bv hbv => ?_)
 rw [uV] at hbv
 refine go9 ?_
 rw [e1]
 refine go9 ?_
 refine xW g1 (i := i - 1) (by omega) (by omega) rfl (fun cv hcv => ?_)
 rw [uV] at hcv
 refine go9 ?_
 refine xW g1 (i := i) (by omega) (by omega) rfl (fun dv hdv => ?_)
 rw [uV] at hdv
 refine go9 ?_
 refine yB (hU (g := 2) (by decide)) (fun u hu => ?_)
 obtain ⟨fs, rfl, h3⟩ := hu
 refine go9 ?_
 refine yB (q_Mul2 h3 hav (by decide)) (fun u hu => ?_)
 obtain ⟨gs, rfl, h4⟩ := hu
 refine go9 ?_
 refine yB (q_Mul2 h4 hbv (by decide)) (fun u hu => ?_)
 obtain ⟨hs, rfl, h5⟩ := hu
 refine go9 ?_
 refine yB (q_Add2 hcv hdv (by decide)) (fun u hu => ?_)
 obtain ⟨js, rfl, h6⟩ := hu
 refine go9 ?_
 refine yB (q_Div2 h5 h6 (by decide) (keep_ne hm)) (fun u hu => ?_)
 obtain ⟨es, rfl, hes⟩ := hu
 have hes : IQ 49 es (pN xs ys i) := by
  have hb := hbd i hi
  unfold pN at hb ⊢
  rw [if_neg (by omega), if_neg hi0, if_neg (by omega), if_neg hm] at hb ⊢
  exact hes.tight hb
 obtain ⟨_, _, _, _, _, _, rfl⟩ := id hes.six
 refine go9 ?_
 rw [xD i (by omega)]
 exact l_n (by rfl) (by omega) ⟨i + 1, _, rfl, rfl, rfl, by omega, fin hes⟩
end Go.Proofs.YtjncgcnofiaiaaaGreat

set_option linter.unusedVariables false
set_option linter.unusedSimpArgs false
namespace Go.Proofs.YtjncgcnofiaiaaaGreat
open Go.RowKit
set_option maxRecDepth 20000
theorem getD_map {m : Nat → Rat} {n i : Nat} (h : i < n) : ((List.range n).map m).getD i 0 = m i := by
 rw [yX (by simpa using h)]
 simp
attribute [local irreducible] yA semH semC qLen qNil qIad qSlc qIdx xA yM xH appX appI slcX awpF yQ xM xopF xT qval lval seqQ xO wT wL wI cnd arith IntKind.wrap
theorem table_piece_cubic {cx cy cm : C} {xs ys : List Rat} {m : Nat → Rat} {i : Nat} (hx : Ls (elQ 2) cx xs) (hy : Ls (elQ 2) cy ys) (hm : Ls (elQ 49) cm ((List.range xs.length).map m)) (hr : tK xs) (hlen : ys.length = xs.length) (hl : xs.length ≤ 1024) (hi : i + 1 < xs.length) : semC Tryz.prog n_table_piece [.c (.ifaceA qZ [cx, cy, cm]), i64 i] (vQ (elQ qV) (jE (cubP m xs ys i))) := by
 refine yC ok_table_piece rfl (show HFVs [.c (.ifaceA qZ [cx, cy, cm]), i64 i] from ⟨⟨hx.hf, hy.hf, hm.hf, trivial⟩, trivial, trivial⟩) ?_
 have hml : ((List.range xs.length).map m).length = xs.length := by simp
 have hsl : (slopes xs ys).length = xs.length - 1 := pD
 have hne := pT (hr.get hi)
 refine go9 ?_
 refine yB (table_at_cubic hx.hf hy.hf hm.hf) (fun u hu => ?_)
 obtain rfl := hu
 refine go9 ?_
 rw [xD i (by omega)]
 refine go9 ?_
 refine jM hx (i := i + 1) (by omega) (by omega) rfl (fun av hav => ?_)
 refine go9 ?_
 refine jM hx (i := i) (by omega) (by omega) rfl (fun bv hbv => ?_)
 refine go9 ?_
 refine yG (gR hav hbv (by decide)) (fun u hu => ?_)
 obtain ⟨ws, rfl, hw⟩ := hu
 obtain ⟨w1, w2, w3, w4, w5, w6, rfl⟩ := id hw.six
 refine go9 ?_
 simp only [uA, vW, ratC, uX, uW, List.set_cons_zero, List.set_cons_succ, List.nil_append, List.cons_append, List.append_nil, List.replicate_succ, List.replicate_zero, List.length_cons, List.length_nil, splice, List.take_succ_cons, List.take_zero, List.drop_succ_cons, List.drop_zero, List.take_nil, List.drop_nil, Nat.zero_add, Nat.reduceAdd, Nat.reduceMul, Int.reduceToNat, xS, List.getElem?_cons_succ, List.getElem?_cons_zero]
 refine yB (sF hx hy hr hlen (by omega) (by decide)) (fun u hu => ?_)
 obtain ⟨cl, rfl, g1⟩ := hu
 refine go9 ?_
 refine xW g1 (i := i) (by omega) (by omega) rfl (fun dv hdv => ?_)
 rw [uV] at hdv
 have hdv : IQ 10 dv _ := hdv
 obtain ⟨d1, d2, d3, d4, d5, d6, rfl⟩ := id hdv.six
 refine go9 ?_
 simp only [uA, vW, ratC, uX, uW, List.set_cons_zero, List.set_cons_succ, List.nil_append, List.cons_append, List.append_nil, List.replicate_succ, List.replicate_zero, List.length_cons, List.length_nil, splice, List.take_succ_cons, List.take_zero, List.drop_succ_cons, List.drop_zero, List.take_nil, List.drop_nil, Nat.zero_add, Nat.reduceAdd, Nat.reduceMul, Int.reduceToNat, xS, List.getElem?_cons_succ, List.getElem?_cons_zero]
 refine jM hm (i := i) (by omega) (by omega) rfl (fun ev hev => ?_)
 rw [getD_map (by omega)] at hev
 refine go9 ?_
 rw [xD i (by omega)]
 refine go9 ?_
 refine jM hm (i := i + 1) (by omega) (by omega) rfl (fun fv hfv => ?_)
 rw [getD_map (by omega)] at hfv
 refine go9 ?_
 refine yG (hU (g := 3) (by decide)) (fun u hu => ?_)
 obtain ⟨k1, rfl, h1⟩ := hu
 refine go9 ?_
 refine yG (q_Mul2 h1 hdv (by decide)) (fun u hu => ?_)
 obtain ⟨k2, rfl, h2⟩ := hu
 refine go9 ?_
 refine yG (hU (g := 2) (by decide)) (fun u hu => ?_)
 obtain ⟨k3, rfl, h3⟩ := hu
 refine go9 ?_
 refine yG (q_Mul2 h3 hev (by decide)) (fun u hu => ?_)
 obtain ⟨k4, rfl, h4⟩ := hu
 refine go9 ?_
 refine yG (gR h2 h4 (by decide)) (fun u hu => ?_)
 obtain ⟨k5, rfl, h5⟩ := hu
 refine go9 ?_
 refine yG (gR h5 hfv (by decide)) (fun u hu => ?_)
 obtain ⟨k6, rfl, h6⟩ := hu
 refine go9 ?_
 refine yG (q_Div2 h6 hw (by decide) hne) (fun u hu => ?_)
 obtain ⟨cs, rfl, hc2⟩ := hu
 have hc2 : IQ 121 cs (cubA xs ys m i) := hc2.up (by decide)
 obtain ⟨c1, c2, c3, c4, c5, c6, rfl⟩ := id hc2.six
 refine go9 ?_
 simp only [uA, vW, ratC, uX, uW, List.set_cons_zero, List.set_cons_succ, List.nil_append, List.cons_append, List.append_nil, List.replicate_succ, List.replicate_zero, List.length_cons, List.length_nil, splice, List.take_succ_cons, List.take_zero, List.drop_succ_cons, List.drop_zero, List.take_nil, List.drop_nil, Nat.zero_add, Nat.reduceAdd, Nat.reduceMul, Int.reduceToNat, xS, List.getElem?_cons_succ, List.getElem?_cons_zero]
 refine jM hm (i := i) (by omega) (by omega) rfl (fun ev hev => ?_)
 rw [getD_map (by omega)] at hev
 refine go9 ?_
 rw [xD i (by omega)]
 refine go9 ?_
 refine jM hm (i := i + 1) (by omega) (by omega) rfl (fun fv hfv => ?_)
 rw [getD_map (by omega)] at hfv
 refine go9 ?_
 refine yG (q_Add2 hev hfv (by decide)) (fun u hu => ?_)
 obtain ⟨l1, rfl, j1⟩ := hu
 refine go9 ?_
 refine yG (hU (g := 2) (by decide)) (fun u hu => ?_)
 obtain ⟨l2, rfl, j2⟩ := hu
 refine go9 ?_
 refine yG (q_Mul2 j2 hdv (by decide)) (fun u hu => ?_)
 obtain ⟨l3, rfl, j3⟩ := hu
 refine go9 ?_
 refine yG (gR j1 j3 (by decide)) (fun u hu => ?_)
 obtain ⟨l4, rfl, j4⟩ := hu
 refine go9 ?_
 refine yG (q_Mul2 hw hw (by decide)) (fun u hu => ?_)
 obtain ⟨l5, rfl, j5⟩ := hu
 refine go9 ?_
 refine yG (q_Div2 j4 j5 (by decide) (fun e => by rcases Rat.mul_eq_zero.1 e with e | e <;> exact hne e)) (fun u hu => ?_)
 obtain ⟨es, rfl, hc3⟩ := hu
 have hc3 : IQ 121 es (cubB xs ys m i) := hc3.up (by decide)
 obtain ⟨e1, e2, e3, e4, e5, e6, rfl⟩ := id hc3.six
 refine go9 ?_
 simp only [uA, vW, ratC, uX, uW, List.set_cons_zero, List.set_cons_succ, List.nil_append, List.cons_append, List.append_nil, List.replicate_succ, List.replicate_zero, List.length_cons, List.length_nil, splice, List.take_succ_cons, List.take_zero, List.drop_succ_cons, List.drop_zero, List.take_nil, List.drop_nil, Nat.zero_add, Nat.reduceAdd, Nat.reduceMul, Int.reduceToNat, xS, List.getElem?_cons_succ, List.getElem?_cons_zero]
 refine jM hy (i := i) (by omega) (by omega) rfl (fun gv hgv => ?_)
 obtain ⟨g1, g2, g3, g4, g5, g6, rfl⟩ := id (show IQ 2 _ _ from hgv).six
 refine go9 ?_
 refine jM hm (i := i) (by omega) (by omega) rfl (fun iv hiv => ?_)
 rw [getD_map (by omega)] at hiv
 obtain ⟨i1, i2, i3, i4, i5, i6, rfl⟩ := id (show IQ 49 _ _ from hiv).six
 refine go9 ?_
 simp only [uA, vW, ratC, uX, uW, List.set_cons_zero, List.set_cons_succ, List.nil_append, List.cons_append, List.append_nil, List.replicate_succ, List.replicate_zero, List.length_cons, List.length_nil, splice, List.take_succ_cons, List.take_zero, List.drop_succ_cons, List.drop_zero, List.take_nil, List.drop_nil, Nat.zero_add, Nat.reduceAdd, Nat.reduceMul, Int.reduceToNat, xS, List.getElem?_cons_succ, List.getElem?_cons_zero]
 have hp : Ls (elQ 121) (.imm 4 [g1, g2, g3, g4, g5, g6, i1, i2, i3, i4, i5, i6, c1, c2, c3, c4, c5, c6, e1, e2, e3, e4, e5, e6]) [ys.getD i 0, m i, cubA xs ys m i, cubB xs ys m i] :=
  .imm (.cons (show (elQ 121).p _ _ from (show IQ 2 _ _ from hgv).up (by decide)) (.cons (show (elQ 121).p _ _ from (show IQ 49 _ _ from hiv).up (by decide)) (.cons (show (elQ 121).p _ _ from hc2) (.one (show (elQ 121).p _ _ from hc3)))))
 refine yB (qp_Trim hp (by simp)) (fun u hu => ?_)
 obtain ⟨cp, mp, rfl, g3, g4⟩ := hu
 refine go9 ?_
 refine jM hx (i := i) (by omega) (by omega) rfl (fun cs hcs => ?_)
 refine go9 ?_
 refine yB (q_Neg hcs (by decide)) (fun u hu => ?_)
 obtain ⟨ds, rfl, g5⟩ := hu
 obtain ⟨d1, d2, d3, d4, d5, d6, rfl⟩ := id g5.six
 refine go9 ?_
 refine yB (hU (g := 1) (by decide)) (fun u hu => ?_)
 obtain ⟨es, rfl, g6⟩ := hu
 obtain ⟨e1, e2, e3, e4, e5, e6, rfl⟩ := id g6.six
 refine go9 ?_
 simp only [uA, vW, ratC, uX, uW, List.set_cons_zero, List.set_cons_succ, List.nil_append, List.cons_append, List.append_nil, List.replicate_succ, List.replicate_zero, List.length_cons, List.length_nil, splice, List.take_succ_cons, List.take_zero, List.drop_succ_cons, List.drop_zero, List.take_nil, List.drop_nil, Nat.zero_add, Nat.reduceAdd, Nat.reduceMul, Int.reduceToNat, xS, List.getElem?_cons_succ, List.getElem?_cons_zero]
 have g7 := top_two g5 (g6.up (show 1 ≤ 2 by decide))
 have l1 := g4.len
 simp only [List.length_cons, List.length_nil] at l1
 have hco : coK 121 2 mp.length ≤ qV := Nat.le_trans (coK_mono l1) (by decide)
 have hsm : qV ≤ 134217728 := by decide
 refine yB (qp_Compose g3 (.imm g7) (by omega) (by simp) (by omega)) (fun u hu => ?_)
 obtain ⟨cr, mr, rfl, g8, g9⟩ := hu
 refine go9 ?_
 refine vQ.fz (g8.up hco) ⟨fun x => ?_, by have := g9.len; omega, g9.top⟩
 rw [g9.ev, g4.ev, ev_two]
 unfold cubP
 simp only [Go.Proofs.YtjncgcnofiaiaaaGreat.ev]
 generalize cubA xs ys m i = A
 generalize cubB xs ys m i = B
 generalize xs.getD i 0 = a
 rw [show (((1 : Int) : Rat)) = 1 from rfl]
 grind
def sB (kind : Int) (xs ys : List Rat) : Nat → Rat → Rat := if kind = 0 then holdP xs ys else if kind = 1 then qA xs ys else if kind = 2 then cubP (tY xs ys) xs ys else cubP (pN xs ys) xs ys
theorem hold_shape {cx cy : C} {xs ys : List Rat} (hx : Ls (elQ 2) cx xs) (hy : Ls (elQ 2) cy ys) (hlen : ys.length = xs.length) (hpos : 0 < xs.length) (hl : xs.length ≤ 1024) : Shape (.ifaceA vS [cx, cy]) cx cy xs ys 42 (holdP xs ys) :=
 ⟨⟨hx.hf, hy.hf, trivial⟩, hx, hy, hlen, hpos, hl, table_at_hold hx.hf hy.hf, fun i hi => table_piece_hold hx hy hlen hl hi⟩
theorem cubic_shape {cx cy cm : C} {xs ys : List Rat} {m : Nat → Rat} (hx : Ls (elQ 2) cx xs) (hy : Ls (elQ 2) cy ys) (hm : Ls (elQ 49) cm ((List.range xs.length).map m)) (hr : tK xs) (hlen : ys.length = xs.length) (hpos : 0 < xs.length) (hl : xs.length ≤ 1024) : Shape (.ifaceA qZ [cx, cy, cm]) cx cy xs ys qV (cubP m xs ys) :=
 ⟨⟨hx.hf, hy.hf, hm.hf, trivial⟩, hx, hy, hlen, hpos, hl, table_at_cubic hx.hf hy.hf hm.hf, fun i hi => table_piece_cubic hx hy hm hr hlen hl hi⟩
theorem table_made {cx cy : C} {X Y : List R2} {kind : Int} (hx : Ls elP cx X) (hy : Ls elP cy Y) (h : valE kind X Y = 0) : semC Tryz.prog n_table_made [.agg [iC kind, cx, cy]] (MadeK (X.map rt) (Y.map rt) (sB kind (X.map rt) (Y.map rt))) := by
 obtain ⟨h1, h2⟩ := qT h
 refine yC ok_table_made rfl (show HFVs [.agg [iC kind, cx, cy]] from ⟨⟨trivial, hx.hf, hy.hf, trivial⟩, trivial⟩) ?_
 have hpos := List.length_pos_iff.2 h2.2.2.1
 have hlen := h2.2.2.2.1
 have hr := h2.2.2.2.2.2.2
 have k0 := h2.1
 have k3 := h2.2.1
 unfold sB
 refine go9 ?_
 refine yG (num_In hx h2.2.2.2.2.1 (by omega)) (fun u hu => ?_)
 obtain ⟨dx, rfl, g1⟩ := hu
 refine go9 ?_
 refine yG (num_In hy h2.2.2.2.2.2.1 (by omega)) (fun u hu => ?_)
 obtain ⟨dy, rfl, g2⟩ := hu
 refine go9 ?_
 simp only [uA, vW, ratC, uX, uW, List.set_cons_zero, List.set_cons_succ, List.nil_append, List.cons_append, List.append_nil, List.replicate_succ, List.replicate_zero, List.length_cons, List.length_nil, splice, List.take_succ_cons, List.take_zero, List.drop_succ_cons, List.drop_zero, List.take_nil, List.drop_nil, Nat.zero_add, Nat.reduceAdd, Nat.reduceMul, Int.reduceToNat, xS, List.getElem?_cons_succ, List.getElem?_cons_zero]
 cases q1 : yA Cm.eql kind 1
 case true =>
  simp [yA] at q1
  rw [if_neg (by omega), if_pos q1]
  refine go9 ?_
  exact MadeK.fz (line_shape g1 g2 hr (by simp; omega) (by simpa using hpos) (by simp; omega)) (by decide)
 simp [yA] at q1
 refine go9 ?_
 cases q2 : yA Cm.eql kind 2
 case true =>
  simp [yA] at q2
  rw [if_neg (by omega), if_neg (by omega), if_pos q2]
  refine go9 ?_
  refine yG (table_smooth g1 g2 hr (by simp; omega) (by simp; omega)) (fun u hu => ?_)
  obtain ⟨cm, rfl, g3⟩ := hu
  refine go9 ?_
  exact MadeK.fz (cubic_shape g1 g2 g3 hr (by simp; omega) (by simpa using hpos) (by simp; omega)) (by decide)
 simp [yA] at q2
 refine go9 ?_
 cases q3 : yA Cm.eql kind 3
 case true =>
  simp [yA] at q3
  rw [if_neg (by omega), if_neg (by omega), if_neg (by omega)]
  refine go9 ?_
  refine yG (table_keep g1 g2 hr (by simp; omega) (by simp; omega)) (fun u hu => ?_)
  obtain ⟨cm, rfl, g3⟩ := hu
  refine go9 ?_
  exact MadeK.fz (cubic_shape g1 g2 g3 hr (by simp; omega) (by simpa using hpos) (by simp; omega)) (by decide)
 simp [yA] at q3
 rw [if_pos (by omega)]
 refine go9 ?_
 exact MadeK.fz (hold_shape g1 g2 (by simp; omega) (by simpa using hpos) (by simp; omega)) (by decide)
end Go.Proofs.YtjncgcnofiaiaaaGreat

set_option linter.unusedVariables false
set_option linter.unusedSimpArgs false
namespace Go.Proofs.YtjncgcnofiaiaaaGreat
open Go.RowKit
set_option maxRecDepth 20000
def OfK (kind : Int) (xs ys : List Rat) (u : V) : Prop := ∃ dx dy K, u = .agg [iC kind, dx, dy] ∧ (2 ≤ K ∧ K ≤ 12629) ∧ RTab kind dx dy xs ys K (sB kind xs ys)
structure Und (H : Hp) (T To Res : Slot) (es : List C) : Prop where
 t : H[0]? = some T
 to : H[1]? = some To
 res : H[2]? = some Res
 out : H[3]? = some (.live ⟨es, yF, .rw⟩)
theorem Und.grow {H X : Hp} {T To Res : Slot} {es : List C} (h : Und H T To Res es) : Und (H ++ X) T To Res es := ⟨sO h.t, sO h.to, sO h.res, sO h.out⟩
theorem Und.put {H : Hp} {T To Res : Slot} {es fs : List C} (h : Und H T To Res es) : Und (H.set 3 (.live ⟨fs, yF, .rw⟩)) T To Res fs :=
 ⟨by rw [List.getElem?_set_ne (by decide)]; exact h.t, by rw [List.getElem?_set_ne (by decide)]; exact h.to, by rw [List.getElem?_set_ne (by decide)]; exact h.res, List.getElem?_set_self (lt_of_getElem? h.out)⟩
attribute [local irreducible] yA semH semC qLen qNil qIad qSlc qIdx xA yM xH appX appI slcX awpF yQ xM xopF xT qval lval seqQ xO wT wL wI cnd arith IntKind.wrap
theorem rtab_of {cx cy : C} {kind : Int} {xs ys : List Rat} (hx : Ls (elR 2) cx xs) (hy : Ls (elR 2) cy ys) (hr : tK xs) (hlen : ys.length = xs.length) (hpos : 0 < xs.length) (hl : xs.length ≤ 1024) (h0 : 0 ≤ kind) (h3 : kind ≤ 3) : ∃ K, (2 ≤ K ∧ K ≤ 12629) ∧ RTab kind cx cy xs ys K (sB kind xs ys) := by
 unfold sB
 have hk : kind = 0 ∨ kind = 1 ∨ kind = 2 ∨ kind = 3 := by omega
 rcases hk with rfl | rfl | rfl | rfl
 ·exact ⟨40, by decide, hx, hy, hlen, hpos, hl, fun i hi => ref24_piece_hold hx hy hlen hl hi⟩
 ·exact ⟨_, by decide, line_rtab hx hy hr hlen hpos hl⟩
 ·exact ⟨12629, by decide, hx, hy, hlen, hpos, hl, fun i hi => bC (.inl rfl) hx hy hr hlen hl hi (fun j hj => ref24_slope_smooth hx hy hr hlen hl (by omega) hj)⟩
 ·exact ⟨12629, by decide, hx, hy, hlen, hpos, hl, fun i hi => bC (.inr rfl) hx hy hr hlen hl hi (fun j hj => ref24_slope_keep hx hy hr hlen hl (by omega) hj)⟩
theorem ref24_of {cx cy : C} {X Y : List R2} {kind : Int} (hx : Ls elP cx X) (hy : Ls elP cy Y) (h : valE kind X Y = 0) : semC Tryz.prog n_ref24_of [.agg [iC kind, cx, cy]] (OfK kind (X.map rt) (Y.map rt)) := by
 obtain ⟨h1, h2⟩ := qT h
 refine yC ok_ref24_of rfl (show HFVs [.agg [iC kind, cx, cy]] from ⟨⟨trivial, hx.hf, hy.hf, trivial⟩, trivial⟩) ?_
 have hpos := List.length_pos_iff.2 h2.2.2.1
 have hlen := h2.2.2.2.1
 refine go9 ?_
 refine yG (ref01_List hx h2.2.2.2.2.1 (by omega)) (fun u hu => ?_)
 obtain ⟨dx, rfl, g1⟩ := hu
 refine go9 ?_
 refine yG (ref01_List hy h2.2.2.2.2.2.1 (by omega)) (fun u hu => ?_)
 obtain ⟨dy, rfl, g2⟩ := hu
 refine go9 ?_
 obtain ⟨K, hK, hR⟩ := rtab_of (kind := kind) g1 g2 h2.2.2.2.2.2.2 (by simp; omega) (by simpa using hpos) (by simp; omega) h2.1 h2.2.1
 exact ⟨_, .agg (.hf ⟨trivial, g1.hf, g2.hf, trivial⟩), dx, dy, K, rfl, hK, hR⟩
end Go.Proofs.YtjncgcnofiaiaaaGreat

set_option linter.unusedVariables false
set_option linter.unusedSimpArgs false
namespace Go.Proofs.YtjncgcnofiaiaaaGreat
open Go.RowKit
set_option maxRecDepth 20000
def insA {α : Type} (l : List α) (i : Nat) (a : α) : List α := l.take i ++ a :: l.drop i
theorem bU {α : Type} {l : List α} {i : Nat} {a : α} (hi : i ≤ l.length) : (insA l i a).length = l.length + 1 := by
 unfold insA
 simp
 omega
theorem insA_map {α β : Type} (f : α → β) {l : List α} {i : Nat} {a : α} : (insA l i a).map f = insA (l.map f) i (f a) := by simp [insA, List.map_take, List.map_drop]
theorem insA_mem {α : Type} {l : List α} {i : Nat} {a b : α} (h : b ∈ insA l i a) : b ∈ l ∨ b = a := by
 unfold insA at h
 rcases List.mem_append.1 h with h | h
 ·exact .inl (List.mem_of_mem_take h)
 ·rcases List.mem_cons.1 h with h | h
  ·exact .inr h
  ·exact .inl (List.mem_of_mem_drop h)
theorem qB {l : List Rat} {i j : Nat} {a : Rat} (hi : i ≤ l.length) (h : j < i) : (insA l i a).getD j 0 = l.getD j 0 := by
 unfold insA
 simp only [List.getD, List.getElem?_append_left (show j < (l.take i).length by simp; omega), List.getElem?_take, if_pos h]
theorem bG {l : List Rat} {i : Nat} {a : Rat} (hi : i ≤ l.length) : (insA l i a).getD i 0 = a := by
 unfold insA
 have e : (l.take i).length = i := by simp; omega
 simp only [List.getD, List.getElem?_append_right (show (l.take i).length ≤ i by omega), e, Nat.sub_self, List.getElem?_cons_zero, Option.getD_some]
theorem qN {l : List Rat} {i j : Nat} {a : Rat} (hi : i ≤ l.length) (h : i ≤ j) : (insA l i a).getD (j + 1) 0 = l.getD j 0 := by
 unfold insA
 have e : (l.take i).length = i := by simp; omega
 simp only [List.getD, List.getElem?_append_right (show (l.take i).length ≤ j + 1 by omega), e, show j + 1 - i = (j - i) + 1 by omega, List.getElem?_cons_succ, List.getElem?_drop, show i + (j - i) = j by omega]
theorem rises_getD {l : List Rat} (h : ∀ i, i + 1 < l.length → l.getD i 0 < l.getD (i + 1) 0) : tK l := fun i hi => by
 have := h i hi
 rwa [yX hi, yX (show i < l.length by omega)] at this
theorem insA_rises {l : List Rat} {i : Nat} {a : Rat} (hr : tK l) (h0 : 0 < i) (hi : i < l.length) (h1 : l.getD (i - 1) 0 < a) (h2 : a < l.getD i 0) : tK (insA l i a) := by
 refine rises_getD (fun j hj => ?_)
 rw [bU (by omega)] at hj
 rcases Nat.lt_or_ge (j + 1) i with h | h
 ·rw [qB (by omega) (by omega), qB (by omega) h]
  exact hr.get (by omega)
 ·rcases Nat.lt_or_ge i (j + 1) with h3 | h3
  ·rw [qN (by omega) (show i ≤ j by omega)]
   rcases Nat.lt_or_ge i j with h4 | h4
   ·obtain ⟨k, rfl⟩ : ∃ k, j = k + 1 := ⟨j - 1, by omega⟩
    rw [qN (by omega) (show i ≤ k by omega)]
    exact hr.get (by omega)
   ·have : j = i := by omega
    subst this
    rw [bG (by omega)]
    exact h2
  ·have : i = j + 1 := by omega
   subst this
   rw [bG (by omega), qB (by omega) (by omega)]
   exact h1
theorem seg_ex {l : List Rat} {y : Rat} (h0 : l.getD 0 0 ≤ y) : ∀ k, k < l.length → y < l.getD k 0 → ∃ j, j + 1 < l.length ∧ l.getD j 0 ≤ y ∧ y < l.getD (j + 1) 0
 | 0, _, h => absurd h0 (Rat.not_le.2 h)
 | k + 1, hk, h => by
  by_cases h2 : l.getD k 0 ≤ y
  ·exact ⟨k, hk, h2, h⟩
  ·exact seg_ex h0 k (by omega) (Rat.not_le.1 h2)
theorem val_seg {pc : Nat → Rat → Rat} {xs ys : List Rat} {y : Rat} {j : Nat} (hr : tK xs) (hj : j + 1 < xs.length) (h1 : xs.getD j 0 ≤ y) (h2 : y < xs.getD (j + 1) 0) (h0 : ¬ y ≤ xs.getD 0 0) : valR pc xs ys y = pc j y := by
 have h3 : ¬ xs.getD (xs.length - 1) 0 ≤ y := by
  rcases Nat.lt_or_ge (j + 1) (xs.length - 1) with h | h
  ·have := hr.lt h (by omega)
   grind
  ·rw [show xs.length - 1 = j + 1 by omega]
   exact Rat.not_le.2 h2
 refine val_in h0 h3 hj h2 (fun m hm => ?_)
 rcases Nat.lt_or_ge (m + 1) j with h | h
 ·exact Rat.le_trans (Rat.le_of_lt (hr.lt h (by omega))) h1
 ·have : j = m + 1 := by omega
  subst this
  exact h1
def lowP (kind : Int) (xs ys : List Rat) : Nat → Rat → Rat := if kind = 0 then holdP xs ys else qA xs ys
theorem low_cong {kind : Int} {xs ys xs' ys' : List Rat} {i j : Nat} {y : Rat} (h1 : xs'.getD j 0 = xs.getD i 0) (h2 : xs'.getD (j + 1) 0 = xs.getD (i + 1) 0) (h3 : ys'.getD j 0 = ys.getD i 0) (h4 : ys'.getD (j + 1) 0 = ys.getD (i + 1) 0) : lowP kind xs' ys' j y = lowP kind xs ys i y := by
 unfold lowP
 split
 ·exact h3
 ·unfold qA slope
  rw [h1, h2, h3, h4]
theorem low_first {kind : Int} {xs ys xs' ys' : List Rat} {i j : Nat} {x y : Rat} (hw : xs.getD i 0 < xs.getD (i + 1) 0) (hx : xs.getD i 0 < x) (h1 : xs'.getD j 0 = xs.getD i 0) (h2 : xs'.getD (j + 1) 0 = x) (h3 : ys'.getD j 0 = ys.getD i 0) (h4 : ys'.getD (j + 1) 0 = lowP kind xs ys i x) : lowP kind xs' ys' j y = lowP kind xs ys i y := by
 unfold lowP at h4 ⊢
 split
 ·exact h3
 ·rename_i hk
  rw [if_neg hk] at h4
  unfold qA at h4 ⊢
  have e : slope xs' ys' j = slope xs ys i := by
   show (ys'.getD (j + 1) 0 - ys'.getD j 0) / (xs'.getD (j + 1) 0 - xs'.getD j 0) = _
   rw [h1, h2, h3, h4]
   have n1 := pT hx
   have e1 := Rat.mul_inv_cancel _ n1
   rw [Rat.div_def]
   generalize (x - xs.getD i 0)⁻¹ = u at *
   generalize slope xs ys i = s
   grind
  rw [e, h1, h3]
theorem low_last {kind : Int} {xs ys xs' ys' : List Rat} {i j : Nat} {x y : Rat} (hw : xs.getD i 0 < xs.getD (i + 1) 0) (hx : x < xs.getD (i + 1) 0) (h1 : xs'.getD j 0 = x) (h2 : xs'.getD (j + 1) 0 = xs.getD (i + 1) 0) (h3 : ys'.getD j 0 = lowP kind xs ys i x) (h4 : ys'.getD (j + 1) 0 = ys.getD (i + 1) 0) : lowP kind xs' ys' j y = lowP kind xs ys i y := by
 unfold lowP at h3 ⊢
 split
 ·rename_i hk
  rw [if_pos hk] at h3
  exact h3
 ·rename_i hk
  rw [if_neg hk] at h3
  unfold qA at h3 ⊢
  have e : slope xs' ys' j = slope xs ys i := by
   show (ys'.getD (j + 1) 0 - ys'.getD j 0) / (xs'.getD (j + 1) 0 - xs'.getD j 0) = _
   rw [h1, h2, h3, h4]
   have n1 := pT hx
   have n2 := pT hw
   have e1 := Rat.mul_inv_cancel _ n1
   have e2 := Rat.mul_inv_cancel _ n2
   unfold slope
   rw [Rat.div_def, Rat.div_def]
   generalize (xs.getD (i + 1) 0 - x)⁻¹ = u at *
   generalize (xs.getD (i + 1) 0 - xs.getD i 0)⁻¹ = v at *
   grind
  rw [e, h1, h3]
  grind
theorem refine_same {kind : Int} {xs ys : List Rat} {i : Nat} {x y : Rat} (hr : tK xs) (hlen : ys.length = xs.length) (h0 : 0 < i) (hi : i < xs.length) (h1 : xs.getD (i - 1) 0 < x) (h2 : x < xs.getD i 0) :
  valR (lowP kind (insA xs i x) (insA ys i (valR (lowP kind xs ys) xs ys x))) (insA xs i x) (insA ys i (valR (lowP kind xs ys) xs ys x)) y = valR (lowP kind xs ys) xs ys y := by
 obtain ⟨k, rfl⟩ : ∃ k, i = k + 1 := ⟨i - 1, by omega⟩
 rw [show k + 1 - 1 = k by omega] at h1
 have hx0 : ¬ x ≤ xs.getD 0 0 := by
  rcases Nat.eq_zero_or_pos k with rfl | hk
  ·exact Rat.not_le.2 h1
  ·have := hr.lt hk (by omega)
   grind
 have hv : valR (lowP kind xs ys) xs ys x = lowP kind xs ys k x := val_seg hr hi (Rat.le_of_lt h1) h2 hx0
 rw [hv]
 have hr' := insA_rises hr h0 hi (by rw [show k + 1 - 1 = k by omega]; exact h1) h2
 have hl : (insA xs (k + 1) x).length = xs.length + 1 := bU (by omega)
 have hk := hr.get hi
 have f0 : (insA xs (k + 1) x).getD 0 0 = xs.getD 0 0 := qB (by omega) (by omega)
 by_cases c0 : y ≤ xs.getD 0 0
 ·rw [val_lo c0, val_lo (by rw [f0]; exact c0)]
  exact qB (by omega) (by omega)
 have fl : (insA xs (k + 1) x).getD ((insA xs (k + 1) x).length - 1) 0 = xs.getD (xs.length - 1) 0 := by
  rw [hl, show xs.length + 1 - 1 = (xs.length - 1) + 1 by omega]
  exact qN (by omega) (by omega)
 by_cases c1 : xs.getD (xs.length - 1) 0 ≤ y
 ·rw [val_hi c0 c1, val_hi (by rw [f0]; exact c0) (by rw [fl]; exact c1), hl, show xs.length + 1 - 1 = (xs.length - 1) + 1 by omega]
  exact qN (by omega) (by omega)
 obtain ⟨j, j1, j2, j3⟩ := seg_ex (l := xs) (y := y) (by grind) (xs.length - 1) (by omega) (Rat.not_le.1 c1)
 rw [val_seg hr j1 j2 j3 c0]
 have c0' : ¬ y ≤ (insA xs (k + 1) x).getD 0 0 := by rw [f0]; exact c0
 rcases Nat.lt_or_ge (j + 1) (k + 1) with hj | hj
 ·rw [val_seg (j := j) hr' (by omega) (by rw [qB (by omega) (by omega)]; exact j2) (by rw [qB (by omega) hj]; exact j3) c0']
  exact low_cong (qB (by omega) (by omega)) (qB (by omega) hj) (qB (by omega) (by omega)) (qB (by omega) hj)
 ·rcases Nat.lt_or_ge k j with hj2 | hj2
  ·rw [val_seg (j := j + 1) hr' (by omega) (by rw [qN (by omega) (by omega)]; exact j2) (by rw [qN (by omega) (by omega)]; exact j3) c0']
   exact low_cong (qN (by omega) (by omega)) (qN (by omega) (by omega)) (qN (by omega) (by omega)) (qN (by omega) (by omega))
  ·have : j = k := by omega
   subst this
   by_cases hyx : y < x
   ·rw [val_seg (j := j) hr' (by omega) (by rw [qB (by omega) (by omega)]; exact j2) (by rw [bG (by omega)]; exact hyx) c0']
    exact low_first hk h1 (qB (by omega) (by omega)) (bG (by omega)) (qB (by omega) (by omega)) (bG (by omega))
   ·rw [val_seg (j := j + 1) hr' (by omega) (by rw [bG (by omega)]; exact Rat.not_lt.1 hyx) (by rw [qN (by omega) (by omega)]; exact j3) c0']
    exact low_last hk h2 (bG (by omega)) (qN (by omega) (by omega)) (bG (by omega)) (qN (by omega) (by omega))
end Go.Proofs.YtjncgcnofiaiaaaGreat

set_option linter.unusedVariables false
set_option linter.unusedSimpArgs false
namespace Go.Proofs.YtjncgcnofiaiaaaGreat
open Go.RowKit
set_option maxRecDepth 20000
section
variable {P : Program} {e : Env} {H : Hp} {K : Env → Hp → Prop} {rd : List DOp} {log : List (Nat × Option Nat)} {n0 i aid : Nat} {inc : List Nat} {T : Option Nat}
theorem d_keepA {d : Nat} {el : TypeId} {es bytes : Nat} {s x : AO} (hl : pU (.app el es bytes s x) inc = true) (hT : tch e (n0 + aid) (.app el es bytes s x) = T) (h : qR inc T log = true) (k : appX H el es bytes (s.ev e) (x.ev e) fun v H' => jW inc log H H' ∧ xM P n0 rd ((i, T) :: log) (put e d v) H' K) : xM P n0 (⟨i, aid, ⟨some d, .app el es bytes s x, none⟩, inc⟩ :: rd) log e H K := d_keep hl hT h (gJ k)
end
def lowLog (n : Nat) (log : List (Nat × Option Nat)) : Bool := log.all fun p => match p.2 with
 | none => true
 | some b => Nat.ble (b + 1) n
theorem jV {F R R' : Hp} {inc : List Nat} {log : List (Nat × Option Nat)} (h : lowLog F.length log = true) : jW inc log (F ++ R) (F ++ R') := fun p hp _ b hb => by
 have h2 := List.all_eq_true.1 h p hp
 rw [hb] at h2
 have h3 : b < F.length := Nat.le_of_ble_eq_true h2
 rw [List.getElem?_append_left h3, List.getElem?_append_left h3]
theorem keep_low2 {F R S S' : Hp} {inc : List Nat} {log : List (Nat × Option Nat)} (h : lowLog F.length log = true) : jW inc log ((F ++ R) ++ S) ((F ++ R) ++ S') := by
 rw [List.append_assoc, List.append_assoc]
 exact jV h
theorem keep_low3 {F R S' : Hp} {inc : List Nat} {log : List (Nat × Option Nat)} (h : lowLog F.length log = true) : jW inc log (F ++ R) ((F ++ R) ++ S') := by
 rw [List.append_assoc]
 exact jV h
theorem Out.ext {α : Type} {E : El α} {el : TypeId} {m : Nat} {H S : Hp} {c : C} {l : List α} (h : Out E el m H c l) : Out E el m (H ++ S) c l := by
 cases h with
 | nil => exact .nil
 | sl hm hb hn hc h => exact .sl hm (by rw [List.getElem?_append_left (lt_of_getElem? hb)]; exact hb) hn hc h
abbrev RefH (kind : Int) (cx cy o : C) (x v : R2) : Hp := [.live ⟨[iC kind, cx, cy], xR, .rw⟩, .live ⟨ratC x, xL, .rw⟩, .live ⟨[.int .i64 0, .nilSl, .nilSl], xR, .rw⟩, .live ⟨ratC v, xL, .rw⟩, .live ⟨[iC kind, o, .nilSl], xR, .rw⟩]
theorem refine_fz {kind : Int} {cx cy o3 o6 : C} {x v : R2} {R3 R6 : Hp} {l m : List R2} (q3 : Out elP xL 5 (RefH kind cx cy o3 x v ++ R3) o3 l) (q6 : Out elP xL (RefH kind cx cy o3 x v ++ R3).length (RefH kind cx cy o3 x v ++ R3 ++ R6) o6 m) :
  ∃ d, FzV (([.live ⟨[iC kind, cx, cy], xR, .rw⟩, .live ⟨ratC x, xL, .rw⟩, .live ⟨[iC kind, o3, o6], xR, .rw⟩, .live ⟨ratC v, xL, .rw⟩, .live ⟨[iC kind, o3, o6], xR, .rw⟩] ++ R3) ++ R6) (.tup [.agg [iC kind, o3, o6], i64 0]) d ∧ ∃ c d', Ls elP c l ∧ Ls elP d' m ∧ d = .tup [.agg [iC kind, c, d'], i64 0] := by
 obtain ⟨d3, f3, l3⟩ := (Out.ext (S := R6) (Out.swap (F := RefH kind cx cy o3 x v) (G := [.live ⟨[iC kind, cx, cy], xR, .rw⟩, .live ⟨ratC x, xL, .rw⟩, .live ⟨[iC kind, o3, o6], xR, .rw⟩, .live ⟨ratC v, xL, .rw⟩, .live ⟨[iC kind, o3, o6], xR, .rw⟩]) q3 rfl)).fz (p := (· ≠ .bor)) (by simp)
 obtain ⟨d6, f6, l6⟩ := (q6.swap (G := [.live ⟨[iC kind, cx, cy], xR, .rw⟩, .live ⟨ratC x, xL, .rw⟩, .live ⟨[iC kind, o3, o6], xR, .rw⟩, .live ⟨ratC v, xL, .rw⟩, .live ⟨[iC kind, o3, o6], xR, .rw⟩] ++ R3) (by simp)).fz (p := (· ≠ .bor)) (by simp)
 exact ⟨_, .tup (.cons (.agg (.cons (.hf trivial) (.cons f3 (.cons f6 .nil)))) (.cons (.c (.hf trivial)) .nil)), d3, d6, l3, l6, rfl⟩
theorem go10 {A B : Prop} (k : B) (h : Held B → A := by
 intro hgo
 repeat (first | (refine g_o ?_; first | (refine o_some ?_; try (first | (refine x_q (by rfl) ?_; try (first | refine q_mv (by rfl) ?_ | refine wN (by rfl) ?_ | (refine uJ ?_; try (first | refine vO (by rfl) (by assumption) ?_ | refine wY (by rfl) (by assumption) ?_ | refine wX (by rfl) ?_ | refine xY (by rfl) ?_ | refine xX (by rfl) ?_)) | (refine uL ?_; try (first | refine vP (by rfl) (by rfl) (by assumption) (by omega) (by omega) ?_ | refine wU (by rfl) (by rfl) (by assumption) (by omega) (by omega) ?_ | refine wR (by rfl) (by rfl) (by decide) (by decide) ?_ | refine yH (by rfl) (by rfl) (by decide) (by decide) ?_ | refine wE (by rfl) (by rfl) (by decide) (by decide) ?_ | refine yH (by rfl) (by rfl) (by omega) (by omega) ?_)) | refine q_cm (by rfl) (by rfl) ?_ | refine q_ar (by rfl) (by rfl) (by rfl) ?_ | refine vE (by rfl) ?_ | (refine uP ?_; try (first | refine wF (by rfl) ?_ | refine wG (by rfl) ?_ | refine wZ (by rfl) ?_)) | refine uO (by rfl) (by rfl) ?_ | refine wM (by rfl) ?_ | refine wO (by rfl) ?_ | refine uC (by rfl) (by rfl) (by first | decide | omega) ?_ | refine uG (by rfl) (by rfl) (by first | decide | omega) ?_ | refine uQ (by rfl) (by rfl) ?_ | refine uR (by rfl) (by rfl) (by rfl) ?_ | refine uI (by rfl) ?_ | refine uH (by rfl) ?_ | refine wA (by rfl) (by rfl) ?_ | refine wB (by rfl) (by rfl) ?_ | refine uF ?_ | refine uK ?_ | refine uN (by rfl) (by rfl) ?_ | refine vD (by rfl) (by rfl) ?_ | refine wD (by rfl) ?_ | refine q_mx (by rfl) (by rfl) ?_ | refine q_mn (by rfl) (by rfl) ?_ | refine uM (by rfl) ?_ | refine vF (by rfl) ?_ | refine vG (by rfl) ?_ | refine wC (by rfl) ?_ | refine wP (by rfl) (by rfl) ?_ | refine wQ (by rfl) (by rfl) ?_)) | (refine pR ?_; try (first | (refine uS (by rfl) ?_; try (first | refine yV (by rfl) (by rfl) ?_ | refine yN (by rfl) (by rfl) ?_ | refine yV (yJ _ _) (by rfl) ?_ | refine yN (yJ _ _) (by rfl) ?_)) | (refine uT (by rfl) ?_; try (first | refine vL (by omega) (by omega) ?_ | refine xJ (Nat.le_of_ble_eq_true (by rfl)) ?_ | refine yP (by rfl) (by rfl) (by rfl) (by omega) ?_)))) | refine uD (by rfl) (by rfl) (by rfl) (by rfl) (Nat.le_of_ble_eq_true (by rfl)) ?_ | (refine sK (by rfl) (by rfl) ?_; try (first | refine yP (by rfl) (by rfl) (by rfl) (Nat.le_of_ble_eq_true (by rfl)) ?_ | refine yP (by rfl) (by rfl) (by rfl) (by omega) ?_)) | refine pS (by rfl) (by rfl) ?_ | refine bA (by rfl) (by rfl) ?_ | refine sW ?_ | refine x_frzSl (by rfl) ?_ | refine gJ ?_ | refine pQ ?_ | refine sU ?_ | refine sV (by rfl) (by rfl) (by rfl) (by rfl) ?_ | refine tX (by rfl) (by rfl) (by rfl) ?_)) | (refine o_nil ?_; try (first | refine s_n ?_ | refine s_r ?_ | refine s_e ?_ | refine k_n ?_ | refine k_r ?_ | refine k_e (by rfl) ?_ | refine k_o (by rfl) ?_ | refine l_r ?_ | refine l_e ?_ | refine b_r ?_ | refine b_n ?_)) | refine o_guard (by rfl) ?_ | refine gS (by rfl) ?_ | refine o_none ?_ | refine gT (by rfl) ?_) | (refine g_f ?_; first | refine f_seq ?_ | refine f_reg ?_ | (refine f_cond (by rfl) ?_; try (first | refine c_t (by rfl) ?_ | refine c_f (by rfl) ?_)) | refine f_block ?_ | refine f_skip ?_ | refine f_ret ?_ | refine f_exit ?_ | refine f_regD0 ?_ | refine f_regD ?_) | (refine g_s ?_; first | refine s_n ?_ | refine s_r ?_ | refine s_e ?_) | (refine g_d ?_; first | refine d_keepA (T := none) (by rfl) (by rfl) (by rfl) ?_ | refine d_late (T := none) (by rfl) (by rfl) (by rfl) (by rfl) ?_ | (refine pH (T := none) (by rfl) (by rfl) ?_; try (first | (refine xd_q (by rfl) ?_; try (first | refine q_mv (by rfl) ?_ | refine wN (by rfl) ?_ | (refine uJ ?_; try (first | refine vO (by rfl) (by assumption) ?_ | refine wY (by rfl) (by assumption) ?_ | refine wX (by rfl) ?_ | refine xY (by rfl) ?_ | refine xX (by rfl) ?_)) | (refine uL ?_; try (first | refine vP (by rfl) (by rfl) (by assumption) (by omega) (by omega) ?_ | refine wU (by rfl) (by rfl) (by assumption) (by omega) (by omega) ?_ | refine wR (by rfl) (by rfl) (by decide) (by decide) ?_ | refine yH (by rfl) (by rfl) (by decide) (by decide) ?_ | refine wE (by rfl) (by rfl) (by decide) (by decide) ?_ | refine yH (by rfl) (by rfl) (by omega) (by omega) ?_)) | refine q_cm (by rfl) (by rfl) ?_ | refine q_ar (by rfl) (by rfl) (by rfl) ?_ | refine vE (by rfl) ?_ | (refine uP ?_; try (first | refine wF (by rfl) ?_ | refine wG (by rfl) ?_ | refine wZ (by rfl) ?_)) | refine uO (by rfl) (by rfl) ?_ | refine wM (by rfl) ?_ | refine wO (by rfl) ?_ | refine uC (by rfl) (by rfl) (by first | decide | omega) ?_ | refine uG (by rfl) (by rfl) (by first | decide | omega) ?_ | refine uQ (by rfl) (by rfl) ?_ | refine uR (by rfl) (by rfl) (by rfl) ?_ | refine uI (by rfl) ?_ | refine uH (by rfl) ?_ | refine wA (by rfl) (by rfl) ?_ | refine wB (by rfl) (by rfl) ?_ | refine uF ?_ | refine uK ?_ | refine uN (by rfl) (by rfl) ?_ | refine vD (by rfl) (by rfl) ?_ | refine wD (by rfl) ?_ | refine q_mx (by rfl) (by rfl) ?_ | refine q_mn (by rfl) (by rfl) ?_ | refine uM (by rfl) ?_ | refine vF (by rfl) ?_ | refine vG (by rfl) ?_ | refine wC (by rfl) ?_ | refine wP (by rfl) (by rfl) ?_ | refine wQ (by rfl) (by rfl) ?_)) | (refine tD ?_; try (first | (refine uS (by rfl) ?_; try (first | refine yV (by rfl) (by rfl) ?_ | refine yN (by rfl) (by rfl) ?_ | refine yV (yJ _ _) (by rfl) ?_ | refine yN (yJ _ _) (by rfl) ?_)) | (refine uT (by rfl) ?_; try (first | refine vL (by omega) (by omega) ?_ | refine xJ (Nat.le_of_ble_eq_true (by rfl)) ?_ | refine yP (by rfl) (by rfl) (by rfl) (by omega) ?_)))) | refine wV (by rfl) (by rfl) (by rfl) (by rfl) (Nat.le_of_ble_eq_true (by rfl)) ?_ | (refine vT (by rfl) (by rfl) ?_; try (first | refine yP (by rfl) (by rfl) (by rfl) (Nat.le_of_ble_eq_true (by rfl)) ?_ | refine yP (by rfl) (by rfl) (by rfl) (by omega) ?_)) | refine tE (by rfl) (by rfl) ?_ | refine sC (by rfl) (by rfl) (by rfl) ?_ | refine vY (by rfl) ?_ | refine pP (by rfl) ?_)) | (refine pH (by rfl) (by rfl) ?_; try (first | (refine xd_q (by rfl) ?_; try (first | refine q_mv (by rfl) ?_ | refine wN (by rfl) ?_ | (refine uJ ?_; try (first | refine vO (by rfl) (by assumption) ?_ | refine wY (by rfl) (by assumption) ?_ | refine wX (by rfl) ?_ | refine xY (by rfl) ?_ | refine xX (by rfl) ?_)) | (refine uL ?_; try (first | refine vP (by rfl) (by rfl) (by assumption) (by omega) (by omega) ?_ | refine wU (by rfl) (by rfl) (by assumption) (by omega) (by omega) ?_ | refine wR (by rfl) (by rfl) (by decide) (by decide) ?_ | refine yH (by rfl) (by rfl) (by decide) (by decide) ?_ | refine wE (by rfl) (by rfl) (by decide) (by decide) ?_ | refine yH (by rfl) (by rfl) (by omega) (by omega) ?_)) | refine q_cm (by rfl) (by rfl) ?_ | refine q_ar (by rfl) (by rfl) (by rfl) ?_ | refine vE (by rfl) ?_ | (refine uP ?_; try (first | refine wF (by rfl) ?_ | refine wG (by rfl) ?_ | refine wZ (by rfl) ?_)) | refine uO (by rfl) (by rfl) ?_ | refine wM (by rfl) ?_ | refine wO (by rfl) ?_ | refine uC (by rfl) (by rfl) (by first | decide | omega) ?_ | refine uG (by rfl) (by rfl) (by first | decide | omega) ?_ | refine uQ (by rfl) (by rfl) ?_ | refine uR (by rfl) (by rfl) (by rfl) ?_ | refine uI (by rfl) ?_ | refine uH (by rfl) ?_ | refine wA (by rfl) (by rfl) ?_ | refine wB (by rfl) (by rfl) ?_ | refine uF ?_ | refine uK ?_ | refine uN (by rfl) (by rfl) ?_ | refine vD (by rfl) (by rfl) ?_ | refine wD (by rfl) ?_ | refine q_mx (by rfl) (by rfl) ?_ | refine q_mn (by rfl) (by rfl) ?_ | refine uM (by rfl) ?_ | refine vF (by rfl) ?_ | refine vG (by rfl) ?_ | refine wC (by rfl) ?_ | refine wP (by rfl) (by rfl) ?_ | refine wQ (by rfl) (by rfl) ?_)) | (refine tD ?_; try (first | (refine uS (by rfl) ?_; try (first | refine yV (by rfl) (by rfl) ?_ | refine yN (by rfl) (by rfl) ?_ | refine yV (yJ _ _) (by rfl) ?_ | refine yN (yJ _ _) (by rfl) ?_)) | (refine uT (by rfl) ?_; try (first | refine vL (by omega) (by omega) ?_ | refine xJ (Nat.le_of_ble_eq_true (by rfl)) ?_ | refine yP (by rfl) (by rfl) (by rfl) (by omega) ?_)))) | refine wV (by rfl) (by rfl) (by rfl) (by rfl) (Nat.le_of_ble_eq_true (by rfl)) ?_ | (refine vT (by rfl) (by rfl) ?_; try (first | refine yP (by rfl) (by rfl) (by rfl) (Nat.le_of_ble_eq_true (by rfl)) ?_ | refine yP (by rfl) (by rfl) (by rfl) (by omega) ?_)) | refine tE (by rfl) (by rfl) ?_ | refine sC (by rfl) (by rfl) (by rfl) ?_ | refine vY (by rfl) ?_ | refine pP (by rfl) ?_)) | (refine d_nil ?_; try (first | refine s_n ?_ | refine s_r ?_ | refine s_e ?_ | refine k_n ?_ | refine k_r ?_ | refine k_e (by rfl) ?_ | refine k_o (by rfl) ?_ | refine l_r ?_ | refine l_e ?_ | refine b_r ?_ | refine b_n ?_)) | refine d_none (by rfl) (by rfl) ?_ | refine d_guard (by rfl) (by rfl) (by rfl) ?_) | (refine g_x ?_; first | (refine x_q (by rfl) ?_; try (first | refine q_mv (by rfl) ?_ | refine wN (by rfl) ?_ | (refine uJ ?_; try (first | refine vO (by rfl) (by assumption) ?_ | refine wY (by rfl) (by assumption) ?_ | refine wX (by rfl) ?_ | refine xY (by rfl) ?_ | refine xX (by rfl) ?_)) | (refine uL ?_; try (first | refine vP (by rfl) (by rfl) (by assumption) (by omega) (by omega) ?_ | refine wU (by rfl) (by rfl) (by assumption) (by omega) (by omega) ?_ | refine wR (by rfl) (by rfl) (by decide) (by decide) ?_ | refine yH (by rfl) (by rfl) (by decide) (by decide) ?_ | refine wE (by rfl) (by rfl) (by decide) (by decide) ?_ | refine yH (by rfl) (by rfl) (by omega) (by omega) ?_)) | refine q_cm (by rfl) (by rfl) ?_ | refine q_ar (by rfl) (by rfl) (by rfl) ?_ | refine vE (by rfl) ?_ | (refine uP ?_; try (first | refine wF (by rfl) ?_ | refine wG (by rfl) ?_ | refine wZ (by rfl) ?_)) | refine uO (by rfl) (by rfl) ?_ | refine wM (by rfl) ?_ | refine wO (by rfl) ?_ | refine uC (by rfl) (by rfl) (by first | decide | omega) ?_ | refine uG (by rfl) (by rfl) (by first | decide | omega) ?_ | refine uQ (by rfl) (by rfl) ?_ | refine uR (by rfl) (by rfl) (by rfl) ?_ | refine uI (by rfl) ?_ | refine uH (by rfl) ?_ | refine wA (by rfl) (by rfl) ?_ | refine wB (by rfl) (by rfl) ?_ | refine uF ?_ | refine uK ?_ | refine uN (by rfl) (by rfl) ?_ | refine vD (by rfl) (by rfl) ?_ | refine wD (by rfl) ?_ | refine q_mx (by rfl) (by rfl) ?_ | refine q_mn (by rfl) (by rfl) ?_ | refine uM (by rfl) ?_ | refine vF (by rfl) ?_ | refine vG (by rfl) ?_ | refine wC (by rfl) ?_ | refine wP (by rfl) (by rfl) ?_ | refine wQ (by rfl) (by rfl) ?_)) | (refine pR ?_; try (first | (refine uS (by rfl) ?_; try (first | refine yV (by rfl) (by rfl) ?_ | refine yN (by rfl) (by rfl) ?_ | refine yV (yJ _ _) (by rfl) ?_ | refine yN (yJ _ _) (by rfl) ?_)) | (refine uT (by rfl) ?_; try (first | refine vL (by omega) (by omega) ?_ | refine xJ (Nat.le_of_ble_eq_true (by rfl)) ?_ | refine yP (by rfl) (by rfl) (by rfl) (by omega) ?_)))) | refine uD (by rfl) (by rfl) (by rfl) (by rfl) (Nat.le_of_ble_eq_true (by rfl)) ?_ | (refine sK (by rfl) (by rfl) ?_; try (first | refine yP (by rfl) (by rfl) (by rfl) (Nat.le_of_ble_eq_true (by rfl)) ?_ | refine yP (by rfl) (by rfl) (by rfl) (by omega) ?_)) | refine pS (by rfl) (by rfl) ?_ | refine bA (by rfl) (by rfl) ?_ | refine sW ?_ | refine x_frzSl (by rfl) ?_ | refine gJ ?_ | refine pQ ?_ | refine sU ?_ | refine sV (by rfl) (by rfl) (by rfl) (by rfl) ?_ | refine tX (by rfl) (by rfl) (by rfl) ?_) | (refine g_q ?_; first | refine q_mv (by rfl) ?_ | refine wN (by rfl) ?_ | (refine uJ ?_; try (first | refine vO (by rfl) (by assumption) ?_ | refine wY (by rfl) (by assumption) ?_ | refine wX (by rfl) ?_ | refine xY (by rfl) ?_ | refine xX (by rfl) ?_)) | (refine uL ?_; try (first | refine vP (by rfl) (by rfl) (by assumption) (by omega) (by omega) ?_ | refine wU (by rfl) (by rfl) (by assumption) (by omega) (by omega) ?_ | refine wR (by rfl) (by rfl) (by decide) (by decide) ?_ | refine yH (by rfl) (by rfl) (by decide) (by decide) ?_ | refine wE (by rfl) (by rfl) (by decide) (by decide) ?_ | refine yH (by rfl) (by rfl) (by omega) (by omega) ?_)) | refine q_cm (by rfl) (by rfl) ?_ | refine q_ar (by rfl) (by rfl) (by rfl) ?_ | refine vE (by rfl) ?_ | (refine uP ?_; try (first | refine wF (by rfl) ?_ | refine wG (by rfl) ?_ | refine wZ (by rfl) ?_)) | refine uO (by rfl) (by rfl) ?_ | refine wM (by rfl) ?_ | refine wO (by rfl) ?_ | refine uC (by rfl) (by rfl) (by first | decide | omega) ?_ | refine uG (by rfl) (by rfl) (by first | decide | omega) ?_ | refine uQ (by rfl) (by rfl) ?_ | refine uR (by rfl) (by rfl) (by rfl) ?_ | refine uI (by rfl) ?_ | refine uH (by rfl) ?_ | refine wA (by rfl) (by rfl) ?_ | refine wB (by rfl) (by rfl) ?_ | refine uF ?_ | refine uK ?_ | refine uN (by rfl) (by rfl) ?_ | refine vD (by rfl) (by rfl) ?_ | refine wD (by rfl) ?_ | refine q_mx (by rfl) (by rfl) ?_ | refine q_mn (by rfl) (by rfl) ?_ | refine uM (by rfl) ?_ | refine vF (by rfl) ?_ | refine vG (by rfl) ?_ | refine wC (by rfl) ?_ | refine wP (by rfl) (by rfl) ?_ | refine wQ (by rfl) (by rfl) ?_) | (refine g_c ?_; first | refine c_t (by rfl) ?_ | refine c_f (by rfl) ?_) | (refine g_k ?_; first | refine k_n ?_ | refine k_r ?_ | refine k_e (by rfl) ?_ | refine k_o (by rfl) ?_) | (refine g_lo ?_; first | refine l_r ?_ | refine l_e ?_) | (refine g_xd ?_; first | (refine xd_q (by rfl) ?_; try (first | refine q_mv (by rfl) ?_ | refine wN (by rfl) ?_ | (refine uJ ?_; try (first | refine vO (by rfl) (by assumption) ?_ | refine wY (by rfl) (by assumption) ?_ | refine wX (by rfl) ?_ | refine xY (by rfl) ?_ | refine xX (by rfl) ?_)) | (refine uL ?_; try (first | refine vP (by rfl) (by rfl) (by assumption) (by omega) (by omega) ?_ | refine wU (by rfl) (by rfl) (by assumption) (by omega) (by omega) ?_ | refine wR (by rfl) (by rfl) (by decide) (by decide) ?_ | refine yH (by rfl) (by rfl) (by decide) (by decide) ?_ | refine wE (by rfl) (by rfl) (by decide) (by decide) ?_ | refine yH (by rfl) (by rfl) (by omega) (by omega) ?_)) | refine q_cm (by rfl) (by rfl) ?_ | refine q_ar (by rfl) (by rfl) (by rfl) ?_ | refine vE (by rfl) ?_ | (refine uP ?_; try (first | refine wF (by rfl) ?_ | refine wG (by rfl) ?_ | refine wZ (by rfl) ?_)) | refine uO (by rfl) (by rfl) ?_ | refine wM (by rfl) ?_ | refine wO (by rfl) ?_ | refine uC (by rfl) (by rfl) (by first | decide | omega) ?_ | refine uG (by rfl) (by rfl) (by first | decide | omega) ?_ | refine uQ (by rfl) (by rfl) ?_ | refine uR (by rfl) (by rfl) (by rfl) ?_ | refine uI (by rfl) ?_ | refine uH (by rfl) ?_ | refine wA (by rfl) (by rfl) ?_ | refine wB (by rfl) (by rfl) ?_ | refine uF ?_ | refine uK ?_ | refine uN (by rfl) (by rfl) ?_ | refine vD (by rfl) (by rfl) ?_ | refine wD (by rfl) ?_ | refine q_mx (by rfl) (by rfl) ?_ | refine q_mn (by rfl) (by rfl) ?_ | refine uM (by rfl) ?_ | refine vF (by rfl) ?_ | refine vG (by rfl) ?_ | refine wC (by rfl) ?_ | refine wP (by rfl) (by rfl) ?_ | refine wQ (by rfl) (by rfl) ?_)) | (refine tD ?_; try (first | (refine uS (by rfl) ?_; try (first | refine yV (by rfl) (by rfl) ?_ | refine yN (by rfl) (by rfl) ?_ | refine yV (yJ _ _) (by rfl) ?_ | refine yN (yJ _ _) (by rfl) ?_)) | (refine uT (by rfl) ?_; try (first | refine vL (by omega) (by omega) ?_ | refine xJ (Nat.le_of_ble_eq_true (by rfl)) ?_ | refine yP (by rfl) (by rfl) (by rfl) (by omega) ?_)))) | refine wV (by rfl) (by rfl) (by rfl) (by rfl) (Nat.le_of_ble_eq_true (by rfl)) ?_ | (refine vT (by rfl) (by rfl) ?_; try (first | refine yP (by rfl) (by rfl) (by rfl) (Nat.le_of_ble_eq_true (by rfl)) ?_ | refine yP (by rfl) (by rfl) (by rfl) (by omega) ?_)) | refine tE (by rfl) (by rfl) ?_ | refine sC (by rfl) (by rfl) (by rfl) ?_ | refine vY (by rfl) ?_ | refine pP (by rfl) ?_) | (refine g_l ?_; first | (refine uS (by rfl) ?_; try (first | refine yV (by rfl) (by rfl) ?_ | refine yN (by rfl) (by rfl) ?_ | refine yV (yJ _ _) (by rfl) ?_ | refine yN (yJ _ _) (by rfl) ?_)) | (refine uT (by rfl) ?_; try (first | refine vL (by omega) (by omega) ?_ | refine xJ (Nat.le_of_ble_eq_true (by rfl)) ?_ | refine yP (by rfl) (by rfl) (by rfl) (by omega) ?_))) | (refine g_len ?_; first | refine vO (by rfl) (by assumption) ?_ | refine wY (by rfl) (by assumption) ?_ | refine wX (by rfl) ?_ | refine xY (by rfl) ?_ | refine xX (by rfl) ?_) | (refine g_nil ?_; first | refine wF (by rfl) ?_ | refine wG (by rfl) ?_ | refine wZ (by rfl) ?_) | (refine g_iad ?_; first | refine vP (by rfl) (by rfl) (by assumption) (by omega) (by omega) ?_ | refine wU (by rfl) (by rfl) (by assumption) (by omega) (by omega) ?_ | refine wR (by rfl) (by rfl) (by decide) (by decide) ?_ | refine yH (by rfl) (by rfl) (by decide) (by decide) ?_ | refine wE (by rfl) (by rfl) (by decide) (by decide) ?_ | refine yH (by rfl) (by rfl) (by omega) (by omega) ?_) | (refine g_box ?_; first | refine yV (by rfl) (by rfl) ?_ | refine yN (by rfl) (by rfl) ?_ | refine yV (yJ _ _) (by rfl) ?_ | refine yN (yJ _ _) (by rfl) ?_) | (refine g_cells ?_; first | refine vL (by omega) (by omega) ?_ | refine xJ (Nat.le_of_ble_eq_true (by rfl)) ?_) | (refine g_st ?_; first | refine yP (by rfl) (by rfl) (by rfl) (Nat.le_of_ble_eq_true (by rfl)) ?_) | (refine g_b ?_; first | refine b_r ?_ | refine b_n ?_) | (refine g_r ?_; first | refine r_tmp (by rfl) ?_ | refine r_cell ?_ | refine r_nil ?_))
 exact hgo.out) : A := h ⟨k⟩
section
variable {α : Type} {E : El α}
theorem app_ls {F R : Hp} {el : TypeId} {es bytes : Nat} {s x : Option V} {K : V → Hp → Prop} {c d : C} {out l : List α} {H : Hp} (hH : H = F ++ R) (ho : Out E el F.length (F ++ R) c out) (hs : s = some (.c c)) (hx : x = some (.c d)) (hd : Ls E d l) (he : E.s = es) (hl : (out.length + l.length) * bytes ≤ 140737488355328 ∧ out.length + l.length ≤ 140737488355328)
  (k : ∀ R' c', Out E el F.length (F ++ R') c' (out ++ l) → K (.c c') (F ++ R')) : appX H el es bytes s x K := by
 subst hH hs hx he
 obtain ⟨xs, hxs, hm, hxl, hxe⟩ : ∃ xs, tF (F ++ R) E.s d = some xs ∧ gO d = some l.length ∧ xs.length = l.length * E.s ∧ Els E xs l := by
  cases hd with
  | nil => exact ⟨[], rfl, rfl, by simp, .nil⟩
  | @imm ds l h =>
   have h2 := h.len
   exact ⟨ds, by simp only [tF]; rw [List.take_of_length_le (by omega)], rfl, h2, h⟩
 cases ho with
 | nil =>
  simp only [appX, hxs, hm]
  refine yZ (by simp [hxl]) ?_
  rcases Nat.eq_zero_or_pos l.length with h0 | h0
  ·have : l = [] := List.eq_nil_of_length_eq_zero h0
   subst this
   exact jA rfl (k _ _ .nil)
  ·refine sT (by cases hL : l.length; omega; rfl) (yZ (by simp only [List.length_nil, Nat.zero_add] at hl; simp only [Bool.and_eq_true, yI]; exact hl) ?_)
   have := k (R ++ [.live ⟨xs, el, .rw⟩]) (.sl (F ++ R).length 0 l.length none E.s) (.sl (cells := xs) (ds := xs) (by simp) (by rw [← List.append_assoc]; exact yJ _ _) rfl (by simp only [List.nil_append]; exact List.take_of_length_le (by omega)) hxe)
   rw [← List.append_assoc] at this
   exact this
 | @sl b n co' cells ds l' hm' hb hn hc h =>
  subst hn
  have hdl : (cells.take (out.length * E.s)).length = out.length * E.s := by rw [hc]; exact h.len
  have hle : out.length * E.s ≤ cells.length := by
   rw [List.length_take] at hdl
   omega
  have hlt := lt_of_getElem? hb
  refine app_sl (cs := cells) (xs := xs) (m := l.length) rfl rfl hxs hm hxl hb hle hl.1 hl.2 ?_
  have e : (F ++ R).set b .dead = F ++ R.set (b - F.length) .dead := List.set_append_right _ _ hm'
  have e' : (F ++ R).length = (F ++ R.set (b - F.length) .dead).length := by simp
  rw [e, e', List.append_assoc]
  refine k _ _ (.sl (cells := cells.take (out.length * E.s) ++ xs) (ds := ds ++ xs) (by simp) (by rw [← List.append_assoc]; exact yJ _ _) (by simp) ?_ (h.append hxe))
  rw [hc]
  exact List.take_of_length_le (by rw [List.length_append, List.length_append, h.len, hxl, Nat.add_mul]; exact Nat.le_refl _)
end
def lowI (xs : List Rat) (x : Rat) : Nat := xs.findIdx (fun a => decide (x ≤ a))
theorem lowI_eq {xs : List Rat} {x : Rat} {i : Nat} (hi : i ≤ xs.length) (h : ∀ j, j < i → xs.getD j 0 < x) (h2 : i < xs.length → x ≤ xs.getD i 0) : lowI xs x = i := by
 unfold lowI
 rcases Nat.lt_or_ge i xs.length with hlt | hge
 ·rw [List.findIdx_eq hlt]
  refine ⟨by have := h2 hlt; rw [yX hlt] at this; simpa using this, fun j hj => ?_⟩
  have := h j hj
  rw [yX (show j < xs.length by omega)] at this
  simpa using Rat.not_le.2 this
 ·have : i = xs.length := by omega
  subst this
  rw [List.findIdx_eq_length]
  intro a ha
  obtain ⟨j, hj, rfl⟩ := List.getElem_of_mem ha
  have := h j hj
  rw [yX hj] at this
  simpa using Rat.not_le.2 this
abbrev Tb : Type := Int × List R2 × List R2
def noTb : Tb := (0, [], [])
noncomputable def refR (pc : Nat → Rat → Rat) (kind : Int) (X Y : List R2) (x : R2) : Tb × Int :=
 bif dec (tH kind X Y [x] = 0) then
  bif dec (lowI (X.map rt) (rt x) < X.length ∧ X.getD (lowI (X.map rt) (rt x)) (0, 0) = x) then (noTb, 5) else
  bif dec (lowI (X.map rt) (rt x) = 0 ∨ lowI (X.map rt) (rt x) = X.length) then (noTb, 7) else
  bif dec (X.length = 24) then (noTb, 3) else
  bif dec ((numR (valR pc (X.map rt) (Y.map rt) (rt x))).2 = 0) then ((kind, insA X (lowI (X.map rt) (rt x)) x, insA Y (lowI (X.map rt) (rt x)) (numR (valR pc (X.map rt) (Y.map rt) (rt x))).1), 0)
  else (noTb, (numR (valR pc (X.map rt) (Y.map rt) (rt x))).2)
 else (noTb, tH kind X Y [x])
def RefK (r : Tb × Int) (u : V) : Prop := ∃ c d, Ls elP c r.1.2.1 ∧ Ls elP d r.1.2.2 ∧ u = .tup [.agg [iC r.1.1, c, d], i64 r.2]
theorem refK_of {r : Tb × Int} {kind : Int} {l m : List R2} {H : Hp} {u : V} (h : ∃ d, FzV H u d ∧ ∃ c d', Ls elP c l ∧ Ls elP d' m ∧ d = .tup [.agg [iC kind, c, d'], i64 0]) (hr : r = ((kind, l, m), 0)) : ∃ d, FzV H u d ∧ RefK r d := by
 obtain ⟨d, h1, h2⟩ := h
 subst hr
 exact ⟨d, h1, h2⟩
theorem RefK.bad {r : Tb × Int} {e : Int} {H : Hp} (h : r = (noTb, e)) : ∃ d, FzV H (.tup [.agg [.int .i64 0, .nilSl, .nilSl], i64 e]) d ∧ RefK r d := by
 subst h
 exact ⟨_, .tup (.cons (.agg (.hf ⟨trivial, trivial, trivial, trivial⟩)) (.cons (.c (.hf trivial)) .nil)), .nilSl, .nilSl, .nil, .nil, rfl⟩
theorem eq_pair (p q : R2) (X : Bool) : (bif false then X else (p.1 == q.1 && (p.2 == q.2 && true))) = dec (p = q) := by
 have := ne_pair p q true
 simp only [cond_true, cond_false] at this ⊢
 cases h1 : (p.1 == q.1 && (p.2 == q.2 && true)) <;> cases h2 : dec (p = q) <;> simp_all
theorem ref_with {pc : Nat → Rat → Rat} {kind : Int} {X Y : List R2} {x : R2} (h : tH kind X Y [x] ≠ 0) : refR pc kind X Y x = (noTb, tH kind X Y [x]) := by
 unfold refR
 rw [yK.2 h]
 rfl
section
variable {pc : Nat → Rat → Rat} {kind : Int} {X Y : List R2} {x : R2} {i : Nat}
theorem ref_twice (h : tH kind X Y [x] = 0) (hi : lowI (X.map rt) (rt x) = i) (h1 : i < X.length ∧ X.getD i (0, 0) = x) : refR pc kind X Y x = (noTb, 5) := by
 unfold refR
 rw [yI.2 h, hi, yI.2 h1]
 rfl
theorem gP (h : tH kind X Y [x] = 0) (hi : lowI (X.map rt) (rt x) = i) (h1 : ¬ (i < X.length ∧ X.getD i (0, 0) = x)) (h2 : i = 0 ∨ i = X.length) : refR pc kind X Y x = (noTb, 7) := by
 unfold refR
 rw [yI.2 h, hi, yK.2 h1, yI.2 h2]
 rfl
theorem ref_large (h : tH kind X Y [x] = 0) (hi : lowI (X.map rt) (rt x) = i) (h1 : ¬ (i < X.length ∧ X.getD i (0, 0) = x)) (h2 : ¬ (i = 0 ∨ i = X.length)) (h3 : X.length = 24) : refR pc kind X Y x = (noTb, 3) := by
 unfold refR
 rw [yI.2 h, hi, yK.2 h1, yK.2 h2, yI.2 h3]
 rfl
theorem ref_num (h : tH kind X Y [x] = 0) (hi : lowI (X.map rt) (rt x) = i) (h1 : ¬ (i < X.length ∧ X.getD i (0, 0) = x)) (h2 : ¬ (i = 0 ∨ i = X.length)) (h3 : ¬ X.length = 24) (h4 : (numR (valR pc (X.map rt) (Y.map rt) (rt x))).2 ≠ 0) : refR pc kind X Y x = (noTb, (numR (valR pc (X.map rt) (Y.map rt) (rt x))).2) := by
 unfold refR
 rw [yI.2 h, hi, yK.2 h1, yK.2 h2, yK.2 h3, yK.2 h4]
 rfl
theorem ref_ok (h : tH kind X Y [x] = 0) (hi : lowI (X.map rt) (rt x) = i) (h1 : ¬ (i < X.length ∧ X.getD i (0, 0) = x)) (h2 : ¬ (i = 0 ∨ i = X.length)) (h3 : ¬ X.length = 24) (h4 : (numR (valR pc (X.map rt) (Y.map rt) (rt x))).2 = 0) : refR pc kind X Y x = ((kind, insA X i x, insA Y i (numR (valR pc (X.map rt) (Y.map rt) (rt x))).1), 0) := by
 unfold refR
 rw [yI.2 h, hi, yK.2 h1, yK.2 h2, yK.2 h3, yI.2 h4]
 rfl
end
attribute [local irreducible] yA semH semC qLen qNil qIad qSlc qIdx xA yM xH appX appI slcX awpF yQ xM xopF xT qval lval seqQ xO wT wL wI cnd arith IntKind.wrap
theorem table_Refine {cx cy : C} {X Y : List R2} (kind : Int) (x : R2) (hx : Ls elP cx X) (hy : Ls elP cy Y) : semC Tryz.prog n_table_Refine [.agg [iC kind, cx, cy], .agg (ratC x)] (RefK (refR (sB kind (X.map rt) (Y.map rt)) kind X Y x)) := by
 refine yC ok_table_Refine rfl (show HFVs [.agg [iC kind, cx, cy], .agg (ratC x)] from ⟨⟨trivial, hx.hf, hy.hf, trivial⟩, sN _, trivial⟩) ?_
 have hc : Ls elP (.imm 1 (ratC x)) [x] := .imm (.one rfl)
 refine go9 ?_
 simp only [uA, vW, ratC, uX, uW, List.set_cons_zero, List.set_cons_succ, List.nil_append, List.cons_append, List.append_nil, List.replicate_succ, List.replicate_zero, List.length_cons, List.length_nil, splice, List.take_succ_cons, List.take_zero, List.drop_succ_cons, List.drop_zero, List.take_nil, List.drop_nil, Nat.zero_add, Nat.reduceAdd, Nat.reduceMul, Int.reduceToNat, xS, List.getElem?_cons_succ, List.getElem?_cons_zero]
 refine yB (table_with kind hx hy hc (by simp)) (fun u hu => ?_)
 obtain rfl := hu
 refine go9 ?_
 rw [neq_dec]
 cases h1 : dec (tH kind X Y [x] ≠ 0)
 case true =>
  refine go9 ?_
  exact RefK.bad (ref_with (yI.1 h1))
 have h1 : tH kind X Y [x] = 0 := Classical.byContradiction (yK.1 h1)
 obtain ⟨h2, h3⟩ := jI h1
 have hv := qT h2
 have vX := hv.2.2.2.2.2.1
 have vx := h3 x (by simp)
 have hn := hv.1
 refine go9 ?_
 simp only [uA, vW, ratC, uX, uW, List.set_cons_zero, List.set_cons_succ, List.nil_append, List.cons_append, List.append_nil, List.replicate_succ, List.replicate_zero, List.length_cons, List.length_nil, splice, List.take_succ_cons, List.take_zero, List.drop_succ_cons, List.drop_zero, List.take_nil, List.drop_nil, Nat.zero_add, Nat.reduceAdd, Nat.reduceMul, Int.reduceToNat, xS, List.getElem?_cons_succ, List.getElem?_cons_zero]
 refine yS (fun w vs H => ∃ (i : Nat), vs = [.c (.ptr 0 0), .c (.ptr 1 0), .c (.ptr 2 0), i64 X.length, i64 i] ∧ H = [.live ⟨[iC kind, cx, cy], xR, .rw⟩, .live ⟨ratC x, xL, .rw⟩, .live ⟨[.int .i64 0, .nilSl, .nilSl], xR, .rw⟩] ∧ w = X.length - i ∧ i ≤ X.length ∧ ∀ j, j < i → (X.map rt).getD j 0 < rt x) (by rfl) ⟨0, rfl, rfl, rfl, by omega, fun j h => by omega⟩ ?_
 rintro w vs H ⟨i, rfl, rfl, rfl, i1, i2⟩
 have hml : (X.map rt).length = X.length := by simp
 refine go9 ?_
 cases hi : yA Cm.lss (i : Int) (X.length : Int)
 case false =>
  simp [yA] at hi
  have ei : i = X.length := by omega
  have hlo := lowI_eq (xs := X.map rt) (x := rt x) (i := i) (by omega) i2 (fun h => by omega)
  have hno : ¬ (i < X.length ∧ X.getD i (0, 0) = x) := by omega
  refine go9 ?_
  rw [show yA Cm.lss (i : Int) (X.length : Int) = false by simp [yA]; omega]
  refine go9 ?_
  cases c0 : yA Cm.eql (i : Int) 0
  case true =>
   refine go9 ?_
   exact RefK.bad (gP h1 hlo hno (.inr ei))
  refine go9 ?_
  rw [show yA Cm.eql (i : Int) (X.length : Int) = true by simp [yA]; omega]
  refine go9 ?_
  exact RefK.bad (gP h1 hlo hno (.inr ei))
 simp [yA] at hi
 refine go9 ?_
 refine xW hx (i := i) hi (by omega) rfl (fun cs hcs => ?_)
 obtain rfl := hcs
 refine go9 ?_
 refine yG (q_Of (vX _ (sP hi))) (fun u hu => ?_)
 obtain ⟨es, rfl, g1⟩ := hu
 refine go9 ?_
 refine yG (q_Of vx) (fun u hu => ?_)
 obtain ⟨fs, rfl, g2⟩ := hu
 refine go9 ?_
 refine yG (q_Cmp2 g1 g2 (by decide)) (fun u hu => ?_)
 obtain rfl := hu
 refine go9 ?_
 rw [cq_lss]
 have eX : (X.map rt).getD i 0 = rt X[i] := by rw [yX (by omega)]; simp
 cases hlt : dec (rt X[i] < rt x)
 case true =>
  refine go9 ?_
  rw [xD i (by omega)]
  refine l_n (by rfl) (n' := X.length - (i + 1)) (by omega) ⟨i + 1, rfl, rfl, rfl, by omega, fun j hj => ?_⟩
  rcases Nat.lt_or_ge j i with h | h
  ·exact i2 j h
  ·have : j = i := by omega
   subst this
   rw [eX]
   exact yI.1 hlt
 have hlt := yK.1 hlt
 have hlo := lowI_eq (xs := X.map rt) (x := rt x) (i := i) (by omega) i2 (fun h => by rw [eX]; exact Rat.not_lt.1 hlt)
 refine go9 ?_
 rw [show yA Cm.lss (i : Int) (X.length : Int) = true by simp [yA]; omega]
 refine go9 ?_
 refine xW hx (i := i) hi (by omega) rfl (fun cs hcs => ?_)
 obtain rfl := hcs
 refine go9 ?_
 rw [show (bif false then !((X[i]).1 == x.1 && ((X[i]).2 == x.2 && true)) else ((X[i]).1 == x.1 && ((X[i]).2 == x.2 && true))) = dec (X[i] = x) from eq_pair X[i] x _]
 have eD : X.getD i (0, 0) = X[i] := by simp [List.getD, hi]
 cases hE : dec (X[i] = x)
 case true =>
  refine go9 ?_
  exact RefK.bad (ref_twice h1 hlo ⟨hi, by rw [eD]; exact yI.1 hE⟩)
 have hno : ¬ (i < X.length ∧ X.getD i (0, 0) = x) := fun h => yK.1 hE (by rw [← eD]; exact h.2)
 refine go9 ?_
 cases c0 : yA Cm.eql (i : Int) 0
 case true =>
  simp [yA] at c0
  refine go9 ?_
  exact RefK.bad (gP h1 hlo hno (.inl c0))
 simp [yA] at c0
 refine go9 ?_
 rw [show yA Cm.eql (i : Int) (X.length : Int) = false by simp [yA]; omega]
 have hno2 : ¬ (i = 0 ∨ i = X.length) := by omega
 refine go9 ?_
 cases c1 : yA Cm.eql (X.length : Int) 24
 case true =>
  simp [yA] at c1
  refine go9 ?_
  exact RefK.bad (ref_large h1 hlo hno hno2 (by omega))
 simp [yA] at c1
 have hno3 : ¬ X.length = 24 := by omega
 refine go9 ?_
 refine yG (table_made (kind := kind) hx hy h2) (fun u hu => ?_)
 obtain ⟨s, dx, dy, K, rfl, hK, hS⟩ := hu
 refine go9 ?_
 refine yG (q_Of vx) (fun u hu => ?_)
 obtain ⟨fs, rfl, g2⟩ := hu
 refine go9 ?_
 refine yG (table_value hS g2 (evK_cap hK.2)) (fun u hu => ?_)
 obtain ⟨gs, rfl, g3⟩ := hu
 refine go9 ?_
 refine yG (gB g3) (fun u hu => ?_)
 obtain rfl := hu
 have hN := ref_num (pc := sB kind (X.map rt) (Y.map rt)) (kind := kind) (Y := Y) h1 hlo hno hno2 hno3
 have hO := ref_ok (pc := sB kind (X.map rt) (Y.map rt)) (kind := kind) (Y := Y) h1 hlo hno hno2 hno3
 generalize numR (valR (sB kind (X.map rt) (Y.map rt)) (X.map rt) (Y.map rt) (rt x)) = r at hN hO
 obtain ⟨v, e⟩ := r
 refine go9 ?_
 simp only [uA, vW, ratC, uX, uW, List.set_cons_zero, List.set_cons_succ, List.nil_append, List.cons_append, List.append_nil, List.replicate_succ, List.replicate_zero, List.length_cons, List.length_nil, splice, List.take_succ_cons, List.take_zero, List.drop_succ_cons, List.drop_zero, List.take_nil, List.drop_nil, Nat.zero_add, Nat.reduceAdd, Nat.reduceMul, Int.reduceToNat, xS, List.getElem?_cons_succ, List.getElem?_cons_zero]
 cases he : yA Cm.neq e 0
 case true =>
  simp [yA] at he
  refine go9 ?_
  exact RefK.bad (hN he)
 simp [yA] at he
 have hO := hO he
 refine go10 ?_
 simp only [uA, vW, ratC, uX, uW, List.set_cons_zero, List.set_cons_succ, List.nil_append, List.cons_append, List.append_nil, List.replicate_succ, List.replicate_zero, List.length_cons, List.length_nil, splice, List.take_succ_cons, List.take_zero, List.drop_succ_cons, List.drop_zero, List.take_nil, List.drop_nil, Nat.zero_add, Nat.reduceAdd, Nat.reduceMul, Int.reduceToNat, xS, List.getElem?_cons_succ, List.getElem?_cons_zero]
 have hyl : i ≤ Y.length := by have := hv.2.2.2.2.1; omega
 refine pE (l := X) (a := 0) (b := (i : Int)) (by rfl) hx rfl (by rfl) (by rfl) (by omega) (by omega) (by omega) (fun a1 ha1 => ?_)
 rw [show (X.drop (0 : Int).toNat).take ((i : Int).toNat - (0 : Int).toNat) = X.take i by simp] at ha1
 refine go10 ?_
 refine pE (l := X) (a := (i : Int)) (b := (X.length : Int)) (by rfl) hx rfl (by rfl) (by rfl) (by omega) (by omega) (by omega) (fun a2 ha2 => ?_)
 rw [show (X.drop (i : Int).toNat).take ((X.length : Int).toNat - (i : Int).toNat) = X.drop i by
  simp only [Int.toNat_natCast]
  exact List.take_of_length_le (by simp)] at ha2
 refine go10 ?_
 refine app_ls (bytes := 16) (F := RefH kind cx cy .nilSl x v) (R := []) (out := []) rfl .nil (by rfl) (by rfl) ha1 rfl (by simp; omega) (fun R1 o1 q1 => ?_)
 refine ⟨jV (F := RefH kind cx cy .nilSl x v) (R := []) (by rfl), ?_⟩
 refine go10 ?_
 refine gF (bytes := 16) (F := RefH kind cx cy .nilSl x v) (R := R1) (a := x) rfl q1 (by rfl) (by rfl) rfl (by rfl) (by simp; omega) (fun R2 o2 q2 => ?_)
 refine ⟨jV (F := RefH kind cx cy .nilSl x v) (R := R1) (by rfl), ?_⟩
 refine go10 ?_
 refine app_ls (bytes := 16) (F := RefH kind cx cy .nilSl x v) (R := R2) rfl q2 (by rfl) (by rfl) ha2 rfl (by simp; omega) (fun R3 o3 q3 => ?_)
 refine ⟨jV (F := RefH kind cx cy .nilSl x v) (R := R2) (by rfl), ?_⟩
 rw [show ([] ++ X.take i ++ [x]) ++ X.drop i = insA X i x by simp [insA]] at q3
 refine go10 ?_
 have q3 : Out elP xL 5 (RefH kind cx cy o3 x v ++ R3) o3 (insA X i x) := q3.swap (G := RefH kind cx cy o3 x v) rfl
 refine pE (l := Y) (a := 0) (b := (i : Int)) (by rfl) hy rfl (by rfl) (by rfl) (by omega) (by omega) (by omega) (fun b1 hb1 => ?_)
 rw [show (Y.drop (0 : Int).toNat).take ((i : Int).toNat - (0 : Int).toNat) = Y.take i by simp] at hb1
 refine go10 ?_
 refine pE (l := Y) (a := (i : Int)) (b := (Y.length : Int)) (by rfl) hy rfl (by rfl) (by rfl) (by omega) (by omega) (by omega) (fun b2 hb2 => ?_)
 rw [show (Y.drop (i : Int).toNat).take ((Y.length : Int).toNat - (i : Int).toNat) = Y.drop i by
  simp only [Int.toNat_natCast]
  exact List.take_of_length_le (by simp)] at hb2
 refine go10 ?_
 refine app_ls (bytes := 16) (F := RefH kind cx cy o3 x v ++ R3) (R := []) (out := []) (List.append_nil _).symm .nil (by rfl) (by rfl) hb1 rfl (by simp; omega) (fun R4 o4 q4 => ?_)
 refine ⟨keep_low3 (F := RefH kind cx cy o3 x v) (R := R3) (by rfl), ?_⟩
 refine go10 ?_
 refine gF (bytes := 16) (F := RefH kind cx cy o3 x v ++ R3) (R := R4) (a := v) rfl q4 (by rfl) (by rfl) rfl (by rfl) (by simp; omega) (fun R5 o5 q5 => ?_)
 refine ⟨keep_low2 (F := RefH kind cx cy o3 x v) (R := R3) (by rfl), ?_⟩
 refine go10 ?_
 refine app_ls (bytes := 16) (F := RefH kind cx cy o3 x v ++ R3) (R := R5) rfl q5 (by rfl) (by rfl) hb2 rfl (by simp; omega) (fun R6 o6 q6 => ?_)
 refine ⟨keep_low2 (F := RefH kind cx cy o3 x v) (R := R3) (by rfl), ?_⟩
 rw [show ([] ++ Y.take i ++ [v]) ++ Y.drop i = insA Y i v by simp [insA]] at q6
 refine go10 ?_
 have hz := refine_fz (x := x) q3 q6
 refine refK_of (r := refR (sB kind (X.map rt) (Y.map rt)) kind X Y x) ?_ hO
 exact hz
end Go.Proofs.YtjncgcnofiaiaaaGreat

set_option linter.unusedVariables false
set_option linter.unusedSimpArgs false
namespace Go.Proofs.YtjncgcnofiaiaaaGreat
open Go.RowKit
set_option maxRecDepth 20000
noncomputable def outsR (m : List Rat) : List R2 × Bool := bif dec (∀ q ∈ m, fitR (rp q) = true) then (m.map rp, true) else ([], false)
def OutsK (m : List Rat) (u : V) : Prop := ∃ c, Ls elP c (outsR m).1 ∧ u = .tup [.c c, .c (.bool (outsR m).2)]
theorem OutsK.no {m : List Rat} {q : Rat} {H : Hp} (hq : q ∈ m) (h : fitR (rp q) = false) : ∃ d, FzV H (.tup [.c .nilSl, .c (.bool false)]) d ∧ OutsK m d := by
 refine ⟨_, .tup (.cons (.c (.hf trivial)) (.cons (.c (.hf trivial)) .nil)), .nilSl, ?_⟩
 unfold outsR
 rw [yK.2 (fun h2 => by have := h2 q hq; rw [h] at this; cases this)]
 exact ⟨.nil, rfl⟩
theorem OutsK.yes {m : List Rat} {c : C} {H : Hp} {d : C} (h : ∀ q ∈ m, fitR (rp q) = true) (hf : Fz (· ≠ .bor) H c d) (hc : Ls elP d (m.map rp)) : ∃ d, FzV H (.tup [.c c, .c (.bool true)]) d ∧ OutsK m d := by
 refine ⟨_, .tup (.cons (.c hf) (.cons (.c (.hf trivial)) .nil)), d, ?_⟩
 unfold outsR
 rw [yI.2 h]
 exact ⟨hc, rfl⟩
def GiveK (r : List R2 × Int) (u : V) : Prop := ∃ c, Ls elP c r.1 ∧ r.1.length ≤ 13 ∧ u = .tup [.c c, i64 r.2]
theorem GiveK.bad {r : List R2 × Int} {e : Int} {H : Hp} (h : r = ([], e)) : ∃ d, FzV H (.tup [.c .nilSl, i64 e]) d ∧ GiveK r d := by
 subst h
 exact ⟨_, .tup (.cons (.c (.hf trivial)) (.cons (.c (.hf trivial)) .nil)), .nilSl, .nil, Nat.zero_le _, rfl⟩
theorem GiveK.of {r : List R2 × Int} {l : List R2} {e : Int} {c : C} {H : Hp} (h : r = (l, e)) (hc : Ls elP c l) (hl : l.length ≤ 13) : ∃ d, FzV H (.tup [.c c, i64 e]) d ∧ GiveK r d := by
 subst h
 exact ⟨_, .tup (.cons (.c (.hf hc.hf)) (.cons (.c (.hf trivial)) .nil)), c, hc, hl, rfl⟩
attribute [local irreducible] yA semH semC qLen qNil qIad qSlc qIdx xA yM xH appX appI slcX awpF yQ xM xopF xT qval lval seqQ xO wT wL wI cnd arith IntKind.wrap
end Go.Proofs.YtjncgcnofiaiaaaGreat

set_option linter.unusedVariables false
set_option linter.unusedSimpArgs false
namespace Go.Proofs.YtjncgcnofiaiaaaGreat
open Go.RowKit
set_option maxRecDepth 20000
def SlopeK (r : R2 × Bool × Int) (u : V) : Prop := u = .tup [.agg (ratC r.1), .c (.bool r.2.1), i64 r.2.2]
theorem SlopeK.of {r : R2 × Bool × Int} {v : R2} {b : Bool} {e : Int} {H : Hp} (h : r = (v, b, e)) : ∃ d, FzV H (.tup [.agg (ratC v), .c (.bool b), i64 e]) d ∧ SlopeK r d := by
 subst h
 exact ⟨_, .tup (.cons (.agg (.hf (sN _))) (.cons (.c (.hf trivial)) (.cons (.c (.hf trivial)) .nil))), rfl⟩
theorem SlopeK.bad {r : R2 × Bool × Int} {e : Int} {H : Hp} (h : r = ((0, 0), false, e)) : ∃ d, FzV H (.tup [.agg [.int .i64 0, .int .i64 0], .c (.bool false), i64 e]) d ∧ SlopeK r d := SlopeK.of h
attribute [local irreducible] yA semH semC qLen qNil qIad qSlc qIdx xA yM xH appX appI slcX awpF yQ xM xopF xT qval lval seqQ xO wT wL wI cnd arith IntKind.wrap
end Go.Proofs.YtjncgcnofiaiaaaGreat

set_option linter.unusedVariables false
set_option linter.unusedSimpArgs false
namespace Go.Proofs.YtjncgcnofiaiaaaGreat
open Go.RowKit
set_option maxRecDepth 20000
theorem numR_zero {q : Rat} (h : (numR q).2 = 0) : (numR q).1 = rp q ∧ fitR (rp q) = true := by
 unfold numR at h ⊢
 cases hf : fitR (rp q)
 ·rw [hf] at h
  cases h
 ·exact ⟨rfl, rfl⟩
theorem fit_rat {q : Rat} (h : fitR (rp q) = true) : tU (rp q).1 (rp q).2 := by
 unfold fitR at h
 have h1 := yI.1 h
 have h2 := rp_good q
 exact ⟨by have := h2.1; omega, h1.2.2, h1.1, h1.2.1, h2.2⟩
theorem lowI_spec (xs : List Rat) (x : Rat) : lowI xs x ≤ xs.length ∧ (∀ j, j < lowI xs x → xs.getD j 0 < x) ∧ (lowI xs x < xs.length → x ≤ xs.getD (lowI xs x) 0) := by
 unfold lowI
 refine ⟨List.findIdx_le_length, fun j hj => ?_, fun h => ?_⟩
 ·have hl : j < xs.length := Nat.lt_of_lt_of_le hj List.findIdx_le_length
  have := List.not_of_lt_findIdx hj
  rw [yX hl]
  exact Rat.not_le.1 (by simpa using this)
 ·have := List.findIdx_getElem (w := h)
  rw [yX h]
  simpa using this
theorem ref_cases (pc : Nat → Rat → Rat) (kind : Int) (X Y : List R2) (x : R2) : (∃ e, e ≠ 0 ∧ refR pc kind X Y x = (noTb, e)) ∨ (∃ i, tH kind X Y [x] = 0 ∧ 0 < i ∧ i < X.length ∧ X.length < 24 ∧ (X.map rt).getD (i - 1) 0 < rt x ∧ rt x < (X.map rt).getD i 0 ∧ fitR (rp (valR pc (X.map rt) (Y.map rt) (rt x))) = true ∧ refR pc kind X Y x = ((kind, insA X i x, insA Y i (rp (valR pc (X.map rt) (Y.map rt) (rt x)))), 0)) := by
 cases h1 : dec (tH kind X Y [x] = 0)
 case false => exact .inl ⟨_, yK.1 h1, ref_with (yK.1 h1)⟩
 have h1 := yI.1 h1
 obtain ⟨v1, v2⟩ := jI h1
 obtain ⟨v3, v4⟩ := qT v1
 obtain ⟨s1, s2, s3⟩ := lowI_spec (X.map rt) (rt x)
 obtain ⟨i, hi⟩ : ∃ i, lowI (X.map rt) (rt x) = i := ⟨_, rfl⟩
 rw [hi] at s1 s2 s3
 simp only [List.length_map] at s1 s3
 by_cases h2 : i < X.length ∧ X.getD i (0, 0) = x
 ·exact .inl ⟨5, by decide, ref_twice h1 hi h2⟩
 by_cases h3 : i = 0 ∨ i = X.length
 ·exact .inl ⟨7, by decide, gP h1 hi h2 h3⟩
 by_cases h4 : X.length = 24
 ·exact .inl ⟨3, by decide, ref_large h1 hi h2 h3 h4⟩
 by_cases h5 : (numR (valR pc (X.map rt) (Y.map rt) (rt x))).2 = 0
 ·have h6 := ref_ok h1 hi h2 h3 h4 h5 (Y := Y)
  obtain ⟨h7, h8⟩ := numR_zero h5
  rw [h7] at h6
  have hlt : i < X.length := by omega
  refine .inr ⟨i, h1, by omega, hlt, by omega, s2 _ (by omega), ?_, h8, h6⟩
  have h9 := s3 hlt
  rcases Rat.le_iff_lt_or_eq.1 h9 with h | h
  ·exact h
  ·refine absurd ⟨hlt, ?_⟩ h2
   have e1 : (X.map rt).getD i 0 = rt X[i] := by rw [yX (by simpa using hlt)]; simp
   rw [e1] at h
   have e2 : X.getD i (0, 0) = X[i] := by simp [List.getD, hlt]
   rw [e2]
   have g1 := (v4.2.2.2.2.1 _ (sP hlt)).rp
   have g2 := (v2 x (by simp)).rp
   rw [← g1, ← g2, h]
 ·exact .inl ⟨_, h5, ref_num h1 hi h2 h3 h4 h5⟩
abbrev RefG (kind : Int) (cx cy o : C) (x v : R2) (t q : List C) : Hp := [.live ⟨[iC kind, cx, cy], xR, .rw⟩, .live ⟨ratC x, xL, .rw⟩, .live ⟨[.int .i64 0, .nilSl, .nilSl], xR, .rw⟩, .live ⟨t, vJ, .rw⟩, .live ⟨q, yF, .rw⟩, .live ⟨ratC v, xL, .rw⟩, .live ⟨[iC kind, o, .nilSl], xR, .rw⟩]
theorem refine_fz2 {kind : Int} {cx cy o3 o6 : C} {x v : R2} {t q : List C} {R3 R6 : Hp} {l m : List R2} (q3 : Out elP xL 7 (RefG kind cx cy o3 x v t q ++ R3) o3 l) (q6 : Out elP xL (RefG kind cx cy o3 x v t q ++ R3).length (RefG kind cx cy o3 x v t q ++ R3 ++ R6) o6 m) :
  ∃ d, FzV (([.live ⟨[iC kind, cx, cy], xR, .rw⟩, .live ⟨ratC x, xL, .rw⟩, .live ⟨[iC kind, o3, o6], xR, .rw⟩, .live ⟨t, vJ, .rw⟩, .live ⟨q, yF, .rw⟩, .live ⟨ratC v, xL, .rw⟩, .live ⟨[iC kind, o3, o6], xR, .rw⟩] ++ R3) ++ R6) (.tup [.agg [iC kind, o3, o6], i64 0]) d ∧ ∃ c d', Ls elP c l ∧ Ls elP d' m ∧ d = .tup [.agg [iC kind, c, d'], i64 0] := by
 obtain ⟨d3, f3, l3⟩ := (Out.ext (S := R6) (Out.swap (F := RefG kind cx cy o3 x v t q) (G := [.live ⟨[iC kind, cx, cy], xR, .rw⟩, .live ⟨ratC x, xL, .rw⟩, .live ⟨[iC kind, o3, o6], xR, .rw⟩, .live ⟨t, vJ, .rw⟩, .live ⟨q, yF, .rw⟩, .live ⟨ratC v, xL, .rw⟩, .live ⟨[iC kind, o3, o6], xR, .rw⟩]) q3 rfl)).fz (p := (· ≠ .bor)) (by simp)
 obtain ⟨d6, f6, l6⟩ := (q6.swap (G := [.live ⟨[iC kind, cx, cy], xR, .rw⟩, .live ⟨ratC x, xL, .rw⟩, .live ⟨[iC kind, o3, o6], xR, .rw⟩, .live ⟨t, vJ, .rw⟩, .live ⟨q, yF, .rw⟩, .live ⟨ratC v, xL, .rw⟩, .live ⟨[iC kind, o3, o6], xR, .rw⟩] ++ R3) (by simp)).fz (p := (· ≠ .bor)) (by simp)
 exact ⟨_, .tup (.cons (.agg (.cons (.hf trivial) (.cons f3 (.cons f6 .nil)))) (.cons (.c (.hf trivial)) .nil)), d3, d6, l3, l6, rfl⟩
theorem map_insA {X : List R2} {i : Nat} {x : R2} : (insA X i x).map rt = insA (X.map rt) i (rt x) := insA_map rt
theorem ref_valid {kind : Int} {X Y : List R2} {x v : R2} {i : Nat} (h : tH kind X Y [x] = 0) (h0 : 0 < i) (hi : i < X.length) (hl : X.length < 24) (h1 : (X.map rt).getD (i - 1) 0 < rt x) (h2 : rt x < (X.map rt).getD i 0) (hv : tU v.1 v.2) : valE kind (insA X i x) (insA Y i v) = 0 := by
 obtain ⟨v1, v2⟩ := jI h
 obtain ⟨v3, k0, k3, ne, le, vx, vy, rs⟩ := qT v1
 have l1 : (insA X i x).length = X.length + 1 := bU (by omega)
 have l2 : (insA Y i v).length = Y.length + 1 := bU (by omega)
 refine val_ok (by omega) ⟨k0, k3, fun e => ?_, by omega, fun p hp => ?_, fun p hp => ?_, ?_⟩
 ·rw [e] at l1
  cases l1
 ·rcases insA_mem hp with h | rfl
  ·exact vx p h
  ·exact v2 _ (by simp)
 ·rcases insA_mem hp with h | rfl
  ·exact vy p h
  ·exact hv
 ·rw [map_insA]
  exact insA_rises rs h0 (by simpa using hi) h1 h2
theorem made_low {kind : Int} {xs ys : List Rat} (h : kind ≤ 1) (h0 : 0 ≤ kind) : sB kind xs ys = lowP kind xs ys := by
 unfold sB lowP
 by_cases c : kind = 0
 ·simp [c]
 ·rw [if_neg c, if_neg c, if_pos (by omega)]
theorem ref_value {kind : Int} {X Y : List R2} {x y : R2} {i : Nat} (hk : kind ≤ 1) (h : tH kind X Y [x] = 0) (h0 : 0 < i) (hi : i < X.length) (hl : X.length < 24) (h1 : (X.map rt).getD (i - 1) 0 < rt x) (h2 : rt x < (X.map rt).getD i 0) (hf : fitR (rp (valR (sB kind (X.map rt) (Y.map rt)) (X.map rt) (Y.map rt) (rt x))) = true) :
  gL (sB kind ((insA X i x).map rt) ((insA Y i (rp (valR (sB kind (X.map rt) (Y.map rt)) (X.map rt) (Y.map rt) (rt x)))).map rt)) kind (insA X i x) (insA Y i (rp (valR (sB kind (X.map rt) (Y.map rt)) (X.map rt) (Y.map rt) (rt x)))) y = gL (sB kind (X.map rt) (Y.map rt)) kind X Y y := by
 obtain ⟨v1, v2⟩ := jI h
 obtain ⟨v3, k0, k3, ne, le, vx, vy, rs⟩ := qT v1
 have hv := ref_valid (Y := Y) h h0 hi hl h1 h2 (fit_rat hf)
 have hE : tH kind (insA X i x) (insA Y i (rp (valR (sB kind (X.map rt) (Y.map rt)) (X.map rt) (Y.map rt) (rt x)))) [y] = tH kind X Y [y] := by
  by_cases c : sJ [y]
  ·rw [with_ok hv c, with_ok v1 c]
  ·rw [with_bad hv c, with_bad v1 c]
 unfold gL
 rw [hE]
 congr 2
 rw [map_insA, map_insA, rt_rp, made_low hk k0, made_low hk k0]
 exact refine_same rs (by simp [le]) h0 (by simpa using hi) h1 h2
attribute [local irreducible] yA semH semC qLen qNil qIad qSlc qIdx xA yM xH appX appI slcX awpF yQ xM xopF xT qval lval seqQ xO wT wL wI cnd arith IntKind.wrap
theorem ref24_Refine {cx cy : C} {X Y : List R2} (kind : Int) (x : R2) (hx : Ls elP cx X) (hy : Ls elP cy Y) : semC Tryz.prog n_ref24_Refine [.agg [iC kind, cx, cy], .agg (ratC x)] (RefK (refR (sB kind (X.map rt) (Y.map rt)) kind X Y x)) := by
 refine yC ok_ref24_Refine rfl (show HFVs [.agg [iC kind, cx, cy], .agg (ratC x)] from ⟨⟨trivial, hx.hf, hy.hf, trivial⟩, sN _, trivial⟩) ?_
 refine go9 ?_
 simp only [uA, vW, ratC, uX, uW, List.set_cons_zero, List.set_cons_succ, List.nil_append, List.cons_append, List.append_nil, List.replicate_succ, List.replicate_zero, List.length_cons, List.length_nil, splice, List.take_succ_cons, List.take_zero, List.drop_succ_cons, List.drop_zero, List.take_nil, List.drop_nil, Nat.zero_add, Nat.reduceAdd, Nat.reduceMul, Int.reduceToNat, xS, List.getElem?_cons_succ, List.getElem?_cons_zero]
 refine yB (ref24_Validate kind hx hy) (fun u hu => ?_)
 obtain rfl := hu
 refine go9 ?_
 rw [neq_dec]
 cases h1 : dec (valE kind X Y ≠ 0)
 case true =>
  have h1 := yI.1 h1
  refine go9 ?_
  refine RefK.bad ?_
  rw [ref_with (by rw [with_val h1]; exact h1), with_val h1]
 have h1 : valE kind X Y = 0 := Classical.byContradiction (yK.1 h1)
 refine go9 ?_
 refine yB (ref01_Is x.1 x.2) (fun u hu => ?_)
 obtain ⟨z1, rfl, k1⟩ := hu
 cases z1
 case false =>
  have hb : ¬ sJ [x] := fun h => absurd (k1.2 (h x (by simp))) (by decide)
  refine go9 ?_
  refine RefK.bad ?_
  rw [ref_with (by rw [with_bad h1 hb]; decide), with_bad h1 hb]
 have k1 := k1.1 rfl
 have hvl : sJ [x] := by
  intro p hp
  simp at hp
  subst hp
  exact k1
 have hw := with_ok h1 hvl
 obtain ⟨hn, hv⟩ := qT h1
 refine go9 ?_
 refine yG (ref24_of hx hy h1) (fun u hu => ?_)
 obtain ⟨dx, dy, K, rfl, hK, hR⟩ := hu
 have hcap : vaK K 2 4 ≤ 134217727 := by
  have := hK.2
  simp only [vaK]
  omega
 refine go9 ?_
 refine yG (r_Of k1) (fun u hu => ?_)
 obtain ⟨es, rfl, g1⟩ := hu
 obtain ⟨e1, e2, e3, e4, rfl⟩ := id g1.four
 refine go9 ?_
 simp only [uA, vW, ratC, uX, uW, List.set_cons_zero, List.set_cons_succ, List.nil_append, List.cons_append, List.append_nil, List.replicate_succ, List.replicate_zero, List.length_cons, List.length_nil, splice, List.take_succ_cons, List.take_zero, List.drop_succ_cons, List.drop_zero, List.take_nil, List.drop_nil, Nat.zero_add, Nat.reduceAdd, Nat.reduceMul, Int.reduceToNat, xS, List.getElem?_cons_succ, List.getElem?_cons_zero]
 have hX := hR.x
 have hml : (X.map rt).length = X.length := by simp
 refine yS (fun w vs H => ∃ (i : Nat), vs = [.c (.ptr 0 0), .c (.ptr 1 0), .c (.ptr 2 0), .c (.ptr 3 0), .c (.ptr 4 0), i64 i] ∧ H = [.live ⟨[iC kind, cx, cy], xR, .rw⟩, .live ⟨ratC x, xL, .rw⟩, .live ⟨[.int .i64 0, .nilSl, .nilSl], xR, .rw⟩, .live ⟨[iC kind, dx, dy], vJ, .rw⟩, .live ⟨[e1, .bool e2, e3, .bool e4], yF, .rw⟩] ∧ w = X.length - i ∧ i ≤ X.length ∧ ∀ j, j < i → (X.map rt).getD j 0 < rt x) (by rfl) ⟨0, rfl, rfl, rfl, by omega, fun j h => by omega⟩ ?_
 rintro w vs H ⟨i, rfl, rfl, rfl, i1, i2⟩
 refine go9 ?_
 rw [hml]
 cases hi : yA Cm.lss (i : Int) (X.length : Int)
 case false =>
  simp [yA] at hi
  have ei : i = X.length := by omega
  have hlo := lowI_eq (xs := X.map rt) (x := rt x) (i := i) (by omega) i2 (fun h => by omega)
  have hno : ¬ (i < X.length ∧ X.getD i (0, 0) = x) := by omega
  refine go9 ?_
  rw [hml, show yA Cm.lss (i : Int) (X.length : Int) = false by simp [yA]; omega]
  refine go9 ?_
  cases c0 : yA Cm.eql (i : Int) 0
  case true =>
   refine go9 ?_
   exact RefK.bad (gP hw hlo hno (.inr ei))
  refine go9 ?_
  rw [hml, show yA Cm.eql (i : Int) (X.length : Int) = true by simp [yA]; omega]
  refine go9 ?_
  exact RefK.bad (gP hw hlo hno (.inr ei))
 simp [yA] at hi
 have hi' : i < (X.map rt).length := by omega
 refine go9 ?_
 refine xW hX (i := i) hi' (by omega) rfl (fun cs hcs => ?_)
 refine go9 ?_
 refine yG (r_Cmp2 hcs g1 (by decide)) (fun u hu => ?_)
 obtain rfl := hu
 refine go9 ?_
 rw [cq_lss]
 have eX : (X.map rt).getD i 0 = (X.map rt)[i] := yX hi'
 cases hlt : dec ((X.map rt)[i] < rt x)
 case true =>
  refine go9 ?_
  rw [xD i (by omega)]
  refine l_n (by rfl) (n' := X.length - (i + 1)) (by omega) ⟨i + 1, rfl, rfl, rfl, by omega, fun j hj => ?_⟩
  rcases Nat.lt_or_ge j i with h | h
  ·exact i2 j h
  ·have : j = i := by omega
   subst this
   rw [eX]
   exact yI.1 hlt
 have hlt := yK.1 hlt
 have hlo := lowI_eq (xs := X.map rt) (x := rt x) (i := i) (by omega) i2 (fun h => by rw [eX]; exact Rat.not_lt.1 hlt)
 refine go9 ?_
 rw [hml, show yA Cm.lss (i : Int) (X.length : Int) = true by simp [yA]; omega]
 refine go9 ?_
 refine xW hX (i := i) hi' (by omega) rfl (fun ds hds => ?_)
 refine go9 ?_
 refine yG (r_Cmp2 hds g1 (by decide)) (fun u hu => ?_)
 obtain rfl := hu
 refine go9 ?_
 rw [cq_eql]
 have eD : X.getD i (0, 0) = X[i] := by simp [List.getD, hi]
 have eq1 : (X.map rt)[i] = rt x ↔ X[i] = x := by
  rw [List.getElem_map]
  refine ⟨fun h => ?_, fun h => by rw [h]⟩
  rw [← (hv.2.2.2.2.1 _ (sP hi)).rp, ← k1.rp, h]
 cases hE : dec ((X.map rt)[i] = rt x)
 case true =>
  refine go9 ?_
  exact RefK.bad (ref_twice hw hlo ⟨hi, by rw [eD]; exact eq1.1 (yI.1 hE)⟩)
 have hno : ¬ (i < X.length ∧ X.getD i (0, 0) = x) := fun h => yK.1 hE (eq1.2 (by rw [← eD]; exact h.2))
 refine go9 ?_
 cases c0 : yA Cm.eql (i : Int) 0
 case true =>
  simp [yA] at c0
  refine go9 ?_
  exact RefK.bad (gP hw hlo hno (.inl c0))
 simp [yA] at c0
 refine go9 ?_
 rw [hml, show yA Cm.eql (i : Int) (X.length : Int) = false by simp [yA]; omega]
 have hno2 : ¬ (i = 0 ∨ i = X.length) := by omega
 refine go9 ?_
 rw [hml]
 cases c1 : yA Cm.eql (X.length : Int) 24
 case true =>
  simp [yA] at c1
  refine go9 ?_
  exact RefK.bad (ref_large hw hlo hno hno2 (by omega))
 simp [yA] at c1
 have hno3 : ¬ X.length = 24 := by omega
 refine go9 ?_
 refine yB (ref24_value hR g1 hcap (by decide) hK.1) (fun u hu => ?_)
 obtain ⟨fs, rfl, g2⟩ := hu
 refine go9 ?_
 refine yB (ref24_number g2) (fun u hu => ?_)
 obtain rfl := hu
 have hN := ref_num (pc := sB kind (X.map rt) (Y.map rt)) (kind := kind) (Y := Y) hw hlo hno hno2 hno3
 have hO := ref_ok (pc := sB kind (X.map rt) (Y.map rt)) (kind := kind) (Y := Y) hw hlo hno hno2 hno3
 generalize numR (valR (sB kind (X.map rt) (Y.map rt)) (X.map rt) (Y.map rt) (rt x)) = r at hN hO
 obtain ⟨v, e⟩ := r
 refine go9 ?_
 simp only [uA, vW, ratC, uX, uW, List.set_cons_zero, List.set_cons_succ, List.nil_append, List.cons_append, List.append_nil, List.replicate_succ, List.replicate_zero, List.length_cons, List.length_nil, splice, List.take_succ_cons, List.take_zero, List.drop_succ_cons, List.drop_zero, List.take_nil, List.drop_nil, Nat.zero_add, Nat.reduceAdd, Nat.reduceMul, Int.reduceToNat, xS, List.getElem?_cons_succ, List.getElem?_cons_zero]
 cases he : yA Cm.neq e 0
 case true =>
  simp [yA] at he
  refine go9 ?_
  exact RefK.bad (hN he)
 simp [yA] at he
 have hO := hO he
 refine go10 ?_
 simp only [uA, vW, ratC, uX, uW, List.set_cons_zero, List.set_cons_succ, List.nil_append, List.cons_append, List.append_nil, List.replicate_succ, List.replicate_zero, List.length_cons, List.length_nil, splice, List.take_succ_cons, List.take_zero, List.drop_succ_cons, List.drop_zero, List.take_nil, List.drop_nil, Nat.zero_add, Nat.reduceAdd, Nat.reduceMul, Int.reduceToNat, xS, List.getElem?_cons_succ, List.getElem?_cons_zero]
 have hyl : i ≤ Y.length := by have := hv.2.2.2.1; omega
 refine pE (l := X) (a := 0) (b := (i : Int)) (by rfl) hx rfl (by rfl) (by rfl) (by omega) (by omega) (by omega) (fun a1 ha1 => ?_)
 rw [show (X.drop (0 : Int).toNat).take ((i : Int).toNat - (0 : Int).toNat) = X.take i by simp] at ha1
 refine go10 ?_
 refine pE (l := X) (a := (i : Int)) (b := (X.length : Int)) (by rfl) hx rfl (by rfl) (by rfl) (by omega) (by omega) (by omega) (fun a2 ha2 => ?_)
 rw [show (X.drop (i : Int).toNat).take ((X.length : Int).toNat - (i : Int).toNat) = X.drop i by
  simp only [Int.toNat_natCast]
  exact List.take_of_length_le (by simp)] at ha2
 refine go10 ?_
 refine app_ls (bytes := 16) (F := RefG kind cx cy .nilSl x v [iC kind, dx, dy] [e1, .bool e2, e3, .bool e4]) (R := []) (out := []) rfl .nil (by rfl) (by rfl) ha1 rfl (by simp; omega) (fun R1 o1 q1 => ?_)
 refine ⟨jV (F := RefG kind cx cy .nilSl x v [iC kind, dx, dy] [e1, .bool e2, e3, .bool e4]) (R := []) (by rfl), ?_⟩
 refine go10 ?_
 refine gF (bytes := 16) (F := RefG kind cx cy .nilSl x v [iC kind, dx, dy] [e1, .bool e2, e3, .bool e4]) (R := R1) (a := x) rfl q1 (by rfl) (by rfl) rfl (by rfl) (by simp; omega) (fun R2 o2 q2 => ?_)
 refine ⟨jV (F := RefG kind cx cy .nilSl x v [iC kind, dx, dy] [e1, .bool e2, e3, .bool e4]) (R := R1) (by rfl), ?_⟩
 refine go10 ?_
 refine app_ls (bytes := 16) (F := RefG kind cx cy .nilSl x v [iC kind, dx, dy] [e1, .bool e2, e3, .bool e4]) (R := R2) rfl q2 (by rfl) (by rfl) ha2 rfl (by simp; omega) (fun R3 o3 q3 => ?_)
 refine ⟨jV (F := RefG kind cx cy .nilSl x v [iC kind, dx, dy] [e1, .bool e2, e3, .bool e4]) (R := R2) (by rfl), ?_⟩
 rw [show ([] ++ X.take i ++ [x]) ++ X.drop i = insA X i x by simp [insA]] at q3
 refine go10 ?_
 have q3 : Out elP xL 7 (RefG kind cx cy o3 x v [iC kind, dx, dy] [e1, .bool e2, e3, .bool e4] ++ R3) o3 (insA X i x) := q3.swap (G := RefG kind cx cy o3 x v [iC kind, dx, dy] [e1, .bool e2, e3, .bool e4]) rfl
 refine pE (l := Y) (a := 0) (b := (i : Int)) (by rfl) hy rfl (by rfl) (by rfl) (by omega) (by omega) (by omega) (fun b1 hb1 => ?_)
 rw [show (Y.drop (0 : Int).toNat).take ((i : Int).toNat - (0 : Int).toNat) = Y.take i by simp] at hb1
 refine go10 ?_
 refine pE (l := Y) (a := (i : Int)) (b := (Y.length : Int)) (by rfl) hy rfl (by rfl) (by rfl) (by omega) (by omega) (by omega) (fun b2 hb2 => ?_)
 rw [show (Y.drop (i : Int).toNat).take ((Y.length : Int).toNat - (i : Int).toNat) = Y.drop i by
  simp only [Int.toNat_natCast]
  exact List.take_of_length_le (by simp)] at hb2
 refine go10 ?_
 refine app_ls (bytes := 16) (F := RefG kind cx cy o3 x v [iC kind, dx, dy] [e1, .bool e2, e3, .bool e4] ++ R3) (R := []) (out := []) (List.append_nil _).symm .nil (by rfl) (by rfl) hb1 rfl (by simp; omega) (fun R4 o4 q4 => ?_)
 refine ⟨keep_low3 (F := RefG kind cx cy o3 x v [iC kind, dx, dy] [e1, .bool e2, e3, .bool e4]) (R := R3) (by rfl), ?_⟩
 refine go10 ?_
 refine gF (bytes := 16) (F := RefG kind cx cy o3 x v [iC kind, dx, dy] [e1, .bool e2, e3, .bool e4] ++ R3) (R := R4) (a := v) rfl q4 (by rfl) (by rfl) rfl (by rfl) (by simp; omega) (fun R5 o5 q5 => ?_)
 refine ⟨keep_low2 (F := RefG kind cx cy o3 x v [iC kind, dx, dy] [e1, .bool e2, e3, .bool e4]) (R := R3) (by rfl), ?_⟩
 refine go10 ?_
 refine app_ls (bytes := 16) (F := RefG kind cx cy o3 x v [iC kind, dx, dy] [e1, .bool e2, e3, .bool e4] ++ R3) (R := R5) rfl q5 (by rfl) (by rfl) hb2 rfl (by simp; omega) (fun R6 o6 q6 => ?_)
 refine ⟨keep_low2 (F := RefG kind cx cy o3 x v [iC kind, dx, dy] [e1, .bool e2, e3, .bool e4]) (R := R3) (by rfl), ?_⟩
 rw [show ([] ++ Y.take i ++ [v]) ++ Y.drop i = insA Y i v by simp [insA]] at q6
 refine go10 ?_
 have hz := refine_fz2 (x := x) q3 q6
 refine refK_of (r := refR (sB kind (X.map rt) (Y.map rt)) kind X Y x) ?_ hO
 exact hz
end Go.Proofs.YtjncgcnofiaiaaaGreat

set_option linter.unusedVariables false
set_option linter.unusedSimpArgs false
namespace Go.Proofs.YtjncgcnofiaiaaaGreat
open Go.RowKit
set_option maxRecDepth 20000
theorem with_val_zero {kind : Int} {X Y l : List R2} (h : tH kind X Y l = 0) : valE kind X Y = 0 := (jI h).1
attribute [local irreducible] yA semH semC qLen qNil qIad qSlc qIdx xA yM xH appX appI slcX awpF yQ xM xopF xT qval lval seqQ xO wT wL wI cnd arith IntKind.wrap
theorem law24_TableRefines {cx cy : C} {X Y : List R2} (kind : Int) (x y : R2) (hx : Ls elP cx X) (hy : Ls elP cy Y) : semC Tryz.prog n_law24_TableRefines [.agg [iC kind, cx, cy], .agg (ratC x), .agg (ratC y)] TrueK := by
 refine yC ok_law24_TableRefines rfl (show HFVs [.agg [iC kind, cx, cy], .agg (ratC x), .agg (ratC y)] from ⟨⟨trivial, hx.hf, hy.hf, trivial⟩, sN _, sN _, trivial⟩) ?_
 refine go9 ?_
 refine yB (table_Refine kind x hx hy) (fun u hu => ?_)
 obtain ⟨c1, d1, e1, e2, rfl⟩ := hu
 refine go9 ?_
 refine yB (ref24_Refine kind x hx hy) (fun u hu => ?_)
 obtain ⟨c2, d2, f1, f2, rfl⟩ := hu
 rcases ref_cases (sB kind (X.map rt) (Y.map rt)) kind X Y x with ⟨e, he, hr⟩ | ⟨i, g1, g2, g3, g4, g5, g6, g7, hr⟩
 ·rw [hr] at e1 e2 f1 f2 ⊢
  have l1 : (((noTb, e) : Tb × Int).1.2.1).length < 1073741824 := show ([] : List R2).length < 1073741824 by decide
  have l2 : (((noTb, e) : Tb × Int).1.2.2).length < 1073741824 := show ([] : List R2).length < 1073741824 by decide
  refine go9 ?_
  rw [show ∀ z : Int, yA Cm.neq z z = false from fun z => by simp [yA]]
  refine go9 ?_
  rw [show ∀ z : Int, yA Cm.neq z z = false from fun z => by simp [yA]]
  refine go9 ?_
  refine yB (ref02_Same e1 f1 l1 l1) (fun u hu => ?_)
  obtain ⟨z1, rfl, hz1⟩ := hu
  obtain rfl : z1 = true := hz1.2 rfl
  refine go9 ?_
  refine yB (ref02_Same e2 f2 l2 l2) (fun u hu => ?_)
  obtain ⟨z2, rfl, hz2⟩ := hu
  obtain rfl : z2 = true := hz2.2 rfl
  refine go9 ?_
  rw [show yA Cm.neq ((noTb, e) : Tb × Int).2 0 = true by simp [yA]; exact he]
  refine go9 ?_
  refine yB law24_known (fun u hu => ?_)
  obtain rfl := hu
  refine go9 ?_
  exact TrueK.fz
 ·have hval := with_val_zero g1
  have v3 := (qT hval).2
  have l1 : (insA X i x).length < 1073741824 := by rw [bU (by omega)]; omega
  have l2 : (insA Y i (rp (valR (sB kind (X.map rt) (Y.map rt)) (X.map rt) (Y.map rt) (rt x)))).length < 1073741824 := by
   have := v3.2.2.2.1
   rw [bU (by omega)]
   omega
  have hV := fun hk => ref_value (kind := kind) (X := X) (Y := Y) (x := x) (y := y) (i := i) hk g1 g2 g3 g4 g5 g6 g7
  rw [hr] at e1 e2 f1 f2 ⊢
  generalize rp (valR (sB kind (X.map rt) (Y.map rt)) (X.map rt) (Y.map rt) (rt x)) = v at e1 e2 f1 f2 l2 hV
  refine go9 ?_
  rw [show ∀ z : Int, yA Cm.neq z z = false from fun z => by simp [yA]]
  refine go9 ?_
  rw [show ∀ z : Int, yA Cm.neq z z = false from fun z => by simp [yA]]
  refine go9 ?_
  refine yB (ref02_Same e1 f1 l1 l1) (fun u hu => ?_)
  obtain ⟨z1, rfl, hz1⟩ := hu
  obtain rfl : z1 = true := hz1.2 rfl
  refine go9 ?_
  refine yB (ref02_Same e2 f2 l2 l2) (fun u hu => ?_)
  obtain ⟨z2, rfl, hz2⟩ := hu
  obtain rfl : z2 = true := hz2.2 rfl
  refine go9 ?_
  rw [show yA Cm.neq (((kind, insA X i x, insA Y i v), (0 : Int)) : Tb × Int).2 0 = false by simp [yA]]
  refine go9 ?_
  cases hk : yA Cm.gtr kind 1
  case true =>
   refine go9 ?_
   refine yB law24_known (fun u hu => ?_)
   obtain rfl := hu
   refine go9 ?_
   exact TrueK.fz
  simp [yA] at hk
  refine go9 ?_
  refine yB (table_Value kind y hx hy (fun h => table_made (kind := kind) hx hy h)) (fun u hu => ?_)
  obtain rfl := hu
  refine go9 ?_
  refine yB (table_Value kind y e1 e2 (fun h => table_made (kind := kind) e1 e2 h)) (fun u hu => ?_)
  obtain rfl := hu
  have hV := hV (by omega)
  rw [show gL (sB ((((kind, insA X i x, insA Y i v), (0 : Int)) : Tb × Int).1.1) (List.map rt (((kind, insA X i x, insA Y i v), (0 : Int)) : Tb × Int).1.2.1) (List.map rt (((kind, insA X i x, insA Y i v), (0 : Int)) : Tb × Int).1.2.2)) (((kind, insA X i x, insA Y i v), (0 : Int)) : Tb × Int).1.1 (((kind, insA X i x, insA Y i v), (0 : Int)) : Tb × Int).1.2.1 (((kind, insA X i x, insA Y i v), (0 : Int)) : Tb × Int).1.2.2 y = gL (sB kind (X.map rt) (Y.map rt)) kind X Y y from hV]
  generalize gL (sB kind (X.map rt) (Y.map rt)) kind X Y y = q
  obtain ⟨q1, q2⟩ := q
  refine go9 ?_
  rw [show (q1.1 == q1.1 && (q1.2 == q1.2 && true)) = true by simp]
  refine go9 ?_
  rw [show yA Cm.eql ((q1, q2) : R2 × Int).2 ((q1, q2) : R2 × Int).2 = true by simp [yA]]
  refine go9 ?_
  refine yB law24_known (fun u hu => ?_)
  obtain rfl := hu
  refine go9 ?_
  exact TrueK.fz
end Go.Proofs.YtjncgcnofiaiaaaGreat
