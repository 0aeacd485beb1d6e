/-
  Parts of the proof: The polynomial through points; tables of the reference: pieces, values.
-/
import Derived.Test.YtjncgcnofiaiaaaGreatMf22
set_option linter.unusedVariables false
set_option linter.unusedSimpArgs false
namespace Go.Proofs.YtjncgcnofiaiaaaGreat
open Go.RowKit
set_option maxRecDepth 20000
def prodTo (xs : List Rat) (i : Nat) (x : Rat) : Nat → Rat
 | 0 => 1
 | o + 1 => if o = i then prodTo xs i x o else prodTo xs i x o * ((x - xs.getD o 0) * (xs.getD i 0 - xs.getD o 0)⁻¹)
def lagTo (xs ys : List Rat) (x : Rat) : Nat → Rat
 | 0 => 0
 | i + 1 => lagTo xs ys x i + ys.getD i 0 * prodTo xs i x xs.length
def thF (k m : Nat) : Nat → Nat
 | 0 => k
 | j + 1 => evK (thF k m j) m ((j + 1) * 2) + (2 * m + 1)
theorem thF_succ {k m j : Nat} : thF k m j ≤ thF k m (j + 1) := by
 simp only [thF, evK]
 have := Nat.le_mul_of_pos_left (thF k m j + m + 1) (show 0 < (j + 1) * 2 by omega)
 omega
theorem thF_mono {k m i n : Nat} (h : i ≤ n) : thF k m i ≤ thF k m n := by
 induction h with
 | refl => exact Nat.le_refl _
 | step _ ih => exact Nat.le_trans ih thF_succ
def thO (k m n : Nat) : Nat → Nat
 | 0 => 1
 | i + 1 => thO k m n i + thF k m n + 1
theorem thO_mono {k m n i j : Nat} (h : i ≤ j) : thO k m n i ≤ thO k m n j := by
 induction h with
 | refl => exact Nat.le_refl _
 | step _ ih =>
  simp only [thO]
  omega
theorem thO_pos {k m n i : Nat} : 1 ≤ thO k m n i := by
 cases i <;> simp only [thO] <;> omega
structure IsThrough (xs ys m : List Rat) : Prop where
 ev : ∀ x, ev m x = lagTo xs ys x xs.length
 len : m.length ≤ xs.length + 1
 top : Top m
theorem line_through {xs ys : List Rat} {i : Nat} {x : Rat} (h : xs.getD i 0 < xs.getD (i + 1) 0) (hi : i + 1 < xs.length) (hlen : ys.length = xs.length) : lagTo ((xs.drop i).take 2) ((ys.drop i).take 2) x 2 = sZ xs ys i x := by
 have l2 : ((xs.drop i).take 2).length = 2 := by simp; omega
 have ex : (xs.drop i).take 2 = [xs.getD i 0, xs.getD (i + 1) 0] := by
  apply List.ext_getElem
  ·simp; omega
  ·intro j h1 h2
   rw [List.getElem_take, List.getElem_drop]
   have : j < 2 := by simpa using h2
   match j, this with
   | 0, _ => simp [show i < xs.length by omega]
   | 1, _ => simp [hi]
 have ey : (ys.drop i).take 2 = [ys.getD i 0, ys.getD (i + 1) 0] := by
  apply List.ext_getElem
  ·simp; omega
  ·intro j h1 h2
   rw [List.getElem_take, List.getElem_drop]
   have : j < 2 := by simpa using h2
   match j, this with
   | 0, _ => simp [show i < ys.length by omega]
   | 1, _ => simp [show i + 1 < ys.length by omega]
 rw [ex, ey]
 have n1 := jJ h
 simp only [lagTo, prodTo, List.length_cons, List.length_nil, List.getD_cons_zero, List.getD_cons_succ, if_pos, Nat.zero_add, Nat.reduceAdd, Nat.one_ne_zero, if_false, Nat.zero_ne_one]
 unfold sZ slope
 rw [Rat.div_def]
 generalize xs.getD i 0 = a at *
 generalize xs.getD (i + 1) 0 = b at *
 generalize ys.getD i 0 = c
 generalize ys.getD (i + 1) 0 = d
 have n2 : a - b ≠ 0 := fun e => by grind
 have e1 : (a - b)⁻¹ = -(b - a)⁻¹ := by
  have h1 : (b - a) * (b - a)⁻¹ = 1 := Rat.mul_inv_cancel _ n1
  have h2 : (a - b) * (a - b)⁻¹ = 1 := Rat.mul_inv_cancel _ n2
  generalize (b - a)⁻¹ = u at *
  generalize (a - b)⁻¹ = v at *
  grind
 rw [e1]
 have h1 : (b - a) * (b - a)⁻¹ = 1 := Rat.mul_inv_cancel _ n1
 generalize (b - a)⁻¹ = u at *
 grind
theorem elR_two {k : Nat} {cs ds : List C} {a b : Rat} (h1 : IR k cs a) (h2 : IR k ds b) : Els (elR k) (cs ++ ds) [a, b] := .cons h1 (.one h2)
structure RTab (kind : Int) (cx cy : C) (xs ys : List Rat) (K : Nat) (pc : Nat → Rat → Rat) : Prop where
 x : Ls (elR 2) cx xs
 y : Ls (elR 2) cy ys
 len : ys.length = xs.length
 pos : 0 < xs.length
 small : xs.length ≤ 1024
 piece : ∀ i, i + 1 < xs.length → semC Tryz.prog n_ref24_table_piece [.agg [iC kind, cx, cy], i64 i] (vP (elR K) (pE (pc i)))
theorem row_len {l : List Rat} {i : Nat} (hi : i + 1 < l.length) : ((l.drop i).take 2).length = 2 := by simp; omega
theorem row_ne {l : List Rat} {i : Nat} (hr : tC l) (hi : i + 1 < l.length) : ∀ a b (ha : a < ((l.drop i).take 2).length) (hb : b < ((l.drop i).take 2).length), a ≠ b → ((l.drop i).take 2)[a] ≠ ((l.drop i).take 2)[b] := by
 intro a b ha hb hab
 have e := row_len hi
 have h := hr i hi
 simp only [List.getElem_take, List.getElem_drop]
 obtain rfl | rfl : a = 0 ∨ a = 1 := by omega
 ·obtain rfl | rfl : b = 0 ∨ b = 1 := by omega
  ·exact absurd rfl hab
  ·simp only [Nat.add_zero]
   grind
 ·obtain rfl | rfl : b = 0 ∨ b = 1 := by omega
  ·simp only [Nat.add_zero]
   grind
  ·exact absurd rfl hab
attribute [local irreducible] yA semH semC qLen qNil qIad qSlc qIdx xA yM xH appX appI slcX awpF yR xQ xopF xT qval lval seqQ xP wM wK xY cnd arith IntKind.wrap
theorem ref02_Through {k m : Nat} {cx cy : C} {xs ys : List Rat} (hx : Ls (elR m) cx xs) (hy : Ls (elR k) cy ys) (hlen : ys.length = xs.length) (hl : xs.length < 1024) (hm : 1 ≤ m) (hd : ∀ a b (ha : a < xs.length) (hb : b < xs.length), a ≠ b → xs[a] ≠ xs[b]) (hF : thF k m xs.length ≤ 134217727) (hO : thO k m xs.length xs.length ≤ 134217727) (hF1 : 1 ≤ k) : semC Tryz.prog n_ref02_Through [.c cx, .c cy] (vP (elR (thO k m xs.length xs.length)) (IsThrough xs ys)) := by
 refine yC ok_ref02_Through rfl (show HFVs [.c cx, .c cy] from ⟨hx.hf, hy.hf, trivial⟩) ?_
 refine go8 ?_
 refine yB (r_Int (g := 1) (by decide)) (fun u hu => ?_)
 obtain ⟨os, rfl, g1⟩ := hu
 obtain ⟨o1, o2, o3, o4, rfl⟩ := id g1.four
 refine go8 ?_
 simp only [vT, vS, ratC, uB, uA, List.set_cons_zero, List.set_cons_succ, List.nil_append, List.cons_append, List.append_nil, List.replicate_succ, List.replicate_zero, List.length_cons, List.length_nil, splice, List.take_succ_cons, List.take_zero, List.drop_succ_cons, List.drop_zero, List.take_nil, List.drop_nil, Nat.zero_add, Nat.reduceAdd, Nat.reduceMul, Int.reduceToNat, xO, List.getElem?_cons_succ, List.getElem?_cons_zero]
 refine yQ (fun w vs H => ∃ (i : Nat) (o : C) (O : List Rat) (R : Hp), vs = [.c cx, .c cy, .c o, .c (.ptr 0 0), i64 i] ∧ H = .live ⟨[o1, .bool o2, o3, .bool o4], yH, .rw⟩ :: R ∧ w = xs.length - i ∧ i ≤ xs.length ∧ Ls (elR (thO k m xs.length i)) o O ∧ O.length ≤ xs.length + 1 ∧ (∀ x, ev O x = lagTo xs ys x i) ∧ Top O) (by rfl) ⟨0, _, [], [], rfl, rfl, rfl, by omega, .nil, by simp, fun x => rfl, fun h => absurd h (by simp)⟩ ?_
 rintro w vs H ⟨i, o, O, R, rfl, rfl, rfl, h1, h2, h3, h4, h5⟩
 refine go8 ?_
 cases hi : yA Cm.lss (i : Int) (xs.length : Int)
 case false =>
  simp [yA] at hi
  have ei : i = xs.length := by omega
  subst ei
  refine go8 ?_
  exact vP.fz h2 ⟨h4, h3, h5⟩
 simp [yA] at hi
 refine go8 ?_
 refine xU hy (i := i) (by omega) (by omega) rfl (fun ds hds => ?_)
 obtain ⟨d1, d2, d3, d4, rfl⟩ := id hds.four
 refine go8 ?_
 simp only [vT, vS, ratC, uB, uA, List.set_cons_zero, List.set_cons_succ, List.nil_append, List.cons_append, List.append_nil, List.replicate_succ, List.replicate_zero, List.length_cons, List.length_nil, splice, List.take_succ_cons, List.take_zero, List.drop_succ_cons, List.drop_zero, List.take_nil, List.drop_nil, Nat.zero_add, Nat.reduceAdd, Nat.reduceMul, Int.reduceToNat, xO, List.getElem?_cons_succ, List.getElem?_cons_zero]
 refine yQ (fun w vs H => ∃ (j : Nat) (f : C) (F : List Rat) (R : Hp), vs = [.c cx, .c cy, .c o, .c (.ptr 0 0), i64 i, .c f, i64 j] ∧ H = .live ⟨[o1, .bool o2, o3, .bool o4], yH, .rw⟩ :: R ∧ w = xs.length - j ∧ j ≤ xs.length ∧ Ls (elR (thF k m j)) f F ∧ F.length ≤ j + 1 ∧ ∀ x, ev F x = ys[i] * prodTo xs i x j) (by rfl) ⟨0, _, [ys[i]], R, rfl, rfl, rfl, by omega, .imm (.one hds), by simp, fun x => by rw [pZ]; simp only [prodTo]; grind⟩ ?_
 clear hds
 rintro w vs H ⟨j, f, F, R, rfl, rfl, rfl, j1, j2, j3, j4⟩
 refine go8 ?_
 cases hj : yA Cm.lss (j : Int) (xs.length : Int)
 case false =>
  simp [yA] at hj
  have ej : j = xs.length := by omega
  subst ej
  refine go8 ?_
  refine yB (pH j2 (by omega)) (fun u hu => ?_)
  obtain ⟨ct, T, rfl, t1, t2⟩ := hu
  have t3 := t2.len
  have hO1 := Nat.le_trans (thO_mono (k := k) (m := m) (n := xs.length) (show i + 1 ≤ xs.length by omega)) hO
  simp only [thO] at hO1
  refine go8 ?_
  refine yB (ref02_Plus h2 t1 (by omega) (by omega) thO_pos (Nat.le_trans hF1 (thF_mono (k := k) (m := m) (Nat.zero_le _))) (by omega)) (fun u hu => ?_)
  obtain ⟨cp, P, rfl, p1, p2⟩ := hu
  have p3 := p2.len
  refine go8 ?_
  rw [yT i (by omega)]
  refine l_n (by rfl) (n' := xs.length - (i + 1)) (by omega) ⟨i + 1, cp, P, _, rfl, rfl, rfl, by omega, p1, by omega, fun x => ?_, p2.top⟩
  rw [p2.ev, h4, t2.ev, j4]
  simp only [lagTo]
  rw [xG (l := ys) (i := i) (by omega)]
 simp [yA] at hj
 have hFj := Nat.le_trans (thF_mono (k := k) (m := m) (show j + 1 ≤ xs.length by omega)) hF
 simp only [thF] at hFj
 have hF1' := evK_le (k := thF k m j) (m := m) (n := (j + 1) * 2)
 refine go8 ?_
 cases hji : yA Cm.neq (j : Int) (i : Int)
 case false =>
  simp [yA] at hji
  refine go8 ?_
  rw [yT j (by omega)]
  refine l_n (by rfl) (n' := xs.length - (j + 1)) (by omega) ⟨j + 1, f, F, _, rfl, rfl, rfl, by omega, j2.up' thF_succ, by omega, fun x => ?_⟩
  rw [j4]
  simp only [prodTo]
  rw [if_pos (by omega)]
 simp [yA] at hji
 have hji : j ≠ i := by omega
 refine go8 ?_
 refine xU hx (i := j) (by omega) (by omega) rfl (fun av has => ?_)
 refine go8 ?_
 refine xU hx (i := i) (by omega) (by omega) rfl (fun bs hbs => ?_)
 refine go8 ?_
 refine xU hx (i := j) (by omega) (by omega) rfl (fun cs hcs => ?_)
 refine go8 ?_
 refine yG (r_Neg has (by omega)) (fun u hu => ?_)
 obtain ⟨es, rfl, g2⟩ := hu
 obtain ⟨e1, e2, e3, e4, rfl⟩ := id g2.four
 refine go8 ?_
 have g3 := elR_two g2 (g1.up hm)
 have hle : evK (thF k m j) m (F.length * 2) ≤ evK (thF k m j) m ((j + 1) * 2) := qW (by omega)
 refine yG (ref02_Times j2 (.imm g3) (by omega) (by simp) (by simp only [List.length_cons, List.length_nil, Nat.zero_add, Nat.reduceAdd]; omega)) (fun u hu => ?_)
 obtain ⟨ct, T, rfl, t1, t2⟩ := hu
 have t3 := t2.len
 simp only [List.length_cons, List.length_nil, Nat.zero_add, Nat.reduceAdd] at t1 t3
 refine go8 ?_
 refine yG (r_Sub2 hbs hcs (by omega)) (fun u hu => ?_)
 obtain ⟨fs, rfl, g4⟩ := hu
 have hne : xs[i] - xs[j] ≠ 0 := fun e => hd i j (by omega) (by omega) (fun e => hji e.symm) (by grind)
 refine go8 ?_
 refine yG (r_Inv g4 (by omega) hne) (fun u hu => ?_)
 obtain ⟨gs, rfl, g5⟩ := hu
 refine go8 ?_
 refine yG (ref02_Scale t1 g5 (by omega) (by omega)) (fun u hu => ?_)
 obtain ⟨cu, U, rfl, u1, u2⟩ := hu
 have u3 := u2.len
 refine go8 ?_
 rw [yT j (by omega)]
 refine l_n (by rfl) (n' := xs.length - (j + 1)) (by omega) ⟨j + 1, cu, U, _, rfl, rfl, rfl, by omega, u1.up' (by simp only [thF]; omega), by omega, fun x => ?_⟩
 rw [u2.ev, t2.ev, j4, ev_two]
 simp only [prodTo]
 rw [if_neg hji, xG (l := xs) (i := j) (by omega), xG (l := xs) (i := i) (by omega)]
 grind
theorem ref24_piece_hold {cx cy : C} {xs ys : List Rat} {i : Nat} (hx : Ls (elR 2) cx xs) (hy : Ls (elR 2) cy ys) (hlen : ys.length = xs.length) (hl : xs.length ≤ 1024) (hi : i + 1 < xs.length) : semC Tryz.prog n_ref24_table_piece [.agg [iC 0, cx, cy], i64 i] (vP (elR 40) (pE (holdP xs ys i))) := by
 refine yC ok_ref24_table_piece rfl (show HFVs [.agg [iC 0, cx, cy], i64 i] from ⟨⟨trivial, hx.hf, hy.hf, trivial⟩, trivial, trivial⟩) ?_
 refine go8 ?_
 refine c_t (by simp [yA]) ?_
 refine go8 ?_
 refine xU hy (i := i) (by omega) (by omega) rfl (fun av has => ?_)
 obtain ⟨a1, a2, a3, a4, rfl⟩ := id has.four
 refine go8 ?_
 simp only [vT, vS, ratC, uB, uA, List.set_cons_zero, List.set_cons_succ, List.nil_append, List.cons_append, List.append_nil, List.replicate_succ, List.replicate_zero, List.length_cons, List.length_nil, splice, List.take_succ_cons, List.take_zero, List.drop_succ_cons, List.drop_zero, List.take_nil, List.drop_nil, Nat.zero_add, Nat.reduceAdd, Nat.reduceMul, Int.reduceToNat, xO, List.getElem?_cons_succ, List.getElem?_cons_zero]
 refine yB (pH (.imm (.one has)) (by simp)) (fun u hu => ?_)
 obtain ⟨ct, T, rfl, t1, t2⟩ := hu
 have t3 := t2.len
 simp only [List.length_cons, List.length_nil] at t3
 refine go8 ?_
 refine vP.fz (t1.up' (by decide)) ⟨fun x => ?_, by omega, t2.top⟩
 rw [t2.ev, pZ]
 unfold holdP
 rw [xG (l := ys) (i := i) (by omega)]
theorem ref24_piece_line {cx cy : C} {xs ys : List Rat} {i : Nat} (hx : Ls (elR 2) cx xs) (hy : Ls (elR 2) cy ys) (hr : tC xs) (hlen : ys.length = xs.length) (hl : xs.length ≤ 1024) (hi : i + 1 < xs.length) : semC Tryz.prog n_ref24_table_piece [.agg [iC 1, cx, cy], i64 i] (vP (elR (thO 2 2 2 2)) (pE (sZ xs ys i))) := by
 refine yC ok_ref24_table_piece rfl (show HFVs [.agg [iC 1, cx, cy], i64 i] from ⟨⟨trivial, hx.hf, hy.hf, trivial⟩, trivial, trivial⟩) ?_
 refine go8 ?_
 refine c_f (by simp [yA]) ?_
 refine go8 ?_
 refine c_t (by simp [yA]) ?_
 refine go8 ?_
 rw [show arith .add .i64 (i : Int) 2 = ((i + 2 : Nat) : Int) by rw [yW, yF (by omega) (by omega)]; omega]
 refine slc_ls (l := xs) (a := (i : Int)) (b := ((i + 2 : Nat) : Int)) (by rfl) hx rfl (by rfl) (by rfl) (by omega) (by omega) (by omega) (fun c1 hc1 => ?_)
 refine go8 ?_
 rw [show arith .add .i64 (i : Int) 2 = ((i + 2 : Nat) : Int) by rw [yW, yF (by omega) (by omega)]; omega]
 refine slc_ls (l := ys) (a := (i : Int)) (b := ((i + 2 : Nat) : Int)) (by rfl) hy rfl (by rfl) (by rfl) (by omega) (by omega) (by omega) (fun c2 hc2 => ?_)
 rw [show ((i : Nat) : Int).toNat = i by omega, show ((i + 2 : Nat) : Int).toNat - i = 2 by omega] at hc1 hc2
 have l1 := row_len hi
 have l2 : ((ys.drop i).take 2).length = 2 := row_len (by omega)
 refine go8 ?_
 refine yG (ref02_Through hc1 hc2 (by omega) (by omega) (by decide) (row_ne hr hi) (by rw [l1]; decide) (by rw [l1]; decide) (by decide)) (fun u hu => ?_)
 obtain ⟨ct, T, rfl, t1, t2⟩ := hu
 have t3 := t2.len
 rw [l1] at t1 t3
 refine go8 ?_
 refine vP.fz t1 ⟨fun x => ?_, by omega, t2.top⟩
 rw [t2.ev, l1]
 exact line_through (hr.get hi) hi hlen
theorem ref24_last {kind : Int} {cx cy : C} {k : Nat} {xs : List Rat} (hx : Ls (elR k) cx xs) (hy : HFC cy) (hl : xs.length < 1048576) (hp : 0 < xs.length) : semC Tryz.prog n_ref24_table_last [.agg [iC kind, cx, cy]] (IntK ((xs.length - 1 : Nat) : Int)) := by
 refine yC ok_ref24_table_last rfl (show HFVs [.agg [iC kind, cx, cy]] from ⟨⟨trivial, hx.hf, hy, trivial⟩, trivial⟩) ?_
 refine go5 ?_
 rw [show arith .sub .i64 (xs.length : Int) 1 = ((xs.length - 1 : Nat) : Int) by rw [xL, yF (by omega) (by omega)]; omega]
 refine go5 ?_
 exact IntK.fz
theorem ref24_value {kind : Int} {cx cy : C} {xs ys : List Rat} {K k : Nat} {pc : Nat → Rat → Rat} {cs : List C} {x : Rat} (h : RTab kind cx cy xs ys K pc) (hc : IR k cs x) (hK : vaK K k 4 ≤ 134217727) (hk4 : 4 * k + 1 ≤ 134217727) (hK2 : 2 ≤ K) : semC Tryz.prog n_ref24_table_value [.agg [iC kind, cx, cy], .agg cs] (RQV (vaK K k 4) (valR pc xs ys x)) := by
 have hx := h.x
 have hy := h.y
 refine yC ok_ref24_table_value rfl (show HFVs [.agg [iC kind, cx, cy], .agg cs] from ⟨⟨trivial, hx.hf, hy.hf, trivial⟩, hc.hf, trivial⟩) ?_
 obtain ⟨a, b, c1, d, rfl⟩ := id hc.four
 have hlen := h.len
 have hpos := h.pos
 have hsm := h.small
 have hkk : k + 2 ≤ 268435456 := by omega
 have h2k : 2 ≤ vaK K k 4 := by
  simp only [vaK]
  omega
 refine go5 ?_
 refine yB (ref24_last hx hy.hf (by omega) hpos) (fun u hu => ?_)
 obtain rfl := hu
 refine go5 ?_
 refine xU hx (i := 0) hpos (by omega) rfl (fun ds hds => ?_)
 refine go5 ?_
 refine yG (pT hc hds hkk) (fun u hu => ?_)
 obtain rfl := hu
 refine go5 ?_
 rw [bB]
 cases h1 : dec (x ≤ xs[0])
 case true =>
  have h1 := yE.1 h1
  rw [← xG hpos] at h1
  refine go5 ?_
  refine xU hy (i := 0) (by omega) (by omega) rfl (fun es hes => ?_)
  obtain ⟨_, _, _, _, rfl⟩ := id hes.four
  refine go5 ?_
  refine RQV.fz (IR.up ?_ h2k)
  rw [val_lo h1, xG (l := ys) (i := 0) (by omega)]
  exact hes
 have h1 := yI.1 h1
 rw [← xG hpos] at h1
 refine go5 ?_
 refine xU hx (i := xs.length - 1) (by omega) (by omega) rfl (fun es hes => ?_)
 refine go5 ?_
 refine yG (pT hc hes hkk) (fun u hu => ?_)
 obtain rfl := hu
 refine go5 ?_
 rw [cq_geq]
 cases h2 : dec (xs[xs.length - 1] ≤ x)
 case true =>
  have h2 := yE.1 h2
  rw [← xG (l := xs) (i := xs.length - 1) (by omega)] at h2
  refine go5 ?_
  refine xU hy (i := xs.length - 1) (by omega) (by omega) rfl (fun es hes => ?_)
  obtain ⟨_, _, _, _, rfl⟩ := id hes.four
  refine go5 ?_
  refine RQV.fz (IR.up ?_ h2k)
  rw [val_hi h1 h2, xG (l := ys) (i := xs.length - 1) (by omega)]
  exact hes
 have h2 := yI.1 h2
 rw [← xG (l := xs) (i := xs.length - 1) (by omega)] at h2
 refine go5 ?_
 refine yQ (fun w vs H => ∃ (i : Nat), vs = [.c (.ptr 0 0), .c (.ptr 1 0), .c (.ptr 2 0), i64 i] ∧ H = [.live ⟨[iC kind, cx, cy], tW, .rw⟩, .live ⟨[a, .bool b, c1, .bool d], yH, .rw⟩, .live ⟨zeroRQ, yH, .rw⟩] ∧ w = xs.length - i ∧ i + 1 < xs.length ∧ ∀ j, j < i → xs.getD (j + 1) 0 ≤ x) (by rfl) ⟨0, rfl, rfl, rfl, ?_, fun j hj => by omega⟩ ?_
 ·rcases Nat.lt_or_ge 1 xs.length with h3 | h3
  ·omega
  ·have : xs.length - 1 = 0 := by omega
   rw [this] at h2
   grind
 rintro w vs H ⟨i, rfl, rfl, rfl, h3, h4⟩
 refine go5 ?_
 rw [yT i (by omega)]
 refine go5 ?_
 refine xU hx (i := i + 1) h3 (by omega) rfl (fun fs hfs => ?_)
 refine go5 ?_
 refine yG (pT hc hfs (by omega)) (fun u hu => ?_)
 obtain rfl := hu
 refine go5 ?_
 rw [cq_geq]
 cases h5 : dec (xs[i + 1] ≤ x)
 case true =>
  have h5 := yE.1 h5
  rw [← xG (l := xs) (i := i + 1) (by omega)] at h5
  refine go5 ?_
  rw [yT i (by omega)]
  refine l_n (by rfl) (n' := xs.length - (i + 1)) (by omega) ⟨i + 1, rfl, rfl, rfl, ?_, fun j hj => ?_⟩
  ·rcases Nat.lt_or_ge (i + 1 + 1) xs.length with h6 | h6
   ·exact h6
   ·have : xs.length - 1 = i + 1 := by omega
    rw [this] at h2
    exact absurd h5 h2
  ·rcases Nat.lt_or_ge j i with h6 | h6
   ·exact h4 j h6
   ·have : j = i := by omega
    subst this
    exact h5
 have h5 := yI.1 h5
 rw [← xG (l := xs) (i := i + 1) (by omega)] at h5
 refine go5 ?_
 refine yG (h.piece i h3) (fun u hu => ?_)
 obtain ⟨cp, mp, rfl, g1, g2⟩ := hu
 have l1 := g2.len
 have hE := Nat.le_trans (jV (k := K) (m := k) l1) hK
 have hk5 := Nat.mul_le_mul_right k l1
 refine go5 ?_
 refine yG (pL g1 hc (by omega) hE (by omega)) (fun u hu => ?_)
 obtain ⟨es, rfl, g3⟩ := hu
 obtain ⟨_, _, _, _, rfl⟩ := id g3.four
 refine go5 ?_
 refine RQV.fz (IR.up ?_ (jV l1))
 rw [val_in h1 h2 h3 (Rat.not_le.1 h5) h4, ← g2.ev]
 exact g3
theorem ref24_number {k : Nat} {cs : List C} {q : Rat} (hc : IR k cs q) : semC Tryz.prog n_ref24_number [.agg cs] (NumK q) := by
 refine yC ok_ref24_number rfl (show HFVs [.agg cs] from ⟨hc.hf, trivial⟩) ?_
 obtain ⟨a, b, c1, d, rfl⟩ := id hc.four
 refine go5 ?_
 refine yB (ref01_Rat hc.is (gU q)) (fun u hu => ?_)
 obtain rfl := hu
 unfold outV
 cases h : fitR (rp q)
 ·refine go5 ?_
  exact NumK.no h
 ·refine go5 ?_
  exact NumK.yes h
end Go.Proofs.YtjncgcnofiaiaaaGreat

set_option linter.unusedVariables false
set_option linter.unusedSimpArgs false
namespace Go.Proofs.YtjncgcnofiaiaaaGreat
open Go.RowKit
set_option maxRecDepth 20000
noncomputable def lagX (d w : R2) : Rat := rt w - rt d
def LagOk (t v : List R2) (d w : R2) : Prop := sK t ∧ sK v ∧ tX d.1 d.2 ∧ tX w.1 w.2 ∧ 0 ≤ d.1 ∧ tC (t.map rt)
def LagOut (t : List R2) (x : Rat) : Prop := t = [] ∨ x < (t.map rt).getD 0 0 ∨ (t.map rt).getD ((t.map rt).length - 1) 0 < x
noncomputable def lagV (t v : List R2) (x : Rat) : Rat := valR (sZ (t.map rt) (v.map rt)) (t.map rt) (v.map rt) x
noncomputable def lagR (t v : List R2) (d w : R2) : R2 × Bool × Int :=
 bif dec (64 < t.length ∨ 64 < v.length) then ((0, 0), false, 3) else
 bif dec (LagOk t v d w) then
  bif dec (t.length = v.length) then
   bif dec (LagOut t (lagX d w)) then ((0, 0), false, 0) else ((numR (lagV t v (lagX d w))).1, dec ((numR (lagV t v (lagX d w))).2 = 0), (numR (lagV t v (lagX d w))).2)
  else ((0, 0), false, 8)
 else ((0, 0), false, 1)
def LagK (t v : List R2) (d w : R2) (u : V) : Prop := u = .tup [.agg (ratC (lagR t v d w).1), .c (.bool (lagR t v d w).2.1), i64 (lagR t v d w).2.2]
theorem LagK.fz {t v : List R2} {d w : R2} {H : Hp} {r : R2} {b : Bool} {e : Int} (h : lagR t v d w = (r, b, e)) : ∃ x, FzV H (.tup [.agg (ratC r), .c (.bool b), i64 e]) x ∧ LagK t v d w x := by
 refine ⟨_, .tup (.cons (.agg (.hf (sN _))) (.cons (.c (.hf trivial)) (.cons (.c (.hf trivial)) .nil))), ?_⟩
 unfold LagK
 rw [h]
 rfl
theorem LagK.bad {t v : List R2} {d w : R2} {H : Hp} {e : Int} (h : lagR t v d w = ((0, 0), false, e)) : ∃ x, FzV H (.tup [.agg [.int .i64 0, .int .i64 0], .c (.bool false), i64 e]) x ∧ LagK t v d w x := LagK.fz h
attribute [local irreducible] yA semH semC qLen qNil qIad qSlc qIdx xA yM xH appX appI slcX awpF yR xQ xopF xT qval lval seqQ xP wM wK xY cnd arith IntKind.wrap
theorem line_shape {cx cy : C} {xs ys : List Rat} (hx : Ls (elQ 2) cx xs) (hy : Ls (elQ 2) cy ys) (hr : tC xs) (hlen : ys.length = xs.length) (hpos : 0 < xs.length) (hl : xs.length ≤ 1024) : Shape (.ifaceA jD [cx, cy]) cx cy xs ys 42 (sZ xs ys) :=
 ⟨⟨hx.hf, hy.hf, trivial⟩, hx, hy, hlen, hpos, hl, table_at_line hx.hf hy.hf, fun i hi => table_piece_line hx hy hr hlen hl hi⟩
theorem line_rtab {cx cy : C} {xs ys : List Rat} (hx : Ls (elR 2) cx xs) (hy : Ls (elR 2) cy ys) (hr : tC xs) (hlen : ys.length = xs.length) (hpos : 0 < xs.length) (hl : xs.length ≤ 1024) : RTab 1 cx cy xs ys (thO 2 2 2 2) (sZ xs ys) :=
 ⟨hx, hy, hlen, hpos, hl, fun i hi => ref24_piece_line hx hy hr hlen hl hi⟩
end Go.Proofs.YtjncgcnofiaiaaaGreat

set_option linter.unusedVariables false
set_option linter.unusedSimpArgs false
namespace Go.Proofs.YtjncgcnofiaiaaaGreat
open Go.RowKit
set_option maxRecDepth 20000
def TabOk (kind : Int) (X Y : List R2) : Prop := 0 ≤ kind ∧ kind ≤ 3 ∧ X ≠ [] ∧ X.length = Y.length ∧ sK X ∧ sK Y ∧ tC (X.map rt)
noncomputable def valE (kind : Int) (X Y : List R2) : Int := bif dec (24 < X.length ∨ 24 < Y.length) then 3 else bif dec (TabOk kind X Y) then 0 else 1
theorem val_long {kind : Int} {X Y : List R2} (h : 24 < X.length ∨ 24 < Y.length) : valE kind X Y = 3 := by
 unfold valE
 rw [yE.2 h]
 rfl
theorem sW {kind : Int} {X Y : List R2} (h : ¬ (24 < X.length ∨ 24 < Y.length)) (h2 : ¬ TabOk kind X Y) : valE kind X Y = 1 := by
 unfold valE
 rw [yI.2 h, yI.2 h2]
 rfl
theorem val_ok {kind : Int} {X Y : List R2} (h : ¬ (24 < X.length ∨ 24 < Y.length)) (h2 : TabOk kind X Y) : valE kind X Y = 0 := by
 unfold valE
 rw [yI.2 h, yE.2 h2]
 rfl
theorem jU {kind : Int} {X Y : List R2} (h : valE kind X Y = 0) : ¬ (24 < X.length ∨ 24 < Y.length) ∧ TabOk kind X Y := by
 unfold valE at h
 cases h1 : dec (24 < X.length ∨ 24 < Y.length)
 ·cases h2 : dec (TabOk kind X Y)
  ·rw [h1, h2] at h
   cases h
  ·exact ⟨yI.1 h1, yE.1 h2⟩
 ·rw [h1] at h
  cases h
theorem IntK.of {n m : Int} {H : Hp} (h : m = n) : ∃ d, FzV H (i64 n) d ∧ IntK m d := by
 subst h
 exact IntK.fz
noncomputable def sV (kind : Int) (X Y l : List R2) : Int := bif dec (valE kind X Y = 0) then bif dec (sK l) then 0 else 1 else valE kind X Y
theorem with_val {kind : Int} {X Y l : List R2} (h : valE kind X Y ≠ 0) : sV kind X Y l = valE kind X Y := by
 unfold sV
 rw [yI.2 h]
 rfl
theorem with_bad {kind : Int} {X Y l : List R2} (h : valE kind X Y = 0) (h2 : ¬ sK l) : sV kind X Y l = 1 := by
 unfold sV
 rw [yE.2 h, yI.2 h2]
 rfl
theorem with_ok {kind : Int} {X Y l : List R2} (h : valE kind X Y = 0) (h2 : sK l) : sV kind X Y l = 0 := by
 unfold sV
 rw [yE.2 h, yE.2 h2]
 rfl
theorem with_zero {kind : Int} {X Y l : List R2} (h : sV kind X Y l = 0) : valE kind X Y = 0 ∧ sK l := by
 unfold sV at h
 cases h1 : dec (valE kind X Y = 0)
 ·rw [h1] at h
  exact absurd h (yI.1 h1)
 ·cases h2 : dec (sK l)
  ·rw [h1, h2] at h
   cases h
  ·exact ⟨yE.1 h1, yE.1 h2⟩
def sA : Nat := 65536
def MadeK (xs ys : List Rat) (pc : Nat → Rat → Rat) (u : V) : Prop := ∃ s cx cy K, u = .c s ∧ (2 ≤ K ∧ K ≤ sA) ∧ Shape s cx cy xs ys K pc
theorem MadeK.fz {xs ys : List Rat} {pc : Nat → Rat → Rat} {s cx cy : C} {K : Nat} {H : Hp} (h : Shape s cx cy xs ys K pc) (hK : 2 ≤ K ∧ K ≤ sA) : ∃ d, FzV H (.c s) d ∧ MadeK xs ys pc d := ⟨_, .c (.hf h.hf), s, cx, cy, K, rfl, hK, h⟩
noncomputable def bT (pc : Nat → Rat → Rat) (kind : Int) (X Y : List R2) (x : R2) : R2 × Int := bif dec (sV kind X Y [x] = 0) then numR (valR pc (X.map rt) (Y.map rt) (rt x)) else ((0, 0), sV kind X Y [x])
def gF (r : R2 × Int) (u : V) : Prop := u = .tup [.agg (ratC r.1), i64 r.2]
theorem gF.of {r r' : R2 × Int} {H : Hp} (h : r' = r) : ∃ d, FzV H (.tup [.agg (ratC r.1), i64 r.2]) d ∧ gF r' d := by
 subst h
 exact ⟨_, .tup (.cons (.agg (.hf (sN _))) (.cons (.c (.hf trivial)) .nil)), rfl⟩
theorem gF.bad {r' : R2 × Int} {e : Int} {H : Hp} (h : r' = ((0, 0), e)) : ∃ d, FzV H (.tup [.agg [.int .i64 0, .int .i64 0], i64 e]) d ∧ gF r' d := gF.of h
theorem evK_cap {K : Nat} (h : K ≤ sA) : evK K 2 4 ≤ 134217728 := by
 unfold evK
 unfold sA at h
 omega
theorem bM (a b : Int) : yA Cm.neq a b = dec (a ≠ b) := rfl
attribute [local irreducible] yA semH semC qLen qNil qIad qSlc qIdx xA yM xH appX appI slcX awpF yR xQ xopF xT qval lval seqQ xP wM wK xY cnd arith IntKind.wrap
theorem gQ {cx cy : C} {X Y : List R2} (kind : Int) (hx : Ls elP cx X) (hy : Ls elP cy Y) : semC Tryz.prog n_table_Validate [.agg [iC kind, cx, cy]] (IntK (valE kind X Y)) := by
 refine yC ok_table_Validate rfl (show HFVs [.agg [iC kind, cx, cy]] from ⟨⟨trivial, hx.hf, hy.hf, trivial⟩, trivial⟩) ?_
 refine go5 ?_
 cases h1 : yA Cm.gtr (X.length : Int) 24
 case true =>
  simp [yA] at h1
  refine go5 ?_
  exact IntK.of (val_long (.inl (by omega)))
 simp [yA] at h1
 refine go5 ?_
 cases h2 : yA Cm.gtr (Y.length : Int) 24
 case true =>
  simp [yA] at h2
  refine go5 ?_
  exact IntK.of (val_long (.inr (by omega)))
 simp [yA] at h2
 have hs : ¬ (24 < X.length ∨ 24 < Y.length) := by omega
 have hl : X.length < 1073741824 := by omega
 have hl2 : Y.length < 1073741824 := by omega
 refine go5 ?_
 cases h3 : yA Cm.lss kind 0
 case true =>
  simp [yA] at h3
  refine go5 ?_
  exact IntK.of (sW hs (fun h => absurd h.1 (by omega)))
 simp [yA] at h3
 refine go5 ?_
 cases h4 : yA Cm.gtr kind 3
 case true =>
  simp [yA] at h4
  refine go5 ?_
  exact IntK.of (sW hs (fun h => absurd h.2.1 (by omega)))
 simp [yA] at h4
 refine go5 ?_
 cases h5 : yA Cm.eql (X.length : Int) 0
 case true =>
  simp [yA] at h5
  refine go5 ?_
  exact IntK.of (sW hs (fun h => h.2.2.1 h5))
 simp [yA] at h5
 refine go5 ?_
 cases h6 : yA Cm.neq (X.length : Int) (Y.length : Int)
 case true =>
  simp [yA] at h6
  refine go5 ?_
  exact IntK.of (sW hs (fun h => absurd h.2.2.2.1 (by omega)))
 simp [yA] at h6
 refine go5 ?_
 refine yB (num_AllValid hx hl) (fun u hu => ?_)
 obtain ⟨z1, rfl, k1⟩ := hu
 cases z1
 case false =>
  refine go5 ?_
  exact IntK.of (sW hs (fun h => absurd (k1.2 h.2.2.2.2.1) (by decide)))
 refine go5 ?_
 refine yB (num_AllValid hy hl2) (fun u hu => ?_)
 obtain ⟨z2, rfl, k2⟩ := hu
 cases z2
 case false =>
  refine go5 ?_
  exact IntK.of (sW hs (fun h => absurd (k2.2 h.2.2.2.2.2.1) (by decide)))
 have k1 := k1.1 rfl
 have k2 := k2.1 rfl
 refine go5 ?_
 refine yQ (fun n vs H => ∃ (i : Nat), vs = [.c (.ptr 0 0), i64 i] ∧ H = [.live ⟨[iC kind, cx, cy], bR, .rw⟩] ∧ n = X.length + 1 - i ∧ 1 ≤ i ∧ i ≤ X.length + 1 ∧ ∀ j (h : j + 1 < (X.map rt).length), j + 1 < i → (X.map rt)[j] < (X.map rt)[j + 1]) (by rfl) ⟨1, rfl, rfl, rfl, by omega, by omega, fun j _ h => by omega⟩ ?_
 rintro n vs H ⟨i, rfl, rfl, rfl, j1, j2, j3⟩
 refine go5 ?_
 cases hi : yA Cm.lss (i : Int) (X.length : Int)
 case true =>
  simp [yA] at hi
  have hi1 : i - 1 < X.length := by omega
  refine go5 ?_
  rw [show arith .sub .i64 (i : Int) 1 = ((i - 1 : Nat) : Int) by rw [xL, yF (by omega) (by omega)]; omega]
  refine go5 ?_
  refine xU hx hi1 (by omega) rfl (fun cs hcs => ?_)
  obtain rfl := hcs
  refine go5 ?_
  refine xU hx hi (by omega) rfl (fun cs hcs => ?_)
  obtain rfl := hcs
  refine go5 ?_
  refine yG (q_Of (k1 _ (qG hi1))) (fun u hu => ?_)
  obtain ⟨ds, rfl, hd⟩ := hu
  refine go5 ?_
  refine yG (q_Of (k1 _ (qG hi))) (fun u hu => ?_)
  obtain ⟨es, rfl, he⟩ := hu
  refine go5 ?_
  refine yG (q_Cmp hd he (by decide)) (fun u hu => ?_)
  obtain rfl := hu
  refine go5 ?_
  rw [cq_geq]
  cases hg : dec (rt X[i] ≤ rt X[i - 1])
  ·refine go5 ?_
   rw [yT i (by omega)]
   refine l_n (by rfl) (n' := X.length + 1 - (i + 1)) (by omega) ⟨i + 1, rfl, rfl, rfl, by omega, by omega, ?_⟩
   refine rises_take (by simpa using hi) j3 (fun h0 => ?_)
   have := yI.1 hg
   simp only [List.getElem_map]
   exact Rat.not_le.1 this
  ·refine go5 ?_
   refine IntK.of (sW hs (fun h => ?_))
   have h5 := h.2.2.2.2.2.2 (i - 1) (by simp; omega)
   simp only [List.getElem_map, show i - 1 + 1 = i by omega] at h5
   exact absurd (yE.1 hg) (Rat.not_le.2 h5)
 simp [yA] at hi
 have hr : tC (X.map rt) := fun j hj => j3 j hj (by simp at hj; omega)
 refine go5 ?_
 exact IntK.of (val_ok hs ⟨by omega, by omega, h5, by omega, k1, k2, hr⟩)
theorem pS {cx cy : C} {X Y : List R2} (kind : Int) (hx : Ls elP cx X) (hy : Ls elP cy Y) : semC Tryz.prog n_ref24_Validate [.agg [iC kind, cx, cy]] (IntK (valE kind X Y)) := by
 refine yC ok_ref24_Validate rfl (show HFVs [.agg [iC kind, cx, cy]] from ⟨⟨trivial, hx.hf, hy.hf, trivial⟩, trivial⟩) ?_
 refine go5 ?_
 cases h1 : yA Cm.gtr (X.length : Int) 24
 case true =>
  simp [yA] at h1
  refine go5 ?_
  exact IntK.of (val_long (.inl (by omega)))
 simp [yA] at h1
 refine go5 ?_
 cases h2 : yA Cm.gtr (Y.length : Int) 24
 case true =>
  simp [yA] at h2
  refine go5 ?_
  exact IntK.of (val_long (.inr (by omega)))
 simp [yA] at h2
 have hs : ¬ (24 < X.length ∨ 24 < Y.length) := by omega
 have hl : X.length < 1073741824 := by omega
 have hl2 : Y.length < 1073741824 := by omega
 refine go5 ?_
 cases h3 : yA Cm.lss kind 0
 case true =>
  simp [yA] at h3
  refine go5 ?_
  exact IntK.of (sW hs (fun h => absurd h.1 (by omega)))
 simp [yA] at h3
 refine go5 ?_
 cases h4 : yA Cm.gtr kind 3
 case true =>
  simp [yA] at h4
  refine go5 ?_
  exact IntK.of (sW hs (fun h => absurd h.2.1 (by omega)))
 simp [yA] at h4
 refine go5 ?_
 cases h5 : yA Cm.eql (X.length : Int) 0
 case true =>
  simp [yA] at h5
  refine go5 ?_
  exact IntK.of (sW hs (fun h => h.2.2.1 h5))
 simp [yA] at h5
 refine go5 ?_
 cases h6 : yA Cm.neq (X.length : Int) (Y.length : Int)
 case true =>
  simp [yA] at h6
  refine go5 ?_
  exact IntK.of (sW hs (fun h => absurd h.2.2.2.1 (by omega)))
 simp [yA] at h6
 refine go5 ?_
 refine yB (ref01_Are hx hl) (fun u hu => ?_)
 obtain ⟨z1, rfl, k1⟩ := hu
 cases z1
 case false =>
  refine go5 ?_
  exact IntK.of (sW hs (fun h => absurd (k1.2 h.2.2.2.2.1) (by decide)))
 refine go5 ?_
 refine yB (ref01_Are hy hl2) (fun u hu => ?_)
 obtain ⟨z2, rfl, k2⟩ := hu
 cases z2
 case false =>
  refine go5 ?_
  exact IntK.of (sW hs (fun h => absurd (k2.2 h.2.2.2.2.2.1) (by decide)))
 have k1 := k1.1 rfl
 have k2 := k2.1 rfl
 refine go5 ?_
 refine yB (ref24_rises hx k1 hl) (fun u hu => ?_)
 obtain ⟨z3, rfl, k3⟩ := hu
 cases z3
 case false =>
  refine go5 ?_
  exact IntK.of (sW hs (fun h => absurd (k3.2 h.2.2.2.2.2.2) (by decide)))
 refine go5 ?_
 exact IntK.of (val_ok hs ⟨by omega, by omega, h5, by omega, k1, k2, k3.1 rfl⟩)
theorem table_with {cx cy cl : C} {X Y l : List R2} (kind : Int) (hx : Ls elP cx X) (hy : Ls elP cy Y) (hc : Ls elP cl l) (hl3 : l.length < 1073741824) : semC Tryz.prog n_table_with [.agg [iC kind, cx, cy], .c cl] (IntK (sV kind X Y l)) := by
 refine yC ok_table_with rfl (show HFVs [.agg [iC kind, cx, cy], .c cl] from ⟨⟨trivial, hx.hf, hy.hf, trivial⟩, hc.hf, trivial⟩) ?_
 refine go5 ?_
 refine yB (gQ kind hx hy) (fun u hu => ?_)
 obtain rfl := hu
 refine go5 ?_
 rw [bM]
 cases h1 : dec (valE kind X Y ≠ 0)
 case true =>
  refine go5 ?_
  exact IntK.of (with_val (yE.1 h1))
 have h1 : valE kind X Y = 0 := Classical.byContradiction (yI.1 h1)
 refine go5 ?_
 refine yQ (fun n vs H => ∃ (i : Nat), vs = [.c cl, i64 l.length, i64 i] ∧ n = l.length - i ∧ i ≤ l.length ∧ sK (l.take i)) (by rfl) ⟨0, rfl, rfl, by omega, by intro p hp; simp at hp⟩ ?_
 rintro n vs H ⟨i, rfl, rfl, j1, j2⟩
 refine go5 ?_
 cases hi : yA Cm.lss (i : Int) (l.length : Int)
 case false =>
  simp [yA] at hi
  have ei : i = l.length := by omega
  subst ei
  rw [List.take_length] at j2
  refine go5 ?_
  exact IntK.of (with_ok h1 j2)
 simp [yA] at hi
 refine go5 ?_
 refine xU hc hi (by omega) rfl (fun cs hcs => ?_)
 obtain rfl := hcs
 refine go5 ?_
 refine yB (rat_Validate l[i]) (fun u hu => ?_)
 obtain rfl := hu
 cases hz : dec (tX l[i].1 l[i].2)
 case false =>
  refine go5 ?_
  refine c_t (by simp [yA]) ?_
  refine go5 ?_
  exact IntK.of (with_bad h1 (fun h => yI.1 hz (h _ (qG hi))))
 refine go5 ?_
 refine c_f (by simp [yA]) ?_
 refine go5 ?_
 rw [yT i (by omega)]
 exact l_n (by rfl) (by omega) ⟨i + 1, rfl, rfl, by omega, j2.step hi (yE.1 hz)⟩
theorem table_made_line {cx cy : C} {X Y : List R2} (hx : Ls elP cx X) (hy : Ls elP cy Y) (h : valE 1 X Y = 0) : semC Tryz.prog n_table_made [.agg [iC 1, cx, cy]] (MadeK (X.map rt) (Y.map rt) (sZ (X.map rt) (Y.map rt))) := by
 obtain ⟨h1, h2⟩ := jU h
 refine yC ok_table_made rfl (show HFVs [.agg [iC 1, cx, cy]] from ⟨⟨trivial, hx.hf, hy.hf, trivial⟩, trivial⟩) ?_
 refine go5 ?_
 refine yG (num_In hx h2.2.2.2.2.1 (by omega)) (fun u hu => ?_)
 obtain ⟨dx, rfl, g1⟩ := hu
 refine go5 ?_
 refine yG (num_In hy h2.2.2.2.2.2.1 (by omega)) (fun u hu => ?_)
 obtain ⟨dy, rfl, g2⟩ := hu
 refine go5 ?_
 refine c_t (by simp [yA]) ?_
 refine go5 ?_
 have hpos := List.length_pos_iff.2 h2.2.2.1
 have hlen := h2.2.2.2.1
 exact MadeK.fz (line_shape g1 g2 h2.2.2.2.2.2.2 (by simp; omega) (by simpa using hpos) (by simp; omega)) (by decide)
theorem table_Value {cx cy : C} {X Y : List R2} {pc : Nat → Rat → Rat} (kind : Int) (x : R2) (hx : Ls elP cx X) (hy : Ls elP cy Y) (hm : valE kind X Y = 0 → semC Tryz.prog n_table_made [.agg [iC kind, cx, cy]] (MadeK (X.map rt) (Y.map rt) pc)) : semC Tryz.prog n_table_Value [.agg [iC kind, cx, cy], .agg (ratC x)] (gF (bT pc kind X Y x)) := by
 refine yC ok_table_Value rfl (show HFVs [.agg [iC kind, cx, cy], .agg (ratC x)] from ⟨⟨trivial, hx.hf, hy.hf, trivial⟩, sN _, trivial⟩) ?_
 refine go8 ?_
 simp only [vT, vS, ratC, uB, uA, List.set_cons_zero, List.set_cons_succ, List.nil_append, List.cons_append, List.append_nil, List.replicate_succ, List.replicate_zero, List.length_cons, List.length_nil, splice, List.take_succ_cons, List.take_zero, List.drop_succ_cons, List.drop_zero, List.take_nil, List.drop_nil, Nat.zero_add, Nat.reduceAdd, Nat.reduceMul, Int.reduceToNat, xO, List.getElem?_cons_succ, List.getElem?_cons_zero]
 have hc : Ls elP (.imm 1 (ratC x)) [x] := .imm (.one rfl)
 refine yB (table_with kind hx hy hc (by simp)) (fun u hu => ?_)
 obtain rfl := hu
 refine go8 ?_
 rw [bM]
 cases h1 : dec (sV kind X Y [x] ≠ 0)
 case true =>
  refine go8 ?_
  refine gF.bad ?_
  unfold bT
  rw [yI.2 (yE.1 h1)]
  rfl
 have h1 : sV kind X Y [x] = 0 := Classical.byContradiction (yI.1 h1)
 obtain ⟨h2, h3⟩ := with_zero h1
 refine go8 ?_
 refine yG (hm h2) (fun u hu => ?_)
 obtain ⟨s, dx, dy, K, rfl, hK, hS⟩ := hu
 refine go8 ?_
 refine yG (q_Of (h3 x (by simp))) (fun u hu => ?_)
 obtain ⟨es, rfl, g1⟩ := hu
 refine go8 ?_
 refine yG (table_value hS g1 (evK_cap hK.2)) (fun u hu => ?_)
 obtain ⟨fs, rfl, g2⟩ := hu
 refine go8 ?_
 refine yG (gH g2) (fun u hu => ?_)
 obtain rfl := hu
 refine go8 ?_
 refine gF.of ?_
 unfold bT
 rw [yE.2 h1]
 rfl
end Go.Proofs.YtjncgcnofiaiaaaGreat

set_option linter.unusedVariables false
set_option linter.unusedSimpArgs false
namespace Go.Proofs.YtjncgcnofiaiaaaGreat
open Go.RowKit
set_option maxRecDepth 20000
theorem ev_pad {g : Nat → Rat} {n : Nat} (x : Rat) (h : ∀ j, n ≤ j → g j = 0) (m : Nat) : ev ((List.range (n + m)).map g) x = ev ((List.range n).map g) x := by
 induction m with
 | zero => rfl
 | succ m ih =>
  have e : (List.range (n + (m + 1))).map g = (List.range (n + m)).map g ++ [g (n + m)] := by
   rw [← Nat.add_assoc, List.range_succ, List.map_append]
   rfl
  rw [e, sI, ih, pZ, h (n + m) (by omega)]
  grind
theorem integ_ext {l m : List Rat} (h : ∀ x, ev l x = ev m x) (x : Rat) : ev (integ l) x = ev (integ m) x := by
 have hc := coef_eq h
 have key : ∀ (l : List Rat) (n : Nat), ev ((List.range (l.length + n)).map fun i => l.getD i 0 / (((i + 1 : Nat) : Int) : Rat)) x = ev ((List.range l.length).map fun i => l.getD i 0 / (((i + 1 : Nat) : Int) : Rat)) x := fun l n => ev_pad x (fun j hj => by
  rw [getD_ge hj, Rat.div_def, Rat.zero_mul]) n
 unfold integ
 rw [show ev (0 :: (List.range l.length).map fun i => l.getD i 0 / (((i + 1 : Nat) : Int) : Rat)) x = 0 + x * ev ((List.range l.length).map fun i => l.getD i 0 / (((i + 1 : Nat) : Int) : Rat)) x from rfl,
  show ev (0 :: (List.range m.length).map fun i => m.getD i 0 / (((i + 1 : Nat) : Int) : Rat)) x = 0 + x * ev ((List.range m.length).map fun i => m.getD i 0 / (((i + 1 : Nat) : Int) : Rat)) x from rfl,
  ← key l m.length, ← key m l.length, Nat.add_comm m.length l.length]
 congr 3
 apply List.map_congr_left
 intro i _
 rw [hc i]
noncomputable def polyOf (f : Rat → Rat) : List Rat := Classical.epsilon fun m => ∀ x, ev m x = f x
noncomputable def prim (f : Rat → Rat) (x : Rat) : Rat := ev (integ (polyOf f)) x
theorem prim_eq {f : Rat → Rat} {m : List Rat} (h : ∀ x, ev m x = f x) (x : Rat) : ev (integ m) x = prim f x := by
 have h2 : ∀ x, ev (polyOf f) x = f x := Classical.epsilon_spec (p := fun m => ∀ x, ev m x = f x) ⟨m, h⟩
 exact integ_ext (fun x => (h x).trans (h2 x).symm) x
theorem Out.swap {α : Type} {E : El α} {el : TypeId} {F G R : Hp} {c : C} {l : List α} (h : Out E el F.length (F ++ R) c l) (hl : G.length = F.length) : Out E el F.length (G ++ R) c l := by
 cases h with
 | nil => exact .nil
 | @sl b n co cells ds l hm hb hn hc h =>
  have hb' : (G ++ R)[b]? = some (.live ⟨cells, el, .rw⟩) := by
   rw [List.getElem?_append_right hm] at hb
   rw [List.getElem?_append_right (by omega), hl]
   exact hb
  exact .sl hm hb' hn hc h
def mxQ (a b : Rat) : Rat := if a < b then b else a
def mnQ (a b : Rat) : Rat := if b < a then b else a
abbrev Part : Type := (Rat → Rat) × Rat × Rat
def clip (f : Rat → Rat) (a b lo hi : Rat) : List Part := if mxQ a lo < mnQ b hi then [(f, mxQ a lo, mnQ b hi)] else []
def bJ (pc : Nat → Rat → Rat) (xs : List Rat) (lo hi : Rat) : Nat → List Part
 | 0 => []
 | i + 1 => bJ pc xs lo hi i ++ clip (pc i) (xs.getD i 0) (xs.getD (i + 1) 0) lo hi
def bW (pc : Nat → Rat → Rat) (xs ys : List Rat) (lo hi : Rat) : List Part := clip (fun _ => ys.getD 0 0) lo (xs.getD 0 0) lo hi ++ bJ pc xs lo hi (xs.length - 1) ++ clip (fun _ => ys.getD (xs.length - 1) 0) (xs.getD (xs.length - 1) 0) hi lo hi
noncomputable def termP (p : Part) : Rat := prim p.1 p.2.2 - prim p.1 p.2.1
noncomputable def bQ : List Part → Rat
 | [] => 0
 | p :: r => termP p + bQ r
theorem areaL_snoc (p : Part) : ∀ l, bQ (l ++ [p]) = bQ l + termP p
 | [] => by
  simp only [List.nil_append, bQ]
  grind
 | q :: r => by
  simp only [List.cons_append, bQ, areaL_snoc p r]
  grind
theorem areaL_take {l : List Part} {i : Nat} (h : i < l.length) : bQ (l.take (i + 1)) = bQ (l.take i) + termP l[i] := by
 rw [tS h, areaL_snoc]
theorem clip_len {f : Rat → Rat} {a b lo hi : Rat} : (clip f a b lo hi).length ≤ 1 := by
 unfold clip
 split <;> simp
theorem partsTo_len {pc : Nat → Rat → Rat} {xs : List Rat} {lo hi : Rat} : ∀ i, (bJ pc xs lo hi i).length ≤ i
 | 0 => Nat.le_refl _
 | i + 1 => by
  have h1 := partsTo_len (pc := pc) (xs := xs) (lo := lo) (hi := hi) i
  have h2 := clip_len (f := pc i) (a := xs.getD i 0) (b := xs.getD (i + 1) 0) (lo := lo) (hi := hi)
  simp only [bJ, List.length_append]
  omega
theorem partsR_len {pc : Nat → Rat → Rat} {xs ys : List Rat} {lo hi : Rat} : (bW pc xs ys lo hi).length ≤ xs.length + 2 := by
 have h1 := clip_len (f := fun _ => ys.getD 0 0) (a := lo) (b := xs.getD 0 0) (lo := lo) (hi := hi)
 have h2 := clip_len (f := fun _ => ys.getD (xs.length - 1) 0) (a := xs.getD (xs.length - 1) 0) (b := hi) (lo := lo) (hi := hi)
 have h3 := partsTo_len (pc := pc) (xs := xs) (lo := lo) (hi := hi) (xs.length - 1)
 simp only [bW, List.length_append]
 omega
structure IsPart (K : Nat) (cs : List C) (q : Part) : Prop where
 is : ∃ c m av bs, cs = c :: (av ++ bs) ∧ Ls (elQ K) c m ∧ pE q.1 m ∧ IQ 2 av q.2.1 ∧ IQ 2 bs q.2.2
def elPart (K : Nat) : El Part := ⟨IsPart K, 13, fun h => by
 obtain ⟨c, m, av, bs, rfl, _, _, h1, h2⟩ := h.is
 obtain ⟨_, _, _, _, _, _, rfl⟩ := h1.six
 obtain ⟨_, _, _, _, _, _, rfl⟩ := h2.six
 rfl, fun h => by
 obtain ⟨c, m, av, bs, rfl, h3, _, h1, h2⟩ := h.is
 exact ⟨h3.hf, HFL_app h1.hf h2.hf⟩⟩
theorem mx_rp (a b : Rat) : mxR (rp a) (rp b) = rp (mxQ a b) := by
 unfold mxR mxQ
 rw [bN]
 by_cases h : a < b
 ·rw [yE.2 h, if_pos h]
  rfl
 ·rw [yI.2 h, if_neg h]
  rfl
theorem mn_rp (a b : Rat) : mnR (rp a) (rp b) = rp (mnQ a b) := by
 unfold mnR mnQ
 rw [bN]
 by_cases h : b < a
 ·rw [yE.2 h, if_pos h]
  rfl
 ·rw [yI.2 h, if_neg h]
  rfl
theorem mx_bd {k : Nat} {a b : Rat} (h1 : Bd k (rp a)) (h2 : Bd k (rp b)) : Bd k (rp (mxQ a b)) := by
 unfold mxQ
 split
 ·exact h2
 ·exact h1
theorem mn_bd {k : Nat} {a b : Rat} (h1 : Bd k (rp a)) (h2 : Bd k (rp b)) : Bd k (rp (mnQ a b)) := by
 unfold mnQ
 split
 ·exact h2
 ·exact h1
theorem get2a {H : Hp} {a b : Slot} : ((H ++ [a]) ++ [b])[H.length]? = some a := by simp
theorem get2b {H : Hp} {a b : Slot} : ((H ++ [a]) ++ [b])[H.length + 1]? = some b := by simp
theorem set2a {H : Hp} {a b c : Slot} : ((H ++ [a]) ++ [b]).set H.length c = (H ++ [c]) ++ [b] := by simp
theorem set2b {H : Hp} {a b c : Slot} : ((H ++ [a]) ++ [b]).set (H.length + 1) c = (H ++ [a]) ++ [c] := by simp
theorem len1 {H : Hp} {a : Slot} : (H ++ [a]).length = H.length + 1 := by simp
theorem bX {H : Hp} {a b s : Slot} {i : Nat} (h : H[i]? = some s) : ((H ++ [a]) ++ [b])[i]? = some s := by
 have := lt_of_getElem? h
 rw [List.getElem?_append_left (by simp; omega), List.getElem?_append_left this]
 exact h
attribute [local irreducible] yA semH semC qLen qNil qIad qSlc qIdx xA yM xH appX appI slcX awpF yR xQ xopF xT qval lval seqQ xP wM wK xY cnd arith IntKind.wrap
theorem q_Max {k : Nat} {cs ds : List C} {a b : Rat} (hx : IQ k cs a) (hy : IQ k ds b) (hk : k ≤ 268435456) : semC Tryz.prog n_num_Max [.agg cs, .agg ds] (QV k (mxQ a b)) := by
 refine vQ (fun u hu => ?_) (num_Max hx.is hy.is hx.bd hy.bd hk)
 obtain ⟨cs, rfl, h1⟩ := hu
 rw [mx_rp] at h1
 exact ⟨cs, rfl, h1, mx_bd hx.bd hy.bd⟩
theorem q_Min {k : Nat} {cs ds : List C} {a b : Rat} (hx : IQ k cs a) (hy : IQ k ds b) (hk : k ≤ 268435456) : semC Tryz.prog n_num_Min [.agg cs, .agg ds] (QV k (mnQ a b)) := by
 refine vQ (fun u hu => ?_) (num_Min hx.is hy.is hx.bd hy.bd hk)
 obtain ⟨cs, rfl, h1⟩ := hu
 rw [mn_rp] at h1
 exact ⟨cs, rfl, h1, mn_bd hx.bd hy.bd⟩
theorem parts_add {K : Nat} {cp o : C} {m : List Rat} {f : Rat → Rat} {av bs fs ts : List C} {a b lo hi : Rat} {x2 : Slot} {R : Hp} {L : List Part} (hp : Ls (elQ K) cp m) (hf : pE f m) (ha : IQ 2 av a) (hb : IQ 2 bs b) (hfs : IQ 2 fs lo) (hts : IQ 2 ts hi)
  (hL : L.length < 1000000) (ho : Out (elPart K) T_table_part 4 (.live ⟨fs, xW, .rw⟩ :: .live ⟨ts, xW, .rw⟩ :: x2 :: .live ⟨[o], vF, .rw⟩ :: R) o L) :
  semH Tryz.prog n_table_parts_1 [.c cp, .agg av, .agg bs, .c (.ptr 0 0), .c (.ptr 1 0), .c (.ptr 3 0)] (.live ⟨fs, xW, .rw⟩ :: .live ⟨ts, xW, .rw⟩ :: x2 :: .live ⟨[o], vF, .rw⟩ :: R)
   (fun _ H' => ∃ o' R', H' = .live ⟨fs, xW, .rw⟩ :: .live ⟨ts, xW, .rw⟩ :: x2 :: .live ⟨[o'], vF, .rw⟩ :: R' ∧ Out (elPart K) T_table_part 4 (.live ⟨fs, xW, .rw⟩ :: .live ⟨ts, xW, .rw⟩ :: x2 :: .live ⟨[o'], vF, .rw⟩ :: R') o' (L ++ clip f a b lo hi)) := by
 refine gI ok_table_parts_1 rfl ?_
 obtain ⟨a1, a2, a3, a4, a5, a6, rfl⟩ := id ha.six
 obtain ⟨b1, b2, b3, b4, b5, b6, rfl⟩ := id hb.six
 obtain ⟨f1, f2, f3, f4, f5, f6, rfl⟩ := id hfs.six
 obtain ⟨t1, t2, t3, t4, t5, t6, rfl⟩ := id hts.six
 generalize hH : (Slot.live ⟨[f1, f2, f3, f4, f5, f6], xW, .rw⟩ :: .live ⟨[t1, t2, t3, t4, t5, t6], xW, .rw⟩ :: x2 :: .live ⟨[o], vF, .rw⟩ :: R) = H
 have g0 : H[0]? = some (.live ⟨[f1, f2, f3, f4, f5, f6], xW, .rw⟩) := by rw [← hH]; rfl
 have g1 : H[1]? = some (.live ⟨[t1, t2, t3, t4, t5, t6], xW, .rw⟩) := by rw [← hH]; rfl
 have g3 : H[3]? = some (.live ⟨[o], vF, .rw⟩) := by rw [← hH]; rfl
 have hHR : H = [.live ⟨[f1, f2, f3, f4, f5, f6], xW, .rw⟩, .live ⟨[t1, t2, t3, t4, t5, t6], xW, .rw⟩, x2, .live ⟨[o], vF, .rw⟩] ++ R := hH.symm
 refine go8 ?_
 rw [len1]
 refine yO get2a (by rfl) ?_
 refine go8 ?_
 refine yO (bX g0) (by rfl) ?_
 refine go8 ?_
 refine yO (bX g1) (by rfl) ?_
 refine go8 ?_
 refine yG (q_Max ha hfs (by decide)) (fun u hu => ?_)
 obtain ⟨ms, rfl, h1⟩ := hu
 obtain ⟨m1, m2, m3, m4, m5, m6, rfl⟩ := id h1.six
 refine go8 ?_
 refine yG (q_Min hb hts (by decide)) (fun u hu => ?_)
 obtain ⟨ns, rfl, h2⟩ := hu
 obtain ⟨n1, n2, n3, n4, n5, n6, rfl⟩ := id h2.six
 refine go8 ?_
 refine yU get2a (by rfl) (by rfl) (by simp) ?_
 rw [set2a]
 simp only [len1]
 refine go8 ?_
 refine yU get2b (by rfl) (by rfl) (by simp) ?_
 rw [set2b]
 refine go8 ?_
 refine yO get2a (by rfl) ?_
 refine go8 ?_
 refine yO get2b (by rfl) ?_
 refine go8 ?_
 refine yB (uK h1 h2 (by decide)) (fun u hu => ?_)
 obtain rfl := hu
 refine go8 ?_
 rw [jO]
 cases hlt : dec (mxQ a lo < mnQ b hi)
 case false =>
  refine go8 ?_
  refine ⟨o, (R ++ [_]) ++ [_], by rw [hHR]; rfl, ?_⟩
  have e : clip f a b lo hi = [] := by
   unfold clip
   rw [if_neg (yI.1 hlt)]
  rw [e, List.append_nil]
  exact (ho.grow (X := [_])).grow (X := [_])
 have e : clip f a b lo hi = [(f, mxQ a lo, mnQ b hi)] := by
  unfold clip
  rw [if_pos (yE.1 hlt)]
 have hP : (elPart K).p (cp :: ([m1, m2, m3, m4, m5, m6] ++ [n1, n2, n3, n4, n5, n6])) (f, mxQ a lo, mnQ b hi) := ⟨cp, m, _, _, rfl, hp, hf, h1, h2⟩
 refine go8 ?_
 refine xC (bX g3) (by rfl) ?_
 refine go8 ?_
 refine yO get2a (by rfl) ?_
 refine go8 ?_
 refine yO get2b (by rfl) ?_
 refine go8 ?_
 refine app_imm (F := [.live ⟨[f1, f2, f3, f4, f5, f6], xW, .rw⟩, .live ⟨[t1, t2, t3, t4, t5, t6], xW, .rw⟩, x2, .live ⟨[o], vF, .rw⟩]) (R := (R ++ [_]) ++ [_]) (by rw [hHR]; rfl) ((ho.grow (X := [_])).grow (X := [_])) (by rfl) (by rfl) rfl hP (by omega) (fun R' o' h4 => ?_)
 refine go8 ?_
 rw [e]
 refine ⟨o', R', rfl, ?_⟩
 exact h4.swap (G := [.live ⟨[f1, f2, f3, f4, f5, f6], xW, .rw⟩, .live ⟨[t1, t2, t3, t4, t5, t6], xW, .rw⟩, x2, .live ⟨[o'], vF, .rw⟩]) rfl
end Go.Proofs.YtjncgcnofiaiaaaGreat

set_option linter.unusedVariables false
set_option linter.unusedSimpArgs false
namespace Go.Proofs.YtjncgcnofiaiaaaGreat
open Go.RowKit
set_option maxRecDepth 20000
def arK (K n : Nat) : Nat := n * (evK (K + 1) 2 5 + evK (K + 1) 2 5 + 2) + 1
theorem arK_succ (K n : Nat) : arK K (n + 1) = arK K n + (evK (K + 1) 2 5 + evK (K + 1) 2 5 + 2) := by
 unfold arK
 rw [Nat.succ_mul]
 omega
theorem arK_mono {K i n : Nat} (h : i ≤ n) : arK K i ≤ arK K n := by
 unfold arK
 have := Nat.mul_le_mul_right (evK (K + 1) 2 5 + evK (K + 1) 2 5 + 2) h
 omega
theorem arK_cap {K : Nat} (h : K ≤ sA) : arK K 26 ≤ 134217728 := by
 unfold arK evK
 unfold sA at h
 omega
noncomputable def sumR (pc : Nat → Rat → Rat) (xs ys : List Rat) (x y : Rat) : Rat := if y < x then -bQ (bW pc xs ys (mnQ x y) (mxQ x y)) else bQ (bW pc xs ys (mnQ x y) (mxQ x y))
noncomputable def integR (pc : Nat → Rat → Rat) (kind : Int) (X Y : List R2) (x y : R2) : R2 × Int := bif dec (sV kind X Y [x, y] = 0) then numR (sumR pc (X.map rt) (Y.map rt) (rt x) (rt y)) else ((0, 0), sV kind X Y [x, y])
theorem const_piece {q : Rat} {m : List Rat} (h : Cut [q] m) : pE (fun _ => q) m := ⟨fun x => by rw [h.ev, pZ], by have := h.len; simp at this; omega, h.top⟩
attribute [local irreducible] yA semH semC qLen qNil qIad qSlc qIdx xA yM xH appX appI slcX awpF yR xQ xopF xT qval lval seqQ xP wM wK xY cnd arith IntKind.wrap
theorem table_parts {s cx cy : C} {xs ys : List Rat} {K : Nat} {pc : Nat → Rat → Rat} {fs ts : List C} {lo hi : Rat} (h : Shape s cx cy xs ys K pc) (hK : 2 ≤ K) (hfs : IQ 2 fs lo) (hts : IQ 2 ts hi) : semC Tryz.prog n_table_parts [.c s, .agg fs, .agg ts] (LsK (elPart K) (bW pc xs ys lo hi)) := by
 refine yC ok_table_parts rfl (show HFVs [.c s, .agg fs, .agg ts] from ⟨h.hf, hfs.hf, hts.hf, trivial⟩) ?_
 obtain ⟨f1, f2, f3, f4, f5, f6, rfl⟩ := id hfs.six
 obtain ⟨t1, t2, t3, t4, t5, t6, rfl⟩ := id hts.six
 have hx := h.x
 have hy := h.y
 have hlen := h.len
 have hpos := h.pos
 have hsm := h.small
 have e1 : arith .sub .i64 (xs.length : Int) 1 = ((xs.length - 1 : Nat) : Int) := by rw [xL, yF (by omega) (by omega)]; omega
 refine go9 ?_
 refine yB h.at_ (fun u hu => ?_)
 obtain rfl := hu
 refine go9 ?_
 refine xU hy (i := 0) (by omega) (by omega) rfl (fun av has => ?_)
 refine go9 ?_
 refine xU hx (i := 0) (by omega) (by omega) rfl (fun bv hbs => ?_)
 refine go9 ?_
 refine yG (qp_Const has) (fun u hu => ?_)
 obtain ⟨cp, m, rfl, g1, g2⟩ := hu
 refine go9 ?_
 rw [← xG (l := ys) (i := 0) (by omega)] at g2
 rw [← xG (l := xs) (i := 0) (by omega)] at hbs
 simp only [vT, vS, ratC, uB, uA, List.set_cons_zero, List.set_cons_succ, List.nil_append, List.cons_append, List.append_nil, List.replicate_succ, List.replicate_zero, List.length_cons, List.length_nil, splice, List.take_succ_cons, List.take_zero, List.drop_succ_cons, List.drop_zero, List.take_nil, List.drop_nil, Nat.zero_add, Nat.reduceAdd, Nat.reduceMul, Int.reduceToNat, xO, List.getElem?_cons_succ, List.getElem?_cons_zero]
 refine x_callc (by rfl) (by rfl) ?_
 refine semH_mono (fun u H' hK' => ?_) (parts_add (R := []) (L := []) (g1.up hK) (const_piece g2) hfs hbs hfs hts (by simp) .nil)
 obtain ⟨o1, R1, rfl, g3⟩ := hK'
 rw [List.nil_append] at g3
 refine go9 ?_
 rw [e1]
 have c0 := clip_len (f := fun _ => ys.getD 0 0) (a := lo) (b := xs.getD 0 0) (lo := lo) (hi := hi)
 refine yQ (fun w vs H => ∃ (i : Nat) (o : C) (R : Hp), vs = [.c s, .c (.ptr 1 0), .c (.ptr 2 0), i64 xs.length, .c (.ptr 3 0), .c (.fn 130 [.ptr 0 0, .ptr 1 0, .ptr 3 0]), i64 ((xs.length - 1 : Nat) : Int), i64 i] ∧ H = .live ⟨[f1, f2, f3, f4, f5, f6], xW, .rw⟩ :: .live ⟨[t1, t2, t3, t4, t5, t6], xW, .rw⟩ :: .live ⟨[cx, cy], vH, .rw⟩ :: .live ⟨[o], vF, .rw⟩ :: R ∧ w = xs.length - 1 - i ∧ i ≤ xs.length - 1 ∧ Out (elPart K) T_table_part 4 (.live ⟨[f1, f2, f3, f4, f5, f6], xW, .rw⟩ :: .live ⟨[t1, t2, t3, t4, t5, t6], xW, .rw⟩ :: .live ⟨[cx, cy], vH, .rw⟩ :: .live ⟨[o], vF, .rw⟩ :: R) o (clip (fun _ => ys.getD 0 0) lo (xs.getD 0 0) lo hi ++ bJ pc xs lo hi i)) (by rfl) ⟨0, o1, R1, rfl, rfl, rfl, by omega, by simpa [bJ] using g3⟩ ?_
 clear g1 g2 g3 has hbs
 rintro w vs H ⟨i, o, R, rfl, rfl, rfl, h1, h2⟩
 have c1 := partsTo_len (pc := pc) (xs := xs) (lo := lo) (hi := hi) i
 refine go9 ?_
 cases hi' : yA Cm.lss (i : Int) ((xs.length - 1 : Nat) : Int)
 case true =>
  simp [yA] at hi'
  refine go9 ?_
  refine xU hx (i := i) (by omega) (by omega) rfl (fun av has => ?_)
  refine go9 ?_
  rw [yT i (by omega)]
  refine go9 ?_
  refine xU hx (i := i + 1) (by omega) (by omega) rfl (fun bv hbs => ?_)
  refine go9 ?_
  refine yG (h.piece i (by omega)) (fun u hu => ?_)
  obtain ⟨cp, m, rfl, g1, g2⟩ := hu
  rw [← xG (l := xs) (i := i) (by omega)] at has
  rw [← xG (l := xs) (i := i + 1) (by omega)] at hbs
  refine go9 ?_
  refine x_callc (by rfl) (by rfl) ?_
  refine semH_mono (fun u H' hK' => ?_) (parts_add g1 g2 has hbs hfs hts (by rw [List.length_append]; omega) h2)
  obtain ⟨o2, R2, rfl, g3⟩ := hK'
  refine go9 ?_
  rw [yT i (by omega)]
  refine l_n (by rfl) (n' := xs.length - 1 - (i + 1)) (by omega) ⟨i + 1, o2, R2, rfl, rfl, rfl, by omega, ?_⟩
  simp only [bJ]
  rw [← List.append_assoc]
  exact g3
 simp [yA] at hi'
 have ei : i = xs.length - 1 := by omega
 refine go9 ?_
 rw [e1]
 refine go9 ?_
 refine xU hy (i := xs.length - 1) (by omega) (by omega) rfl (fun av has => ?_)
 refine go9 ?_
 rw [e1]
 refine go9 ?_
 refine xU hx (i := xs.length - 1) (by omega) (by omega) rfl (fun bv hbs => ?_)
 refine go9 ?_
 refine yG (qp_Const has) (fun u hu => ?_)
 obtain ⟨cp, m, rfl, g1, g2⟩ := hu
 rw [← xG (l := ys) (i := xs.length - 1) (by omega)] at g2
 rw [← xG (l := xs) (i := xs.length - 1) (by omega)] at hbs
 refine go9 ?_
 refine x_callc (by rfl) (by rfl) ?_
 refine semH_mono (fun u H' hK' => ?_) (parts_add (g1.up hK) (const_piece g2) hbs hts hfs hts (by rw [List.length_append]; omega) h2)
 obtain ⟨o2, R2, rfl, g3⟩ := hK'
 refine go9 ?_
 rw [ei] at g3
 exact g3.done
theorem table_Integral {cx cy : C} {X Y : List R2} {pc : Nat → Rat → Rat} (kind : Int) (x y : R2) (hx : Ls elP cx X) (hy : Ls elP cy Y) (hm : valE kind X Y = 0 → semC Tryz.prog n_table_made [.agg [iC kind, cx, cy]] (MadeK (X.map rt) (Y.map rt) pc)) : semC Tryz.prog n_table_Integral [.agg [iC kind, cx, cy], .agg (ratC x), .agg (ratC y)] (gF (integR pc kind X Y x y)) := by
 refine yC ok_table_Integral rfl (show HFVs [.agg [iC kind, cx, cy], .agg (ratC x), .agg (ratC y)] from ⟨⟨trivial, hx.hf, hy.hf, trivial⟩, sN _, sN _, trivial⟩) ?_
 refine go8 ?_
 simp only [vT, vS, ratC, uB, uA, List.set_cons_zero, List.set_cons_succ, List.nil_append, List.cons_append, List.append_nil, List.replicate_succ, List.replicate_zero, List.length_cons, List.length_nil, splice, List.take_succ_cons, List.take_zero, List.drop_succ_cons, List.drop_zero, List.take_nil, List.drop_nil, Nat.zero_add, Nat.reduceAdd, Nat.reduceMul, Int.reduceToNat, xO, List.getElem?_cons_succ, List.getElem?_cons_zero]
 have hc : Ls elP (.imm 2 (ratC x ++ ratC y)) [x, y] := .imm (.cons rfl (.one rfl))
 refine yB (table_with kind hx hy hc (by simp)) (fun u hu => ?_)
 obtain rfl := hu
 refine go8 ?_
 rw [bM]
 cases h1 : dec (sV kind X Y [x, y] ≠ 0)
 case true =>
  refine go8 ?_
  refine gF.bad ?_
  unfold integR
  rw [yI.2 (yE.1 h1)]
  rfl
 have h1 : sV kind X Y [x, y] = 0 := Classical.byContradiction (yI.1 h1)
 obtain ⟨h2, h3⟩ := with_zero h1
 have h24 := (jU h2).1
 refine go8 ?_
 refine yG (q_Of (h3 x (by simp))) (fun u hu => ?_)
 obtain ⟨es, rfl, g1⟩ := hu
 obtain ⟨x1, x2, x3, x4, x5, x6, rfl⟩ := id g1.six
 refine go8 ?_
 refine yG (q_Of (h3 y (by simp))) (fun u hu => ?_)
 obtain ⟨fs, rfl, g2⟩ := hu
 obtain ⟨y1, y2, y3, y4, y5, y6, rfl⟩ := id g2.six
 refine go8 ?_
 refine yB (pV (g := 0) (by decide)) (fun u hu => ?_)
 obtain ⟨zs, rfl, g3⟩ := hu
 obtain ⟨z1, z2, z3, z4, z5, z6, rfl⟩ := id g3.six
 refine go8 ?_
 simp only [vT, vS, ratC, uB, uA, List.set_cons_zero, List.set_cons_succ, List.nil_append, List.cons_append, List.append_nil, List.replicate_succ, List.replicate_zero, List.length_cons, List.length_nil, splice, List.take_succ_cons, List.take_zero, List.drop_succ_cons, List.drop_zero, List.take_nil, List.drop_nil, Nat.zero_add, Nat.reduceAdd, Nat.reduceMul, Int.reduceToNat, xO, List.getElem?_cons_succ, List.getElem?_cons_zero]
 refine yG (hm h2) (fun u hu => ?_)
 obtain ⟨s, dx, dy, K, rfl, hK, hS⟩ := hu
 refine go8 ?_
 refine yG (q_Min g1 g2 (by decide)) (fun u hu => ?_)
 obtain ⟨ls, rfl, g4⟩ := hu
 refine go8 ?_
 refine yG (q_Max g1 g2 (by decide)) (fun u hu => ?_)
 obtain ⟨hs, rfl, g5⟩ := hu
 refine go8 ?_
 refine yG (table_parts hS hK.1 g4 g5) (fun u hu => ?_)
 obtain ⟨cp, rfl, g6⟩ := hu
 have hll : (bW pc (X.map rt) (Y.map rt) (mnQ (rt x) (rt y)) (mxQ (rt x) (rt y))).length ≤ 26 := by
  have := partsR_len (pc := pc) (xs := X.map rt) (ys := Y.map rt) (lo := mnQ (rt x) (rt y)) (hi := mxQ (rt x) (rt y))
  rw [List.length_map] at this
  omega
 have hsum : ∀ S : Rat, bQ (bW pc (X.map rt) (Y.map rt) (mnQ (rt x) (rt y)) (mxQ (rt x) (rt y))) = S → integR pc kind X Y x y = numR (if rt y < rt x then -S else S) := by
  intro S hS
  unfold integR sumR
  rw [yE.2 h1, hS]
  rfl
 generalize bW pc (X.map rt) (Y.map rt) (mnQ (rt x) (rt y)) (mxQ (rt x) (rt y)) = L at g6 hll hsum
 have hcap := arK_cap hK.2
 refine go8 ?_
 refine yQ (fun w vs H => ∃ (i : Nat) (ss : List C) (b0 b1 b2 : Slot) (R : Hp), vs = [.c (.ptr 3 0), .c (.ptr 4 0), .c (.ptr 5 0), .c (.ptr 6 0), .c cp, i64 L.length, i64 i] ∧ H = b0 :: b1 :: b2 :: .live ⟨[.int .i64 0, .int .i64 0], wU, .rw⟩ :: .live ⟨[x1, x2, x3, x4, x5, x6], xW, .rw⟩ :: .live ⟨[y1, y2, y3, y4, y5, y6], xW, .rw⟩ :: .live ⟨ss, xW, .rw⟩ :: R ∧ w = L.length - i ∧ i ≤ L.length ∧ IQ (arK K i) ss (bQ (L.take i))) (by rfl) ⟨0, _, _, _, _, [], rfl, rfl, rfl, by omega, g3.up (by unfold arK; omega)⟩ ?_
 clear g3
 rintro w vs H ⟨i, ss, b0, b1, b2, R, rfl, rfl, rfl, j1, j2⟩
 obtain ⟨s1, s2, s3, s4, s5, s6, rfl⟩ := id j2.six
 refine go8 ?_
 cases hi : yA Cm.lss (i : Int) (L.length : Int)
 case true =>
  simp [yA] at hi
  have hk1 := Nat.le_trans (arK_mono (K := K) (show i + 1 ≤ 26 by omega)) hcap
  rw [arK_succ] at hk1
  refine go8 ?_
  refine xU g6 (i := i) hi (by omega) rfl (fun cs hcs => ?_)
  obtain ⟨c, m, av, bv, rfl, p1, p2, p3, p4⟩ := IsPart.is hcs
  obtain ⟨a1, a2, a3, a4, a5, a6, rfl⟩ := id p3.six
  obtain ⟨d1, d2, d3, d4, d5, d6, rfl⟩ := id p4.six
  have l1 := p2.len
  refine go8 ?_
  refine yB (qp_Integral p1 (by omega) (by unfold evK at hk1; omega)) (fun u hu => ?_)
  obtain ⟨cf, F, rfl, q1, q2⟩ := hu
  have l2 := q2.len
  have hE := qW (k := K + 1) (m := 2) (show F.length ≤ 5 by omega)
  refine go8 ?_
  refine yG (pU q1 p4 (by omega) (by omega)) (fun u hu => ?_)
  obtain ⟨us, rfl, q3⟩ := hu
  refine go8 ?_
  refine yG (pU q1 p3 (by omega) (by omega)) (fun u hu => ?_)
  obtain ⟨ws, rfl, q4⟩ := hu
  refine go8 ?_
  refine yG (gW (q3.up hE) (q4.up hE) (by omega)) (fun u hu => ?_)
  obtain ⟨rs, rfl, q5⟩ := hu
  refine go8 ?_
  refine yG (q_Add2 j2 q5 (by omega)) (fun u hu => ?_)
  obtain ⟨ts, rfl, q6⟩ := hu
  obtain ⟨t1, t2, t3, t4, t5, t6, rfl⟩ := id q6.six
  refine go8 ?_
  rw [yT i (by omega)]
  refine l_n (by rfl) (n' := L.length - (i + 1)) (by omega) ⟨i + 1, _, b0, b1, b2, _, rfl, rfl, rfl, by omega, ?_⟩
  rw [areaL_take hi, arK_succ]
  have e : bQ (L.take i) + termP L[i] = bQ (L.take i) + (ev F L[i].2.2 - ev F L[i].2.1) := by
   unfold termP
   rw [q2.ev, q2.ev, prim_eq p2.ev, prim_eq p2.ev]
  rw [e]
  exact q6.up (by omega)
 simp [yA] at hi
 have ei : i = L.length := by omega
 rw [ei, List.take_length] at j2
 have hk2 := Nat.le_trans (arK_mono (K := K) hll) hcap
 refine go8 ?_
 refine yB (uK g2 g1 (by decide)) (fun u hu => ?_)
 obtain rfl := hu
 refine go8 ?_
 rw [jO]
 cases hyx : dec (rt y < rt x)
 case true =>
  refine go8 ?_
  refine yB (q_Neg j2 (by omega)) (fun u hu => ?_)
  obtain ⟨ns, rfl, k1⟩ := hu
  obtain ⟨n1, n2, n3, n4, n5, n6, rfl⟩ := id k1.six
  refine go8 ?_
  refine yB (gH k1) (fun u hu => ?_)
  obtain rfl := hu
  refine go8 ?_
  refine gF.of ?_
  rw [hsum _ rfl, if_pos (yE.1 hyx)]
 refine go8 ?_
 refine yB (gH j2) (fun u hu => ?_)
 obtain rfl := hu
 refine go8 ?_
 refine gF.of ?_
 rw [hsum _ rfl, if_neg (yI.1 hyx)]
end Go.Proofs.YtjncgcnofiaiaaaGreat

set_option linter.unusedVariables false
set_option linter.unusedSimpArgs false
namespace Go.Proofs.YtjncgcnofiaiaaaGreat
open Go.RowKit
set_option maxRecDepth 20000
def exX : List R2 := [(0, 1), (2, 1)]
def exY : List R2 := [(0, 1), (4, 1)]
theorem ex_x : exX.map rt = [0, 2] := by decide +kernel
theorem ex_y : exY.map rt = [0, 4] := by decide +kernel
theorem israt_int {n : Int} (h : -1000000000000 ≤ n) (h2 : n ≤ 1000000000000) : tX n 1 := ⟨by decide, by decide, h, h2, by simp⟩
theorem ex_valid : valE 1 exX exY = 0 := by
 refine val_ok (by decide) ⟨by decide, by decide, by decide, by decide, ?_, ?_, ?_⟩
 ·intro p hp
  simp [exX] at hp
  rcases hp with rfl | rfl <;> exact israt_int (by decide) (by decide)
 ·intro p hp
  simp [exY] at hp
  rcases hp with rfl | rfl <;> exact israt_int (by decide) (by decide)
 ·rw [ex_x]
  intro i hi
  have : i = 0 := by simp at hi; omega
  subst this
  show (0 : Rat) < 2
  decide +kernel
theorem num_int {q : Rat} {n : Int} (h : q = (n : Rat)) (h1 : -1000000000000 ≤ n) (h2 : n ≤ 1000000000000) : numR q = ((n, 1), 0) := by
 subst h
 unfold numR fitR
 rw [rp_int, yE.2 ⟨h1, h2, (by decide : (1 : Int) ≤ 1000000000000)⟩]
 rfl
theorem ex_value : bT (sZ (exX.map rt) (exY.map rt)) 1 exX exY (1, 2) = ((1, 1), 0) := by
 have hv : sK [((1, 2) : R2)] := by
  intro p hp
  simp at hp
  subst hp
  exact ⟨by decide, by decide, by decide, by decide, by decide⟩
 unfold bT
 rw [yE.2 (with_ok ex_valid hv), ex_x, ex_y]
 exact num_int (n := 1) (by decide +kernel) (by decide) (by decide)
theorem ex_line : ∀ x, ev [0, 2] x = sZ [0, 2] [0, 4] 0 x := by
 intro x
 have h : slope [0, 2] [0, 4] 0 = 2 := by decide +kernel
 unfold sZ
 rw [h]
 simp only [ev, List.getD_cons_zero]
 grind
theorem ex_parts : bW (sZ [0, 2] [0, 4]) [0, 2] [0, 4] 0 2 = [(sZ [0, 2] [0, 4] 0, 0, 2)] := by
 have c0 : clip (fun _ => ([0, 4] : List Rat).getD 0 0) 0 (([0, 2] : List Rat).getD 0 0) 0 2 = [] := by
  unfold clip
  rw [if_neg (by decide +kernel)]
 have c1 : clip (fun _ => ([0, 4] : List Rat).getD (([0, 2] : List Rat).length - 1) 0) (([0, 2] : List Rat).getD (([0, 2] : List Rat).length - 1) 0) 2 0 2 = [] := by
  unfold clip
  rw [if_neg (by decide +kernel)]
 have c2 : clip (sZ [0, 2] [0, 4] 0) (([0, 2] : List Rat).getD 0 0) (([0, 2] : List Rat).getD (0 + 1) 0) 0 2 = [(sZ [0, 2] [0, 4] 0, 0, 2)] := by
  unfold clip
  rw [if_pos (by decide +kernel)]
  have e1 : mxQ (([0, 2] : List Rat).getD 0 0) 0 = 0 := by decide +kernel
  have e2 : mnQ (([0, 2] : List Rat).getD (0 + 1) 0) 2 = 2 := by decide +kernel
  rw [e1, e2]
 unfold bW
 rw [c0, c1]
 simp only [bJ, List.length_cons, List.length_nil, Nat.zero_add, Nat.reduceAdd, Nat.reduceSub, List.nil_append, List.append_nil]
 exact c2
theorem ex_area : sumR (sZ [0, 2] [0, 4]) [0, 2] [0, 4] 0 2 = ((4 : Int) : Rat) := by
 unfold sumR
 have e1 : mnQ 0 2 = 0 := by decide +kernel
 have e2 : mxQ 0 2 = 2 := by decide +kernel
 rw [if_neg (by decide +kernel), e1, e2, ex_parts]
 simp only [bQ, termP]
 rw [← prim_eq ex_line, ← prim_eq ex_line]
 decide +kernel
theorem ex_integral : integR (sZ (exX.map rt) (exY.map rt)) 1 exX exY (0, 1) (2, 1) = ((4, 1), 0) := by
 have hv : sK [((0, 1) : R2), (2, 1)] := by
  intro p hp
  simp at hp
  rcases hp with rfl | rfl <;> exact israt_int (by decide) (by decide)
 unfold integR
 rw [yE.2 (with_ok ex_valid hv), ex_x, ex_y]
 have e1 : rt (0, 1) = 0 := by decide +kernel
 have e2 : rt (2, 1) = 2 := by decide +kernel
 rw [e1, e2]
 exact num_int ex_area (by decide) (by decide)
def TrueK (u : V) : Prop := u = .c (.bool true)
theorem TrueK.fz {H : Hp} : ∃ d, FzV H (.c (.bool true)) d ∧ TrueK d := ⟨_, .c (.hf trivial), rfl⟩
attribute [local irreducible] yA semH semC qLen qNil qIad qSlc qIdx xA yM xH appX appI slcX awpF yR xQ xopF xT qval lval seqQ xP wM wK xY cnd arith IntKind.wrap
theorem tR (n : Int) : semC Tryz.prog n_law24_known_1 [i64 n] (EqK (.agg (ratC (n, 1)))) := by
 refine yC ok_law24_known_1 rfl (show HFVs [i64 n] from ⟨trivial, trivial⟩) ?_
 refine go5 ?_
 simp only [vT, vS, ratC, uB, uA, List.set_cons_zero, List.set_cons_succ, List.nil_append, List.cons_append, List.append_nil, List.replicate_succ, List.replicate_zero, List.length_cons, List.length_nil, splice, List.take_succ_cons, List.take_zero, List.drop_succ_cons, List.drop_zero, List.take_nil, List.drop_nil, Nat.zero_add, Nat.reduceAdd, Nat.reduceMul, Int.reduceToNat, xO, List.getElem?_cons_succ, List.getElem?_cons_zero]
 exact ⟨_, .agg (.hf (sN (n, 1))), rfl⟩
theorem law24_known : semC Tryz.prog n_law24_known [] TrueK := by
 refine yC ok_law24_known rfl (show HFVs [] from trivial) ?_
 refine go8 ?_
 refine yB (tR 0) (fun u hu => ?_)
 obtain rfl := hu
 refine go8 ?_
 refine yB (tR 2) (fun u hu => ?_)
 obtain rfl := hu
 refine go8 ?_
 refine yB (tR 0) (fun u hu => ?_)
 obtain rfl := hu
 refine go8 ?_
 refine yB (tR 4) (fun u hu => ?_)
 obtain rfl := hu
 refine go8 ?_
 simp only [vT, vS, ratC, uB, uA, List.set_cons_zero, List.set_cons_succ, List.nil_append, List.cons_append, List.append_nil, List.replicate_succ, List.replicate_zero, List.length_cons, List.length_nil, splice, List.take_succ_cons, List.take_zero, List.drop_succ_cons, List.drop_zero, List.take_nil, List.drop_nil, Nat.zero_add, Nat.reduceAdd, Nat.reduceMul, Int.reduceToNat, xO, List.getElem?_cons_succ, List.getElem?_cons_zero]
 have hx : Ls elP (.imm 2 (ratC (0, 1) ++ ratC (2, 1))) exX := .imm (.cons rfl (.one rfl))
 have hy : Ls elP (.imm 2 (ratC (0, 1) ++ ratC (4, 1))) exY := .imm (.cons rfl (.one rfl))
 refine yB (table_Value 1 (1, 2) hx hy (table_made_line hx hy)) (fun u hu => ?_)
 rw [ex_value] at hu
 obtain rfl := hu
 refine go8 ?_
 refine yG (tR 0) (fun u hu => ?_)
 obtain rfl := hu
 refine go8 ?_
 refine yG (tR 2) (fun u hu => ?_)
 obtain rfl := hu
 refine go8 ?_
 refine yG (table_Integral 1 (0, 1) (2, 1) hx hy (table_made_line hx hy)) (fun u hu => ?_)
 rw [ex_integral] at hu
 obtain rfl := hu
 refine go8 ?_
 refine yG (tR 1) (fun u hu => ?_)
 obtain rfl := hu
 refine go8 ?_
 rw [show yA Cm.eql (((1, 1), 0) : R2 × Int).snd 0 = true by simp [yA]]
 refine go8 ?_
 refine yG (tR 4) (fun u hu => ?_)
 obtain rfl := hu
 refine go8 ?_
 rw [show yA Cm.eql (((4, 1), 0) : R2 × Int).snd 0 = true by simp [yA]]
 refine go8 ?_
 exact TrueK.fz
end Go.Proofs.YtjncgcnofiaiaaaGreat

set_option linter.unusedVariables false
set_option linter.unusedSimpArgs false
namespace Go.Proofs.YtjncgcnofiaiaaaGreat
open Go.RowKit
set_option maxRecDepth 20000
theorem bd_div {n d : Int} {q : Rat} {k : Nat} (hd : d ≠ 0) (e : Rat.divInt n d = q) (h1 : Sz k n) (h2 : Sz k d) : Bd k (rp q) := by
 have hdq : ((q.den : Nat) : Int) ≠ 0 := by exact_mod_cast q.den_nz
 have e2 : q.num * d = n * (q.den : Int) := by
  have : Rat.divInt q.num q.den = Rat.divInt n d := by rw [e]; exact Rat.num_divInt_den q
  exact (Rat.divInt_eq_divInt_iff hdq hd).1 this
 have e3 : q.num.natAbs * d.natAbs = n.natAbs * q.den := by
  have := congrArg Int.natAbs e2
  rwa [Int.natAbs_mul, Int.natAbs_mul, Int.natAbs_natCast] at this
 have c := q.reduced
 have hd' : 0 < d.natAbs := Int.natAbs_pos.2 hd
 have l1 : q.num.natAbs ≤ n.natAbs := by
  rcases Nat.eq_zero_or_pos n.natAbs with h0 | h0
  ·rw [h0, Nat.zero_mul] at e3
   rcases Nat.mul_eq_zero.1 e3 with h | h
   ·omega
   ·omega
  ·exact Nat.le_of_dvd h0 (c.dvd_of_dvd_mul_right ⟨d.natAbs, e3.symm⟩)
 have l2 : q.den ≤ d.natAbs := Nat.le_of_dvd hd' (c.symm.dvd_of_dvd_mul_left ⟨n.natAbs, by rw [e3, Nat.mul_comm]⟩)
 exact ⟨Nat.lt_of_le_of_lt l1 h1, Nat.lt_of_le_of_lt (by simpa [rp] using l2) h2, gU q⟩
theorem bq_add {k m : Nat} {a b : Rat} (h1 : Bd k (rp a)) (h2 : Bd m (rp b)) : Bd (k + m + 1) (rp (a + b)) :=
 bd_div (dd_ne a b) (rat_add a b) ((h1.n.mulT h2.d).add2 ((h2.n.mulT h1.d).up (show m + k ≤ k + m by omega)) (Nat.le_refl _)) ((h1.d.mulT h2.d).up (by omega))
theorem bq_sub {k m : Nat} {a b : Rat} (h1 : Bd k (rp a)) (h2 : Bd m (rp b)) : Bd (k + m + 1) (rp (a - b)) :=
 bd_div (dd_ne a b) (rat_sub a b) ((h1.n.mulT h2.d).add2 ((h2.n.neg.mulT h1.d).up (show m + k ≤ k + m by omega)) (Nat.le_refl _)) ((h1.d.mulT h2.d).up (by omega))
theorem bq_mul {k m : Nat} {a b : Rat} (h1 : Bd k (rp a)) (h2 : Bd m (rp b)) : Bd (k + m) (rp (a * b)) :=
 bd_div (dd_ne a b) (rat_mul a b) (h1.n.mulT h2.n) (h1.d.mulT h2.d)
theorem bq_div {k m : Nat} {a b : Rat} (h1 : Bd k (rp a)) (h2 : Bd m (rp b)) (h0 : b ≠ 0) : Bd (k + m) (rp (a / b)) :=
 bd_div (Int.mul_ne_zero (Int.ne_of_gt (gU a)) (num_ne h0)) (rat_div a b h0) (h1.n.mulT h2.d) (h1.d.mulT h2.n)
theorem bq_int {g : Int} (h : g.natAbs < 4294967296) : Bd 1 (rp (g : Rat)) := by
 rw [rp_int]
 exact one_bd (k := 0) h
def curve (xs ys : List Rat) (k : Nat) : Rat := (slope xs ys (k + 1) - slope xs ys k) / (xs.getD (k + 2) 0 - xs.getD k 0)
def paraS (xs ys : List Rat) (k i : Nat) : Rat := slope xs ys k + curve xs ys k * ((xs.getD i 0 - xs.getD k 0) + (xs.getD i 0 - xs.getD (k + 1) 0))
def tZ (xs ys : List Rat) (i : Nat) : Rat := if xs.length = 1 then 0 else if xs.length = 2 then slope xs ys 0 else paraS xs ys (min (i - 1) (xs.length - 3)) i
def pP (xs ys : List Rat) (i : Nat) : Rat := if xs.length = 1 then 0 else if i = 0 then slope xs ys 0 else if i = xs.length - 1 then slope xs ys (xs.length - 2) else if slope xs ys (i - 1) * slope xs ys i ≤ 0 then 0 else 2 * slope xs ys (i - 1) * slope xs ys i / (slope xs ys (i - 1) + slope xs ys i)
def BdL (k : Nat) (l : List Rat) : Prop := ∀ i, i < l.length → Bd k (rp (l.getD i 0))
theorem tC.lt {l : List Rat} (h : tC l) {i j : Nat} (hij : i < j) (hj : j < l.length) : l.getD i 0 < l.getD j 0 := by
 induction j with
 | zero => omega
 | succ j ih =>
  have h2 := h.get hj
  rcases Nat.lt_or_ge i j with h3 | h3
  ·have := ih h3 (by omega)
   grind
  ·have : i = j := by omega
   subst this
   exact h2
theorem bE {xs ys : List Rat} {k i : Nat} (hx : BdL k xs) (hy : BdL k ys) (hr : tC xs) (hlen : ys.length = xs.length) (hi : i + 1 < xs.length) : Bd (4 * k + 2) (rp (slope xs ys i)) := by
 have := bq_div (bq_sub (hy (i + 1) (by omega)) (hy i (by omega))) (bq_sub (hx (i + 1) hi) (hx i (by omega))) (jJ (hr.get hi))
 exact this.to (by omega)
theorem bd_para {xs ys : List Rat} {k i a : Nat} (hx : BdL k xs) (hy : BdL k ys) (hr : tC xs) (hlen : ys.length = xs.length) (ha : a + 2 < xs.length) (hi : i < xs.length) : Bd (18 * k + 13) (rp (paraS xs ys a i)) := by
 have h1 := bE hx hy hr hlen (i := a) (by omega)
 have h2 := bE hx hy hr hlen (i := a + 1) (by omega)
 have h3 := bq_div (bq_sub h2 h1) (bq_sub (hx (a + 2) ha) (hx a (by omega))) (jJ (hr.lt (show a < a + 2 by omega) ha))
 have h4 := bq_add (bq_sub (hx i hi) (hx a (by omega))) (bq_sub (hx i hi) (hx (a + 1) (by omega)))
 exact (bq_add h1 (bq_mul h3 h4)).to (by omega)
theorem bd_zero {k : Nat} : Bd (k + 1) (rp 0) := by
 have := bq_int (g := 0) (by decide)
 exact this.to (by omega)
theorem bd_smooth {xs ys : List Rat} {k i : Nat} (hx : BdL k xs) (hy : BdL k ys) (hr : tC xs) (hlen : ys.length = xs.length) (hi : i < xs.length) : Bd (18 * k + 13) (rp (tZ xs ys i)) := by
 unfold tZ
 split
 ·exact bd_zero
 ·split
  ·exact (bE hx hy hr hlen (i := 0) (by omega)).to (by omega)
  ·exact bd_para hx hy hr hlen (by omega) hi
theorem keep_ne {a b : Rat} (h : ¬ a * b ≤ 0) : a + b ≠ 0 := by
 intro e
 have : b = -a := by grind
 subst this
 apply h
 have h2 : 0 ≤ a * a := by
  rcases Rat.le_total (a := 0) (b := a) with h3 | h3
  ·exact Rat.mul_nonneg h3 h3
  ·have h4 : 0 ≤ -a := by grind
   have := Rat.mul_nonneg h4 h4
   grind
 grind
theorem bd_keep {xs ys : List Rat} {k i : Nat} (hx : BdL k xs) (hy : BdL k ys) (hr : tC xs) (hlen : ys.length = xs.length) (hi : i < xs.length) : Bd (18 * k + 13) (rp (pP xs ys i)) := by
 unfold pP
 split
 ·exact bd_zero
 split
 ·exact (bE hx hy hr hlen (i := 0) (by omega)).to (by omega)
 split
 ·exact (bE hx hy hr hlen (i := xs.length - 2) (by omega)).to (by omega)
 split
 ·exact bd_zero
 rename_i h
 have h1 := bE hx hy hr hlen (i := i - 1) (by omega)
 have h2 := bE hx hy hr hlen (i := i) (by omega)
 have h3 := bq_div (bq_mul (bq_mul (bq_int (g := 2) (by decide)) h1) h2) (bq_add h1 h2) (keep_ne h)
 exact h3.to (by omega)
def cubA (xs ys : List Rat) (m : Nat → Rat) (i : Nat) : Rat := (3 * slope xs ys i - 2 * m i - m (i + 1)) / (xs.getD (i + 1) 0 - xs.getD i 0)
def cubB (xs ys : List Rat) (m : Nat → Rat) (i : Nat) : Rat := (m i + m (i + 1) - 2 * slope xs ys i) / ((xs.getD (i + 1) 0 - xs.getD i 0) * (xs.getD (i + 1) 0 - xs.getD i 0))
def cubP (m : Nat → Rat) (xs ys : List Rat) (i : Nat) (x : Rat) : Rat := ys.getD i 0 + m i * (x - xs.getD i 0) + cubA xs ys m i * (x - xs.getD i 0) ^ 2 + cubB xs ys m i * (x - xs.getD i 0) ^ 3
end Go.Proofs.YtjncgcnofiaiaaaGreat

set_option linter.unusedVariables false
set_option linter.unusedSimpArgs false
namespace Go.Proofs.YtjncgcnofiaiaaaGreat
open Go.RowKit
set_option maxRecDepth 20000
def der (l : List Rat) : List Rat := (List.range (l.length - 1)).map fun i => l.getD (i + 1) 0 * (((i + 1 : Nat) : Int) : Rat)
theorem der_ext {l m : List Rat} (h : ∀ x, ev l x = ev m x) (x : Rat) : ev (der l) x = ev (der m) x := by
 have hc := coef_eq h
 have key : ∀ (l : List Rat) (n : Nat), l.length - 1 ≤ n → ev ((List.range n).map fun i => l.getD (i + 1) 0 * (((i + 1 : Nat) : Int) : Rat)) x = ev (der l) x := fun l n hn => by
  obtain ⟨d, rfl⟩ := Nat.le.dest hn
  exact ev_pad x (fun j hj => by rw [getD_ge (by omega), Rat.zero_mul]) d
 rw [← key l (l.length + m.length) (by omega), ← key m (l.length + m.length) (by omega)]
 congr 1
 apply List.map_congr_left
 intro i _
 rw [hc (i + 1)]
noncomputable def drv (f : Rat → Rat) (x : Rat) : Rat := ev (der (polyOf f)) x
theorem drv_eq {f : Rat → Rat} {m : List Rat} (h : ∀ x, ev m x = f x) (x : Rat) : ev (der m) x = drv f x := by
 have h2 : ∀ x, ev (polyOf f) x = f x := Classical.epsilon_spec (p := fun m => ∀ x, ev m x = f x) ⟨m, h⟩
 exact der_ext (fun x => (h x).trans (h2 x).symm) x
theorem row_three {xs : List Rat} {i : Nat} (hi : i + 2 < xs.length) : (xs.drop i).take 3 = [xs.getD i 0, xs.getD (i + 1) 0, xs.getD (i + 2) 0] := by
 apply List.ext_getElem
 ·simp; omega
 ·intro j h1 h2
  rw [List.getElem_take, List.getElem_drop]
  have : j < 3 := by simpa using h2
  match j, this with
  | 0, _ => simp [show i < xs.length by omega]
  | 1, _ => simp [show i + 1 < xs.length by omega]
  | 2, _ => simp [hi]
theorem inv_neg {a b : Rat} (h : b - a ≠ 0) : (a - b)⁻¹ = -(b - a)⁻¹ := by
 have n2 : a - b ≠ 0 := fun e => h (by grind)
 have h1 : (b - a) * (b - a)⁻¹ = 1 := Rat.mul_inv_cancel _ h
 have h2 : (a - b) * (a - b)⁻¹ = 1 := Rat.mul_inv_cancel _ n2
 generalize (b - a)⁻¹ = u at *
 generalize (a - b)⁻¹ = v at *
 grind
theorem lag_three {a b c d e f x : Rat} (h1 : b - a ≠ 0) (h2 : c - b ≠ 0) (h3 : c - a ≠ 0) :
  lagTo [a, b, c] [d, e, f] x 3 = d + (e - d) / (b - a) * (x - a) + ((f - e) / (c - b) - (e - d) / (b - a)) / (c - a) * ((x - a) * (x - b)) := by
 simp only [lagTo, prodTo, List.length_cons, List.length_nil, List.getD_cons_zero, List.getD_cons_succ, if_pos, Nat.zero_add, Nat.reduceAdd, if_false, Nat.reduceEqDiff, Nat.one_ne_zero, Nat.zero_ne_one]
 rw [inv_neg h1, inv_neg h2, inv_neg h3, Rat.div_def, Rat.div_def, Rat.div_def]
 have e1 := Rat.mul_inv_cancel _ h1
 have e2 := Rat.mul_inv_cancel _ h2
 have e3 := Rat.mul_inv_cancel _ h3
 generalize (b - a)⁻¹ = u at *
 generalize (c - b)⁻¹ = v at *
 generalize (c - a)⁻¹ = w at *
 grind
theorem der_two (p q x : Rat) : ev (der [p, q]) x = q := by
 simp only [der, List.length_cons, List.length_nil, Nat.reduceAdd, Nat.reduceSub, List.range_succ, List.range_zero, List.map_append, List.map_cons, List.map_nil, List.getD_cons_succ, List.getD_cons_zero, List.nil_append, ev]
 grind
theorem der_three (p q r x : Rat) : ev (der [p, q, r]) x = q + 2 * r * x := by
 simp only [der, List.length_cons, List.length_nil, Nat.reduceAdd, Nat.reduceSub, List.range_succ, List.range_zero, List.map_append, List.map_cons, List.map_nil, List.getD_cons_succ, List.getD_cons_zero, List.nil_append, List.cons_append, ev]
 grind
theorem smooth_two {xs ys m : List Rat} {x : Rat} (hr : tC xs) (hlen : ys.length = xs.length) (h2 : xs.length = 2) (h : ∀ x, ev m x = lagTo ((xs.drop 0).take 2) ((ys.drop 0).take 2) x 2) : ev (der m) x = slope xs ys 0 := by
 have e : ∀ x, ev m x = ev [ys.getD 0 0 - slope xs ys 0 * xs.getD 0 0, slope xs ys 0] x := fun x => by
  rw [h, line_through (hr.get (by omega)) (by omega) hlen]
  unfold sZ
  simp only [ev]
  grind
 rw [der_ext e, der_two]
theorem smooth_three {xs ys m : List Rat} {k i : Nat} (hr : tC xs) (hlen : ys.length = xs.length) (hk : k + 2 < xs.length) (h : ∀ x, ev m x = lagTo ((xs.drop k).take 3) ((ys.drop k).take 3) x 3) : ev (der m) (xs.getD i 0) = paraS xs ys k i := by
 have e : ∀ x, ev m x = ev [ys.getD k 0 - slope xs ys k * xs.getD k 0 + curve xs ys k * (xs.getD k 0 * xs.getD (k + 1) 0), slope xs ys k - curve xs ys k * (xs.getD k 0 + xs.getD (k + 1) 0), curve xs ys k] x := fun x => by
  rw [h, row_three hk, row_three (by omega), lag_three (jJ (hr.get (by omega))) (jJ (hr.get (by omega))) (jJ (hr.lt (show k < k + 2 by omega) hk))]
  unfold curve slope
  simp only [ev, show k + 1 + 1 = k + 2 from rfl]
  generalize ((ys.getD (k + 2) 0 - ys.getD (k + 1) 0) / (xs.getD (k + 2) 0 - xs.getD (k + 1) 0) - (ys.getD (k + 1) 0 - ys.getD k 0) / (xs.getD (k + 1) 0 - xs.getD k 0)) / (xs.getD (k + 2) 0 - xs.getD k 0) = w
  generalize (ys.getD (k + 1) 0 - ys.getD k 0) / (xs.getD (k + 1) 0 - xs.getD k 0) = v
  grind
 rw [der_ext e, der_three]
 unfold paraS
 generalize slope xs ys k = s
 generalize curve xs ys k = c
 grind
def jG (a b : Rat) : Nat → Nat → Rat := fun i j => if i % 2 = 0 then (if i = 0 then a else b) ^ j else if j = 0 then 0 else (if i = 1 then a else b) ^ (j - 1) * ((j : Int) : Rat)
def hermB (y0 m0 y1 m1 : Rat) : Nat → Rat := fun i => if i = 0 then y0 else if i = 1 then m0 else if i = 2 then y1 else m1
def hermS (a y0 m0 c d : Rat) : Nat → Rat := fun j => if j = 0 then y0 - m0 * a + c * a ^ 2 - d * a ^ 3 else if j = 1 then m0 - 2 * c * a + 3 * d * a ^ 2 else if j = 2 then c - 3 * d * a else d
theorem herm_solves_iff {a b y0 m0 y1 m1 : Rat} {v : Nat → Rat} : qJ 4 4 (pD (jG a b) (hermB y0 m0 y1 m1) 4) v ↔
  v 0 + a * v 1 + a ^ 2 * v 2 + a ^ 3 * v 3 = y0 ∧ v 1 + 2 * a * v 2 + 3 * a ^ 2 * v 3 = m0 ∧ v 0 + b * v 1 + b ^ 2 * v 2 + b ^ 3 * v 3 = y1 ∧ v 1 + 2 * b * v 2 + 3 * b ^ 2 * v 3 = m1 := by
 have all : (∀ i, i < 4 → uF (fun j => pD (jG a b) (hermB y0 m0 y1 m1) 4 i j * v j) 4 = pD (jG a b) (hermB y0 m0 y1 m1) 4 i 4) ↔
   (∀ i, i < 4 → uF (fun j => jG a b i j * v j) 4 = hermB y0 m0 y1 m1 i) := by
  constructor
  ·intro h i hi
   have := h i hi
   simpa [pD, uF] using this
  ·intro h i hi
   have := h i hi
   simpa [pD, uF] using this
 unfold qJ
 rw [all]
 constructor
 ·intro h
  have h0 := h 0 (by omega)
  have h1 := h 1 (by omega)
  have h2 := h 2 (by omega)
  have h3 := h 3 (by omega)
  simp [uF, jG, hermB] at h0 h1 h2 h3
  refine ⟨?_, ?_, ?_, ?_⟩ <;> grind
 ·rintro ⟨h0, h1, h2, h3⟩ i hi
  match i, hi with
  | 0, _ => simp [uF, jG, hermB]; grind
  | 1, _ => simp [uF, jG, hermB]; grind
  | 2, _ => simp [uF, jG, hermB]; grind
  | 3, _ => simp [uF, jG, hermB]; grind
end Go.Proofs.YtjncgcnofiaiaaaGreat

set_option linter.unusedVariables false
set_option linter.unusedSimpArgs false
namespace Go.Proofs.YtjncgcnofiaiaaaGreat
open Go.RowKit
set_option maxRecDepth 20000
theorem herm_solves {a b y0 m0 y1 m1 s c d : Rat} (h : b - a ≠ 0) (hs : s = (y1 - y0) / (b - a)) (hc : c = (3 * s - 2 * m0 - m1) / (b - a)) (hd : d = (m0 + m1 - 2 * s) / ((b - a) * (b - a))) :
  qJ 4 4 (pD (jG a b) (hermB y0 m0 y1 m1) 4) (hermS a y0 m0 c d) ∧ ∀ v, qJ 4 4 (pD (jG a b) (hermB y0 m0 y1 m1) 4) v → ∀ q, q < 4 → v q = hermS a y0 m0 c d q := by
 have h2 : (b - a) * (b - a) ≠ 0 := fun e => by
  rcases Rat.mul_eq_zero.1 e with e | e <;> exact h e
 have e1 := Rat.mul_inv_cancel _ h
 have e2 := Rat.mul_inv_cancel _ h2
 rw [Rat.div_def] at hs hc hd
 generalize (b - a)⁻¹ = u at *
 generalize ((b - a) * (b - a))⁻¹ = t at *
 have et : t = u * u := by grind
 subst et
 have hw : b = a + (b - a) := by grind
 generalize b - a = w at *
 subst hw
 subst hs hc hd
 constructor
 ·rw [herm_solves_iff]
  simp only [hermS, if_true, Nat.one_ne_zero, if_false, Nat.reduceEqDiff]
  refine ⟨?_, ?_, ?_, ?_⟩ <;> grind
 ·intro v hv
  rw [herm_solves_iff] at hv
  obtain ⟨v0, v1, v2, v3⟩ := hv
  have k3 : w ^ 3 * v 3 = (m0 + m1) * w - 2 * (y1 - y0) := by grind
  have k3' : v 3 = (m0 + m1 - 2 * ((y1 - y0) * u)) * (u * u) := by grind
  have k2 : w * v 2 * 2 = m1 - m0 - 3 * ((a + w) ^ 2 - a ^ 2) * v 3 := by grind
  have k2' : v 2 = (3 * ((y1 - y0) * u) - 2 * m0 - m1) * u - 3 * v 3 * a := by grind
  have k1' : v 1 = m0 - 2 * a * v 2 - 3 * a ^ 2 * v 3 := by
   clear k3 k3' k2 k2' v0 v2 v3 e1 e2 h h2
   grind
  have k0' : v 0 = y0 - a * v 1 - a ^ 2 * v 2 - a ^ 3 * v 3 := by
   clear k3 k3' k2 k2' k1' v1 v2 v3 e1 e2 h h2
   grind
  clear v0 v1 v2 v3 k3 k2 e1 e2 h h2
  have hh : v 3 = hermS a y0 m0 ((3 * ((y1 - y0) * u) - 2 * m0 - m1) * u) ((m0 + m1 - 2 * ((y1 - y0) * u)) * (u * u)) 3 := k3'
  generalize (m0 + m1 - 2 * ((y1 - y0) * u)) * (u * u) = d at *
  generalize (3 * ((y1 - y0) * u) - 2 * m0 - m1) * u = c at *
  rw [k3'] at k2' k1' k0'
  rw [k2'] at k1' k0'
  rw [k1'] at k0'
  intro q hq
  match q, hq with
  | 0, _ =>
   rw [k0']
   simp only [hermS, if_true]
   all_goals grind
  | 1, _ =>
   rw [k1']
   simp only [hermS, if_true, Nat.one_ne_zero, if_false]
   all_goals grind
  | 2, _ =>
   rw [k2']
   simp only [hermS, if_true, Nat.reduceEqDiff, if_false]
   all_goals grind
  | 3, _ => exact hh
theorem herm_ev {a y0 m0 c d x : Rat} : ev ((List.range 4).map (hermS a y0 m0 c d)) x = y0 + m0 * (x - a) + c * (x - a) ^ 2 + d * (x - a) ^ 3 := by
 rw [show List.range 4 = [0, 1, 2, 3] from rfl]
 simp only [List.map_cons, List.map_nil, ev, hermS, if_true, Nat.one_ne_zero, if_false, Nat.reduceEqDiff]
 grind
end Go.Proofs.YtjncgcnofiaiaaaGreat

set_option linter.unusedVariables false
set_option linter.unusedSimpArgs false
namespace Go.Proofs.YtjncgcnofiaiaaaGreat
open Go.RowKit
set_option maxRecDepth 20000
theorem Els.bdR {k : Nat} : ∀ {l : List Rat} {ds : List C}, Els (elR k) ds l → BdL k l := by
 intro l ds h i hi
 obtain ⟨cs, r, h1, _⟩ := h.get hi
 rw [xG hi]
 exact (show IR k cs l[i] from h1).bd
theorem Ls.bdR {k : Nat} {c : C} {l : List Rat} (h : Ls (elR k) c l) : BdL k l := h.els.bdR
theorem IR.tight {k m : Nat} {cs : List C} {q : Rat} (h : IR k cs q) (hb : Bd m (rp q)) : IR m cs q := ⟨h.is, hb⟩
structure IsPrime (p m : List Rat) : Prop where
 ev : ∀ x, ev m x = ev (der p) x
 len : m.length ≤ p.length - 1
 top : Top m
theorem der_len {p : List Rat} : (der p).length = p.length - 1 := by simp [der]
theorem der_get {p : List Rat} {i : Nat} (h : i < (der p).length) : (der p)[i] = p.getD (i + 1) 0 * (((i + 1 : Nat) : Int) : Rat) := by simp [der]
theorem Out.close {α : Type} {E : El α} {el : TypeId} {m : Nat} {H : Hp} {c : C} {l : List α} (h : Out E el m H c l) : ∃ bs d, Fz (· = .ro) (xO H bs) c d ∧ Ls E d l := by
 cases h with
 | nil => exact ⟨[], _, .hf trivial, .nil⟩
 | sl hm hb hn hc h =>
  rename_i b n co cells ds
  subst hn
  refine ⟨[b], _, .sl (bD (List.mem_cons_self) hb) rfl (by simp) ?_, .imm h⟩
  simp only [List.drop_zero]
  rw [hc]
  exact .hf h.hf
def sgR (q : Rat) : Int := sgn (rp q).1
theorem jK (q : Rat) : (sgR q = -1 ∧ q < 0) ∨ (sgR q = 0 ∧ q = 0) ∨ (sgR q = 1 ∧ 0 < q) := by
 unfold sgR sgn rp
 simp only
 rcases Int.lt_trichotomy q.num 0 with h | h | h
 ·left
  exact ⟨by rw [if_pos h], Rat.not_le.1 (fun h2 => by have := Rat.num_nonneg.2 h2; omega)⟩
 ·right; left
  exact ⟨by rw [if_neg (by omega), if_pos h], Rat.num_eq_zero.1 h⟩
 ·right; right
  exact ⟨by rw [if_neg (by omega), if_neg (by omega)], by
   have h2 : 0 ≤ q := Rat.num_nonneg.1 (by omega)
   have h3 : q ≠ 0 := fun e => by rw [e] at h; exact absurd h (by decide)
   grind⟩
attribute [local irreducible] yA semH semC qLen qNil qIad qSlc qIdx xA yM xH appX appI slcX awpF yR xQ xopF xT qval lval seqQ xP wM wK xY cnd arith IntKind.wrap
theorem ref01_Q_Sign {k : Nat} {cs : List C} {q : Rat} (hx : IR k cs q) : semC Tryz.prog n_ref01_Q_Sign [.agg cs] (IntK (sgR q)) := by
 refine yC ok_ref01_Q_Sign rfl (show HFVs [.agg cs] from ⟨hx.hf, trivial⟩) ?_
 obtain ⟨a, b, c, d, x, rfl, h1, h2, e⟩ := hx.is.four
 obtain ⟨c1, l, mi, h3, hw, hn, hm, hz⟩ := h1.two
 cases h3
 refine go5 ?_
 refine yB (sB h1) (fun u hu => ?_)
 obtain ⟨z, rfl, hz2⟩ := hu
 unfold sgR
 cases z
 case true =>
  rw [hz2.1 rfl]
  refine go5 ?_
  exact IntK.fz
 have hne : (rp q).1 ≠ 0 := fun e => absurd (hz2.2 e) (by decide)
 cases b
 ·have : sgn (rp q).1 = 1 := by
   rw [hz] at hne ⊢
   simp only [amt, cond_false] at hne ⊢
   exact sgn_pos (by omega)
  rw [this]
  refine go5 ?_
  exact IntK.fz
 ·have : sgn (rp q).1 = -1 := by
   rw [hz] at hne ⊢
   simp only [amt, cond_true] at hne ⊢
   exact sgn_lt (by omega)
  rw [this]
  refine go5 ?_
  exact IntK.fz
theorem r_Pow {k : Nat} {cs : List C} {x : Rat} (n : Nat) (hx : IR k cs x) (hn : n < 1024) (hk : n * k + 1 ≤ 134217727) : semC Tryz.prog n_ref01_Q_Pow [.agg cs, i64 n] (RQV (n * k + 1) (x ^ n)) := by
 refine yC ok_ref01_Q_Pow rfl (show HFVs [.agg cs, i64 n] from ⟨hx.hf, trivial, trivial⟩) ?_
 obtain ⟨a, b, c, d, rfl⟩ := id hx.four
 refine go5 ?_
 refine c_f (by simp [yA]) ?_
 refine go5 ?_
 refine yB (r_Int (g := 1) (by decide)) (fun u hu => ?_)
 obtain ⟨es, rfl, h1⟩ := hu
 obtain ⟨_, _, _, _, rfl⟩ := id h1.four
 refine go5 ?_
 simp only [vT, vS, ratC, uB, uA, List.set_cons_zero, List.set_cons_succ, List.nil_append, List.cons_append, List.append_nil, List.replicate_succ, List.replicate_zero, List.length_cons, List.length_nil, splice, List.take_succ_cons, List.take_zero, List.drop_succ_cons, List.drop_zero, List.take_nil, List.drop_nil, Nat.zero_add, Nat.reduceAdd, Nat.reduceMul, Int.reduceToNat, xO, List.getElem?_cons_succ, List.getElem?_cons_zero]
 refine yQ (fun m vs H => ∃ (i : Nat) (es : List C), vs = [i64 n, .c (.ptr 0 0), .c (.ptr 1 0), .c (.ptr 2 0), i64 i] ∧ H = [.live ⟨[a, .bool b, c, .bool d], yH, .rw⟩, .live ⟨zeroRQ, yH, .rw⟩, .live ⟨es, yH, .rw⟩] ∧ m = n - i ∧ i ≤ n ∧ IR (i * k + 1) es (x ^ i)) (by rfl) ⟨0, _, rfl, rfl, rfl, by omega, by rw [Nat.zero_mul, Rat.pow_zero]; exact h1⟩ ?_
 clear h1
 rintro m vs H ⟨i, es, rfl, rfl, rfl, h2, h3⟩
 obtain ⟨_, _, _, _, rfl⟩ := id h3.four
 refine go5 ?_
 cases hq : yA Cm.lss (i : Int) (n : Int)
 ·simp [yA] at hq
  have ei : i = n := by omega
  subst ei
  refine go5 ?_
  exact RQV.fz h3
 ·simp [yA] at hq
  have hle := Nat.mul_le_mul_right k (show i + 1 ≤ n from hq)
  rw [Nat.succ_mul] at hle
  refine go5 ?_
  refine yB (gV h3 hx (by omega)) (fun u hu => ?_)
  obtain ⟨gs, rfl, j1⟩ := hu
  obtain ⟨_, _, _, _, rfl⟩ := id j1.four
  refine go5 ?_
  rw [yT i (by omega)]
  refine l_n (by rfl) (by omega) ⟨i + 1, _, rfl, rfl, rfl, by omega, ?_⟩
  rw [Rat.pow_succ, Nat.succ_mul]
  exact j1.up (by omega)
theorem jW {k : Nat} {c : C} {p : List Rat} (hc : Ls (elR k) c p) (hp : p.length < 524288) (hk : k + 1 ≤ 134217727) : semC Tryz.prog n_ref02_Poly_Prime [.c c] (vP (elR (k + 1)) (IsPrime p)) := by
 refine yC ok_ref02_Poly_Prime rfl (show HFVs [.c c] from ⟨hc.hf, trivial⟩) ?_
 refine go9 ?_
 refine yQ (fun w vs H => ∃ (i : Nat) (o : C), vs = [.c c, .c o, i64 i] ∧ w = p.length + 1 - i ∧ 1 ≤ i ∧ i ≤ p.length + 1 ∧ Out (elR (k + 1)) yH 0 H o ((der p).take (i - 1))) (by rfl) ⟨1, _, rfl, rfl, by omega, by omega, .nil⟩ ?_
 rintro w vs H ⟨i, o, rfl, rfl, h1, h2, h3⟩
 refine go9 ?_
 cases hi : yA Cm.lss (i : Int) (p.length : Int)
 case false =>
  simp [yA] at hi
  rw [List.take_of_length_le (by rw [der_len]; omega)] at h3
  obtain ⟨bs, d, f1, l1⟩ := h3.close
  refine go9 ?_
  refine yP bs (.cons (.c f1) .nil) (pH l1 (by rw [der_len]; omega)) (fun u hu => ?_)
  obtain ⟨c', r, rfl, h6, h7⟩ := hu
  refine go9 ?_
  exact vP.fz h6 ⟨h7.ev, by have := h7.len; rwa [der_len] at this, h7.top⟩
 simp [yA] at hi
 refine go9 ?_
 refine xU hc (i := i) hi (by omega) rfl (fun cs hcs => ?_)
 refine go9 ?_
 refine yB (r_Int (g := (i : Int)) (by omega)) (fun u hu => ?_)
 obtain ⟨ds, rfl, hds⟩ := hu
 refine go9 ?_
 refine yB (gV hcs hds hk) (fun u hu => ?_)
 obtain ⟨es, rfl, hes⟩ := hu
 obtain ⟨_, _, _, _, rfl⟩ := id hes.four
 have hdl : (der p).length = p.length - 1 := der_len
 refine go9 ?_
 refine app_imm (F := []) (R := _) rfl (h3.grow (X := List.replicate (0 + 1) Slot.unb)) (by rfl) (by rfl) rfl hes (by simp; omega) (fun R' o' h4 => ?_)
 refine go9 ?_
 rw [yT i (by omega)]
 refine l_n (by rfl) (n' := p.length + 1 - (i + 1)) (by omega) ⟨i + 1, o', rfl, rfl, by omega, by omega, ?_⟩
 rw [show i + 1 - 1 = (i - 1) + 1 by omega, tS (l := der p) (i := i - 1) (by omega), der_get, show i - 1 + 1 = i by omega, xG (l := p) (i := i) hi]
 exact h4
theorem ref24_line {kind : Int} {cx cy : C} {xs ys : List Rat} {i : Nat} (hx : Ls (elR 2) cx xs) (hy : Ls (elR 2) cy ys) (hr : tC xs) (hlen : ys.length = xs.length) (hl : xs.length ≤ 1024) (hi : i + 1 < xs.length) : semC Tryz.prog n_ref24_table_line [.agg [iC kind, cx, cy], i64 i] (RQV 10 (slope xs ys i)) := by
 refine yC ok_ref24_table_line rfl (show HFVs [.agg [iC kind, cx, cy], i64 i] from ⟨⟨trivial, hx.hf, hy.hf, trivial⟩, trivial, trivial⟩) ?_
 refine go5 ?_
 rw [yT i (by omega)]
 refine go5 ?_
 refine xU hy (i := i + 1) (by omega) (by omega) rfl (fun cs hcs => ?_)
 refine go5 ?_
 refine xU hy (i := i) (by omega) (by omega) rfl (fun ds hds => ?_)
 refine go5 ?_
 rw [yT i (by omega)]
 refine go5 ?_
 refine xU hx (i := i + 1) (by omega) (by omega) rfl (fun es hes => ?_)
 refine go5 ?_
 refine xU hx (i := i) (by omega) (by omega) rfl (fun fs hfs => ?_)
 have hne : xs[i + 1] - xs[i] ≠ 0 := jJ (hr i hi)
 refine go5 ?_
 refine yG (r_Sub2 hcs hds (by decide)) (fun u hu => ?_)
 obtain ⟨gs, rfl, g1⟩ := hu
 refine go5 ?_
 refine yG (r_Sub2 hes hfs (by decide)) (fun u hu => ?_)
 obtain ⟨hs, rfl, g2⟩ := hu
 refine go5 ?_
 refine yG (r_Div2 g1 g2 (by decide) hne) (fun u hu => ?_)
 obtain ⟨js, rfl, g3⟩ := hu
 obtain ⟨_, _, _, _, rfl⟩ := id g3.four
 refine go5 ?_
 refine RQV.fz ?_
 unfold slope
 rw [xG (l := ys) (i := i + 1) (by omega), xG (l := ys) (i := i) (by omega), xG (l := xs) (i := i + 1) (by omega), xG (l := xs) (i := i) (by omega)]
 exact g3
end Go.Proofs.YtjncgcnofiaiaaaGreat

set_option linter.unusedVariables false
set_option linter.unusedSimpArgs false
namespace Go.Proofs.YtjncgcnofiaiaaaGreat
open Go.RowKit
set_option maxRecDepth 20000
theorem sg_le (a b : Rat) : (sgR a ≠ sgR b ∨ a = 0) ↔ a * b ≤ 0 := by
 have np : ∀ {x y : Rat}, x < 0 → 0 < y → x * y ≤ 0 := fun {x y} h1 h2 => by
  have h3 : 0 < -x := by grind
  have := Rat.mul_pos h3 h2
  grind
 rcases jK a with ⟨e1, h1⟩ | ⟨e1, h1⟩ | ⟨e1, h1⟩ <;> rcases jK b with ⟨e2, h2⟩ | ⟨e2, h2⟩ | ⟨e2, h2⟩ <;> rw [e1, e2]
 ·constructor
  ·rintro (h | h)
   ·exact absurd rfl h
   ·subst h
    exact absurd h1 Rat.lt_irrefl
  ·intro h
   have h3 : 0 < -a := by grind
   have h4 : 0 < -b := by grind
   have := Rat.mul_pos h3 h4
   grind
 ·subst h2
  exact ⟨fun _ => by rw [Rat.mul_zero]; exact Rat.le_refl, fun _ => .inl (by decide)⟩
 ·exact ⟨fun _ => np h1 h2, fun _ => .inl (by decide)⟩
 ·subst h1
  exact ⟨fun _ => by rw [Rat.zero_mul]; exact Rat.le_refl, fun _ => .inl (by decide)⟩
 ·subst h1
  exact ⟨fun _ => by rw [Rat.zero_mul]; exact Rat.le_refl, fun _ => .inr rfl⟩
 ·subst h1
  exact ⟨fun _ => by rw [Rat.zero_mul]; exact Rat.le_refl, fun _ => .inl (by decide)⟩
 ·exact ⟨fun _ => by rw [Rat.mul_comm]; exact np h2 h1, fun _ => .inl (by decide)⟩
 ·subst h2
  exact ⟨fun _ => by rw [Rat.mul_zero]; exact Rat.le_refl, fun _ => .inl (by decide)⟩
 ·constructor
  ·rintro (h | h)
   ·exact absurd rfl h
   ·subst h
    exact absurd h1 Rat.lt_irrefl
  ·intro h
   have := Rat.mul_pos h1 h2
   grind
attribute [local irreducible] yA semH semC qLen qNil qIad qSlc qIdx xA yM xH appX appI slcX awpF yR xQ xopF xT qval lval seqQ xP wM wK xY cnd arith IntKind.wrap
theorem ref24_slope_smooth {cx cy : C} {xs ys : List Rat} {i : Nat} (hx : Ls (elR 2) cx xs) (hy : Ls (elR 2) cy ys) (hr : tC xs) (hlen : ys.length = xs.length) (hl : xs.length ≤ 1024) (h2 : 2 ≤ xs.length) (hi : i < xs.length) : semC Tryz.prog n_ref24_table_slope [.agg [iC 2, cx, cy], i64 i] (RQV 49 (tZ xs ys i)) := by
 refine yC ok_ref24_table_slope rfl (show HFVs [.agg [iC 2, cx, cy], i64 i] from ⟨⟨trivial, hx.hf, hy.hf, trivial⟩, trivial, trivial⟩) ?_
 refine go9 ?_
 refine yB (ref24_last hx hy.hf (by omega) (by omega)) (fun u hu => ?_)
 obtain rfl := hu
 refine go9 ?_
 refine c_t (by simp [yA]) ?_
 refine go9 ?_
 rw [show arith .sub .i64 ((xs.length - 1 : Nat) : Int) 2 = (xs.length : Int) - 3 by rw [xL, yF (by omega) (by omega)]; omega, show arith .sub .i64 (i : Int) 1 = (i : Int) - 1 by rw [xL, yF (by omega) (by omega)]]
 obtain ⟨lo, w, hc⟩ : ∃ lo w : Nat, (xs.length = 2 ∧ lo = 0 ∧ w = 2) ∨ (3 ≤ xs.length ∧ lo = min (i - 1) (xs.length - 3) ∧ w = 3) := by
  rcases Nat.lt_or_ge 2 xs.length with h | h
  ·exact ⟨_, _, .inr ⟨h, rfl, rfl⟩⟩
  ·exact ⟨_, _, .inl ⟨by omega, rfl, rfl⟩⟩
 have hlw : lo + w ≤ xs.length := by omega
 have hww : w = 2 ∨ w = 3 := by omega
 rw [show (if (if (xs.length : Int) - 3 < (i : Int) - 1 then (xs.length : Int) - 3 else (i : Int) - 1) > 0 then (if (xs.length : Int) - 3 < (i : Int) - 1 then (xs.length : Int) - 3 else (i : Int) - 1) else 0) = (lo : Int) by
  split <;> split <;> omega]
 rw [show arith .add .i64 (lo : Int) 2 = ((lo + 2 : Nat) : Int) by rw [yW, yF (by omega) (by omega)]; omega]
 rw [show (if ((lo + 2 : Nat) : Int) < ((xs.length - 1 : Nat) : Int) then ((lo + 2 : Nat) : Int) else ((xs.length - 1 : Nat) : Int)) = ((lo + w - 1 : Nat) : Int) by
  split <;> omega]
 rw [show arith .add .i64 ((lo + w - 1 : Nat) : Int) 1 = ((lo + w : Nat) : Int) by rw [yW, yF (by omega) (by omega)]; omega]
 refine slc_ls (l := xs) (a := (lo : Int)) (b := ((lo + w : Nat) : Int)) (by rfl) hx rfl (by rfl) (by rfl) (by omega) (by omega) (by omega) (fun c1 hc1 => ?_)
 refine go9 ?_
 rw [show arith .add .i64 ((lo + w - 1 : Nat) : Int) 1 = ((lo + w : Nat) : Int) by rw [yW, yF (by omega) (by omega)]; omega]
 refine slc_ls (l := ys) (a := (lo : Int)) (b := ((lo + w : Nat) : Int)) (by rfl) hy rfl (by rfl) (by rfl) (by omega) (by omega) (by omega) (fun c2 hc2 => ?_)
 rw [show ((lo : Nat) : Int).toNat = lo by omega, show ((lo + w : Nat) : Int).toNat - lo = w by omega] at hc1 hc2
 have l1 : ((xs.drop lo).take w).length = w := by simp; omega
 have l2 : ((ys.drop lo).take w).length = w := by simp; omega
 have hne : ∀ a b (ha : a < ((xs.drop lo).take w).length) (hb : b < ((xs.drop lo).take w).length), a ≠ b → ((xs.drop lo).take w)[a] ≠ ((xs.drop lo).take w)[b] := by
  intro a b ha hb hab
  rw [l1] at ha hb
  simp only [List.getElem_take, List.getElem_drop]
  rw [← xG (l := xs) (i := lo + a) (by omega), ← xG (l := xs) (i := lo + b) (by omega)]
  rcases Nat.lt_or_ge a b with h | h
  ·exact fun e => absurd (hr.lt (show lo + a < lo + b by omega) (by omega)) (by rw [e]; exact Rat.lt_irrefl)
  ·exact fun e => absurd (hr.lt (show lo + b < lo + a by omega) (by omega)) (by rw [e]; exact Rat.lt_irrefl)
 have k1 : thF 2 2 ((xs.drop lo).take w).length ≤ 134217727 := by
  rw [l1]
  rcases hww with rfl | rfl <;> decide
 have k2 : thO 2 2 ((xs.drop lo).take w).length ((xs.drop lo).take w).length ≤ 4096 := by
  rw [l1]
  rcases hww with rfl | rfl <;> decide
 refine go9 ?_
 refine xU hx (i := i) hi (by omega) rfl (fun cs hcs => ?_)
 refine go9 ?_
 refine yG (ref02_Through hc1 hc2 (by omega) (by omega) (by decide) hne k1 (by omega) (by decide)) (fun u hu => ?_)
 obtain ⟨ct, T, rfl, t1, t2⟩ := hu
 have t1 := t1.up' k2
 have t3 := t2.len
 rw [l1] at t3
 refine go9 ?_
 refine yG (jW t1 (by omega) (by decide)) (fun u hu => ?_)
 obtain ⟨cd, D, rfl, d1, d2⟩ := hu
 have d3 := d2.len
 have k3 := jV (k := 4096 + 1) (m := 2) (show D.length ≤ 3 by omega)
 rw [show vaK (4096 + 1) 2 3 = 12304 by decide] at k3
 refine go9 ?_
 refine yB (pL d1 hcs (by omega) (by omega) (by omega)) (fun u hu => ?_)
 obtain ⟨es, rfl, hes⟩ := hu
 obtain ⟨_, _, _, _, rfl⟩ := id hes.four
 refine go9 ?_
 refine RQV.fz ?_
 have e : ev D xs[i] = tZ xs ys i := by
  rw [d2.ev, ← xG (l := xs) (i := i) hi]
  unfold tZ
  rw [if_neg (by omega)]
  rcases hc with ⟨n2, rfl, rfl⟩ | ⟨n3, e1, rfl⟩
  ·rw [if_pos n2]
   exact smooth_two hr hlen n2 (fun x => by rw [t2.ev, l1])
  ·rw [if_neg (by omega), ← e1]
   exact smooth_three hr hlen (by omega) (fun x => by rw [t2.ev, l1])
 rw [← e]
 refine hes.tight ?_
 rw [e]
 exact bd_smooth hx.bdR hy.bdR hr hlen hi
theorem ref24_slope_keep {cx cy : C} {xs ys : List Rat} {i : Nat} (hx : Ls (elR 2) cx xs) (hy : Ls (elR 2) cy ys) (hr : tC xs) (hlen : ys.length = xs.length) (hl : xs.length ≤ 1024) (h2 : 2 ≤ xs.length) (hi : i < xs.length) : semC Tryz.prog n_ref24_table_slope [.agg [iC 3, cx, cy], i64 i] (RQV 49 (pP xs ys i)) := by
 refine yC ok_ref24_table_slope rfl (show HFVs [.agg [iC 3, cx, cy], i64 i] from ⟨⟨trivial, hx.hf, hy.hf, trivial⟩, trivial, trivial⟩) ?_
 have hbd := bd_keep hx.bdR hy.bdR hr hlen hi
 unfold pP at hbd ⊢
 rw [if_neg (show ¬ xs.length = 1 by omega)] at hbd ⊢
 refine go9 ?_
 refine yB (ref24_last hx hy.hf (by omega) (by omega)) (fun u hu => ?_)
 obtain rfl := hu
 refine go9 ?_
 refine c_f (by simp [yA]) ?_
 refine go9 ?_
 cases h0 : yA Cm.eql (i : Int) 0
 case true =>
  simp [yA] at h0
  rw [if_pos h0]
  refine go9 ?_
  refine yB (ref24_line (i := 0) hx hy hr hlen hl (by omega)) (fun u hu => ?_)
  obtain ⟨es, rfl, hes⟩ := hu
  obtain ⟨_, _, _, _, rfl⟩ := id hes.four
  refine go9 ?_
  exact RQV.fz (hes.up (by decide))
 simp [yA] at h0
 rw [if_neg h0] at hbd ⊢
 refine go9 ?_
 cases h1 : yA Cm.eql (i : Int) ((xs.length - 1 : Nat) : Int)
 case true =>
  simp [yA] at h1
  rw [if_pos (show i = xs.length - 1 by omega)]
  refine go9 ?_
  rw [show arith .sub .i64 ((xs.length - 1 : Nat) : Int) 1 = ((xs.length - 2 : Nat) : Int) by rw [xL, yF (by omega) (by omega)]; omega]
  refine yB (ref24_line (i := xs.length - 2) hx hy hr hlen hl (by omega)) (fun u hu => ?_)
  obtain ⟨es, rfl, hes⟩ := hu
  obtain ⟨_, _, _, _, rfl⟩ := id hes.four
  refine go9 ?_
  exact RQV.fz (hes.up (by decide))
 simp [yA] at h1
 rw [if_neg (show ¬ i = xs.length - 1 by omega)] at hbd ⊢
 refine go9 ?_
 rw [show arith .sub .i64 (i : Int) 1 = ((i - 1 : Nat) : Int) by rw [xL, yF (by omega) (by omega)]; omega]
 refine yG (ref24_line (i := i - 1) hx hy hr hlen hl (by omega)) (fun u hu => ?_)
 obtain ⟨es, rfl, hes⟩ := hu
 obtain ⟨e1, e2, e3, e4, rfl⟩ := id hes.four
 refine go9 ?_
 refine yG (ref24_line (i := i) hx hy hr hlen hl (by omega)) (fun u hu => ?_)
 obtain ⟨fs, rfl, hfs⟩ := hu
 obtain ⟨f1, f2, f3, f4, rfl⟩ := id hfs.four
 refine go9 ?_
 simp only [vT, vS, ratC, uB, uA, List.set_cons_zero, List.set_cons_succ, List.nil_append, List.cons_append, List.append_nil, List.replicate_succ, List.replicate_zero, List.length_cons, List.length_nil, splice, List.take_succ_cons, List.take_zero, List.drop_succ_cons, List.drop_zero, List.take_nil, List.drop_nil, Nat.zero_add, Nat.reduceAdd, Nat.reduceMul, Int.reduceToNat, xO, List.getElem?_cons_succ, List.getElem?_cons_zero]
 refine yG (ref01_Q_Sign hes) (fun u hu => ?_)
 obtain rfl := hu
 refine go9 ?_
 refine yB (ref01_Q_Sign hfs) (fun u hu => ?_)
 obtain rfl := hu
 refine go9 ?_
 have hsg := sg_le (slope xs ys (i - 1)) (slope xs ys i)
 cases h3 : yA Cm.neq (sgR (slope xs ys (i - 1))) (sgR (slope xs ys i))
 case true =>
  simp [yA] at h3
  rw [if_pos (hsg.1 (.inl h3))]
  refine go9 ?_
  exact RQV.fz (sQ.up (by decide))
 simp [yA] at h3
 refine go9 ?_
 refine yG (qD hes) (fun u hu => ?_)
 obtain ⟨z, rfl, hz⟩ := hu
 cases z
 case true =>
  rw [if_pos (hsg.1 (.inr (hz.1 rfl)))]
  refine go9 ?_
  exact RQV.fz (sQ.up (by decide))
 have hnz : ¬ slope xs ys (i - 1) * slope xs ys i ≤ 0 := fun h => by
  rcases hsg.2 h with h | h
  ·exact h h3
  ·exact absurd (hz.2 h) (by decide)
 rw [if_neg hnz] at hbd ⊢
 refine go9 ?_
 refine yG (gV hes hfs (by decide)) (fun u hu => ?_)
 obtain ⟨gs, rfl, g1⟩ := hu
 refine go9 ?_
 refine yG (r_Int (g := 2) (by decide)) (fun u hu => ?_)
 obtain ⟨hs, rfl, g2⟩ := hu
 refine go9 ?_
 refine yG (gV g1 g2 (by decide)) (fun u hu => ?_)
 obtain ⟨js, rfl, g3⟩ := hu
 refine go9 ?_
 refine yB (r_Add2 hes hfs (by decide)) (fun u hu => ?_)
 obtain ⟨ks, rfl, g4⟩ := hu
 refine go9 ?_
 refine yB (r_Div2 g3 g4 (by decide) (keep_ne hnz)) (fun u hu => ?_)
 obtain ⟨ls, rfl, g5⟩ := hu
 obtain ⟨_, _, _, _, rfl⟩ := id g5.four
 refine go9 ?_
 rw [show slope xs ys (i - 1) * slope xs ys i * ((2 : Int) : Rat) = 2 * slope xs ys (i - 1) * slope xs ys i by grind] at g5
 exact RQV.fz (g5.tight hbd)
end Go.Proofs.YtjncgcnofiaiaaaGreat

set_option linter.unusedVariables false
set_option linter.unusedSimpArgs false
namespace Go.Proofs.YtjncgcnofiaiaaaGreat
open Go.RowKit
set_option maxRecDepth 20000
structure RowP (c : C) (bx : Nat → Nat) (ds : Nat → List C) (H : Hp) (n w : Nat) (V : Nat → Nat → Rat) (K : Nat) : Prop where
 T : (n = 0 ∧ c = .nilSl) ∨ ∃ b, c = .sl b 0 n none 1 ∧ H[b]? = some (.live ⟨(List.range n).map (rowC bx (fun _ => some w) w), yX, .rw⟩)
 row : ∀ l, l < n → H[bx l]? = some (.live ⟨ds l, yH, .rw⟩)
 len : ∀ l, l < n → (ds l).length = w * 4
 at_ : ∀ l j, l < n → j < w → IR K (((ds l).drop (j * 4)).take 4) (V l j)
theorem RowP.grow {c : C} {bx : Nat → Nat} {ds : Nat → List C} {H X : Hp} {n w : Nat} {V : Nat → Nat → Rat} {K : Nat} (h : RowP c bx ds H n w V K) : RowP c bx ds (H ++ X) n w V K := by
 refine ⟨?_, fun l hl => by
  have := h.row l hl
  rw [List.getElem?_append_left (lt_of_getElem? this)]
  exact this, h.len, h.at_⟩
 rcases h.T with h1 | ⟨b, h1, h2⟩
 ·exact .inl h1
 ·exact .inr ⟨b, h1, by rw [List.getElem?_append_left (lt_of_getElem? h2)]; exact h2⟩
theorem Els.at4 {k : Nat} {ds : List C} {l : List Rat} {j : Nat} (h : Els (elR k) ds l) (hj : j < l.length) : IR k ((ds.drop (j * 4)).take 4) (l.getD j 0) := by
 obtain ⟨cs, r, h1, h2⟩ := h.get hj
 have h3 : cs.length = 4 := (elR k).len h1
 rw [show j * 4 = j * (elR k).s from rfl, h2, List.take_left' h3, xG hj]
 exact h1
theorem RowP.close {c : C} {bx : Nat → Nat} {ds : Nat → List C} {H : Hp} {n w : Nat} {V : Nat → Nat → Rat} {K : Nat} (h : RowP c bx ds H n w V K) (hn : 0 < n) : ∃ bs d, Fz (· = .ro) (xO H bs) c d ∧ Tab ds d n w V (fun _ _ => K) := by
 rcases h.T with ⟨h0, _⟩ | ⟨b, rfl, hb⟩
 ·omega
 refine ⟨b :: (List.range n).map bx, _, .sl (bD List.mem_cons_self hb) rfl (by simp) ?_, rfl, h.len, h.at_⟩
 rw [List.drop_zero, List.take_of_length_le (by simp)]
 exact fz_rowsK (p := (· = .ro)) (H := xO H (b :: (List.range n).map bx)) (bx := bx) (co := fun _ => some w) (ds := ds) (w := w) (l := List.range n) rfl (by simp) (fun i hi => ⟨bD (List.mem_cons_of_mem _ (List.mem_map_of_mem hi)) (h.row i (by simpa using hi)), h.len i (by simpa using hi), gZ (h.len i (by simpa using hi)) (fun j hj => (h.at_ i j (by simpa using hi) hj).hf)⟩)
theorem sP {H X : Hp} {l : Nat} {s : Slot} (h : H[l]? = some s) : (H ++ X)[l]? = some s := by
 rw [List.getElem?_append_left (lt_of_getElem? h)]
 exact h
def addF {α : Type} (f : Nat → α) (n : Nat) (a b : α) : Nat → α := fun l => if l = n then a else if l = n + 1 then b else f l
theorem addF_old {α : Type} {f : Nat → α} {n l : Nat} {a b : α} (h : l < n) : addF f n a b l = f l := by
 unfold addF
 rw [if_neg (by omega), if_neg (by omega)]
theorem addF_fst {α : Type} {f : Nat → α} {n : Nat} {a b : α} : addF f n a b n = a := by simp [addF]
theorem addF_snd {α : Type} {f : Nat → α} {n : Nat} {a b : α} : addF f n a b (n + 1) = b := by simp [addF]
abbrev Stay (H H' : Hp) : Prop := ∀ (l : Nat) (cells : List C) (el : TypeId), el ≠ yX → H[l]? = some (Slot.live ⟨cells, el, BK.rw⟩) → H'[l]? = some (Slot.live ⟨cells, el, BK.rw⟩)
theorem RowP.two {c : C} {bx : Nat → Nat} {ds : Nat → List C} {H : Hp} {n : Nat} {V : Nat → Nat → Rat} {K : Nat} {c1 c2 : List C} {s x : Option Go.Proofs.YtjncgcnofiaiaaaGreat.V} {k : Go.Proofs.YtjncgcnofiaiaaaGreat.V → Hp → Prop} (h : RowP c bx ds H n 4 V K) (hn : n < 1024) (l1 : c1.length = 16) (l2 : c2.length = 16) (h1 : ∀ j, j < 4 → IR K ((c1.drop (j * 4)).take 4) (V n j)) (h2 : ∀ j, j < 4 → IR K ((c2.drop (j * 4)).take 4) (V (n + 1) j))
  (hs : s = some (.c c)) (hx : x = some (.c (.imm 2 [.sl H.length 0 4 (some 4) 4, .sl (H.length + 1) 0 4 (some 4) 4])))
  (hk : ∀ c' H', Stay H H' → RowP c' (addF bx n H.length (H.length + 1)) (addF ds n c1 c2) H' (n + 2) 4 V K → k (.c c') H') : appX ((H ++ [.live ⟨c1, yH, .rw⟩]) ++ [.live ⟨c2, yH, .rw⟩]) yX 1 24 s x k := by
 subst hs hx
 have hrow : ∀ {H' : Hp}, Stay ((H ++ [.live ⟨c1, yH, .rw⟩]) ++ [Slot.live ⟨c2, yH, .rw⟩]) H' → ∀ l, l < n + 2 → H'[addF bx n H.length (H.length + 1) l]? = some (.live ⟨addF ds n c1 c2 l, yH, .rw⟩) := fun hH l hl => by
  refine hH _ _ _ (by decide) ?_
  rcases Nat.lt_or_ge l n with e | e
  ·rw [addF_old e, addF_old e]
   exact bX (h.row l e)
  ·rcases Nat.lt_or_ge n l with e2 | e2
   ·have : l = n + 1 := by omega
    subst this
    rw [addF_snd, addF_snd]
    exact get2b
   ·have : l = n := by omega
    subst this
    rw [addF_fst, addF_fst]
    exact get2a
 have hlen : ∀ l, l < n + 2 → (addF ds n c1 c2 l).length = 4 * 4 := fun l hl => by
  rcases Nat.lt_or_ge l n with e | e
  ·rw [addF_old e]
   exact h.len l e
  ·rcases Nat.lt_or_ge n l with e2 | e2
   ·have : l = n + 1 := by omega
    subst this
    rw [addF_snd]
    exact l2
   ·have : l = n := by omega
    subst this
    rw [addF_fst]
    exact l1
 have hat : ∀ l j, l < n + 2 → j < 4 → IR K (((addF ds n c1 c2 l).drop (j * 4)).take 4) (V l j) := fun l j hl hj => by
  rcases Nat.lt_or_ge l n with e | e
  ·rw [addF_old e]
   exact h.at_ l j e hj
  ·rcases Nat.lt_or_ge n l with e2 | e2
   ·have : l = n + 1 := by omega
    subst this
    rw [addF_snd]
    exact h2 j hj
   ·have : l = n := by omega
    subst this
    rw [addF_fst]
    exact h1 j hj
 have hcells : (List.range (n + 2)).map (rowC (addF bx n H.length (H.length + 1)) (fun _ => some 4) 4) = (List.range n).map (rowC bx (fun _ => some 4) 4) ++ [.sl H.length 0 4 (some 4) 4, .sl (H.length + 1) 0 4 (some 4) 4] := by
  rw [List.range_succ, List.range_succ, List.map_append, List.map_append, List.append_assoc]
  congr 1
  ·apply List.map_congr_left
   intro l hl
   have := List.mem_range.1 hl
   unfold rowC
   rw [addF_old this]
  ·simp only [List.map_cons, List.map_nil, rowC, addF_fst, addF_snd, List.cons_append, List.nil_append]
 have hxs : tN ((H ++ [.live ⟨c1, yH, .rw⟩]) ++ [Slot.live ⟨c2, yH, .rw⟩]) 1 (.imm 2 [.sl H.length 0 4 (some 4) 4, .sl (H.length + 1) 0 4 (some 4) 4]) = some [.sl H.length 0 4 (some 4) 4, .sl (H.length + 1) 0 4 (some 4) 4] := rfl
 rcases h.T with ⟨rfl, rfl⟩ | ⟨b, rfl, hb⟩
 ·simp only [appX, hxs, bH]
  refine xB (by rfl) (qP rfl (xB (by simp only [Bool.and_eq_true, yE]; decide) (hk _ _ (fun l cells el he hl => sP (bX hl)) ⟨.inr ⟨_, rfl, ?_⟩, hrow (fun l cells el he hl => sP hl), hlen, hat⟩)))
  rw [hcells]
  exact yL _ _
 ·have hbn : ∀ {l : Nat} {cells : List C} {el : TypeId}, el ≠ yX → ((H ++ [.live ⟨c1, yH, .rw⟩]) ++ [Slot.live ⟨c2, yH, .rw⟩])[l]? = some (.live ⟨cells, el, .rw⟩) → b ≠ l := fun he hl e => by
   subst e
   rw [bX hb] at hl
   cases hl
   exact he rfl
  refine app_sl (m := 2) rfl rfl hxs rfl rfl (bX hb) (by simp) (by omega) (by omega) (hk _ _ (fun l cells el he hl => ?_) ⟨.inr ⟨_, rfl, ?_⟩, hrow (fun l cells el he hl => ?_), hlen, hat⟩)
  ·have := bX (a := Slot.live ⟨c1, yH, .rw⟩) (b := Slot.live ⟨c2, yH, .rw⟩) hl
   exact sP (by rw [List.getElem?_set_ne (hbn he this)]; exact this)
  ·rw [hcells]
   rw [List.getElem?_append_right (by simp), List.length_set, Nat.sub_self, List.take_of_length_le (by simp)]
   rfl
  ·exact sP (by rw [List.getElem?_set_ne (hbn he hl)]; exact hl)
theorem xd_mkSl {P : Program} {e : Env} {H : Hp} {nid : Nat} {K : V → Hp → Prop} {el : TypeId} {es bytes : Nat} {zero : List C} {l c : AO} {m n : Int} (h : l.ev e = some (.c (.int .i64 m))) (h2 : c.ev e = some (.c (.int .i64 n))) (h3 : 0 ≤ m ∧ m ≤ n ∧ n * bytes ≤ 281474976710656 ∧ n ≤ 281474976710656) (hn : H[nid]? = some .unb)
  (k : K (.c (.sl nid 0 m.toNat (some n.toNat) es)) (H.set nid (.live ⟨(List.replicate n.toNat zero).flatten, el, .rw⟩))) : xT P e H nid (.mkSl el es bytes zero l c) K := by
 simp only [xT, dstep, aval, h, h2]
 refine xB (yE.2 h3) ?_
 simp only [hn]
 exact k
theorem beq_succ (n : Nat) : Nat.beq n (n + 1) = false := by
 cases h : Nat.beq n (n + 1)
 ·rfl
 ·exact absurd (Nat.eq_of_beq_eq_true h) (by omega)
theorem two_drawn {H : Hp} {a b : Slot} : ((H ++ List.replicate (1 + 1) Slot.unb).set (H.length + 0) a).set (H.length + 1) b = (H ++ [a]) ++ [b] := by
 simp [List.set_append]
attribute [local irreducible] yA semH semC qLen qNil qIad qSlc qIdx xA yM xH appX appI slcX awpF yR xQ xopF xT qval lval seqQ xP wM wK xY cnd arith IntKind.wrap
theorem bI {kind : Int} {cx cy : C} {xs ys : List Rat} {m : Nat → Rat} {i : Nat} (hk : kind = 2 ∨ kind = 3) (hx : Ls (elR 2) cx xs) (hy : Ls (elR 2) cy ys) (hr : tC xs) (hlen : ys.length = xs.length) (hl : xs.length ≤ 1024) (hi : i + 1 < xs.length) (hm : ∀ j, j < xs.length → semC Tryz.prog n_ref24_table_slope [.agg [iC kind, cx, cy], i64 j] (RQV 49 (m j))) : semC Tryz.prog n_ref24_table_piece [.agg [iC kind, cx, cy], i64 i] (vP (elR 12629) (pE (cubP m xs ys i))) := by
 refine yC ok_ref24_table_piece rfl (show HFVs [.agg [iC kind, cx, cy], i64 i] from ⟨⟨trivial, hx.hf, hy.hf, trivial⟩, trivial, trivial⟩) ?_
 refine go8 ?_
 refine c_f (by simp [yA]; omega) ?_
 refine go8 ?_
 refine c_f (by simp [yA]; omega) ?_
 refine go8 ?_
 refine yQ (fun n vs H => ∃ (o : Nat) (c : C) (bx : Nat → Nat) (ds : Nat → List C), vs = [i64 i, .c (.ptr 0 0), .c c, i64 ((i + o : Nat) : Int)] ∧ n = 2 - o ∧ o ≤ 2 ∧ H[0]? = some (.live ⟨[iC kind, cx, cy], tW, .rw⟩) ∧ RowP c bx ds H (2 * o) 4 (jG (xs.getD i 0) (xs.getD (i + 1) 0)) 49) (by rfl) ⟨0, _, fun _ => 0, fun _ => [], rfl, rfl, by omega, rfl, ⟨.inl ⟨rfl, rfl⟩, fun l h => by omega, fun l h => by omega, fun l j h => by omega⟩⟩ ?_
 rintro n vs H ⟨o, c, bx, ds, rfl, rfl, o1, g0, o2⟩
 refine go8 ?_
 rw [show arith .add .i64 (i : Int) 2 = ((i + 2 : Nat) : Int) by rw [yW, yF (by omega) (by omega)]; omega]
 cases ho : yA Cm.lss ((i + o : Nat) : Int) ((i + 2 : Nat) : Int)
 case true =>
  simp [yA] at ho
  have hio : i + o < xs.length := by omega
  refine go8 ?_
  refine xd_mkSl (by rfl) (by rfl) (by decide) (by simp) ?_
  refine go8 ?_
  refine jN (T := some (H.length + 1)) (by rfl) (by simp [pO, tch, same?, beq_succ]) ?_
  refine xd_mkSl (by rfl) (by rfl) (by decide) (by simp) ?_
  rw [two_drawn]
  refine go8 ?_
  refine yQ (fun n vs H' => ∃ (q : Nat) (c1 c2 : List C) (L1 L2 : List Rat), vs = [i64 i, .c (.ptr 0 0), .c c, i64 ((i + o : Nat) : Int), .c (.sl H.length 0 4 (some 4) 4), .c (.sl (H.length + 1) 0 4 (some 4) 4), i64 q] ∧ H' = (H ++ [.live ⟨c1, yH, .rw⟩]) ++ [.live ⟨c2, yH, .rw⟩] ∧ n = 4 - q ∧ q ≤ 4 ∧ L1.length = 4 ∧ L2.length = 4 ∧ Els (elR 49) c1 L1 ∧ Els (elR 49) c2 L2 ∧ L2.getD 0 0 = 0 ∧ (∀ j, j < q → L1.getD j 0 = xs.getD (i + o) 0 ^ j) ∧ ∀ j, 0 < j → j < q → L2.getD j 0 = xs.getD (i + o) 0 ^ (j - 1) * ((j : Int) : Rat)) (by rfl) ⟨0, _, _, List.replicate 4 0, List.replicate 4 0, rfl, rfl, rfl, by omega, rfl, rfl, (Els.rep (E := elR 1) sQ 4).up' (by decide), (Els.rep (E := elR 1) sQ 4).up' (by decide), rfl, fun j h => by omega, fun j _ h => by omega⟩ ?_
  rintro n vs H1 ⟨q, c1, c2, L1, L2, rfl, rfl, rfl, q1, q2, q3, q4, q5, q6, q7, q8⟩
  have hH0 := lt_of_getElem? g0
  have hcl1 : c1.length = 16 := by rw [q4.len, q2]; rfl
  have hcl2 : c2.length = 16 := by rw [q5.len, q3]; rfl
  refine go8 ?_
  cases hq : yA Cm.lss (q : Int) 4
  case true =>
   simp [yA] at hq
   have hq : q < 4 := by omega
   refine go8 ?_
   refine xC (bX g0) (by rfl) ?_
   refine go8 ?_
   refine xU hx (i := i + o) hio (by omega) rfl (fun cs hcs => ?_)
   rw [← xG (l := xs) (i := i + o) hio] at hcs
   refine go8 ?_
   refine yB (r_Pow q hcs (by omega) (by omega)) (fun u hu => ?_)
   obtain ⟨es, rfl, hes⟩ := hu
   obtain ⟨e1, e2, e3, e4, rfl⟩ := id hes.four
   refine go8 ?_
   refine yU get2a (by rfl) (by rfl) (by omega) ?_
   rw [set2a, show 0 + ((q : Nat) : Int).toNat * 4 = q * 4 by omega]
   have k1 := q4.set (i := q) (by omega) (show (elR 49).p _ _ from hes.up (show q * 2 + 1 ≤ 49 by omega))
   have k2 : ∀ j, j < q + 1 → (L1.set q (xs.getD (i + o) 0 ^ q)).getD j 0 = xs.getD (i + o) 0 ^ j := fun j hj => by
    by_cases e : j = q
    ·subst e
     simp [List.getD, q2, hq]
    ·have := q7 j (by omega)
     simpa [List.getD, List.getElem?_set_ne (show q ≠ j from fun x => e x.symm)] using this
   refine go8 ?_
   cases hq0 : yA Cm.gtr (q : Int) 0
   case false =>
    simp [yA] at hq0
    refine go8 ?_
    rw [yT q (by omega)]
    exact l_n (by rfl) (n' := 4 - (q + 1)) (by omega) ⟨q + 1, _, _, _, _, rfl, rfl, rfl, by omega, by simp [q2], q3, k1, q5, q6, k2, fun j _ h => by omega⟩
   simp [yA] at hq0
   refine go8 ?_
   refine xC (bX g0) (by rfl) ?_
   refine go8 ?_
   refine xU hx (i := i + o) hio (by omega) rfl (fun ds hds => ?_)
   rw [← xG (l := xs) (i := i + o) hio] at hds
   refine go8 ?_
   rw [show arith .sub .i64 (q : Int) 1 = ((q - 1 : Nat) : Int) by rw [xL, yF (by omega) (by omega)]; omega]
   refine yB (r_Pow (q - 1) hds (by omega) (by omega)) (fun u hu => ?_)
   obtain ⟨fs, rfl, hfs⟩ := hu
   refine go8 ?_
   refine yB (r_Int (g := (q : Int)) (by omega)) (fun u hu => ?_)
   obtain ⟨gs, rfl, hgs⟩ := hu
   refine go8 ?_
   refine yB (gV hfs hgs (by omega)) (fun u hu => ?_)
   obtain ⟨hs, rfl, hhs⟩ := hu
   obtain ⟨h1, h2, h3, h4, rfl⟩ := id hhs.four
   refine go8 ?_
   refine yU get2b (by rfl) (by rfl) (by omega) ?_
   rw [set2b, show 0 + ((q : Nat) : Int).toNat * 4 = q * 4 by omega]
   refine go8 ?_
   rw [yT q (by omega)]
   refine l_n (by rfl) (n' := 4 - (q + 1)) (by omega) ⟨q + 1, _, _, _, _, rfl, rfl, rfl, by omega, by simp [q2], by simp [q3], k1, q5.set (i := q) (by omega) (show (elR 49).p _ _ from hhs.up (show (q - 1) * 2 + 1 + 1 ≤ 49 by omega)), ?_, k2, fun j j0 hj => ?_⟩
   ·simpa [List.getD, List.getElem?_set_ne (show q ≠ 0 by omega)] using q6
   ·by_cases e : j = q
    ·subst e
     simp [List.getD, q3, hq]
    ·have := q8 j j0 (by omega)
     simpa [List.getD, List.getElem?_set_ne (show q ≠ j from fun x => e x.symm)] using this
  simp [yA] at hq
  have eq : q = 4 := by omega
  subst eq
  refine go8 ?_
  have r1 : ∀ j, j < 4 → IR 49 ((c1.drop (j * 4)).take 4) (jG (xs.getD i 0) (xs.getD (i + 1) 0) (2 * o) j) := fun j hj => by
   have := q4.at4 (j := j) (by omega)
   rw [q7 j hj] at this
   have e : jG (xs.getD i 0) (xs.getD (i + 1) 0) (2 * o) j = xs.getD (i + o) 0 ^ j := by
    have : o = 0 ∨ o = 1 := by omega
    rcases this with rfl | rfl <;> simp [jG]
   rw [e]
   exact this
  have r2 : ∀ j, j < 4 → IR 49 ((c2.drop (j * 4)).take 4) (jG (xs.getD i 0) (xs.getD (i + 1) 0) (2 * o + 1) j) := fun j hj => by
   have := q5.at4 (j := j) (by omega)
   have e : jG (xs.getD i 0) (xs.getD (i + 1) 0) (2 * o + 1) j = if j = 0 then 0 else xs.getD (i + o) 0 ^ (j - 1) * ((j : Int) : Rat) := by
    have : o = 0 ∨ o = 1 := by omega
    rcases this with rfl | rfl <;> simp [jG]
   rw [e]
   split
   ·rename_i e0
    subst e0
    rw [q6] at this
    exact this
   ·rw [q8 j (by omega) hj] at this
    exact this
  refine o2.two (by omega) hcl1 hcl2 r1 r2 (by rfl) (by rfl) (fun c' H' f1 f2 => ?_)
  refine go8 ?_
  rw [yT (i + o) (by omega)]
  exact l_n (by rfl) (n' := 2 - (o + 1)) (by omega) ⟨o + 1, c', _, _, rfl, rfl, by omega, f1 0 _ _ (by decide) g0, f2⟩
 simp [yA] at ho
 have eo : o = 2 := by omega
 subst eo
 refine go8 ?_
 have hH0 := lt_of_getElem? g0
 refine xC (sP g0) (by rfl) ?_
 refine go9 ?_
 refine xU hy (i := i) (by omega) (by omega) rfl (fun av hav => ?_)
 rw [← xG (l := ys) (i := i) (by omega)] at hav
 refine go9 ?_
 refine yO (sP g0) (by rfl) ?_
 refine go9 ?_
 refine xC (sP g0) (by rfl) ?_
 refine go9 ?_
 rw [yT i (by omega)]
 refine go9 ?_
 refine xU hy (i := i + 1) (by omega) (by omega) rfl (fun bv hbv => ?_)
 rw [← xG (l := ys) (i := i + 1) (by omega)] at hbv
 refine go9 ?_
 refine yO (sP g0) (by rfl) ?_
 refine go9 ?_
 refine yG (hm i (by omega)) (fun u hu => ?_)
 obtain ⟨cv, rfl, hcv⟩ := hu
 refine go9 ?_
 rw [yT i (by omega)]
 refine yG (hm (i + 1) hi) (fun u hu => ?_)
 obtain ⟨dv, rfl, hdv⟩ := hu
 obtain ⟨a1, a2, a3, a4, rfl⟩ := id (show IR 2 av _ from hav).four
 obtain ⟨b1, b2, b3, b4, rfl⟩ := id (show IR 2 bv _ from hbv).four
 obtain ⟨c1, c2, c3, c4, rfl⟩ := id hcv.four
 obtain ⟨d1, d2, d3, d4, rfl⟩ := id hdv.four
 refine go9 ?_
 obtain ⟨bs, d, f1, t1⟩ := (o2.grow (X := List.replicate (0 + 1) Slot.unb)).close (by omega)
 have hw := jJ (hr.get hi)
 obtain ⟨s1, s2⟩ := herm_solves (a := xs.getD i 0) (b := xs.getD (i + 1) 0) (y0 := ys.getD i 0) (m0 := m i) (y1 := ys.getD (i + 1) 0) (m1 := m (i + 1)) (s := slope xs ys i) (c := cubA xs ys m i) (d := cubB xs ys m i) hw rfl rfl rfl
 have hb : Ls (elR 49) (.imm 4 [a1, .bool a2, a3, .bool a4, c1, .bool c2, c3, .bool c4, b1, .bool b2, b3, .bool b4, d1, .bool d2, d3, .bool d4]) ((List.range 4).map (hermB (ys.getD i 0) (m i) (ys.getD (i + 1) 0) (m (i + 1)))) := by
  rw [show (List.range 4).map (hermB (ys.getD i 0) (m i) (ys.getD (i + 1) 0) (m (i + 1))) = [ys.getD i 0, m i, ys.getD (i + 1) 0, m (i + 1)] from rfl]
  exact .imm (.cons (show (elR 49).p _ _ from (show IR 2 _ _ from hav).up (by decide)) (.cons (show (elR 49).p _ _ from hcv) (.cons (show (elR 49).p _ _ from (show IR 2 _ _ from hbv).up (by decide)) (.one (show (elR 49).p _ _ from hdv)))))
 refine yP bs (.cons (.c f1) (.cons (.c (.hf trivial)) (.cons (.c (.hf hb.hf)) .nil))) (ref04_Solution t1 hb (by decide) (by decide) (by decide) (by decide) (by decide) (by decide) s1 s2) (fun u hu => ?_)
 obtain ⟨ce, rfl, e1⟩ := hu
 refine go9 ?_
 refine yB (pH e1 (by simp)) (fun u hu => ?_)
 obtain ⟨cr, r, rfl, e2, e3⟩ := hu
 refine go9 ?_
 refine vP.fz e2 ⟨fun x => ?_, by have := e3.len; simpa using this, e3.top⟩
 rw [e3.ev, herm_ev]
 rfl
end Go.Proofs.YtjncgcnofiaiaaaGreat

set_option linter.unusedVariables false
set_option linter.unusedSimpArgs false
namespace Go.Proofs.YtjncgcnofiaiaaaGreat
open Go.RowKit
set_option maxRecDepth 20000
theorem Els.bdQ {k : Nat} {l : List Rat} {ds : List C} (h : Els (elQ k) ds l) : BdL k l := by
 intro i hi
 obtain ⟨cs, r, h1, _⟩ := h.get hi
 rw [xG hi]
 exact (show IQ k cs l[i] from h1).bd
theorem Ls.bdQ {k : Nat} {c : C} {l : List Rat} (h : Ls (elQ k) c l) : BdL k l := h.els.bdQ
theorem IQ.tight {k m : Nat} {cs : List C} {q : Rat} (h : IQ k cs q) (hb : Bd m (rp q)) : IQ m cs q := ⟨h.is, hb⟩
theorem sg_mul (a b : Rat) : yA Cm.leq (arith .mul .i64 (sgn (rp a).1) (sgn (rp b).1)) 0 = dec (a * b ≤ 0) := by
 have h := sg_le a b
 have h2 := sg_le b a
 show yA Cm.leq (arith .mul .i64 (sgR a) (sgR b)) 0 = _
 have key : (sgR a * sgR b ≤ 0) ↔ a * b ≤ 0 := by
  rcases jK a with ⟨e1, h1⟩ | ⟨e1, h1⟩ | ⟨e1, h1⟩ <;> rcases jK b with ⟨e2, h2⟩ | ⟨e2, h2⟩ | ⟨e2, h2⟩ <;> rw [e1, e2] at h ⊢ <;> constructor <;> intro h3
  all_goals first | (exact absurd h3 (by decide)) | decide | skip
  all_goals first | (refine h.1 ?_; first | exact .inl (by decide) | exact .inr (by assumption)) | skip
  all_goals (rcases h.2 h3 with h4 | h4 <;> first | exact absurd rfl h4 | (subst h4; exact absurd h1 Rat.lt_irrefl))
 have hb : ∀ q, -1 ≤ sgR q ∧ sgR q ≤ 1 := fun q => by
  rcases jK q with ⟨e, _⟩ | ⟨e, _⟩ | ⟨e, _⟩ <;> rw [e] <;> omega
 have hm : -1 ≤ sgR a * sgR b ∧ sgR a * sgR b ≤ 1 := by
  rcases jK a with ⟨e1, h1⟩ | ⟨e1, h1⟩ | ⟨e1, h1⟩ <;> rcases jK b with ⟨e2, h2⟩ | ⟨e2, h2⟩ | ⟨e2, h2⟩ <;> rw [e1, e2] <;> decide
 rw [show arith .mul .i64 (sgR a) (sgR b) = sgR a * sgR b from by
  show IntKind.i64.wrap _ = _
  rw [yF (by omega) (by omega)]]
 show dec _ = _
 rw [propext key]
theorem vB {E : El Rat} {c : C} {l : List Rat} {es n i : Nat} {K : V → Prop} (hc : Ls E c l) (hi : i < l.length) (hn : n = i) (he : E.s = es) (k : ∀ cs, E.p cs (l.getD i 0) → K (.agg cs)) : yM (c.ds.drop (n * es)) true es K :=
 xU hc hi hn he (fun cs h => k cs (by rw [xG hi]; exact h))
attribute [local irreducible] yA semH semC qLen qNil qIad qSlc qIdx xA yM xH appX appI slcX awpF yR xQ xopF xT qval lval seqQ xP wM wK xY cnd arith IntKind.wrap
theorem table_parabola {cx cy : C} {xs ys : List Rat} {a i : Nat} (hx : Ls (elQ 2) cx xs) (hy : Ls (elQ 2) cy ys) (hr : tC xs) (hlen : ys.length = xs.length) (hl : xs.length ≤ 1024) (ha : a + 2 < xs.length) (hi : i < xs.length) : semC Tryz.prog n_table_hold_parabola [.agg [cx, cy], i64 a, i64 i] (QV 49 (paraS xs ys a i)) := by
 refine yC ok_table_hold_parabola rfl (show HFVs [.agg [cx, cy], i64 a, i64 i] from ⟨⟨hx.hf, hy.hf, trivial⟩, trivial, trivial, trivial⟩) ?_
 have hsl : (slopes xs ys).length = xs.length - 1 := pG
 refine go9 ?_
 refine yB (sG hx hy hr hlen (by omega) (by decide)) (fun u hu => ?_)
 obtain ⟨cl, rfl, g1⟩ := hu
 refine go9 ?_
 rw [yT a (by omega)]
 refine go9 ?_
 refine xU g1 (i := a + 1) (by omega) (by omega) rfl (fun av hav => ?_)
 rw [vZ] at hav
 refine go9 ?_
 refine xU g1 (i := a) (by omega) (by omega) rfl (fun bv hbv => ?_)
 rw [vZ] at hbv
 refine go9 ?_
 rw [show arith .add .i64 (a : Int) 2 = ((a + 2 : Nat) : Int) by rw [yW, yF (by omega) (by omega)]; omega]
 refine go9 ?_
 refine xU hx (i := a + 2) (by omega) (by omega) rfl (fun cv hcv => ?_)
 rw [← xG (l := xs) (i := a + 2) (by omega)] at hcv
 refine go9 ?_
 refine xU hx (i := a) (by omega) (by omega) rfl (fun dv hdv => ?_)
 rw [← xG (l := xs) (i := a) (by omega)] at hdv
 refine go9 ?_
 refine yG (gW hav hbv (by decide)) (fun u hu => ?_)
 obtain ⟨es, rfl, h1⟩ := hu
 refine go9 ?_
 refine yG (gW hcv hdv (by decide)) (fun u hu => ?_)
 obtain ⟨fs, rfl, h2⟩ := hu
 refine go9 ?_
 refine yG (q_Div2 h1 h2 (by decide) (jJ (hr.lt (show a < a + 2 by omega) ha))) (fun u hu => ?_)
 obtain ⟨gs, rfl, h3⟩ := hu
 obtain ⟨z1, z2, z3, z4, z5, z6, rfl⟩ := id h3.six
 refine go9 ?_
 simp only [vT, vS, ratC, uB, uA, List.set_cons_zero, List.set_cons_succ, List.nil_append, List.cons_append, List.append_nil, List.replicate_succ, List.replicate_zero, List.length_cons, List.length_nil, splice, List.take_succ_cons, List.take_zero, List.drop_succ_cons, List.drop_zero, List.take_nil, List.drop_nil, Nat.zero_add, Nat.reduceAdd, Nat.reduceMul, Int.reduceToNat, xO, List.getElem?_cons_succ, List.getElem?_cons_zero]
 refine xU g1 (i := a) (by omega) (by omega) rfl (fun iv hiv => ?_)
 rw [vZ] at hiv
 refine go9 ?_
 refine vB hx (i := i) hi (by omega) rfl (fun jv hjv => ?_)
 refine go9 ?_
 refine vB hx (i := a) (by omega) (by omega) rfl (fun kv hkv => ?_)
 refine go9 ?_
 refine vB hx (i := i) hi (by omega) rfl (fun lv hlv => ?_)
 refine go9 ?_
 rw [yT a (by omega)]
 refine go9 ?_
 refine vB hx (i := a + 1) (by omega) (by omega) rfl (fun mv hmv => ?_)
 refine go9 ?_
 refine yG (gW hjv hkv (by decide)) (fun u hu => ?_)
 obtain ⟨ns, rfl, h4⟩ := hu
 refine go9 ?_
 refine yG (gW hlv hmv (by decide)) (fun u hu => ?_)
 obtain ⟨os, rfl, h5⟩ := hu
 refine go9 ?_
 refine yG (q_Add2 h4 h5 (by decide)) (fun u hu => ?_)
 obtain ⟨ps, rfl, h6⟩ := hu
 refine go9 ?_
 refine yB (bU h3 h6 (by decide)) (fun u hu => ?_)
 obtain ⟨qs, rfl, h7⟩ := hu
 refine go9 ?_
 refine yB (q_Add2 hiv h7 (by decide)) (fun u hu => ?_)
 obtain ⟨rs, rfl, h8⟩ := hu
 obtain ⟨_, _, _, _, _, _, rfl⟩ := id h8.six
 refine go9 ?_
 exact QV.fz (h8.tight (bd_para hx.bdQ hy.bdQ hr hlen ha hi))
theorem table_smooth {cx cy : C} {xs ys : List Rat} (hx : Ls (elQ 2) cx xs) (hy : Ls (elQ 2) cy ys) (hr : tC xs) (hlen : ys.length = xs.length) (hl : xs.length ≤ 1024) : semC Tryz.prog n_table_hold_smooth [.agg [cx, cy]] (LsK (elQ 49) ((List.range xs.length).map (tZ xs ys))) := by
 refine yC ok_table_hold_smooth rfl (show HFVs [.agg [cx, cy]] from ⟨⟨hx.hf, hy.hf, trivial⟩, trivial⟩) ?_
 have hsl : (slopes xs ys).length = xs.length - 1 := pG
 generalize hn : xs.length = n at *
 refine go9 ?_
 rw [hn]
 refine vI (by rfl) (by rfl) ⟨by omega, by omega, by omega, by omega⟩ ?_
 refine go9 ?_
 simp only [vT, vS, ratC, uB, uA, List.set_cons_zero, List.set_cons_succ, List.nil_append, List.cons_append, List.append_nil, List.replicate_succ, List.replicate_zero, List.length_cons, List.length_nil, splice, List.take_succ_cons, List.take_zero, List.drop_succ_cons, List.drop_zero, List.take_nil, List.drop_nil, Nat.zero_add, Nat.reduceAdd, Nat.reduceMul, Int.reduceToNat, xO, List.getElem?_cons_succ, List.getElem?_cons_zero]
 refine yQ (fun w vs H => ∃ (i : Nat) (cells : List C), vs = [.c (.ptr 0 0), i64 n, .c (.sl 1 0 n (some n) 6), i64 n, i64 i] ∧ H = [.live ⟨[cx, cy], vH, .rw⟩, .live ⟨cells, xW, .rw⟩] ∧ w = n - i ∧ i ≤ n ∧ Fill (elQ 49) zeroQ n cells ((List.range i).map (tZ xs ys))) (by rfl) ⟨0, _, rfl, rfl, rfl, by omega, .zero rfl⟩ ?_
 rintro w vs H ⟨i, cells, rfl, rfl, rfl, h1, h2⟩
 have hcl : cells.length = n * 6 := h2.len
 have htl : ((List.range i).map (tZ xs ys)).length = i := by simp
 refine go9 ?_
 cases hi : yA Cm.lss (i : Int) (n : Int)
 case false =>
  simp [yA] at hi
  have ei : i = n := by omega
  subst ei
  have h3 := h2.done htl
  have h4 := Ls.imm h3
  rw [htl] at h4
  refine go9 ?_
  exact ⟨_, .c (fz_sl (bx := ⟨cells, xW, .rw⟩) (ds := cells) (by rfl) (by simp) (by simp) (by rw [List.drop_zero, List.take_of_length_le (by simp only; omega)]) h3.hf), _, rfl, h4⟩
 simp [yA] at hi
 have fin : ∀ {cs : List C}, IQ 49 cs (tZ xs ys i) → Fill (elQ 49) zeroQ n (splice cells (0 + ((i : Nat) : Int).toNat * 6) cs) ((List.range (i + 1)).map (tZ xs ys)) := fun h => by
  have h3 := h2.put (by rw [htl]; omega) h
  rw [htl, ← vV] at h3
  rw [show 0 + ((i : Nat) : Int).toNat * 6 = i * 6 by omega]
  exact h3
 refine go9 ?_
 cases hn1 : yA Cm.eql (n : Int) 1
 case true =>
  simp [yA] at hn1
  refine go9 ?_
  refine yB (pV (g := 0) (by decide)) (fun u hu => ?_)
  obtain ⟨es, rfl, hes⟩ := hu
  have hes : IQ 49 es (tZ xs ys i) := by
   unfold tZ
   rw [if_pos (by omega)]
   exact hes.up (by decide)
  obtain ⟨_, _, _, _, _, _, rfl⟩ := id hes.six
  refine go9 ?_
  rw [yT i (by omega)]
  exact l_n (by rfl) (by omega) ⟨i + 1, _, rfl, rfl, rfl, by omega, fin hes⟩
 simp [yA] at hn1
 refine go9 ?_
 cases hn2 : yA Cm.eql (n : Int) 2
 case true =>
  simp [yA] at hn2
  refine go9 ?_
  refine yB (sG hx hy hr (by omega) (by omega) (by decide)) (fun u hu => ?_)
  obtain ⟨cl, rfl, g1⟩ := hu
  refine go9 ?_
  refine xU g1 (i := 0) (by omega) rfl rfl (fun es hes => ?_)
  rw [vZ] at hes
  have hes : IQ 49 es (tZ xs ys i) := by
   unfold tZ
   rw [if_neg (by omega), if_pos (by omega)]
   exact (show IQ 10 _ _ from hes).up (by decide)
  obtain ⟨_, _, _, _, _, _, rfl⟩ := id hes.six
  refine go9 ?_
  rw [yT i (by omega)]
  exact l_n (by rfl) (by omega) ⟨i + 1, _, rfl, rfl, rfl, by omega, fin hes⟩
 simp [yA] at hn2
 refine go9 ?_
 rw [show arith .sub .i64 (n : Int) 3 = (n : Int) - 3 by rw [xL, yF (by omega) (by omega)], show arith .sub .i64 (i : Int) 1 = (i : Int) - 1 by rw [xL, yF (by omega) (by omega)]]
 rw [show (if (n : Int) - 3 < (if 0 > (i : Int) - 1 then 0 else (i : Int) - 1) then (n : Int) - 3 else (if 0 > (i : Int) - 1 then 0 else (i : Int) - 1)) = ((min (i - 1) (n - 3) : Nat) : Int) by split <;> split <;> omega]
 refine yB (table_parabola (a := min (i - 1) (n - 3)) (i := i) hx hy hr (by omega) (by omega) (by omega) (by omega)) (fun u hu => ?_)
 obtain ⟨es, rfl, hes⟩ := hu
 have hes : IQ 49 es (tZ xs ys i) := by
  unfold tZ
  rw [if_neg (by omega), if_neg (by omega), hn]
  exact hes
 obtain ⟨_, _, _, _, _, _, rfl⟩ := id hes.six
 refine go9 ?_
 rw [yT i (by omega)]
 exact l_n (by rfl) (by omega) ⟨i + 1, _, rfl, rfl, rfl, by omega, fin hes⟩
theorem table_keep {cx cy : C} {xs ys : List Rat} (hx : Ls (elQ 2) cx xs) (hy : Ls (elQ 2) cy ys) (hr : tC xs) (hlen : ys.length = xs.length) (hl : xs.length ≤ 1024) : semC Tryz.prog n_table_hold_keep [.agg [cx, cy]] (LsK (elQ 49) ((List.range xs.length).map (pP xs ys))) := by
 refine yC ok_table_hold_keep rfl (show HFVs [.agg [cx, cy]] from ⟨⟨hx.hf, hy.hf, trivial⟩, trivial⟩) ?_
 have hsl : (slopes xs ys).length = xs.length - 1 := pG
 have hbd := fun i hi => bd_keep (i := i) hx.bdQ hy.bdQ hr hlen hi
 generalize hn : xs.length = n at *
 refine go9 ?_
 refine yB (sG hx hy hr (by omega) (by omega) (by decide)) (fun u hu => ?_)
 obtain ⟨cl, rfl, g1⟩ := hu
 refine go9 ?_
 rw [hn]
 refine vI (by rfl) (by rfl) ⟨by omega, by omega, by omega, by omega⟩ ?_
 refine go9 ?_
 simp only [vT, vS, ratC, uB, uA, List.set_cons_zero, List.set_cons_succ, List.nil_append, List.cons_append, List.append_nil, List.replicate_succ, List.replicate_zero, List.length_cons, List.length_nil, splice, List.take_succ_cons, List.take_zero, List.drop_succ_cons, List.drop_zero, List.take_nil, List.drop_nil, Nat.zero_add, Nat.reduceAdd, Nat.reduceMul, Int.reduceToNat, xO, List.getElem?_cons_succ, List.getElem?_cons_zero]
 refine yQ (fun w vs H => ∃ (i : Nat) (cells : List C), vs = [i64 n, .c cl, .c (.sl 1 0 n (some n) 6), i64 n, i64 i] ∧ H = [.live ⟨[cx, cy], vH, .rw⟩, .live ⟨cells, xW, .rw⟩] ∧ w = n - i ∧ i ≤ n ∧ Fill (elQ 49) zeroQ n cells ((List.range i).map (pP xs ys))) (by rfl) ⟨0, _, rfl, rfl, rfl, by omega, .zero rfl⟩ ?_
 rintro w vs H ⟨i, cells, rfl, rfl, rfl, h1, h2⟩
 have hcl : cells.length = n * 6 := h2.len
 have htl : ((List.range i).map (pP xs ys)).length = i := by simp
 refine go9 ?_
 cases hi : yA Cm.lss (i : Int) (n : Int)
 case false =>
  simp [yA] at hi
  have ei : i = n := by omega
  subst ei
  have h3 := h2.done htl
  have h4 := Ls.imm h3
  rw [htl] at h4
  refine go9 ?_
  exact ⟨_, .c (fz_sl (bx := ⟨cells, xW, .rw⟩) (ds := cells) (by rfl) (by simp) (by simp) (by rw [List.drop_zero, List.take_of_length_le (by simp only; omega)]) h3.hf), _, rfl, h4⟩
 simp [yA] at hi
 have fin : ∀ {cs : List C}, IQ 49 cs (pP xs ys i) → Fill (elQ 49) zeroQ n (splice cells (0 + ((i : Nat) : Int).toNat * 6) cs) ((List.range (i + 1)).map (pP xs ys)) := fun h => by
  have h3 := h2.put (by rw [htl]; omega) h
  rw [htl, ← vV] at h3
  rw [show 0 + ((i : Nat) : Int).toNat * 6 = i * 6 by omega]
  exact h3
 refine go9 ?_
 cases hn1 : yA Cm.eql (n : Int) 1
 case true =>
  simp [yA] at hn1
  refine go9 ?_
  refine yB (pV (g := 0) (by decide)) (fun u hu => ?_)
  obtain ⟨es, rfl, hes⟩ := hu
  have hes : IQ 49 es (pP xs ys i) := by
   unfold pP
   rw [if_pos (by omega)]
   exact hes.up (by decide)
  obtain ⟨_, _, _, _, _, _, rfl⟩ := id hes.six
  refine go9 ?_
  rw [yT i (by omega)]
  exact l_n (by rfl) (by omega) ⟨i + 1, _, rfl, rfl, rfl, by omega, fin hes⟩
 simp [yA] at hn1
 refine go9 ?_
 cases hi0 : yA Cm.eql (i : Int) 0
 case true =>
  simp [yA] at hi0
  refine go9 ?_
  refine xU g1 (i := 0) (by omega) rfl rfl (fun es hes => ?_)
  rw [vZ] at hes
  have hes : IQ 49 es (pP xs ys i) := by
   unfold pP
   rw [if_neg (by omega), if_pos hi0]
   exact (show IQ 10 _ _ from hes).up (by decide)
  obtain ⟨_, _, _, _, _, _, rfl⟩ := id hes.six
  refine go9 ?_
  rw [yT i (by omega)]
  exact l_n (by rfl) (by omega) ⟨i + 1, _, rfl, rfl, rfl, by omega, fin hes⟩
 simp [yA] at hi0
 refine go9 ?_
 rw [show arith .sub .i64 (n : Int) 1 = ((n - 1 : Nat) : Int) by rw [xL, yF (by omega) (by omega)]; omega]
 cases hi1 : yA Cm.eql (i : Int) ((n - 1 : Nat) : Int)
 case true =>
  simp [yA] at hi1
  refine go9 ?_
  rw [show arith .sub .i64 (n : Int) 2 = ((n - 2 : Nat) : Int) by rw [xL, yF (by omega) (by omega)]; omega]
  refine go9 ?_
  refine xU g1 (i := n - 2) (by omega) (by omega) rfl (fun es hes => ?_)
  rw [vZ] at hes
  have hes : IQ 49 es (pP xs ys i) := by
   unfold pP
   rw [if_neg (by omega), if_neg hi0, if_pos (by omega), hn]
   exact (show IQ 10 _ _ from hes).up (by decide)
  obtain ⟨_, _, _, _, _, _, rfl⟩ := id hes.six
  refine go9 ?_
  rw [yT i (by omega)]
  exact l_n (by rfl) (by omega) ⟨i + 1, _, rfl, rfl, rfl, by omega, fin hes⟩
 simp [yA] at hi1
 refine go9 ?_
 have e1 : arith .sub .i64 (i : Int) 1 = ((i - 1 : Nat) : Int) := by rw [xL, yF (by omega) (by omega)]; omega
 rw [e1]
 refine go9 ?_
 refine xU g1 (i := i - 1) (by omega) (by omega) rfl (fun av hav => ?_)
 rw [vZ] at hav
 refine go9 ?_
 refine xU g1 (i := i) (by omega) (by omega) rfl (fun bv hbv => ?_)
 rw [vZ] at hbv
 refine go9 ?_
 refine yB (num_Q_Sign (show IQ 10 _ _ from hav).is) (fun u hu => ?_)
 obtain rfl := hu
 refine go9 ?_
 refine yB (num_Q_Sign (show IQ 10 _ _ from hbv).is) (fun u hu => ?_)
 obtain rfl := hu
 refine go9 ?_
 rw [sg_mul]
 cases hm : dec (slope xs ys (i - 1) * slope xs ys i ≤ 0)
 case true =>
  have hm := yE.1 hm
  refine go9 ?_
  refine yB (pV (g := 0) (by decide)) (fun u hu => ?_)
  obtain ⟨es, rfl, hes⟩ := hu
  have hes : IQ 49 es (pP xs ys i) := by
   unfold pP
   rw [if_neg (by omega), if_neg hi0, if_neg (by omega), if_pos hm]
   exact hes.up (by decide)
  obtain ⟨_, _, _, _, _, _, rfl⟩ := id hes.six
  refine go9 ?_
  rw [yT i (by omega)]
  exact l_n (by rfl) (by omega) ⟨i + 1, _, rfl, rfl, rfl, by omega, fin hes⟩
 have hm := yI.1 hm
 refine go9 ?_
 rw [e1]
 refine go9 ?_
 refine xU g1 (i := i - 1) (by omega) (by omega) rfl (fun av hav => ?_)
 rw [vZ] at hav
 refine go9 ?_
 refine xU g1 (i := i) (by omega) (by omega) rfl (fun bv hbv => ?_)
 rw [vZ] at hbv
 refine go9 ?_
 rw [e1]
 refine go9 ?_
 refine xU g1 (i := i - 1) (by omega) (by omega) rfl (fun cv hcv => ?_)
 rw [vZ] at hcv
 refine go9 ?_
 refine xU g1 (i := i) (by omega) (by omega) rfl (fun dv hdv => ?_)
 rw [vZ] at hdv
 refine go9 ?_
 refine yB (pV (g := 2) (by decide)) (fun u hu => ?_)
 obtain ⟨fs, rfl, h3⟩ := hu
 refine go9 ?_
 refine yB (bU h3 hav (by decide)) (fun u hu => ?_)
 obtain ⟨gs, rfl, h4⟩ := hu
 refine go9 ?_
 refine yB (bU h4 hbv (by decide)) (fun u hu => ?_)
 obtain ⟨hs, rfl, h5⟩ := hu
 refine go9 ?_
 refine yB (q_Add2 hcv hdv (by decide)) (fun u hu => ?_)
 obtain ⟨js, rfl, h6⟩ := hu
 refine go9 ?_
 refine yB (q_Div2 h5 h6 (by decide) (keep_ne hm)) (fun u hu => ?_)
 obtain ⟨es, rfl, hes⟩ := hu
 have hes : IQ 49 es (pP xs ys i) := by
  have hb := hbd i hi
  unfold pP at hb ⊢
  rw [if_neg (by omega), if_neg hi0, if_neg (by omega), if_neg hm] at hb ⊢
  exact hes.tight hb
 obtain ⟨_, _, _, _, _, _, rfl⟩ := id hes.six
 refine go9 ?_
 rw [yT i (by omega)]
 exact l_n (by rfl) (by omega) ⟨i + 1, _, rfl, rfl, rfl, by omega, fin hes⟩
end Go.Proofs.YtjncgcnofiaiaaaGreat

set_option linter.unusedVariables false
set_option linter.unusedSimpArgs false
namespace Go.Proofs.YtjncgcnofiaiaaaGreat
open Go.RowKit
set_option maxRecDepth 20000
theorem getD_map {m : Nat → Rat} {n i : Nat} (h : i < n) : ((List.range n).map m).getD i 0 = m i := by
 rw [xG (by simpa using h)]
 simp
attribute [local irreducible] yA semH semC qLen qNil qIad qSlc qIdx xA yM xH appX appI slcX awpF yR xQ xopF xT qval lval seqQ xP wM wK xY cnd arith IntKind.wrap
theorem table_piece_cubic {cx cy cm : C} {xs ys : List Rat} {m : Nat → Rat} {i : Nat} (hx : Ls (elQ 2) cx xs) (hy : Ls (elQ 2) cy ys) (hm : Ls (elQ 49) cm ((List.range xs.length).map m)) (hr : tC xs) (hlen : ys.length = xs.length) (hl : xs.length ≤ 1024) (hi : i + 1 < xs.length) : semC Tryz.prog n_table_piece [.c (.ifaceA qY [cx, cy, cm]), i64 i] (vP (elQ sA) (pE (cubP m xs ys i))) := by
 refine yC ok_table_piece rfl (show HFVs [.c (.ifaceA qY [cx, cy, cm]), i64 i] from ⟨⟨hx.hf, hy.hf, hm.hf, trivial⟩, trivial, trivial⟩) ?_
 have hml : ((List.range xs.length).map m).length = xs.length := by simp
 have hsl : (slopes xs ys).length = xs.length - 1 := pG
 have hne := jJ (hr.get hi)
 refine go9 ?_
 refine yB (table_at_cubic hx.hf hy.hf hm.hf) (fun u hu => ?_)
 obtain rfl := hu
 refine go9 ?_
 rw [yT i (by omega)]
 refine go9 ?_
 refine vB hx (i := i + 1) (by omega) (by omega) rfl (fun av hav => ?_)
 refine go9 ?_
 refine vB hx (i := i) (by omega) (by omega) rfl (fun bv hbv => ?_)
 refine go9 ?_
 refine yG (gW hav hbv (by decide)) (fun u hu => ?_)
 obtain ⟨ws, rfl, hw⟩ := hu
 obtain ⟨w1, w2, w3, w4, w5, w6, rfl⟩ := id hw.six
 refine go9 ?_
 simp only [vT, vS, ratC, uB, uA, List.set_cons_zero, List.set_cons_succ, List.nil_append, List.cons_append, List.append_nil, List.replicate_succ, List.replicate_zero, List.length_cons, List.length_nil, splice, List.take_succ_cons, List.take_zero, List.drop_succ_cons, List.drop_zero, List.take_nil, List.drop_nil, Nat.zero_add, Nat.reduceAdd, Nat.reduceMul, Int.reduceToNat, xO, List.getElem?_cons_succ, List.getElem?_cons_zero]
 refine yB (sG hx hy hr hlen (by omega) (by decide)) (fun u hu => ?_)
 obtain ⟨cl, rfl, g1⟩ := hu
 refine go9 ?_
 refine xU g1 (i := i) (by omega) (by omega) rfl (fun dv hdv => ?_)
 rw [vZ] at hdv
 have hdv : IQ 10 dv _ := hdv
 obtain ⟨d1, d2, d3, d4, d5, d6, rfl⟩ := id hdv.six
 refine go9 ?_
 simp only [vT, vS, ratC, uB, uA, List.set_cons_zero, List.set_cons_succ, List.nil_append, List.cons_append, List.append_nil, List.replicate_succ, List.replicate_zero, List.length_cons, List.length_nil, splice, List.take_succ_cons, List.take_zero, List.drop_succ_cons, List.drop_zero, List.take_nil, List.drop_nil, Nat.zero_add, Nat.reduceAdd, Nat.reduceMul, Int.reduceToNat, xO, List.getElem?_cons_succ, List.getElem?_cons_zero]
 refine vB hm (i := i) (by omega) (by omega) rfl (fun ev hev => ?_)
 rw [getD_map (by omega)] at hev
 refine go9 ?_
 rw [yT i (by omega)]
 refine go9 ?_
 refine vB hm (i := i + 1) (by omega) (by omega) rfl (fun fv hfv => ?_)
 rw [getD_map (by omega)] at hfv
 refine go9 ?_
 refine yG (pV (g := 3) (by decide)) (fun u hu => ?_)
 obtain ⟨k1, rfl, h1⟩ := hu
 refine go9 ?_
 refine yG (bU h1 hdv (by decide)) (fun u hu => ?_)
 obtain ⟨k2, rfl, h2⟩ := hu
 refine go9 ?_
 refine yG (pV (g := 2) (by decide)) (fun u hu => ?_)
 obtain ⟨k3, rfl, h3⟩ := hu
 refine go9 ?_
 refine yG (bU h3 hev (by decide)) (fun u hu => ?_)
 obtain ⟨k4, rfl, h4⟩ := hu
 refine go9 ?_
 refine yG (gW h2 h4 (by decide)) (fun u hu => ?_)
 obtain ⟨k5, rfl, h5⟩ := hu
 refine go9 ?_
 refine yG (gW h5 hfv (by decide)) (fun u hu => ?_)
 obtain ⟨k6, rfl, h6⟩ := hu
 refine go9 ?_
 refine yG (q_Div2 h6 hw (by decide) hne) (fun u hu => ?_)
 obtain ⟨cs, rfl, hc2⟩ := hu
 have hc2 : IQ 121 cs (cubA xs ys m i) := hc2.up (by decide)
 obtain ⟨c1, c2, c3, c4, c5, c6, rfl⟩ := id hc2.six
 refine go9 ?_
 simp only [vT, vS, ratC, uB, uA, List.set_cons_zero, List.set_cons_succ, List.nil_append, List.cons_append, List.append_nil, List.replicate_succ, List.replicate_zero, List.length_cons, List.length_nil, splice, List.take_succ_cons, List.take_zero, List.drop_succ_cons, List.drop_zero, List.take_nil, List.drop_nil, Nat.zero_add, Nat.reduceAdd, Nat.reduceMul, Int.reduceToNat, xO, List.getElem?_cons_succ, List.getElem?_cons_zero]
 refine vB hm (i := i) (by omega) (by omega) rfl (fun ev hev => ?_)
 rw [getD_map (by omega)] at hev
 refine go9 ?_
 rw [yT i (by omega)]
 refine go9 ?_
 refine vB hm (i := i + 1) (by omega) (by omega) rfl (fun fv hfv => ?_)
 rw [getD_map (by omega)] at hfv
 refine go9 ?_
 refine yG (q_Add2 hev hfv (by decide)) (fun u hu => ?_)
 obtain ⟨l1, rfl, j1⟩ := hu
 refine go9 ?_
 refine yG (pV (g := 2) (by decide)) (fun u hu => ?_)
 obtain ⟨l2, rfl, j2⟩ := hu
 refine go9 ?_
 refine yG (bU j2 hdv (by decide)) (fun u hu => ?_)
 obtain ⟨l3, rfl, j3⟩ := hu
 refine go9 ?_
 refine yG (gW j1 j3 (by decide)) (fun u hu => ?_)
 obtain ⟨l4, rfl, j4⟩ := hu
 refine go9 ?_
 refine yG (bU hw hw (by decide)) (fun u hu => ?_)
 obtain ⟨l5, rfl, j5⟩ := hu
 refine go9 ?_
 refine yG (q_Div2 j4 j5 (by decide) (fun e => by rcases Rat.mul_eq_zero.1 e with e | e <;> exact hne e)) (fun u hu => ?_)
 obtain ⟨es, rfl, hc3⟩ := hu
 have hc3 : IQ 121 es (cubB xs ys m i) := hc3.up (by decide)
 obtain ⟨e1, e2, e3, e4, e5, e6, rfl⟩ := id hc3.six
 refine go9 ?_
 simp only [vT, vS, ratC, uB, uA, List.set_cons_zero, List.set_cons_succ, List.nil_append, List.cons_append, List.append_nil, List.replicate_succ, List.replicate_zero, List.length_cons, List.length_nil, splice, List.take_succ_cons, List.take_zero, List.drop_succ_cons, List.drop_zero, List.take_nil, List.drop_nil, Nat.zero_add, Nat.reduceAdd, Nat.reduceMul, Int.reduceToNat, xO, List.getElem?_cons_succ, List.getElem?_cons_zero]
 refine vB hy (i := i) (by omega) (by omega) rfl (fun gv hgv => ?_)
 obtain ⟨g1, g2, g3, g4, g5, g6, rfl⟩ := id (show IQ 2 _ _ from hgv).six
 refine go9 ?_
 refine vB hm (i := i) (by omega) (by omega) rfl (fun iv hiv => ?_)
 rw [getD_map (by omega)] at hiv
 obtain ⟨i1, i2, i3, i4, i5, i6, rfl⟩ := id (show IQ 49 _ _ from hiv).six
 refine go9 ?_
 simp only [vT, vS, ratC, uB, uA, List.set_cons_zero, List.set_cons_succ, List.nil_append, List.cons_append, List.append_nil, List.replicate_succ, List.replicate_zero, List.length_cons, List.length_nil, splice, List.take_succ_cons, List.take_zero, List.drop_succ_cons, List.drop_zero, List.take_nil, List.drop_nil, Nat.zero_add, Nat.reduceAdd, Nat.reduceMul, Int.reduceToNat, xO, List.getElem?_cons_succ, List.getElem?_cons_zero]
 have hp : Ls (elQ 121) (.imm 4 [g1, g2, g3, g4, g5, g6, i1, i2, i3, i4, i5, i6, c1, c2, c3, c4, c5, c6, e1, e2, e3, e4, e5, e6]) [ys.getD i 0, m i, cubA xs ys m i, cubB xs ys m i] :=
  .imm (.cons (show (elQ 121).p _ _ from (show IQ 2 _ _ from hgv).up (by decide)) (.cons (show (elQ 121).p _ _ from (show IQ 49 _ _ from hiv).up (by decide)) (.cons (show (elQ 121).p _ _ from hc2) (.one (show (elQ 121).p _ _ from hc3)))))
 refine yB (qp_Trim hp (by simp)) (fun u hu => ?_)
 obtain ⟨cp, mp, rfl, g3, g4⟩ := hu
 refine go9 ?_
 refine vB hx (i := i) (by omega) (by omega) rfl (fun cs hcs => ?_)
 refine go9 ?_
 refine yB (q_Neg hcs (by decide)) (fun u hu => ?_)
 obtain ⟨ds, rfl, g5⟩ := hu
 obtain ⟨d1, d2, d3, d4, d5, d6, rfl⟩ := id g5.six
 refine go9 ?_
 refine yB (pV (g := 1) (by decide)) (fun u hu => ?_)
 obtain ⟨es, rfl, g6⟩ := hu
 obtain ⟨e1, e2, e3, e4, e5, e6, rfl⟩ := id g6.six
 refine go9 ?_
 simp only [vT, vS, ratC, uB, uA, List.set_cons_zero, List.set_cons_succ, List.nil_append, List.cons_append, List.append_nil, List.replicate_succ, List.replicate_zero, List.length_cons, List.length_nil, splice, List.take_succ_cons, List.take_zero, List.drop_succ_cons, List.drop_zero, List.take_nil, List.drop_nil, Nat.zero_add, Nat.reduceAdd, Nat.reduceMul, Int.reduceToNat, xO, List.getElem?_cons_succ, List.getElem?_cons_zero]
 have g7 := top_two g5 (g6.up (show 1 ≤ 2 by decide))
 have l1 := g4.len
 simp only [List.length_cons, List.length_nil] at l1
 have hco : coK 121 2 mp.length ≤ sA := Nat.le_trans (coK_mono l1) (by decide)
 have hsm : sA ≤ 134217728 := by decide
 refine yB (qp_Compose g3 (.imm g7) (by omega) (by simp) (by omega)) (fun u hu => ?_)
 obtain ⟨cr, mr, rfl, g8, g9⟩ := hu
 refine go9 ?_
 refine vP.fz (g8.up hco) ⟨fun x => ?_, by have := g9.len; omega, g9.top⟩
 rw [g9.ev, g4.ev, ev_two]
 unfold cubP
 simp only [Go.Proofs.YtjncgcnofiaiaaaGreat.ev]
 generalize cubA xs ys m i = A
 generalize cubB xs ys m i = B
 generalize xs.getD i 0 = a
 rw [show (((1 : Int) : Rat)) = 1 from rfl]
 grind
def hU (kind : Int) (xs ys : List Rat) : Nat → Rat → Rat := if kind = 0 then holdP xs ys else if kind = 1 then sZ xs ys else if kind = 2 then cubP (tZ xs ys) xs ys else cubP (pP xs ys) xs ys
theorem hold_shape {cx cy : C} {xs ys : List Rat} (hx : Ls (elQ 2) cx xs) (hy : Ls (elQ 2) cy ys) (hlen : ys.length = xs.length) (hpos : 0 < xs.length) (hl : xs.length ≤ 1024) : Shape (.ifaceA vH [cx, cy]) cx cy xs ys 42 (holdP xs ys) :=
 ⟨⟨hx.hf, hy.hf, trivial⟩, hx, hy, hlen, hpos, hl, table_at_hold hx.hf hy.hf, fun i hi => table_piece_hold hx hy hlen hl hi⟩
theorem cubic_shape {cx cy cm : C} {xs ys : List Rat} {m : Nat → Rat} (hx : Ls (elQ 2) cx xs) (hy : Ls (elQ 2) cy ys) (hm : Ls (elQ 49) cm ((List.range xs.length).map m)) (hr : tC xs) (hlen : ys.length = xs.length) (hpos : 0 < xs.length) (hl : xs.length ≤ 1024) : Shape (.ifaceA qY [cx, cy, cm]) cx cy xs ys sA (cubP m xs ys) :=
 ⟨⟨hx.hf, hy.hf, hm.hf, trivial⟩, hx, hy, hlen, hpos, hl, table_at_cubic hx.hf hy.hf hm.hf, fun i hi => table_piece_cubic hx hy hm hr hlen hl hi⟩
theorem table_made {cx cy : C} {X Y : List R2} {kind : Int} (hx : Ls elP cx X) (hy : Ls elP cy Y) (h : valE kind X Y = 0) : semC Tryz.prog n_table_made [.agg [iC kind, cx, cy]] (MadeK (X.map rt) (Y.map rt) (hU kind (X.map rt) (Y.map rt))) := by
 obtain ⟨h1, h2⟩ := jU h
 refine yC ok_table_made rfl (show HFVs [.agg [iC kind, cx, cy]] from ⟨⟨trivial, hx.hf, hy.hf, trivial⟩, trivial⟩) ?_
 have hpos := List.length_pos_iff.2 h2.2.2.1
 have hlen := h2.2.2.2.1
 have hr := h2.2.2.2.2.2.2
 have k0 := h2.1
 have k3 := h2.2.1
 unfold hU
 refine go9 ?_
 refine yG (num_In hx h2.2.2.2.2.1 (by omega)) (fun u hu => ?_)
 obtain ⟨dx, rfl, g1⟩ := hu
 refine go9 ?_
 refine yG (num_In hy h2.2.2.2.2.2.1 (by omega)) (fun u hu => ?_)
 obtain ⟨dy, rfl, g2⟩ := hu
 refine go9 ?_
 simp only [vT, vS, ratC, uB, uA, List.set_cons_zero, List.set_cons_succ, List.nil_append, List.cons_append, List.append_nil, List.replicate_succ, List.replicate_zero, List.length_cons, List.length_nil, splice, List.take_succ_cons, List.take_zero, List.drop_succ_cons, List.drop_zero, List.take_nil, List.drop_nil, Nat.zero_add, Nat.reduceAdd, Nat.reduceMul, Int.reduceToNat, xO, List.getElem?_cons_succ, List.getElem?_cons_zero]
 cases q1 : yA Cm.eql kind 1
 case true =>
  simp [yA] at q1
  rw [if_neg (by omega), if_pos q1]
  refine go9 ?_
  exact MadeK.fz (line_shape g1 g2 hr (by simp; omega) (by simpa using hpos) (by simp; omega)) (by decide)
 simp [yA] at q1
 refine go9 ?_
 cases q2 : yA Cm.eql kind 2
 case true =>
  simp [yA] at q2
  rw [if_neg (by omega), if_neg (by omega), if_pos q2]
  refine go9 ?_
  refine yG (table_smooth g1 g2 hr (by simp; omega) (by simp; omega)) (fun u hu => ?_)
  obtain ⟨cm, rfl, g3⟩ := hu
  refine go9 ?_
  exact MadeK.fz (cubic_shape g1 g2 g3 hr (by simp; omega) (by simpa using hpos) (by simp; omega)) (by decide)
 simp [yA] at q2
 refine go9 ?_
 cases q3 : yA Cm.eql kind 3
 case true =>
  simp [yA] at q3
  rw [if_neg (by omega), if_neg (by omega), if_neg (by omega)]
  refine go9 ?_
  refine yG (table_keep g1 g2 hr (by simp; omega) (by simp; omega)) (fun u hu => ?_)
  obtain ⟨cm, rfl, g3⟩ := hu
  refine go9 ?_
  exact MadeK.fz (cubic_shape g1 g2 g3 hr (by simp; omega) (by simpa using hpos) (by simp; omega)) (by decide)
 simp [yA] at q3
 rw [if_pos (by omega)]
 refine go9 ?_
 exact MadeK.fz (hold_shape g1 g2 (by simp; omega) (by simpa using hpos) (by simp; omega)) (by decide)
end Go.Proofs.YtjncgcnofiaiaaaGreat

set_option linter.unusedVariables false
set_option linter.unusedSimpArgs false
namespace Go.Proofs.YtjncgcnofiaiaaaGreat
open Go.RowKit
set_option maxRecDepth 20000
def OfK (kind : Int) (xs ys : List Rat) (u : V) : Prop := ∃ dx dy K, u = .agg [iC kind, dx, dy] ∧ (2 ≤ K ∧ K ≤ 12629) ∧ RTab kind dx dy xs ys K (hU kind xs ys)
structure Und (H : Hp) (T To Res : Slot) (es : List C) : Prop where
 t : H[0]? = some T
 to : H[1]? = some To
 res : H[2]? = some Res
 out : H[3]? = some (.live ⟨es, yH, .rw⟩)
theorem Und.grow {H X : Hp} {T To Res : Slot} {es : List C} (h : Und H T To Res es) : Und (H ++ X) T To Res es := ⟨sP h.t, sP h.to, sP h.res, sP h.out⟩
theorem Und.put {H : Hp} {T To Res : Slot} {es fs : List C} (h : Und H T To Res es) : Und (H.set 3 (.live ⟨fs, yH, .rw⟩)) T To Res fs :=
 ⟨by rw [List.getElem?_set_ne (by decide)]; exact h.t, by rw [List.getElem?_set_ne (by decide)]; exact h.to, by rw [List.getElem?_set_ne (by decide)]; exact h.res, List.getElem?_set_self (lt_of_getElem? h.out)⟩
attribute [local irreducible] yA semH semC qLen qNil qIad qSlc qIdx xA yM xH appX appI slcX awpF yR xQ xopF xT qval lval seqQ xP wM wK xY cnd arith IntKind.wrap
theorem rtab_of {cx cy : C} {kind : Int} {xs ys : List Rat} (hx : Ls (elR 2) cx xs) (hy : Ls (elR 2) cy ys) (hr : tC xs) (hlen : ys.length = xs.length) (hpos : 0 < xs.length) (hl : xs.length ≤ 1024) (h0 : 0 ≤ kind) (h3 : kind ≤ 3) : ∃ K, (2 ≤ K ∧ K ≤ 12629) ∧ RTab kind cx cy xs ys K (hU kind xs ys) := by
 unfold hU
 have hk : kind = 0 ∨ kind = 1 ∨ kind = 2 ∨ kind = 3 := by omega
 rcases hk with rfl | rfl | rfl | rfl
 ·exact ⟨40, by decide, hx, hy, hlen, hpos, hl, fun i hi => ref24_piece_hold hx hy hlen hl hi⟩
 ·exact ⟨_, by decide, line_rtab hx hy hr hlen hpos hl⟩
 ·exact ⟨12629, by decide, hx, hy, hlen, hpos, hl, fun i hi => bI (.inl rfl) hx hy hr hlen hl hi (fun j hj => ref24_slope_smooth hx hy hr hlen hl (by omega) hj)⟩
 ·exact ⟨12629, by decide, hx, hy, hlen, hpos, hl, fun i hi => bI (.inr rfl) hx hy hr hlen hl hi (fun j hj => ref24_slope_keep hx hy hr hlen hl (by omega) hj)⟩
theorem ref24_of {cx cy : C} {X Y : List R2} {kind : Int} (hx : Ls elP cx X) (hy : Ls elP cy Y) (h : valE kind X Y = 0) : semC Tryz.prog n_ref24_of [.agg [iC kind, cx, cy]] (OfK kind (X.map rt) (Y.map rt)) := by
 obtain ⟨h1, h2⟩ := jU h
 refine yC ok_ref24_of rfl (show HFVs [.agg [iC kind, cx, cy]] from ⟨⟨trivial, hx.hf, hy.hf, trivial⟩, trivial⟩) ?_
 have hpos := List.length_pos_iff.2 h2.2.2.1
 have hlen := h2.2.2.2.1
 refine go9 ?_
 refine yG (ref01_List hx h2.2.2.2.2.1 (by omega)) (fun u hu => ?_)
 obtain ⟨dx, rfl, g1⟩ := hu
 refine go9 ?_
 refine yG (ref01_List hy h2.2.2.2.2.2.1 (by omega)) (fun u hu => ?_)
 obtain ⟨dy, rfl, g2⟩ := hu
 refine go9 ?_
 obtain ⟨K, hK, hR⟩ := rtab_of (kind := kind) g1 g2 h2.2.2.2.2.2.2 (by simp; omega) (by simpa using hpos) (by simp; omega) h2.1 h2.2.1
 exact ⟨_, .agg (.hf ⟨trivial, g1.hf, g2.hf, trivial⟩), dx, dy, K, rfl, hK, hR⟩
end Go.Proofs.YtjncgcnofiaiaaaGreat

set_option linter.unusedVariables false
set_option linter.unusedSimpArgs false
namespace Go.Proofs.YtjncgcnofiaiaaaGreat
open Go.RowKit
set_option maxRecDepth 20000
noncomputable def outsR (m : List Rat) : List R2 × Bool := bif dec (∀ q ∈ m, fitR (rp q) = true) then (m.map rp, true) else ([], false)
def OutsK (m : List Rat) (u : V) : Prop := ∃ c, Ls elP c (outsR m).1 ∧ u = .tup [.c c, .c (.bool (outsR m).2)]
theorem OutsK.no {m : List Rat} {q : Rat} {H : Hp} (hq : q ∈ m) (h : fitR (rp q) = false) : ∃ d, FzV H (.tup [.c .nilSl, .c (.bool false)]) d ∧ OutsK m d := by
 refine ⟨_, .tup (.cons (.c (.hf trivial)) (.cons (.c (.hf trivial)) .nil)), .nilSl, ?_⟩
 unfold outsR
 rw [yI.2 (fun h2 => by have := h2 q hq; rw [h] at this; cases this)]
 exact ⟨.nil, rfl⟩
theorem OutsK.yes {m : List Rat} {c : C} {H : Hp} {d : C} (h : ∀ q ∈ m, fitR (rp q) = true) (hf : Fz (· ≠ .bor) H c d) (hc : Ls elP d (m.map rp)) : ∃ d, FzV H (.tup [.c c, .c (.bool true)]) d ∧ OutsK m d := by
 refine ⟨_, .tup (.cons (.c hf) (.cons (.c (.hf trivial)) .nil)), d, ?_⟩
 unfold outsR
 rw [yE.2 h]
 exact ⟨hc, rfl⟩
noncomputable def giveR (m : List Rat) : List R2 × Int := bif dec (∀ q ∈ m, fitR (rp q) = true) then (m.map rp, 0) else ([], 3)
def pR (r : List R2 × Int) (u : V) : Prop := ∃ c, Ls elP c r.1 ∧ r.1.length ≤ 13 ∧ u = .tup [.c c, i64 r.2]
theorem pR.bad {r : List R2 × Int} {e : Int} {H : Hp} (h : r = ([], e)) : ∃ d, FzV H (.tup [.c .nilSl, i64 e]) d ∧ pR r d := by
 subst h
 exact ⟨_, .tup (.cons (.c (.hf trivial)) (.cons (.c (.hf trivial)) .nil)), .nilSl, .nil, Nat.zero_le _, rfl⟩
theorem pR.of {r : List R2 × Int} {l : List R2} {e : Int} {c : C} {H : Hp} (h : r = (l, e)) (hc : Ls elP c l) (hl : l.length ≤ 13) : ∃ d, FzV H (.tup [.c c, i64 e]) d ∧ pR r d := by
 subst h
 exact ⟨_, .tup (.cons (.c (.hf hc.hf)) (.cons (.c (.hf trivial)) .nil)), c, hc, hl, rfl⟩
noncomputable def topOf (f : Rat → Rat) : List Rat := Classical.epsilon fun m => Top m ∧ ∀ x, ev m x = f x
theorem topOf_eq {f : Rat → Rat} {m : List Rat} (h : pE f m) : topOf f = m := by
 have h2 : Top (topOf f) ∧ ∀ x, ev (topOf f) x = f x := Classical.epsilon_spec (p := fun m => Top m ∧ ∀ x, ev m x = f x) ⟨m, h.top, h.ev⟩
 exact top_eq (fun x => (h2.2 x).trans (h.ev x).symm) h2.1 h.top
noncomputable def bV (pc : Nat → Rat → Rat) (kind : Int) (X Y : List R2) (i : Int) : List R2 × Int := bif dec (valE kind X Y = 0) then bif dec (i < 0 ∨ (X.length : Int) - 2 < i) then ([], 1) else giveR (topOf (pc i.toNat)) else ([], valE kind X Y)
attribute [local irreducible] yA semH semC qLen qNil qIad qSlc qIdx xA yM xH appX appI slcX awpF yR xQ xopF xT qval lval seqQ xP wM wK xY cnd arith IntKind.wrap
theorem num_Outs {k : Nat} {c : C} {m : List Rat} (hc : Ls (elQ k) c m) (hm : m.length < 1048576) : semC Tryz.prog n_num_Outs [.c c] (OutsK m) := by
 refine yC ok_num_Outs rfl (show HFVs [.c c] from ⟨hc.hf, trivial⟩) ?_
 refine go5 ?_
 refine vI (by rfl) (by rfl) ⟨by omega, by omega, by omega, by omega⟩ ?_
 refine go5 ?_
 simp only [vT, vS, ratC, uB, uA, List.set_cons_zero, List.set_cons_succ, List.nil_append, List.cons_append, List.append_nil, List.replicate_succ, List.replicate_zero, List.length_cons, List.length_nil, splice, List.take_succ_cons, List.take_zero, List.drop_succ_cons, List.drop_zero, List.take_nil, List.drop_nil, Nat.zero_add, Nat.reduceAdd, Nat.reduceMul, Int.reduceToNat, xO, List.getElem?_cons_succ, List.getElem?_cons_zero]
 refine yQ (fun w vs H => ∃ (i : Nat) (cells : List C) (R : Hp), vs = [.c (.sl 0 0 m.length (some m.length) 2), .c c, i64 m.length, i64 i] ∧ H = .live ⟨cells, wU, .rw⟩ :: R ∧ w = m.length - i ∧ i ≤ m.length ∧ Fill elP (ratC (0, 0)) m.length cells ((m.take i).map rp) ∧ ∀ q ∈ m.take i, fitR (rp q) = true) (by rfl) ⟨0, _, _, rfl, rfl, rfl, by omega, .zero rfl, by simp⟩ ?_
 rintro w vs H ⟨i, cells, R, rfl, rfl, rfl, h1, h2, h3⟩
 have hcl : cells.length = m.length * 2 := h2.len
 have htl : ((m.take i).map rp).length = i := by simp; omega
 refine go5 ?_
 cases hi : yA Cm.lss (i : Int) (m.length : Int)
 case false =>
  simp [yA] at hi
  have ei : i = m.length := by omega
  subst ei
  rw [List.take_length] at h2 h3
  have h4 := h2.done (by simp)
  have h5 := Ls.imm h4
  rw [List.length_map] at h5
  refine go5 ?_
  exact OutsK.yes h3 (fz_sl (bx := ⟨cells, wU, .rw⟩) (ds := cells) (by rfl) (by simp) (by simp) (by rw [List.drop_zero, List.take_of_length_le (by simp only; omega)]) h4.hf) h5
 simp [yA] at hi
 refine go5 ?_
 refine xU hc (i := i) hi (by omega) rfl (fun cs hcs => ?_)
 obtain ⟨q1, q2, q3, q4, q5, q6, rfl⟩ := id (show IQ k _ _ from hcs).six
 refine go5 ?_
 refine yB (num_Q_Out (show IQ k _ _ from hcs).is (gU m[i])) (fun u hu => ?_)
 obtain rfl := hu
 unfold outV
 cases hf : fitR (rp m[i])
 case false =>
  refine go5 ?_
  exact OutsK.no (qG hi) hf
 have h4 := h2.put (cs := ratC (rp m[i])) (a := rp m[i]) (by rw [htl]; omega) rfl
 rw [htl, show (m.take i).map rp ++ [rp m[i]] = (m.take (i + 1)).map rp by rw [tS hi, List.map_append]; rfl] at h4
 have h5 : ∀ q ∈ m.take (i + 1), fitR (rp q) = true := fun q hq => by
  rw [tS hi] at hq
  rcases List.mem_append.1 hq with hq | hq
  ·exact h3 q hq
  ·simp at hq
   subst hq
   exact hf
 refine go5 ?_
 rw [yT i (by omega)]
 exact l_n (by rfl) (n' := m.length - (i + 1)) (by omega) ⟨i + 1, _, _, rfl, rfl, rfl, by omega, by rw [show 0 + ((i : Nat) : Int).toNat * 2 = i * 2 by omega]; exact h4, h5⟩
theorem qp_Out {k : Nat} {c : C} {m : List Rat} (hc : Ls (elQ k) c m) (hm : m.length ≤ 13) : semC Tryz.prog n_qp_P_Out [.c c] (pR (giveR m)) := by
 refine yC ok_qp_P_Out rfl (show HFVs [.c c] from ⟨hc.hf, trivial⟩) ?_
 have hdeg : semC Tryz.prog n_qp_P_Deg [.c c] (IntK ((m.length : Int) - 1)) := by
  refine yC ok_qp_P_Deg rfl (show HFVs [.c c] from ⟨hc.hf, trivial⟩) ?_
  refine go5 ?_
  rw [show arith .sub .i64 (m.length : Int) 1 = (m.length : Int) - 1 by rw [xL, yF (by omega) (by omega)]]
  exact IntK.fz
 refine go5 ?_
 refine yB hdeg (fun u hu => ?_)
 obtain rfl := hu
 refine go5 ?_
 rw [show yA Cm.gtr ((m.length : Int) - 1) 12 = false by simp [yA]; omega]
 refine go5 ?_
 refine yB (num_Outs hc (by omega)) (fun u hu => ?_)
 obtain ⟨d, h1, rfl⟩ := hu
 unfold outsR at h1 ⊢
 cases hq : dec (∀ q ∈ m, fitR (rp q) = true)
 case false =>
  refine go5 ?_
  refine pR.bad ?_
  unfold giveR
  rw [hq]
  rfl
 rw [hq] at h1
 refine go5 ?_
 refine pR.of ?_ h1 (by simpa using hm)
 unfold giveR
 rw [hq]
 rfl
theorem ref01_Rats {k : Nat} {c : C} {m : List Rat} (hc : Ls (elR k) c m) (hm : m.length < 1048576) : semC Tryz.prog n_ref01_Rats [.c c] (OutsK m) := by
 refine yC ok_ref01_Rats rfl (show HFVs [.c c] from ⟨hc.hf, trivial⟩) ?_
 refine go8 ?_
 refine yQ (fun w vs H => ∃ (i : Nat) (o : C), vs = [.c c, .c o, i64 i] ∧ w = m.length - i ∧ i ≤ m.length ∧ Out elP wU 0 H o ((m.take i).map rp) ∧ ∀ q ∈ m.take i, fitR (rp q) = true) (by rfl) ⟨0, _, rfl, rfl, by omega, .nil, by simp⟩ ?_
 rintro w vs H ⟨i, o, rfl, rfl, h1, h2, h3⟩
 have htl : ((m.take i).map rp).length = i := by simp; omega
 refine go8 ?_
 cases hi : yA Cm.lss (i : Int) (m.length : Int)
 case false =>
  simp [yA] at hi
  have ei : i = m.length := by omega
  subst ei
  rw [List.take_length] at h2 h3
  obtain ⟨d, f1, l1⟩ := h2.fz (p := (· ≠ .bor)) (by simp)
  refine go8 ?_
  exact OutsK.yes h3 f1 l1
 simp [yA] at hi
 refine go8 ?_
 refine xU hc (i := i) hi (by omega) rfl (fun cs hcs => ?_)
 obtain ⟨q1, q2, q3, q4, rfl⟩ := id (show IR k _ _ from hcs).four
 refine go8 ?_
 refine yB (ref01_Rat (show IR k _ _ from hcs).is (gU m[i])) (fun u hu => ?_)
 obtain rfl := hu
 unfold outV
 cases hf : fitR (rp m[i])
 case false =>
  refine go8 ?_
  exact OutsK.no (qG hi) hf
 have h5 : ∀ q ∈ m.take (i + 1), fitR (rp q) = true := fun q hq => by
  rw [tS hi] at hq
  rcases List.mem_append.1 hq with hq | hq
  ·exact h3 q hq
  ·simp at hq
   subst hq
   exact hf
 refine go8 ?_
 refine app_imm (bytes := 16) (F := []) (R := _) (a := rp m[i]) rfl (h2.grow (X := [_])) (by rfl) (by rfl) rfl rfl (by rw [htl]; omega) (fun R' o' h4 => ?_)
 refine go8 ?_
 rw [yT i (by omega)]
 refine l_n (by rfl) (n' := m.length - (i + 1)) (by omega) ⟨i + 1, o', rfl, rfl, by omega, ?_, h5⟩
 rw [tS hi, List.map_append]
 exact h4
theorem ref02_Give {k : Nat} {c : C} {m : List Rat} (hc : Ls (elR k) c m) (hm : m.length ≤ 13) : semC Tryz.prog n_ref02_Give [.c c] (pR (giveR m)) := by
 refine yC ok_ref02_Give rfl (show HFVs [.c c] from ⟨hc.hf, trivial⟩) ?_
 refine go5 ?_
 refine yB (ref01_Rats hc (by omega)) (fun u hu => ?_)
 obtain ⟨d, h1, rfl⟩ := hu
 unfold outsR at h1 ⊢
 cases hq : dec (∀ q ∈ m, fitR (rp q) = true)
 case false =>
  refine go5 ?_
  refine pR.bad ?_
  unfold giveR
  rw [hq]
  rfl
 rw [hq] at h1
 refine go5 ?_
 rw [show yA Cm.gtr (m.length : Int) 13 = false by simp [yA]; omega]
 refine go5 ?_
 refine pR.of ?_ h1 (by simpa using hm)
 unfold giveR
 rw [hq]
 rfl
theorem table_Piece {cx cy : C} {X Y : List R2} (kind i : Int) (hx : Ls elP cx X) (hy : Ls elP cy Y) : semC Tryz.prog n_table_Piece [.agg [iC kind, cx, cy], i64 i] (pR (bV (hU kind (X.map rt) (Y.map rt)) kind X Y i)) := by
 refine yC ok_table_Piece rfl (show HFVs [.agg [iC kind, cx, cy], i64 i] from ⟨⟨trivial, hx.hf, hy.hf, trivial⟩, trivial, trivial⟩) ?_
 refine go5 ?_
 refine yB (gQ kind hx hy) (fun u hu => ?_)
 obtain rfl := hu
 refine go5 ?_
 rw [bM]
 cases h1 : dec (valE kind X Y ≠ 0)
 case true =>
  refine go5 ?_
  refine pR.bad ?_
  unfold bV
  rw [yI.2 (yE.1 h1)]
  rfl
 have h1 : valE kind X Y = 0 := Classical.byContradiction (yI.1 h1)
 have hv := jU h1
 have hn := hv.1
 refine go5 ?_
 cases h2 : yA Cm.lss i 0
 case true =>
  simp [yA] at h2
  refine go5 ?_
  refine pR.bad ?_
  unfold bV
  rw [yE.2 h1, yE.2 (.inl h2)]
  rfl
 simp [yA] at h2
 refine go5 ?_
 rw [show arith .sub .i64 (X.length : Int) 2 = (X.length : Int) - 2 by rw [xL, yF (by omega) (by omega)]]
 cases h3 : yA Cm.gtr i ((X.length : Int) - 2)
 case true =>
  simp [yA] at h3
  refine go5 ?_
  refine pR.bad ?_
  unfold bV
  rw [yE.2 h1, yE.2 (.inr (by omega))]
  rfl
 simp [yA] at h3
 refine go5 ?_
 refine yB (table_made (kind := kind) hx hy h1) (fun u hu => ?_)
 obtain ⟨s, dx, dy, K, rfl, hK, hS⟩ := hu
 obtain ⟨j, rfl⟩ : ∃ j : Nat, i = j := ⟨i.toNat, by omega⟩
 refine go5 ?_
 refine yB (hS.piece j (by simp; omega)) (fun u hu => ?_)
 obtain ⟨cp, m, rfl, g1, g2⟩ := hu
 have l1 := g2.len
 refine go5 ?_
 refine yB (qp_Out g1 (by omega)) (fun u hu => ?_)
 obtain ⟨d, h4, h5, rfl⟩ := hu
 refine go5 ?_
 refine pR.of ?_ h4 h5
 unfold bV
 rw [yE.2 h1, yI.2 (by omega), Int.toNat_natCast, topOf_eq g2]
 rfl
theorem ref24_Piece {cx cy : C} {X Y : List R2} (kind i : Int) (hx : Ls elP cx X) (hy : Ls elP cy Y) : semC Tryz.prog n_ref24_Piece [.agg [iC kind, cx, cy], i64 i] (pR (bV (hU kind (X.map rt) (Y.map rt)) kind X Y i)) := by
 refine yC ok_ref24_Piece rfl (show HFVs [.agg [iC kind, cx, cy], i64 i] from ⟨⟨trivial, hx.hf, hy.hf, trivial⟩, trivial, trivial⟩) ?_
 refine go5 ?_
 refine yB (pS kind hx hy) (fun u hu => ?_)
 obtain rfl := hu
 refine go5 ?_
 rw [bM]
 cases h1 : dec (valE kind X Y ≠ 0)
 case true =>
  refine go5 ?_
  refine pR.bad ?_
  unfold bV
  rw [yI.2 (yE.1 h1)]
  rfl
 have h1 : valE kind X Y = 0 := Classical.byContradiction (yI.1 h1)
 have hv := jU h1
 have hn := hv.1
 refine go5 ?_
 cases h2 : yA Cm.lss i 0
 case true =>
  simp [yA] at h2
  refine go5 ?_
  refine pR.bad ?_
  unfold bV
  rw [yE.2 h1, yE.2 (.inl h2)]
  rfl
 simp [yA] at h2
 refine go5 ?_
 rw [show arith .sub .i64 (X.length : Int) 2 = (X.length : Int) - 2 by rw [xL, yF (by omega) (by omega)]]
 cases h3 : yA Cm.gtr i ((X.length : Int) - 2)
 case true =>
  simp [yA] at h3
  refine go5 ?_
  refine pR.bad ?_
  unfold bV
  rw [yE.2 h1, yE.2 (.inr (by omega))]
  rfl
 simp [yA] at h3
 refine go5 ?_
 refine yB (ref24_of hx hy h1) (fun u hu => ?_)
 obtain ⟨dx, dy, K, rfl, hK, hR⟩ := hu
 obtain ⟨j, rfl⟩ : ∃ j : Nat, i = j := ⟨i.toNat, by omega⟩
 refine go5 ?_
 refine yB (hR.piece j (by simp; omega)) (fun u hu => ?_)
 obtain ⟨cp, m, rfl, g1, g2⟩ := hu
 have l1 := g2.len
 refine go5 ?_
 refine yB (ref02_Give g1 (by omega)) (fun u hu => ?_)
 obtain ⟨d, h4, h5, rfl⟩ := hu
 refine go5 ?_
 refine pR.of ?_ h4 h5
 unfold bV
 rw [yE.2 h1, yI.2 (by omega), Int.toNat_natCast, topOf_eq g2]
 rfl
end Go.Proofs.YtjncgcnofiaiaaaGreat

set_option linter.unusedVariables false
set_option linter.unusedSimpArgs false
namespace Go.Proofs.YtjncgcnofiaiaaaGreat
open Go.RowKit
set_option maxRecDepth 20000
def inL (xs : List Rat) (x : Rat) (i : Nat) : Prop := xs.getD i 0 < x ∧ x ≤ xs.getD (i + 1) 0
def inR (xs : List Rat) (x : Rat) (i : Nat) : Prop := xs.getD i 0 ≤ x ∧ x < xs.getD (i + 1) 0
noncomputable def qS {α : Type} (p : Nat → Prop) (f : Nat → α) (a : α) : Nat → α
 | 0 => a
 | i + 1 => bif dec (p i) then f i else qS p f a i
theorem last_none {α : Type} {p : Nat → Prop} {f : Nat → α} {a : α} : ∀ {n : Nat}, (∀ j, j < n → ¬ p j) → qS p f a n = a
 | 0, _ => rfl
 | n + 1, h => by
  simp only [qS]
  rw [yI.2 (h n (by omega)), last_none (fun j hj => h j (by omega))]
  rfl
noncomputable def lftR (pc : Nat → Rat → Rat) (xs : List Rat) (x : Rat) : Nat → Rat := qS (inL xs x) (fun i => drv (pc i) x) 0
noncomputable def rgtR (pc : Nat → Rat → Rat) (xs : List Rat) (x : Rat) : Nat → Rat := qS (inR xs x) (fun i => drv (pc i) x) 0
noncomputable def loR (pc : Nat → Rat → Rat) (xs ys : List Rat) (x : Rat) : Nat → Rat := qS (inL xs x) (fun i => pc i x) (ys.getD 0 0)
noncomputable def hiR (pc : Nat → Rat → Rat) (xs ys : List Rat) (x : Rat) : Nat → Rat := qS (inR xs x) (fun i => pc i x) (ys.getD (xs.length - 1) 0)
noncomputable def anyL (xs : List Rat) (x : Rat) : Nat → Bool := qS (inL xs x) (fun _ => true) false
noncomputable def anyR (xs : List Rat) (x : Rat) : Nat → Bool := qS (inR xs x) (fun _ => true) false
noncomputable def lowV (pc : Nat → Rat → Rat) (xs ys : List Rat) (x : Rat) : Rat := bif dec (anyL xs x (xs.length - 1) = false ∧ xs.getD 0 0 < x) then ys.getD (xs.length - 1) 0 else loR pc xs ys x (xs.length - 1)
noncomputable def sD (pc : Nat → Rat → Rat) (xs ys : List Rat) (x : Rat) : Rat := bif dec (anyR xs x (xs.length - 1) = false ∧ x < xs.getD (xs.length - 1) 0) then ys.getD 0 0 else hiR pc xs ys x (xs.length - 1)
def jT (xs ys : List Rat) (x : Rat) : Prop := ∃ i, 1 ≤ i ∧ i < xs.length ∧ xs.getD i 0 = x ∧ ys.getD (i - 1) 0 ≠ ys.getD i 0
section
variable {xs ys : List Rat} {x : Rat}
theorem le_get {i j : Nat} (hr : tC xs) (h : i ≤ j) (hj : j < xs.length) : xs.getD i 0 ≤ xs.getD j 0 := by
 rcases Nat.lt_or_ge i j with h2 | h2
 ·exact Rat.le_of_lt (hr.lt h2 hj)
 ·have : i = j := by omega
  subst this
  exact Rat.le_refl
theorem inL_uniq (hr : tC xs) {i j : Nat} (hi : i + 1 < xs.length) (hj : j + 1 < xs.length) (h1 : inL xs x i) (h2 : inL xs x j) : i = j := by
 rcases Nat.lt_trichotomy i j with h | h | h
 ·have := le_get hr (show i + 1 ≤ j by omega) (by omega)
  exact absurd h2.1 (Rat.not_lt.2 (Rat.le_trans h1.2 this))
 ·exact h
 ·have := le_get hr (show j + 1 ≤ i by omega) (by omega)
  exact absurd h1.1 (Rat.not_lt.2 (Rat.le_trans h2.2 this))
theorem inR_uniq (hr : tC xs) {i j : Nat} (hi : i + 1 < xs.length) (hj : j + 1 < xs.length) (h1 : inR xs x i) (h2 : inR xs x j) : i = j := by
 rcases Nat.lt_trichotomy i j with h | h | h
 ·have := le_get hr (show i + 1 ≤ j by omega) (by omega)
  have h3 := Rat.le_trans this h2.1
  exact absurd h1.2 (Rat.not_lt.2 h3)
 ·exact h
 ·have := le_get hr (show j + 1 ≤ i by omega) (by omega)
  have h3 := Rat.le_trans this h1.1
  exact absurd h2.2 (Rat.not_lt.2 h3)
end
theorem gY {α : Type} {p : Nat → Prop} {f : Nat → α} {a : α} {j : Nat} (hp : p j) : ∀ {n : Nat}, (∀ i, i < n → p i → i = j) → j < n → qS p f a n = f j
 | 0, _, h => by omega
 | n + 1, hu, h => by
  simp only [qS]
  by_cases e : p n
  ·rw [yE.2 e, hu n (by omega) e]
   rfl
  ·rw [yI.2 e]
   have : j ≠ n := fun e2 => e (e2 ▸ hp)
   exact gY hp (fun i hi => hu i (by omega)) (by omega)
structure Joins (pc : Nat → Rat → Rat) (kind : Int) (xs ys : List Rat) : Prop where
 lo : ∀ i, i + 1 < xs.length → pc i (xs.getD i 0) = ys.getD i 0
 hi : ∀ i, i + 1 < xs.length → kind ≠ 0 → pc i (xs.getD (i + 1) 0) = ys.getD (i + 1) 0
 st : ∀ i, i + 1 < xs.length → kind = 0 → pc i (xs.getD (i + 1) 0) = ys.getD i 0
theorem cub_lo {m : Nat → Rat} {xs ys : List Rat} {i : Nat} : cubP m xs ys i (xs.getD i 0) = ys.getD i 0 := by
 unfold cubP
 grind
theorem cub_hi {m : Nat → Rat} {xs ys : List Rat} {i : Nat} (h : xs.getD i 0 < xs.getD (i + 1) 0) : cubP m xs ys i (xs.getD (i + 1) 0) = ys.getD (i + 1) 0 := by
 unfold cubP cubA cubB slope
 have h1 := jJ h
 have h2 : (xs.getD (i + 1) 0 - xs.getD i 0) * (xs.getD (i + 1) 0 - xs.getD i 0) ≠ 0 := fun e => by
  rcases Rat.mul_eq_zero.1 e with e | e <;> exact h1 e
 have e1 := Rat.mul_inv_cancel _ h1
 have e2 := Rat.mul_inv_cancel _ h2
 rw [Rat.div_def, Rat.div_def, Rat.div_def]
 generalize xs.getD (i + 1) 0 - xs.getD i 0 = w at *
 generalize w⁻¹ = u at *
 generalize (w * w)⁻¹ = t at *
 have et : t = u * u := by grind
 subst et
 clear e2 h2 h h1
 grind
theorem joins_of {kind : Int} {xs ys : List Rat} (hr : tC xs) (h0 : 0 ≤ kind) (h3 : kind ≤ 3) : Joins (hU kind xs ys) kind xs ys := by
 have hk : kind = 0 ∨ kind = 1 ∨ kind = 2 ∨ kind = 3 := by omega
 unfold hU
 rcases hk with rfl | rfl | rfl | rfl
 ·exact ⟨fun i hi => rfl, fun i hi h => absurd rfl h, fun i hi _ => rfl⟩
 ·refine ⟨fun i hi => ?_, fun i hi _ => ?_, fun i hi h => absurd h (by decide)⟩
  ·show sZ xs ys i _ = _
   unfold sZ
   grind
  ·show sZ xs ys i _ = _
   unfold sZ slope
   have e1 := Rat.mul_inv_cancel _ (jJ (hr.get hi))
   rw [Rat.div_def]
   generalize (xs.getD (i + 1) 0 - xs.getD i 0)⁻¹ = u at *
   grind
 ·exact ⟨fun i hi => cub_lo, fun i hi _ => cub_hi (hr.get hi), fun i hi h => absurd h (by decide)⟩
 ·exact ⟨fun i hi => cub_lo, fun i hi _ => cub_hi (hr.get hi), fun i hi h => absurd h (by decide)⟩
theorem same_iff {pc : Nat → Rat → Rat} {kind : Int} {xs ys : List Rat} {x : Rat} (hr : tC xs) (hp : 0 < xs.length) (hj : Joins pc kind xs ys) : lowV pc xs ys x = sD pc xs ys x ↔ ¬ (kind = 0 ∧ jT xs ys x) := by
 have L : ∀ j, j + 1 < xs.length → inL xs x j → loR pc xs ys x (xs.length - 1) = pc j x ∧ anyL xs x (xs.length - 1) = true := fun j h1 h2 =>
  ⟨gY h2 (fun i hi h3 => inL_uniq hr (by omega) h1 h3 h2) (by omega), gY h2 (fun i hi h3 => inL_uniq hr (by omega) h1 h3 h2) (by omega)⟩
 have R : ∀ j, j + 1 < xs.length → inR xs x j → hiR pc xs ys x (xs.length - 1) = pc j x ∧ anyR xs x (xs.length - 1) = true := fun j h1 h2 =>
  ⟨gY h2 (fun i hi h3 => inR_uniq hr (by omega) h1 h3 h2) (by omega), gY h2 (fun i hi h3 => inR_uniq hr (by omega) h1 h3 h2) (by omega)⟩
 have L0 : (∀ j, j + 1 < xs.length → ¬ inL xs x j) → loR pc xs ys x (xs.length - 1) = ys.getD 0 0 ∧ anyL xs x (xs.length - 1) = false := fun h => ⟨last_none (fun j hj => h j (by omega)), last_none (fun j hj => h j (by omega))⟩
 have R0 : (∀ j, j + 1 < xs.length → ¬ inR xs x j) → hiR pc xs ys x (xs.length - 1) = ys.getD (xs.length - 1) 0 ∧ anyR xs x (xs.length - 1) = false := fun h => ⟨last_none (fun j hj => h j (by omega)), last_none (fun j hj => h j (by omega))⟩
 have lowIn : ∀ j, j + 1 < xs.length → inL xs x j → lowV pc xs ys x = pc j x := fun j h1 h2 => by
  obtain ⟨a, b⟩ := L j h1 h2
  unfold lowV
  rw [b, yI.2 (fun h => by cases h.1), a]
  rfl
 have highIn : ∀ j, j + 1 < xs.length → inR xs x j → sD pc xs ys x = pc j x := fun j h1 h2 => by
  obtain ⟨a, b⟩ := R j h1 h2
  unfold sD
  rw [b, yI.2 (fun h => by cases h.1), a]
  rfl
 have first : ∀ j, j < xs.length → xs.getD 0 0 ≤ xs.getD j 0 := fun j hj => le_get hr (Nat.zero_le _) hj
 have last : ∀ j, j < xs.length → xs.getD j 0 ≤ xs.getD (xs.length - 1) 0 := fun j hj => le_get hr (by omega) (by omega)
 have noL : ¬ xs.getD 0 0 < x → ∀ j, j + 1 < xs.length → ¬ inL xs x j := fun c j hj h => c (by have := first j (by omega); have := h.1; grind)
 by_cases c0 : xs.getD 0 0 < x
 ·by_cases c1 : x ≤ xs.getD (xs.length - 1) 0
  ·-- in a piece
   obtain ⟨j, j1, j2, j3⟩ : ∃ j, j + 1 < xs.length ∧ xs.getD j 0 < x ∧ x ≤ xs.getD (j + 1) 0 := by
    have key : ∀ k, k < xs.length → x ≤ xs.getD k 0 → ∃ j, j + 1 < xs.length ∧ xs.getD j 0 < x ∧ x ≤ xs.getD (j + 1) 0 := by
     intro k
     induction k with
     | zero => intro _ h; exact absurd c0 (Rat.not_lt.2 h)
     | succ k ih =>
      intro hk h
      by_cases h2 : xs.getD k 0 < x
      ·exact ⟨k, hk, h2, h⟩
      ·exact ih (by omega) (Rat.not_lt.1 h2)
    exact key (xs.length - 1) (by omega) c1
   have hlow := lowIn j j1 ⟨j2, j3⟩
   by_cases c2 : x < xs.getD (j + 1) 0
   ·have hhigh := highIn j j1 ⟨Rat.le_of_lt j2, c2⟩
    refine ⟨fun _ h => ?_, fun _ => by rw [hlow, hhigh]⟩
    obtain ⟨i, i1, i2, i3, _⟩ := h.2
    rcases Nat.lt_or_ge j i with h2 | h2
    ·have := le_get hr (show j + 1 ≤ i by omega) i2
     grind
    ·have := le_get hr h2 (by omega)
     grind
   ·have hx : x = xs.getD (j + 1) 0 := Rat.le_antisymm j3 (Rat.not_lt.1 c2)
    have hhigh : sD pc xs ys x = ys.getD (j + 1) 0 := by
     rcases Nat.lt_or_ge (j + 2) xs.length with h2 | h2
     ·rw [highIn (j + 1) h2 ⟨by rw [hx]; exact Rat.le_refl, by rw [hx]; exact hr.get h2⟩, hx]
      exact hj.lo (j + 1) h2
     ·have e : j + 1 = xs.length - 1 := by omega
      obtain ⟨a, b⟩ := R0 (fun i hi h => by
       have h3 := last (i + 1) hi
       rw [← e, ← hx] at h3
       exact absurd h.2 (Rat.not_lt.2 h3))
      unfold sD
      rw [yI.2 (fun h => by
       have := h.2
       rw [← e, ← hx] at this
       exact Rat.lt_irrefl this), a, e]
      rfl
    rw [hlow, hhigh]
    by_cases hk : kind = 0
    ·rw [show pc j x = ys.getD j 0 by rw [hx]; exact hj.st j j1 hk]
     refine ⟨fun he h => ?_, fun h => Classical.byContradiction fun hne => h ⟨hk, j + 1, by omega, j1, hx.symm, hne⟩⟩
     obtain ⟨i, i1, i2, i3, i4⟩ := h.2
     have : i = j + 1 := by
      rcases Nat.lt_trichotomy i (j + 1) with h2 | h2 | h2
      ·have := hr.lt h2 j1
       grind
      ·exact h2
      ·have := hr.lt h2 i2
       grind
     subst this
     exact i4 he
    ·exact ⟨fun _ h => hk h.1, fun _ => by rw [hx]; exact hj.hi j j1 hk⟩
  ·-- behind the last point
   have c1 := Rat.not_le.1 c1
   obtain ⟨a, b⟩ := L0 (fun i hi h => by
    have := last (i + 1) hi
    have := h.2
    grind)
   obtain ⟨a', b'⟩ := R0 (fun i hi h => by
    have := last (i + 1) hi
    have := h.2
    grind)
   have hl : lowV pc xs ys x = ys.getD (xs.length - 1) 0 := by
    unfold lowV
    rw [yE.2 ⟨b, c0⟩]
    rfl
   have hh : sD pc xs ys x = ys.getD (xs.length - 1) 0 := by
    unfold sD
    rw [yI.2 (fun h => absurd h.2 (Rat.not_lt.2 (Rat.le_of_lt c1))), a']
    rfl
   refine ⟨fun _ h => ?_, fun _ => by rw [hl, hh]⟩
   obtain ⟨i, i1, i2, i3, _⟩ := h.2
   have := last i i2
   grind
 ·-- not above the first point
  have hl : lowV pc xs ys x = ys.getD 0 0 := by
   unfold lowV
   rw [yI.2 (fun h => c0 h.2), (L0 (noL c0)).1]
   rfl
  have c1 := Rat.not_lt.1 c0
  have hs : ¬ jT xs ys x := by
   rintro ⟨i, i1, i2, i3, _⟩
   have := hr.lt (show 0 < i by omega) i2
   grind
  have hh : sD pc xs ys x = ys.getD 0 0 := by
   by_cases c2 : x < xs.getD 0 0
   ·obtain ⟨a, b⟩ := R0 (fun i hi h => by
     have := first i (by omega)
     have := h.1
     grind)
    unfold sD
    rw [yE.2 ⟨b, by have := first (xs.length - 1) (by omega); grind⟩]
    rfl
   ·have hx : x = xs.getD 0 0 := Rat.le_antisymm c1 (Rat.not_lt.1 c2)
    rcases Nat.lt_or_ge 1 xs.length with h2 | h2
    ·rw [highIn 0 h2 ⟨by rw [hx]; exact Rat.le_refl, by rw [hx]; exact hr.get h2⟩, hx]
     exact hj.lo 0 h2
    ·have e : xs.length - 1 = 0 := by omega
     obtain ⟨a, b⟩ := R0 (fun i hi h => by omega)
     unfold sD
     rw [yI.2 (fun h => by
      have := h.2
      rw [e, ← hx] at this
      exact Rat.lt_irrefl this), a, e]
     rfl
  exact ⟨fun _ h => hs h.2, fun _ => by rw [hl, hh]⟩
end Go.Proofs.YtjncgcnofiaiaaaGreat

set_option linter.unusedVariables false
set_option linter.unusedSimpArgs false
namespace Go.Proofs.YtjncgcnofiaiaaaGreat
open Go.RowKit
set_option maxRecDepth 20000
def SidesK (M : Nat) (l r : Rat) (s : Prop) (u : V) : Prop := ∃ ls rs b, u = .tup [.agg ls, .agg rs, .c (.bool b)] ∧ IQ M ls l ∧ IQ M rs r ∧ (b = true ↔ s)
theorem tL {α : Type} {p : Nat → Prop} {f : Nat → α} {a : α} {n : Nat} (h : p n) : qS p f a (n + 1) = f n := by
 simp only [qS]
 rw [yE.2 h]
 rfl
theorem vE {α : Type} {p : Nat → Prop} {f : Nat → α} {a : α} {n : Nat} (h : ¬ p n) : qS p f a (n + 1) = qS p f a n := by
 simp only [qS]
 rw [yI.2 h]
 rfl
noncomputable def slopeT (same : Prop) (l : Rat) : R2 × Bool × Int := bif dec same then ((numR l).1, dec ((numR l).2 = 0), (numR l).2) else ((0, 0), false, 0)
noncomputable def slopeR (pc : Nat → Rat → Rat) (kind : Int) (X Y : List R2) (x : R2) : R2 × Bool × Int := bif dec (sV kind X Y [x] = 0) then slopeT (¬ (kind = 0 ∧ jT (X.map rt) (Y.map rt) (rt x)) ∧ lftR pc (X.map rt) (rt x) (X.length - 1) = rgtR pc (X.map rt) (rt x) (X.length - 1)) (lftR pc (X.map rt) (rt x) (X.length - 1)) else ((0, 0), false, sV kind X Y [x])
def qK (r : R2 × Bool × Int) (u : V) : Prop := u = .tup [.agg (ratC r.1), .c (.bool r.2.1), i64 r.2.2]
theorem qK.of {r : R2 × Bool × Int} {v : R2} {b : Bool} {e : Int} {H : Hp} (h : r = (v, b, e)) : ∃ d, FzV H (.tup [.agg (ratC v), .c (.bool b), i64 e]) d ∧ qK r d := by
 subst h
 exact ⟨_, .tup (.cons (.agg (.hf (sN _))) (.cons (.c (.hf trivial)) (.cons (.c (.hf trivial)) .nil))), rfl⟩
theorem qK.bad {r : R2 × Bool × Int} {e : Int} {H : Hp} (h : r = ((0, 0), false, e)) : ∃ d, FzV H (.tup [.agg [.int .i64 0, .int .i64 0], .c (.bool false), i64 e]) d ∧ qK r d := qK.of h
attribute [local irreducible] yA semH semC qLen qNil qIad qSlc qIdx xA yM xH appX appI slcX awpF yR xQ xopF xT qval lval seqQ xP wM wK xY cnd arith IntKind.wrap
theorem qp_Derive {k : Nat} {c : C} {p : List Rat} (hc : Ls (elQ k) c p) (hp : p.length < 524288) (hk : k + 1 ≤ 134217728) : semC Tryz.prog n_qp_P_Derive [.c c] (LsK (elQ (k + 1)) (der p)) := by
 refine yC ok_qp_P_Derive rfl (show HFVs [.c c] from ⟨hc.hf, trivial⟩) ?_
 refine go9 ?_
 refine yQ (fun w vs H => ∃ (i : Nat) (o : C), vs = [.c c, .c o, i64 i] ∧ w = p.length + 1 - i ∧ 1 ≤ i ∧ i ≤ p.length + 1 ∧ Out (elQ (k + 1)) xW 0 H o ((der p).take (i - 1))) (by rfl) ⟨1, _, rfl, rfl, by omega, by omega, .nil⟩ ?_
 rintro w vs H ⟨i, o, rfl, rfl, h1, h2, h3⟩
 refine go9 ?_
 cases hi : yA Cm.lss (i : Int) (p.length : Int)
 case false =>
  simp [yA] at hi
  rw [List.take_of_length_le (by rw [der_len]; omega)] at h3
  refine go9 ?_
  exact h3.done
 simp [yA] at hi
 refine go9 ?_
 refine xU hc (i := i) hi (by omega) rfl (fun cs hcs => ?_)
 refine go9 ?_
 refine yB (pV (g := (i : Int)) (by omega)) (fun u hu => ?_)
 obtain ⟨ds, rfl, hds⟩ := hu
 refine go9 ?_
 refine yB (bU hcs hds hk) (fun u hu => ?_)
 obtain ⟨es, rfl, hes⟩ := hu
 obtain ⟨_, _, _, _, _, _, rfl⟩ := id hes.six
 have hdl : (der p).length = p.length - 1 := der_len
 refine go9 ?_
 refine app_imm (F := []) (R := _) rfl (h3.grow (X := List.replicate (0 + 1) Slot.unb)) (by rfl) (by rfl) rfl hes (by simp; omega) (fun R' o' h4 => ?_)
 refine go9 ?_
 rw [yT i (by omega)]
 refine l_n (by rfl) (n' := p.length + 1 - (i + 1)) (by omega) ⟨i + 1, o', rfl, rfl, by omega, by omega, ?_⟩
 rw [show i + 1 - 1 = (i - 1) + 1 by omega, tS (l := der p) (i := i - 1) (by omega), der_get, show i - 1 + 1 = i by omega, xG (l := p) (i := i) hi]
 exact h4
set_option maxHeartbeats 1600000 in
theorem table_sides {s cx cy : C} {xs ys : List Rat} {K : Nat} {pc : Nat → Rat → Rat} {av : List C} {x : Rat} (h : Shape s cx cy xs ys K pc) (hr : tC xs) (hc : IQ 2 av x) (hK : 2 ≤ K ∧ K ≤ sA) : semC Tryz.prog n_table_sides [.c s, .agg av] (SidesK (evK (K + 1) 2 4) (lftR pc xs x (xs.length - 1)) (rgtR pc xs x (xs.length - 1)) (lowV pc xs ys x = sD pc xs ys x)) := by
 refine yC ok_table_sides rfl (show HFVs [.c s, .agg av] from ⟨h.hf, hc.hf, trivial⟩) ?_
 obtain ⟨a1, a2, a3, a4, a5, a6, rfl⟩ := id hc.six
 have hx := h.x
 have hy := h.y
 have hlen := h.len
 have hpos := h.pos
 have hsm := h.small
 have hM : 2 ≤ evK (K + 1) 2 4 ∧ evK (K + 1) 2 3 ≤ evK (K + 1) 2 4 ∧ evK K 2 4 ≤ evK (K + 1) 2 4 ∧ evK (K + 1) 2 4 ≤ 134217728 := by
  have := hK.2
  unfold sA at this
  unfold evK
  omega
 have hK3 : K + 1 ≤ 134217727 := by
  have := hK.2
  unfold sA at this
  omega
 generalize hMM : evK (K + 1) 2 4 = M at hM ⊢
 have e1 : arith .sub .i64 (xs.length : Int) 1 = ((xs.length - 1 : Nat) : Int) := by rw [xL, yF (by omega) (by omega)]; omega
 refine go9 ?_
 refine yB h.at_ (fun u hu => ?_)
 obtain rfl := hu
 refine go9 ?_
 refine yB (pV (g := 0) (by decide)) (fun u hu => ?_)
 obtain ⟨z1, rfl, hz1⟩ := hu
 obtain ⟨l1, l2, l3, l4, l5, l6, rfl⟩ := id hz1.six
 refine go9 ?_
 refine yB (pV (g := 0) (by decide)) (fun u hu => ?_)
 obtain ⟨z2, rfl, hz2⟩ := hu
 obtain ⟨r1, r2, r3, r4, r5, r6, rfl⟩ := id hz2.six
 refine go9 ?_
 refine vB hy (i := 0) (by omega) rfl rfl (fun bv hbv => ?_)
 obtain ⟨o1, o2, o3, o4, o5, o6, rfl⟩ := id (show IQ 2 _ _ from hbv).six
 refine go9 ?_
 rw [e1]
 refine go9 ?_
 refine vB hy (i := xs.length - 1) (by omega) (by omega) rfl (fun dv hdv => ?_)
 obtain ⟨q1, q2, q3, q4, q5, q6, rfl⟩ := id (show IQ 2 _ _ from hdv).six
 refine go9 ?_
 simp only [vT, vS, ratC, uB, uA, List.set_cons_zero, List.set_cons_succ, List.nil_append, List.cons_append, List.append_nil, List.replicate_succ, List.replicate_zero, List.length_cons, List.length_nil, splice, List.take_succ_cons, List.take_zero, List.drop_succ_cons, List.drop_zero, List.take_nil, List.drop_nil, Nat.zero_add, Nat.reduceAdd, Nat.reduceMul, Int.reduceToNat, xO, List.getElem?_cons_succ, List.getElem?_cons_zero]
 rw [e1]
 refine yQ (fun w vs H => ∃ (i : Nat) (ls rs os qs : List C) (bl br : Bool), vs = [.c s, .c (.ptr 0 0), .c (.ptr 1 0), .c (.ptr 2 0), .c (.ptr 3 0), i64 xs.length, .c (.ptr 4 0), .c (.ptr 5 0), .c (.ptr 6 0), .c (.ptr 7 0), .c (.bool bl), .c (.bool br), i64 ((xs.length - 1 : Nat) : Int), i64 i] ∧ H = [.live ⟨[a1, a2, a3, a4, a5, a6], xW, .rw⟩, .live ⟨zeroQ, xW, .rw⟩, .live ⟨zeroQ, xW, .rw⟩, .live ⟨[cx, cy], vH, .rw⟩, .live ⟨ls, xW, .rw⟩, .live ⟨rs, xW, .rw⟩, .live ⟨os, xW, .rw⟩, .live ⟨qs, xW, .rw⟩] ∧ w = xs.length - 1 - i ∧ i ≤ xs.length - 1 ∧ IQ M ls (lftR pc xs x i) ∧ IQ M rs (rgtR pc xs x i) ∧ IQ M os (loR pc xs ys x i) ∧ IQ M qs (hiR pc xs ys x i) ∧ bl = anyL xs x i ∧ br = anyR xs x i) (by rfl) ⟨0, _, _, _, _, false, false, rfl, rfl, rfl, by omega, hz1.up (by omega), hz2.up (by omega), (show IQ 2 _ _ from hbv).up hM.1, (show IQ 2 _ _ from hdv).up hM.1, rfl, rfl⟩ ?_
 clear hz1 hz2 hbv hdv
 rintro w vs H ⟨i, ls, rs, os, qs, bl, br, rfl, rfl, rfl, i1, g1, g2, g3, g4, g5, g6⟩
 obtain ⟨l1, l2, l3, l4, l5, l6, rfl⟩ := id g1.six
 obtain ⟨r1, r2, r3, r4, r5, r6, rfl⟩ := id g2.six
 obtain ⟨o1, o2, o3, o4, o5, o6, rfl⟩ := id g3.six
 obtain ⟨q1, q2, q3, q4, q5, q6, rfl⟩ := id g4.six
 refine go9 ?_
 cases hi : yA Cm.lss (i : Int) ((xs.length - 1 : Nat) : Int)
 case false =>
  simp [yA] at hi
  have ei : i = xs.length - 1 := by omega
  subst ei
  refine go9 ?_
  cases bl
  case false =>
   refine go9 ?_
   refine vB hx (i := 0) (by omega) rfl rfl (fun cv hcv => ?_)
   refine go9 ?_
   refine yG (uK hc hcv (by decide)) (fun u hu => ?_)
   obtain rfl := hu
   refine go9 ?_
   rw [cq_gtr]
   cases c1 : dec (xs.getD 0 0 < x)
   case true =>
    refine go9 ?_
    rw [e1]
    refine go9 ?_
    refine vB hy (i := xs.length - 1) (by omega) (by omega) rfl (fun dv hdv => ?_)
    obtain ⟨u1, u2, u3, u4, u5, u6, rfl⟩ := id (show IQ 2 _ _ from hdv).six
    have g3 : IQ M [u1, u2, u3, u4, u5, u6] (lowV pc xs ys x) := by
     unfold lowV
     rw [yE.2 ⟨g5.symm, yE.1 c1⟩]
     exact (show IQ 2 _ _ from hdv).up hM.1
    refine go9 ?_
    cases br
    case false =>
     refine go9 ?_
     rw [e1]
     refine go9 ?_
     refine vB hx (i := xs.length - 1) (by omega) (by omega) rfl (fun fv hfv => ?_)
     refine go9 ?_
     refine yG (uK hc hfv (by decide)) (fun u hu => ?_)
     obtain rfl := hu
     refine go9 ?_
     rw [jO]
     cases c5 : dec (x < xs.getD (xs.length - 1) 0)
     case true =>
      refine go9 ?_
      refine vB hy (i := 0) (by omega) rfl rfl (fun gv hgv => ?_)
      obtain ⟨v1, v2, v3, v4, v5, v6, rfl⟩ := id (show IQ 2 _ _ from hgv).six
      have g4 : IQ M [v1, v2, v3, v4, v5, v6] (sD pc xs ys x) := by
       unfold sD
       rw [yE.2 ⟨g6.symm, yE.1 c5⟩]
       exact (show IQ 2 _ _ from hgv).up hM.1
      refine go9 ?_
      refine yG (uK g3 g4 (by omega)) (fun u hu => ?_)
      obtain rfl := hu
      refine go9 ?_
      rw [bC]
      exact ⟨_, .tup (.cons (.agg (.hf g1.hf)) (.cons (.agg (.hf g2.hf)) (.cons (.c (.hf trivial)) .nil))), _, _, _, rfl, g1, g2, yE⟩
     have g4 : IQ M [q1, q2, q3, q4, q5, q6] (sD pc xs ys x) := by
      unfold sD
      rw [yI.2 (fun h => yI.1 c5 h.2)]
      exact g4
     refine go9 ?_
     refine yG (uK g3 g4 (by omega)) (fun u hu => ?_)
     obtain rfl := hu
     refine go9 ?_
     rw [bC]
     exact ⟨_, .tup (.cons (.agg (.hf g1.hf)) (.cons (.agg (.hf g2.hf)) (.cons (.c (.hf trivial)) .nil))), _, _, _, rfl, g1, g2, yE⟩
    have g4 : IQ M [q1, q2, q3, q4, q5, q6] (sD pc xs ys x) := by
     unfold sD
     rw [yI.2 (fun h => by rw [← g6] at h; cases h.1)]
     exact g4
    refine go9 ?_
    refine yG (uK g3 g4 (by omega)) (fun u hu => ?_)
    obtain rfl := hu
    refine go9 ?_
    rw [bC]
    exact ⟨_, .tup (.cons (.agg (.hf g1.hf)) (.cons (.agg (.hf g2.hf)) (.cons (.c (.hf trivial)) .nil))), _, _, _, rfl, g1, g2, yE⟩
   have g3 : IQ M [o1, o2, o3, o4, o5, o6] (lowV pc xs ys x) := by
    unfold lowV
    rw [yI.2 (fun h => yI.1 c1 h.2)]
    exact g3
   refine go9 ?_
   cases br
   case false =>
    refine go9 ?_
    rw [e1]
    refine go9 ?_
    refine vB hx (i := xs.length - 1) (by omega) (by omega) rfl (fun fv hfv => ?_)
    refine go9 ?_
    refine yG (uK hc hfv (by decide)) (fun u hu => ?_)
    obtain rfl := hu
    refine go9 ?_
    rw [jO]
    cases c5 : dec (x < xs.getD (xs.length - 1) 0)
    case true =>
     refine go9 ?_
     refine vB hy (i := 0) (by omega) rfl rfl (fun gv hgv => ?_)
     obtain ⟨v1, v2, v3, v4, v5, v6, rfl⟩ := id (show IQ 2 _ _ from hgv).six
     have g4 : IQ M [v1, v2, v3, v4, v5, v6] (sD pc xs ys x) := by
      unfold sD
      rw [yE.2 ⟨g6.symm, yE.1 c5⟩]
      exact (show IQ 2 _ _ from hgv).up hM.1
     refine go9 ?_
     refine yG (uK g3 g4 (by omega)) (fun u hu => ?_)
     obtain rfl := hu
     refine go9 ?_
     rw [bC]
     exact ⟨_, .tup (.cons (.agg (.hf g1.hf)) (.cons (.agg (.hf g2.hf)) (.cons (.c (.hf trivial)) .nil))), _, _, _, rfl, g1, g2, yE⟩
    have g4 : IQ M [q1, q2, q3, q4, q5, q6] (sD pc xs ys x) := by
     unfold sD
     rw [yI.2 (fun h => yI.1 c5 h.2)]
     exact g4
    refine go9 ?_
    refine yG (uK g3 g4 (by omega)) (fun u hu => ?_)
    obtain rfl := hu
    refine go9 ?_
    rw [bC]
    exact ⟨_, .tup (.cons (.agg (.hf g1.hf)) (.cons (.agg (.hf g2.hf)) (.cons (.c (.hf trivial)) .nil))), _, _, _, rfl, g1, g2, yE⟩
   have g4 : IQ M [q1, q2, q3, q4, q5, q6] (sD pc xs ys x) := by
    unfold sD
    rw [yI.2 (fun h => by rw [← g6] at h; cases h.1)]
    exact g4
   refine go9 ?_
   refine yG (uK g3 g4 (by omega)) (fun u hu => ?_)
   obtain rfl := hu
   refine go9 ?_
   rw [bC]
   exact ⟨_, .tup (.cons (.agg (.hf g1.hf)) (.cons (.agg (.hf g2.hf)) (.cons (.c (.hf trivial)) .nil))), _, _, _, rfl, g1, g2, yE⟩
  have g3 : IQ M [o1, o2, o3, o4, o5, o6] (lowV pc xs ys x) := by
   unfold lowV
   rw [yI.2 (fun h => by rw [← g5] at h; cases h.1)]
   exact g3
  refine go9 ?_
  cases br
  case false =>
   refine go9 ?_
   rw [e1]
   refine go9 ?_
   refine vB hx (i := xs.length - 1) (by omega) (by omega) rfl (fun fv hfv => ?_)
   refine go9 ?_
   refine yG (uK hc hfv (by decide)) (fun u hu => ?_)
   obtain rfl := hu
   refine go9 ?_
   rw [jO]
   cases c5 : dec (x < xs.getD (xs.length - 1) 0)
   case true =>
    refine go9 ?_
    refine vB hy (i := 0) (by omega) rfl rfl (fun gv hgv => ?_)
    obtain ⟨v1, v2, v3, v4, v5, v6, rfl⟩ := id (show IQ 2 _ _ from hgv).six
    have g4 : IQ M [v1, v2, v3, v4, v5, v6] (sD pc xs ys x) := by
     unfold sD
     rw [yE.2 ⟨g6.symm, yE.1 c5⟩]
     exact (show IQ 2 _ _ from hgv).up hM.1
    refine go9 ?_
    refine yG (uK g3 g4 (by omega)) (fun u hu => ?_)
    obtain rfl := hu
    refine go9 ?_
    rw [bC]
    exact ⟨_, .tup (.cons (.agg (.hf g1.hf)) (.cons (.agg (.hf g2.hf)) (.cons (.c (.hf trivial)) .nil))), _, _, _, rfl, g1, g2, yE⟩
   have g4 : IQ M [q1, q2, q3, q4, q5, q6] (sD pc xs ys x) := by
    unfold sD
    rw [yI.2 (fun h => yI.1 c5 h.2)]
    exact g4
   refine go9 ?_
   refine yG (uK g3 g4 (by omega)) (fun u hu => ?_)
   obtain rfl := hu
   refine go9 ?_
   rw [bC]
   exact ⟨_, .tup (.cons (.agg (.hf g1.hf)) (.cons (.agg (.hf g2.hf)) (.cons (.c (.hf trivial)) .nil))), _, _, _, rfl, g1, g2, yE⟩
  have g4 : IQ M [q1, q2, q3, q4, q5, q6] (sD pc xs ys x) := by
   unfold sD
   rw [yI.2 (fun h => by rw [← g6] at h; cases h.1)]
   exact g4
  refine go9 ?_
  refine yG (uK g3 g4 (by omega)) (fun u hu => ?_)
  obtain rfl := hu
  refine go9 ?_
  rw [bC]
  exact ⟨_, .tup (.cons (.agg (.hf g1.hf)) (.cons (.agg (.hf g2.hf)) (.cons (.c (.hf trivial)) .nil))), _, _, _, rfl, g1, g2, yE⟩
 simp [yA] at hi
 refine go9 ?_
 refine yB (h.piece i (by omega)) (fun u hu => ?_)
 obtain ⟨cp, m, rfl, m1, m2⟩ := hu
 have m3 := m2.len
 have d3 : (der m).length ≤ 3 := by rw [der_len]; omega
 have b1 := qW (k := K + 1) (m := 2) d3
 have b2 := qW (k := K) (m := 2) m3
 refine go9 ?_
 refine vB hx (i := i) (by omega) (by omega) rfl (fun bv hbv => ?_)
 refine go9 ?_
 refine yB (uK hbv hc (by decide)) (fun u hu => ?_)
 obtain rfl := hu
 refine go9 ?_
 rw [jO]
 cases c1 : dec (xs.getD i 0 < x)
 case false =>
  have n1 : ¬ inL xs x i := fun h => yI.1 c1 h.1
  have g1 : IQ M [l1, l2, l3, l4, l5, l6] (lftR pc xs x (i + 1)) := by unfold lftR; rw [vE n1]; exact g1
  have g3 : IQ M [o1, o2, o3, o4, o5, o6] (loR pc xs ys x (i + 1)) := by unfold loR; rw [vE n1]; exact g3
  have g5 : bl = anyL xs x (i + 1) := by unfold anyL; rw [vE n1]; exact g5
  refine go9 ?_
  refine vB hx (i := i) (by omega) (by omega) rfl (fun ev hev => ?_)
  refine go9 ?_
  refine yB (uK hev hc (by decide)) (fun u hu => ?_)
  obtain rfl := hu
  refine go9 ?_
  rw [bB]
  cases c3 : dec (xs.getD i 0 ≤ x)
  case false =>
   have n2 : ¬ inR xs x i := fun h => yI.1 c3 h.1
   have g2 : IQ M [r1, r2, r3, r4, r5, r6] (rgtR pc xs x (i + 1)) := by unfold rgtR; rw [vE n2]; exact g2
   have g4 : IQ M [q1, q2, q3, q4, q5, q6] (hiR pc xs ys x (i + 1)) := by unfold hiR; rw [vE n2]; exact g4
   have g6 : br = anyR xs x (i + 1) := by unfold anyR; rw [vE n2]; exact g6
   refine go9 ?_
   rw [yT i (by omega)]
   exact l_n (by rfl) (n' := xs.length - 1 - (i + 1)) (by omega) ⟨i + 1, _, _, _, _, _, _, rfl, rfl, rfl, by omega, g1, g2, g3, g4, g5, g6⟩
  refine go9 ?_
  rw [yT i (by omega)]
  refine go9 ?_
  refine vB hx (i := i + 1) (by omega) (by omega) rfl (fun fv hfv => ?_)
  refine go9 ?_
  refine yG (uK hc hfv (by decide)) (fun u hu => ?_)
  obtain rfl := hu
  refine go9 ?_
  rw [jO]
  cases c4 : dec (x < xs.getD (i + 1) 0)
  case false =>
   have n2 : ¬ inR xs x i := fun h => yI.1 c4 h.2
   have g2 : IQ M [r1, r2, r3, r4, r5, r6] (rgtR pc xs x (i + 1)) := by unfold rgtR; rw [vE n2]; exact g2
   have g4 : IQ M [q1, q2, q3, q4, q5, q6] (hiR pc xs ys x (i + 1)) := by unfold hiR; rw [vE n2]; exact g4
   have g6 : br = anyR xs x (i + 1) := by unfold anyR; rw [vE n2]; exact g6
   refine go9 ?_
   rw [yT i (by omega)]
   exact l_n (by rfl) (n' := xs.length - 1 - (i + 1)) (by omega) ⟨i + 1, _, _, _, _, _, _, rfl, rfl, rfl, by omega, g1, g2, g3, g4, g5, g6⟩
  have y2 : inR xs x i := ⟨yE.1 c3, yE.1 c4⟩
  refine go9 ?_
  refine yG (qp_Derive m1 (by omega) (by omega)) (fun u hu => ?_)
  obtain ⟨ce, rfl, d2⟩ := hu
  refine go9 ?_
  refine yG (pU d2 hc (by omega) (by omega)) (fun u hu => ?_)
  obtain ⟨r0, rfl, g2⟩ := hu
  refine go9 ?_
  refine yB (pU m1 hc (by omega) (by omega)) (fun u hu => ?_)
  obtain ⟨q0, rfl, g4⟩ := hu
  have g2 : IQ M r0 (rgtR pc xs x (i + 1)) := by unfold rgtR; rw [tL y2, ← drv_eq m2.ev]; exact g2.up (by omega)
  have g4 : IQ M q0 (hiR pc xs ys x (i + 1)) := by unfold hiR; rw [tL y2, ← m2.ev]; exact g4.up (by omega)
  have g6 : true = anyR xs x (i + 1) := by unfold anyR; rw [tL y2]
  obtain ⟨r1, r2, r3, r4, r5, r6, rfl⟩ := id g2.six
  obtain ⟨q1, q2, q3, q4, q5, q6, rfl⟩ := id g4.six
  refine go9 ?_
  rw [yT i (by omega)]
  exact l_n (by rfl) (n' := xs.length - 1 - (i + 1)) (by omega) ⟨i + 1, _, _, _, _, _, _, rfl, rfl, rfl, by omega, g1, g2, g3, g4, g5, g6⟩
 refine go9 ?_
 rw [yT i (by omega)]
 refine go9 ?_
 refine vB hx (i := i + 1) (by omega) (by omega) rfl (fun dv hdv => ?_)
 refine go9 ?_
 refine yG (uK hc hdv (by decide)) (fun u hu => ?_)
 obtain rfl := hu
 refine go9 ?_
 rw [bB]
 cases c2 : dec (x ≤ xs.getD (i + 1) 0)
 case false =>
  have n1 : ¬ inL xs x i := fun h => yI.1 c2 h.2
  have g1 : IQ M [l1, l2, l3, l4, l5, l6] (lftR pc xs x (i + 1)) := by unfold lftR; rw [vE n1]; exact g1
  have g3 : IQ M [o1, o2, o3, o4, o5, o6] (loR pc xs ys x (i + 1)) := by unfold loR; rw [vE n1]; exact g3
  have g5 : bl = anyL xs x (i + 1) := by unfold anyL; rw [vE n1]; exact g5
  refine go9 ?_
  refine vB hx (i := i) (by omega) (by omega) rfl (fun ev hev => ?_)
  refine go9 ?_
  refine yB (uK hev hc (by decide)) (fun u hu => ?_)
  obtain rfl := hu
  refine go9 ?_
  rw [bB]
  cases c3 : dec (xs.getD i 0 ≤ x)
  case false =>
   have n2 : ¬ inR xs x i := fun h => yI.1 c3 h.1
   have g2 : IQ M [r1, r2, r3, r4, r5, r6] (rgtR pc xs x (i + 1)) := by unfold rgtR; rw [vE n2]; exact g2
   have g4 : IQ M [q1, q2, q3, q4, q5, q6] (hiR pc xs ys x (i + 1)) := by unfold hiR; rw [vE n2]; exact g4
   have g6 : br = anyR xs x (i + 1) := by unfold anyR; rw [vE n2]; exact g6
   refine go9 ?_
   rw [yT i (by omega)]
   exact l_n (by rfl) (n' := xs.length - 1 - (i + 1)) (by omega) ⟨i + 1, _, _, _, _, _, _, rfl, rfl, rfl, by omega, g1, g2, g3, g4, g5, g6⟩
  refine go9 ?_
  rw [yT i (by omega)]
  refine go9 ?_
  refine vB hx (i := i + 1) (by omega) (by omega) rfl (fun fv hfv => ?_)
  refine go9 ?_
  refine yG (uK hc hfv (by decide)) (fun u hu => ?_)
  obtain rfl := hu
  refine go9 ?_
  rw [jO]
  cases c4 : dec (x < xs.getD (i + 1) 0)
  case false =>
   have n2 : ¬ inR xs x i := fun h => yI.1 c4 h.2
   have g2 : IQ M [r1, r2, r3, r4, r5, r6] (rgtR pc xs x (i + 1)) := by unfold rgtR; rw [vE n2]; exact g2
   have g4 : IQ M [q1, q2, q3, q4, q5, q6] (hiR pc xs ys x (i + 1)) := by unfold hiR; rw [vE n2]; exact g4
   have g6 : br = anyR xs x (i + 1) := by unfold anyR; rw [vE n2]; exact g6
   refine go9 ?_
   rw [yT i (by omega)]
   exact l_n (by rfl) (n' := xs.length - 1 - (i + 1)) (by omega) ⟨i + 1, _, _, _, _, _, _, rfl, rfl, rfl, by omega, g1, g2, g3, g4, g5, g6⟩
  have y2 : inR xs x i := ⟨yE.1 c3, yE.1 c4⟩
  refine go9 ?_
  refine yG (qp_Derive m1 (by omega) (by omega)) (fun u hu => ?_)
  obtain ⟨ce, rfl, d2⟩ := hu
  refine go9 ?_
  refine yG (pU d2 hc (by omega) (by omega)) (fun u hu => ?_)
  obtain ⟨r0, rfl, g2⟩ := hu
  refine go9 ?_
  refine yB (pU m1 hc (by omega) (by omega)) (fun u hu => ?_)
  obtain ⟨q0, rfl, g4⟩ := hu
  have g2 : IQ M r0 (rgtR pc xs x (i + 1)) := by unfold rgtR; rw [tL y2, ← drv_eq m2.ev]; exact g2.up (by omega)
  have g4 : IQ M q0 (hiR pc xs ys x (i + 1)) := by unfold hiR; rw [tL y2, ← m2.ev]; exact g4.up (by omega)
  have g6 : true = anyR xs x (i + 1) := by unfold anyR; rw [tL y2]
  obtain ⟨r1, r2, r3, r4, r5, r6, rfl⟩ := id g2.six
  obtain ⟨q1, q2, q3, q4, q5, q6, rfl⟩ := id g4.six
  refine go9 ?_
  rw [yT i (by omega)]
  exact l_n (by rfl) (n' := xs.length - 1 - (i + 1)) (by omega) ⟨i + 1, _, _, _, _, _, _, rfl, rfl, rfl, by omega, g1, g2, g3, g4, g5, g6⟩
 have y1 : inL xs x i := ⟨yE.1 c1, yE.1 c2⟩
 refine go9 ?_
 refine yG (qp_Derive m1 (by omega) (by omega)) (fun u hu => ?_)
 obtain ⟨cd, rfl, d1⟩ := hu
 refine go9 ?_
 refine yG (pU d1 hc (by omega) (by omega)) (fun u hu => ?_)
 obtain ⟨l0, rfl, g1⟩ := hu
 refine go9 ?_
 refine yB (pU m1 hc (by omega) (by omega)) (fun u hu => ?_)
 obtain ⟨o0, rfl, g3⟩ := hu
 have g1 : IQ M l0 (lftR pc xs x (i + 1)) := by unfold lftR; rw [tL y1, ← drv_eq m2.ev]; exact g1.up (by omega)
 have g3 : IQ M o0 (loR pc xs ys x (i + 1)) := by unfold loR; rw [tL y1, ← m2.ev]; exact g3.up (by omega)
 have g5 : true = anyL xs x (i + 1) := by unfold anyL; rw [tL y1]
 obtain ⟨l1, l2, l3, l4, l5, l6, rfl⟩ := id g1.six
 obtain ⟨o1, o2, o3, o4, o5, o6, rfl⟩ := id g3.six
 refine go9 ?_
 simp only [vT, vS, ratC, uB, uA, List.set_cons_zero, List.set_cons_succ, List.nil_append, List.cons_append, List.append_nil, List.replicate_succ, List.replicate_zero, List.length_cons, List.length_nil, splice, List.take_succ_cons, List.take_zero, List.drop_succ_cons, List.drop_zero, List.take_nil, List.drop_nil, Nat.zero_add, Nat.reduceAdd, Nat.reduceMul, Int.reduceToNat, xO, List.getElem?_cons_succ, List.getElem?_cons_zero]
 refine vB hx (i := i) (by omega) (by omega) rfl (fun ev hev => ?_)
 refine go9 ?_
 refine yB (uK hev hc (by decide)) (fun u hu => ?_)
 obtain rfl := hu
 refine go9 ?_
 rw [bB]
 cases c3 : dec (xs.getD i 0 ≤ x)
 case false =>
  have n2 : ¬ inR xs x i := fun h => yI.1 c3 h.1
  have g2 : IQ M [r1, r2, r3, r4, r5, r6] (rgtR pc xs x (i + 1)) := by unfold rgtR; rw [vE n2]; exact g2
  have g4 : IQ M [q1, q2, q3, q4, q5, q6] (hiR pc xs ys x (i + 1)) := by unfold hiR; rw [vE n2]; exact g4
  have g6 : br = anyR xs x (i + 1) := by unfold anyR; rw [vE n2]; exact g6
  refine go9 ?_
  rw [yT i (by omega)]
  exact l_n (by rfl) (n' := xs.length - 1 - (i + 1)) (by omega) ⟨i + 1, _, _, _, _, _, _, rfl, rfl, rfl, by omega, g1, g2, g3, g4, g5, g6⟩
 refine go9 ?_
 rw [yT i (by omega)]
 refine go9 ?_
 refine vB hx (i := i + 1) (by omega) (by omega) rfl (fun fv hfv => ?_)
 refine go9 ?_
 refine yG (uK hc hfv (by decide)) (fun u hu => ?_)
 obtain rfl := hu
 refine go9 ?_
 rw [jO]
 cases c4 : dec (x < xs.getD (i + 1) 0)
 case false =>
  have n2 : ¬ inR xs x i := fun h => yI.1 c4 h.2
  have g2 : IQ M [r1, r2, r3, r4, r5, r6] (rgtR pc xs x (i + 1)) := by unfold rgtR; rw [vE n2]; exact g2
  have g4 : IQ M [q1, q2, q3, q4, q5, q6] (hiR pc xs ys x (i + 1)) := by unfold hiR; rw [vE n2]; exact g4
  have g6 : br = anyR xs x (i + 1) := by unfold anyR; rw [vE n2]; exact g6
  refine go9 ?_
  rw [yT i (by omega)]
  exact l_n (by rfl) (n' := xs.length - 1 - (i + 1)) (by omega) ⟨i + 1, _, _, _, _, _, _, rfl, rfl, rfl, by omega, g1, g2, g3, g4, g5, g6⟩
 have y2 : inR xs x i := ⟨yE.1 c3, yE.1 c4⟩
 refine go9 ?_
 refine yG (qp_Derive m1 (by omega) (by omega)) (fun u hu => ?_)
 obtain ⟨ce, rfl, d2⟩ := hu
 refine go9 ?_
 refine yG (pU d2 hc (by omega) (by omega)) (fun u hu => ?_)
 obtain ⟨r0, rfl, g2⟩ := hu
 refine go9 ?_
 refine yB (pU m1 hc (by omega) (by omega)) (fun u hu => ?_)
 obtain ⟨q0, rfl, g4⟩ := hu
 have g2 : IQ M r0 (rgtR pc xs x (i + 1)) := by unfold rgtR; rw [tL y2, ← drv_eq m2.ev]; exact g2.up (by omega)
 have g4 : IQ M q0 (hiR pc xs ys x (i + 1)) := by unfold hiR; rw [tL y2, ← m2.ev]; exact g4.up (by omega)
 have g6 : true = anyR xs x (i + 1) := by unfold anyR; rw [tL y2]
 obtain ⟨r1, r2, r3, r4, r5, r6, rfl⟩ := id g2.six
 obtain ⟨q1, q2, q3, q4, q5, q6, rfl⟩ := id g4.six
 refine go9 ?_
 rw [yT i (by omega)]
 exact l_n (by rfl) (n' := xs.length - 1 - (i + 1)) (by omega) ⟨i + 1, _, _, _, _, _, _, rfl, rfl, rfl, by omega, g1, g2, g3, g4, g5, g6⟩
end Go.Proofs.YtjncgcnofiaiaaaGreat

set_option linter.unusedVariables false
set_option linter.unusedSimpArgs false
namespace Go.Proofs.YtjncgcnofiaiaaaGreat
open Go.RowKit
set_option maxRecDepth 20000
theorem slope_with {pc : Nat → Rat → Rat} {kind : Int} {X Y : List R2} {x : R2} (h : sV kind X Y [x] ≠ 0) : slopeR pc kind X Y x = ((0, 0), false, sV kind X Y [x]) := by
 unfold slopeR
 rw [yI.2 h]
 rfl
theorem gT {pc : Nat → Rat → Rat} {kind : Int} {X Y : List R2} {x : R2} {s : Prop} (h : sV kind X Y [x] = 0) (hs : s ↔ (¬ (kind = 0 ∧ jT (X.map rt) (Y.map rt) (rt x)) ∧ lftR pc (X.map rt) (rt x) (X.length - 1) = rgtR pc (X.map rt) (rt x) (X.length - 1))) : slopeR pc kind X Y x = slopeT s (lftR pc (X.map rt) (rt x) (X.length - 1)) := by
 unfold slopeR
 rw [yE.2 h, propext hs]
 rfl
theorem slopeT_no {s : Prop} {l : Rat} (h : ¬ s) : slopeT s l = ((0, 0), false, 0) := by
 unfold slopeT
 rw [yI.2 h]
 rfl
theorem slopeT_yes {s : Prop} {l : Rat} (h : s) : slopeT s l = ((numR l).1, dec ((numR l).2 = 0), (numR l).2) := by
 unfold slopeT
 rw [yE.2 h]
 rfl
theorem eql_zero (e : Int) : yA Cm.eql e 0 = dec (e = 0) := rfl
def jE (xs ys : List Rat) (x : Rat) (n : Nat) : Prop := ∃ i, 1 ≤ i ∧ i < n ∧ xs.getD i 0 = x ∧ ys.getD (i - 1) 0 ≠ ys.getD i 0
theorem spring_step {xs ys : List Rat} {x : Rat} {n : Nat} (hn : 1 ≤ n) : jE xs ys x (n + 1) ↔ jE xs ys x n ∨ (xs.getD n 0 = x ∧ ys.getD (n - 1) 0 ≠ ys.getD n 0) := by
 constructor
 ·rintro ⟨i, h1, h2, h3, h4⟩
  rcases Nat.lt_or_ge i n with h | h
  ·exact .inl ⟨i, h1, h, h3, h4⟩
  ·have : i = n := by omega
   subst this
   exact .inr ⟨h3, h4⟩
 ·rintro (⟨i, h1, h2, h3, h4⟩ | ⟨h3, h4⟩)
  ·exact ⟨i, h1, by omega, h3, h4⟩
  ·exact ⟨n, hn, by omega, h3, h4⟩
attribute [local irreducible] yA semH semC qLen qNil qIad qSlc qIdx xA yM xH appX appI slcX awpF yR xQ xopF xT qval lval seqQ xP wM wK xY cnd arith IntKind.wrap
theorem table_Slope {cx cy : C} {X Y : List R2} (kind : Int) (x : R2) (hx : Ls elP cx X) (hy : Ls elP cy Y) : semC Tryz.prog n_table_Slope [.agg [iC kind, cx, cy], .agg (ratC x)] (qK (slopeR (hU kind (X.map rt) (Y.map rt)) kind X Y x)) := by
 refine yC ok_table_Slope rfl (show HFVs [.agg [iC kind, cx, cy], .agg (ratC x)] from ⟨⟨trivial, hx.hf, hy.hf, trivial⟩, sN _, trivial⟩) ?_
 have hc : Ls elP (.imm 1 (ratC x)) [x] := .imm (.one rfl)
 refine go9 ?_
 simp only [vT, vS, ratC, uB, uA, List.set_cons_zero, List.set_cons_succ, List.nil_append, List.cons_append, List.append_nil, List.replicate_succ, List.replicate_zero, List.length_cons, List.length_nil, splice, List.take_succ_cons, List.take_zero, List.drop_succ_cons, List.drop_zero, List.take_nil, List.drop_nil, Nat.zero_add, Nat.reduceAdd, Nat.reduceMul, Int.reduceToNat, xO, List.getElem?_cons_succ, List.getElem?_cons_zero]
 refine yB (table_with kind hx hy hc (by simp)) (fun u hu => ?_)
 obtain rfl := hu
 refine go9 ?_
 rw [bM]
 cases h1 : dec (sV kind X Y [x] ≠ 0)
 case true =>
  refine go9 ?_
  exact qK.bad (slope_with (yE.1 h1))
 have h1 : sV kind X Y [x] = 0 := Classical.byContradiction (yI.1 h1)
 obtain ⟨h2, h3⟩ := with_zero h1
 have hv := jU h2
 have hr := hv.2.2.2.2.2.2.2
 have hp : 0 < (X.map rt).length := by simpa using List.length_pos_iff.2 hv.2.2.2.1
 have hsame := same_iff (x := rt x) hr hp (joins_of (kind := kind) (ys := Y.map rt) hr hv.2.1 hv.2.2.1)
 refine go9 ?_
 simp only [vT, vS, ratC, uB, uA, List.set_cons_zero, List.set_cons_succ, List.nil_append, List.cons_append, List.append_nil, List.replicate_succ, List.replicate_zero, List.length_cons, List.length_nil, splice, List.take_succ_cons, List.take_zero, List.drop_succ_cons, List.drop_zero, List.take_nil, List.drop_nil, Nat.zero_add, Nat.reduceAdd, Nat.reduceMul, Int.reduceToNat, xO, List.getElem?_cons_succ, List.getElem?_cons_zero]
 refine yG (table_made (kind := kind) hx hy h2) (fun u hu => ?_)
 obtain ⟨s, dx, dy, K, rfl, hK, hS⟩ := hu
 refine go9 ?_
 refine yG (q_Of (h3 x (by simp))) (fun u hu => ?_)
 obtain ⟨fs, rfl, g2⟩ := hu
 refine go9 ?_
 refine yG (table_sides hS hr g2 hK) (fun u hu => ?_)
 obtain ⟨ls, rs, b, rfl, g3, g4, g5⟩ := hu
 rw [hsame] at g5
 simp only [List.length_map] at g3 g4
 obtain ⟨l1, l2, l3, l4, l5, l6, rfl⟩ := id g3.six
 obtain ⟨r1, r2, r3, r4, r5, r6, rfl⟩ := id g4.six
 have hMb : evK (K + 1) 2 4 ≤ 134217728 := by
  have := hK.2
  unfold sA at this
  unfold evK
  omega
 refine go9 ?_
 simp only [vT, vS, ratC, uB, uA, List.set_cons_zero, List.set_cons_succ, List.nil_append, List.cons_append, List.append_nil, List.replicate_succ, List.replicate_zero, List.length_cons, List.length_nil, splice, List.take_succ_cons, List.take_zero, List.drop_succ_cons, List.drop_zero, List.take_nil, List.drop_nil, Nat.zero_add, Nat.reduceAdd, Nat.reduceMul, Int.reduceToNat, xO, List.getElem?_cons_succ, List.getElem?_cons_zero]
 cases b
 case false =>
  have n5 : ¬ ¬ (kind = 0 ∧ jT (X.map rt) (Y.map rt) (rt x)) := fun h => by cases g5.2 h
  refine go9 ?_
  refine qK.bad ?_
  rw [gT h1 Iff.rfl, slopeT_no (fun h => n5 h.1)]
 have y5 := g5.1 rfl
 refine go9 ?_
 refine yB (uK g3 g4 (by omega)) (fun u hu => ?_)
 obtain rfl := hu
 refine go9 ?_
 rw [cq_neq]
 cases c1 : dec (lftR (hU kind (X.map rt) (Y.map rt)) (X.map rt) (rt x) (X.length - 1) ≠ rgtR (hU kind (X.map rt) (Y.map rt)) (X.map rt) (rt x) (X.length - 1))
 case true =>
  refine go9 ?_
  refine qK.bad ?_
  rw [gT h1 Iff.rfl, slopeT_no (fun h => yE.1 c1 h.2)]
 have c1 := Classical.byContradiction (yI.1 c1)
 refine go9 ?_
 refine yB (gH g3) (fun u hu => ?_)
 obtain rfl := hu
 refine go9 ?_
 rw [eql_zero]
 refine qK.of ?_
 rw [gT h1 Iff.rfl, slopeT_yes ⟨y5, c1⟩]
theorem ref24_Value {cx cy : C} {X Y : List R2} (kind : Int) (x : R2) (hx : Ls elP cx X) (hy : Ls elP cy Y) : semC Tryz.prog n_ref24_Value [.agg [iC kind, cx, cy], .agg (ratC x)] (gF (bT (hU kind (X.map rt) (Y.map rt)) kind X Y x)) := by
 refine yC ok_ref24_Value rfl (show HFVs [.agg [iC kind, cx, cy], .agg (ratC x)] from ⟨⟨trivial, hx.hf, hy.hf, trivial⟩, sN _, trivial⟩) ?_
 refine go9 ?_
 refine yB (pS kind hx hy) (fun u hu => ?_)
 obtain rfl := hu
 refine go9 ?_
 rw [bM]
 cases h1 : dec (valE kind X Y ≠ 0)
 case true =>
  have h1 := yE.1 h1
  refine go9 ?_
  refine gF.bad ?_
  unfold bT
  rw [yI.2 (by rw [with_val h1]; exact h1), with_val h1]
  rfl
 have h1 : valE kind X Y = 0 := Classical.byContradiction (yI.1 h1)
 refine go9 ?_
 refine yB (ref01_Is x.1 x.2) (fun u hu => ?_)
 obtain ⟨z1, rfl, k1⟩ := hu
 cases z1
 case false =>
  have hb : ¬ sK [x] := fun h => absurd (k1.2 (h x (by simp))) (by decide)
  refine go9 ?_
  refine gF.bad ?_
  unfold bT
  rw [with_bad h1 hb, yI.2 (by decide)]
  rfl
 have k1 := k1.1 rfl
 have hvl : sK [x] := by
  intro p hp
  simp at hp
  subst hp
  exact k1
 refine go9 ?_
 refine yG (ref24_of hx hy h1) (fun u hu => ?_)
 obtain ⟨dx, dy, K, rfl, hK, hR⟩ := hu
 have hcap : vaK K 2 4 ≤ 134217727 := by
  have := hK.2
  simp only [vaK]
  omega
 refine go9 ?_
 refine yB (r_Of k1) (fun u hu => ?_)
 obtain ⟨es, rfl, g1⟩ := hu
 refine go9 ?_
 refine yB (ref24_value hR g1 hcap (by decide) hK.1) (fun u hu => ?_)
 obtain ⟨fs, rfl, g2⟩ := hu
 refine go9 ?_
 refine yB (ref24_number g2) (fun u hu => ?_)
 obtain rfl := hu
 refine go9 ?_
 refine gF.of ?_
 unfold bT
 rw [yE.2 (with_ok h1 hvl)]
 rfl
set_option maxHeartbeats 1600000 in
theorem ref24_Slope {cx cy : C} {X Y : List R2} (kind : Int) (x : R2) (hx : Ls elP cx X) (hy : Ls elP cy Y) : semC Tryz.prog n_ref24_Slope [.agg [iC kind, cx, cy], .agg (ratC x)] (qK (slopeR (hU kind (X.map rt) (Y.map rt)) kind X Y x)) := by
 refine yC ok_ref24_Slope rfl (show HFVs [.agg [iC kind, cx, cy], .agg (ratC x)] from ⟨⟨trivial, hx.hf, hy.hf, trivial⟩, sN _, trivial⟩) ?_
 refine go9 ?_
 refine yB (pS kind hx hy) (fun u hu => ?_)
 obtain rfl := hu
 refine go9 ?_
 rw [bM]
 cases h1 : dec (valE kind X Y ≠ 0)
 case true =>
  have h1 := yE.1 h1
  refine go9 ?_
  refine qK.bad ?_
  rw [slope_with (by rw [with_val h1]; exact h1), with_val h1]
 have h1 : valE kind X Y = 0 := Classical.byContradiction (yI.1 h1)
 refine go9 ?_
 refine yB (ref01_Is x.1 x.2) (fun u hu => ?_)
 obtain ⟨z1, rfl, k1⟩ := hu
 cases z1
 case false =>
  have hb : ¬ sK [x] := fun h => absurd (k1.2 (h x (by simp))) (by decide)
  refine go9 ?_
  refine qK.bad ?_
  rw [slope_with (by rw [with_bad h1 hb]; decide), with_bad h1 hb]
 have k1 := k1.1 rfl
 have hvl : sK [x] := by
  intro p hp
  simp at hp
  subst hp
  exact k1
 have hw := with_ok h1 hvl
 have hv := jU h1
 refine go9 ?_
 refine yG (ref24_of hx hy h1) (fun u hu => ?_)
 obtain ⟨dx, dy, K, rfl, hK, hR⟩ := hu
 refine go9 ?_
 refine yG (r_Of k1) (fun u hu => ?_)
 obtain ⟨es, rfl, hc⟩ := hu
 obtain ⟨a1, a2, a3, a4, rfl⟩ := id hc.four
 have hX := hR.x
 have hY := hR.y
 have hlen := hR.len
 have hpos := hR.pos
 have hsm := hR.small
 have hxl : (X.map rt).length = X.length := by simp
 generalize hU kind (X.map rt) (Y.map rt) = pc at hR ⊢
 generalize hxs : X.map rt = xs at *
 generalize hys : Y.map rt = ys at *
 have hM : 1 ≤ vaK (K + 1) 2 3 ∧ vaK (K + 1) 2 3 ≤ 60000 := by
  have := hK.2
  simp only [vaK]
  omega
 generalize hMM : vaK (K + 1) 2 3 = M at hM
 refine go9 ?_
 simp only [vT, vS, ratC, uB, uA, List.set_cons_zero, List.set_cons_succ, List.nil_append, List.cons_append, List.append_nil, List.replicate_succ, List.replicate_zero, List.length_cons, List.length_nil, splice, List.take_succ_cons, List.take_zero, List.drop_succ_cons, List.drop_zero, List.take_nil, List.drop_nil, Nat.zero_add, Nat.reduceAdd, Nat.reduceMul, Int.reduceToNat, xO, List.getElem?_cons_succ, List.getElem?_cons_zero]
 refine yQ (fun w vs H => ∃ (i : Nat) (ls rs : List C), vs = [.c (.ptr 2 0), .c (.ptr 3 0), .c (.ptr 4 0), .c (.ptr 5 0), .c (.ptr 6 0), i64 i] ∧ H = [.live ⟨[iC kind, cx, cy], bR, .rw⟩, .live ⟨ratC x, wU, .rw⟩, .live ⟨ratC (0, 0), wU, .rw⟩, .live ⟨[iC kind, dx, dy], tW, .rw⟩, .live ⟨[a1, .bool a2, a3, .bool a4], yH, .rw⟩, .live ⟨ls, yH, .rw⟩, .live ⟨rs, yH, .rw⟩] ∧ w = xs.length - 1 - i ∧ i ≤ xs.length - 1 ∧ IR M ls (lftR pc xs (rt x) i) ∧ IR M rs (rgtR pc xs (rt x) i)) (by rfl) ⟨0, _, _, rfl, rfl, rfl, by omega, sQ.up hM.1, sQ.up hM.1⟩ ?_
 rintro w vs H ⟨i, ls, rs, rfl, rfl, rfl, i1, g1, g2⟩
 obtain ⟨l1, l2, l3, l4, rfl⟩ := id g1.four
 obtain ⟨r1, r2, r3, r4, rfl⟩ := id g2.four
 refine go9 ?_
 refine yB (ref24_last hX hY.hf (by omega) hpos) (fun u hu => ?_)
 obtain rfl := hu
 refine go9 ?_
 cases hi : yA Cm.lss (i : Int) ((xs.length - 1 : Nat) : Int)
 case false =>
  simp [yA] at hi
  have ei : i = X.length - 1 := by omega
  subst ei
  refine go9 ?_
  refine yB (pT g1 g2 (by omega)) (fun u hu => ?_)
  obtain rfl := hu
  refine go9 ?_
  rw [bC]
  refine yQ (fun w vs H => ∃ (j : Nat) (b : Bool), vs = [.c (.ptr 2 0), .c (.ptr 3 0), .c (.ptr 4 0), .c (.ptr 5 0), .c (.bool b), i64 j] ∧ H = [.live ⟨[iC kind, cx, cy], bR, .rw⟩, .live ⟨ratC x, wU, .rw⟩, .live ⟨ratC (0, 0), wU, .rw⟩, .live ⟨[iC kind, dx, dy], tW, .rw⟩, .live ⟨[a1, .bool a2, a3, .bool a4], yH, .rw⟩, .live ⟨[l1, .bool l2, l3, .bool l4], yH, .rw⟩, .live ⟨[r1, .bool r2, r3, .bool r4], yH, .rw⟩] ∧ w = xs.length - j ∧ 1 ≤ j ∧ (1 < j → kind = 0 ∧ j ≤ xs.length) ∧ (b = true ↔ ¬ (kind = 0 ∧ jE xs ys (rt x) j) ∧ lftR pc xs (rt x) (X.length - 1) = rgtR pc xs (rt x) (X.length - 1))) (by rfl) ⟨1, _, rfl, rfl, rfl, by omega, fun h => by omega, ?_⟩ ?_
  ·rw [yE]
   exact ⟨fun h => ⟨fun h2 => by obtain ⟨_, i, q1, q2, _⟩ := h2; omega, h⟩, fun h => h.2⟩
  rintro w vs H ⟨j, b, rfl, rfl, rfl, j1, j2, hb⟩
  refine go9 ?_
  cases hj : yA Cm.lss (j : Int) (xs.length : Int)
  case false =>
   simp [yA] at hj
   have hb : b = true ↔ ¬ (kind = 0 ∧ jT xs ys (rt x)) ∧ lftR pc xs (rt x) (X.length - 1) = rgtR pc xs (rt x) (X.length - 1) := by
    rw [hb]
    have : jE xs ys (rt x) j ↔ jT xs ys (rt x) := ⟨fun ⟨i, q1, q2, q3, q4⟩ => ⟨i, q1, by
     rcases Nat.lt_or_ge 1 j with h | h
     ·have := (j2 h).2; omega
     ·omega, q3, q4⟩, fun ⟨i, q1, q2, q3, q4⟩ => ⟨i, q1, by omega, q3, q4⟩⟩
    rw [this]
   refine go9 ?_
   subst hxs hys
   cases b
   case false =>
    have n5 : ¬ (¬ (kind = 0 ∧ jT (X.map rt) (Y.map rt) (rt x)) ∧ lftR pc (X.map rt) (rt x) (X.length - 1) = rgtR pc (X.map rt) (rt x) (X.length - 1)) := fun h => by cases hb.2 h
    refine go9 ?_
    refine qK.bad ?_
    rw [gT hw Iff.rfl, slopeT_no n5]
   have y5 := hb.1 rfl
   refine go9 ?_
   refine yB (ref24_number g1) (fun u hu => ?_)
   obtain rfl := hu
   refine go9 ?_
   rw [eql_zero]
   refine qK.of ?_
   rw [gT hw Iff.rfl, slopeT_yes y5]
  simp [yA] at hj
  refine go9 ?_
  cases hk : yA Cm.eql kind 0
  case false =>
   simp [yA] at hk
   have hb : b = true ↔ ¬ (kind = 0 ∧ jT xs ys (rt x)) ∧ lftR pc xs (rt x) (X.length - 1) = rgtR pc xs (rt x) (X.length - 1) := by
    rw [hb]
    exact ⟨fun h => ⟨fun h2 => hk h2.1, h.2⟩, fun h => ⟨fun h2 => hk h2.1, h.2⟩⟩
   refine go9 ?_
   subst hxs hys
   cases b
   case false =>
    have n5 : ¬ (¬ (kind = 0 ∧ jT (X.map rt) (Y.map rt) (rt x)) ∧ lftR pc (X.map rt) (rt x) (X.length - 1) = rgtR pc (X.map rt) (rt x) (X.length - 1)) := fun h => by cases hb.2 h
    refine go9 ?_
    refine qK.bad ?_
    rw [gT hw Iff.rfl, slopeT_no n5]
   have y5 := hb.1 rfl
   refine go9 ?_
   refine yB (ref24_number g1) (fun u hu => ?_)
   obtain rfl := hu
   refine go9 ?_
   rw [eql_zero]
   refine qK.of ?_
   rw [gT hw Iff.rfl, slopeT_yes y5]
  simp [yA] at hk
  refine go9 ?_
  refine vB hX (i := j) hj (by omega) rfl (fun bv hbv => ?_)
  refine go9 ?_
  refine yB (pT hbv hc (by decide)) (fun u hu => ?_)
  obtain rfl := hu
  refine go9 ?_
  rw [bC]
  cases c1 : dec (xs.getD j 0 = rt x)
  case false =>
   have hst : jE xs ys (rt x) (j + 1) ↔ jE xs ys (rt x) j := by
    rw [spring_step j1]
    exact ⟨fun h => h.elim id (fun h => absurd h.1 (yI.1 c1)), .inl⟩
   refine go9 ?_
   rw [yT j (by omega)]
   exact l_n (by rfl) (n' := xs.length - (j + 1)) (by omega) ⟨j + 1, b, rfl, rfl, rfl, by omega, fun _ => ⟨hk, by omega⟩, by rw [hst]; exact hb⟩
  refine go9 ?_
  rw [show arith .sub .i64 (j : Int) 1 = ((j - 1 : Nat) : Int) by rw [xL, yF (by omega) (by omega)]; omega]
  refine go9 ?_
  refine vB hY (i := j - 1) (by omega) (by omega) rfl (fun dv hdv => ?_)
  refine go9 ?_
  refine vB hY (i := j) (by omega) (by omega) rfl (fun ev hev => ?_)
  refine go9 ?_
  refine yG (pT hdv hev (by decide)) (fun u hu => ?_)
  obtain rfl := hu
  refine go9 ?_
  rw [cq_neq]
  cases c2 : dec (ys.getD (j - 1) 0 ≠ ys.getD j 0)
  case false =>
   have hst : jE xs ys (rt x) (j + 1) ↔ jE xs ys (rt x) j := by
    rw [spring_step j1]
    exact ⟨fun h => h.elim id (fun h => absurd h.2 (yI.1 c2)), .inl⟩
   refine go9 ?_
   rw [yT j (by omega)]
   exact l_n (by rfl) (n' := xs.length - (j + 1)) (by omega) ⟨j + 1, b, rfl, rfl, rfl, by omega, fun _ => ⟨hk, by omega⟩, by rw [hst]; exact hb⟩
  have hst : jE xs ys (rt x) (j + 1) := (spring_step j1).2 (.inr ⟨yE.1 c1, yE.1 c2⟩)
  refine go9 ?_
  rw [yT j (by omega)]
  exact l_n (by rfl) (n' := xs.length - (j + 1)) (by omega) ⟨j + 1, false, rfl, rfl, rfl, by omega, fun _ => ⟨hk, by omega⟩, ⟨fun h => by (cases h), fun h => absurd ⟨hk, hst⟩ h.1⟩⟩
 simp [yA] at hi
 refine go9 ?_
 refine vB hX (i := i) (by omega) (by omega) rfl (fun bv hbv => ?_)
 refine go9 ?_
 refine yB (pT hbv hc (by decide)) (fun u hu => ?_)
 obtain rfl := hu
 refine go9 ?_
 rw [jO]
 cases c1 : dec (xs.getD i 0 < rt x)
 case false =>
  have n1 : ¬ inL xs (rt x) i := fun h => yI.1 c1 h.1
  have g1 : IR M [l1, .bool l2, l3, .bool l4] (lftR pc xs (rt x) (i + 1)) := by unfold lftR; rw [vE n1]; exact g1
  refine go9 ?_
  refine vB hX (i := i) (by omega) (by omega) rfl (fun ev hev => ?_)
  refine go9 ?_
  refine yB (pT hev hc (by decide)) (fun u hu => ?_)
  obtain rfl := hu
  refine go9 ?_
  rw [bB]
  cases c3 : dec (xs.getD i 0 ≤ rt x)
  case false =>
   have n2 : ¬ inR xs (rt x) i := fun h => yI.1 c3 h.1
   have g2 : IR M [r1, .bool r2, r3, .bool r4] (rgtR pc xs (rt x) (i + 1)) := by unfold rgtR; rw [vE n2]; exact g2
   refine go9 ?_
   rw [yT i (by omega)]
   exact l_n (by rfl) (n' := xs.length - 1 - (i + 1)) (by omega) ⟨i + 1, _, _, rfl, rfl, rfl, by omega, g1, g2⟩
  refine go9 ?_
  rw [yT i (by omega)]
  refine go9 ?_
  refine vB hX (i := i + 1) (by omega) (by omega) rfl (fun fv hfv => ?_)
  refine go9 ?_
  refine yG (pT hc hfv (by decide)) (fun u hu => ?_)
  obtain rfl := hu
  refine go9 ?_
  rw [jO]
  cases c4 : dec (rt x < xs.getD (i + 1) 0)
  case false =>
   have n2 : ¬ inR xs (rt x) i := fun h => yI.1 c4 h.2
   have g2 : IR M [r1, .bool r2, r3, .bool r4] (rgtR pc xs (rt x) (i + 1)) := by unfold rgtR; rw [vE n2]; exact g2
   refine go9 ?_
   rw [yT i (by omega)]
   exact l_n (by rfl) (n' := xs.length - 1 - (i + 1)) (by omega) ⟨i + 1, _, _, rfl, rfl, rfl, by omega, g1, g2⟩
  have y2 : inR xs (rt x) i := ⟨yE.1 c3, yE.1 c4⟩
  refine go9 ?_
  refine yG (hR.piece i (by omega)) (fun u hu => ?_)
  obtain ⟨cp, m, rfl, m1, m2⟩ := hu
  have m3 := m2.len
  refine go9 ?_
  refine yG (jW m1 (by omega) (by omega)) (fun u hu => ?_)
  obtain ⟨cd, D, rfl, d1, d2⟩ := hu
  have d3 := d2.len
  have d4 := jV (k := K + 1) (m := 2) (show D.length ≤ 3 by omega)
  refine go9 ?_
  refine yB (pL d1 hc (by omega) (by omega) (by omega)) (fun u hu => ?_)
  obtain ⟨r0, rfl, g2⟩ := hu
  have g2 : IR M r0 (rgtR pc xs (rt x) (i + 1)) := by unfold rgtR; rw [tL y2, ← drv_eq m2.ev, ← d2.ev]; exact g2.up (by omega)
  obtain ⟨r1, r2, r3, r4, rfl⟩ := id g2.four
  refine go9 ?_
  rw [yT i (by omega)]
  exact l_n (by rfl) (n' := xs.length - 1 - (i + 1)) (by omega) ⟨i + 1, _, _, rfl, rfl, rfl, by omega, g1, g2⟩
 refine go9 ?_
 rw [yT i (by omega)]
 refine go9 ?_
 refine vB hX (i := i + 1) (by omega) (by omega) rfl (fun dv hdv => ?_)
 refine go9 ?_
 refine yG (pT hc hdv (by decide)) (fun u hu => ?_)
 obtain rfl := hu
 refine go9 ?_
 rw [bB]
 cases c2 : dec (rt x ≤ xs.getD (i + 1) 0)
 case false =>
  have n1 : ¬ inL xs (rt x) i := fun h => yI.1 c2 h.2
  have g1 : IR M [l1, .bool l2, l3, .bool l4] (lftR pc xs (rt x) (i + 1)) := by unfold lftR; rw [vE n1]; exact g1
  refine go9 ?_
  refine vB hX (i := i) (by omega) (by omega) rfl (fun ev hev => ?_)
  refine go9 ?_
  refine yB (pT hev hc (by decide)) (fun u hu => ?_)
  obtain rfl := hu
  refine go9 ?_
  rw [bB]
  cases c3 : dec (xs.getD i 0 ≤ rt x)
  case false =>
   have n2 : ¬ inR xs (rt x) i := fun h => yI.1 c3 h.1
   have g2 : IR M [r1, .bool r2, r3, .bool r4] (rgtR pc xs (rt x) (i + 1)) := by unfold rgtR; rw [vE n2]; exact g2
   refine go9 ?_
   rw [yT i (by omega)]
   exact l_n (by rfl) (n' := xs.length - 1 - (i + 1)) (by omega) ⟨i + 1, _, _, rfl, rfl, rfl, by omega, g1, g2⟩
  refine go9 ?_
  rw [yT i (by omega)]
  refine go9 ?_
  refine vB hX (i := i + 1) (by omega) (by omega) rfl (fun fv hfv => ?_)
  refine go9 ?_
  refine yG (pT hc hfv (by decide)) (fun u hu => ?_)
  obtain rfl := hu
  refine go9 ?_
  rw [jO]
  cases c4 : dec (rt x < xs.getD (i + 1) 0)
  case false =>
   have n2 : ¬ inR xs (rt x) i := fun h => yI.1 c4 h.2
   have g2 : IR M [r1, .bool r2, r3, .bool r4] (rgtR pc xs (rt x) (i + 1)) := by unfold rgtR; rw [vE n2]; exact g2
   refine go9 ?_
   rw [yT i (by omega)]
   exact l_n (by rfl) (n' := xs.length - 1 - (i + 1)) (by omega) ⟨i + 1, _, _, rfl, rfl, rfl, by omega, g1, g2⟩
  have y2 : inR xs (rt x) i := ⟨yE.1 c3, yE.1 c4⟩
  refine go9 ?_
  refine yG (hR.piece i (by omega)) (fun u hu => ?_)
  obtain ⟨cp, m, rfl, m1, m2⟩ := hu
  have m3 := m2.len
  refine go9 ?_
  refine yG (jW m1 (by omega) (by omega)) (fun u hu => ?_)
  obtain ⟨cd, D, rfl, d1, d2⟩ := hu
  have d3 := d2.len
  have d4 := jV (k := K + 1) (m := 2) (show D.length ≤ 3 by omega)
  refine go9 ?_
  refine yB (pL d1 hc (by omega) (by omega) (by omega)) (fun u hu => ?_)
  obtain ⟨r0, rfl, g2⟩ := hu
  have g2 : IR M r0 (rgtR pc xs (rt x) (i + 1)) := by unfold rgtR; rw [tL y2, ← drv_eq m2.ev, ← d2.ev]; exact g2.up (by omega)
  obtain ⟨r1, r2, r3, r4, rfl⟩ := id g2.four
  refine go9 ?_
  rw [yT i (by omega)]
  exact l_n (by rfl) (n' := xs.length - 1 - (i + 1)) (by omega) ⟨i + 1, _, _, rfl, rfl, rfl, by omega, g1, g2⟩
 have y1 : inL xs (rt x) i := ⟨yE.1 c1, yE.1 c2⟩
 refine go9 ?_
 refine yG (hR.piece i (by omega)) (fun u hu => ?_)
 obtain ⟨cp, m, rfl, m1, m2⟩ := hu
 have m3 := m2.len
 refine go9 ?_
 refine yG (jW m1 (by omega) (by omega)) (fun u hu => ?_)
 obtain ⟨cd, D, rfl, d1, d2⟩ := hu
 have d3 := d2.len
 have d4 := jV (k := K + 1) (m := 2) (show D.length ≤ 3 by omega)
 refine go9 ?_
 refine yB (pL d1 hc (by omega) (by omega) (by omega)) (fun u hu => ?_)
 obtain ⟨l0, rfl, g1⟩ := hu
 have g1 : IR M l0 (lftR pc xs (rt x) (i + 1)) := by unfold lftR; rw [tL y1, ← drv_eq m2.ev, ← d2.ev]; exact g1.up (by omega)
 obtain ⟨l1, l2, l3, l4, rfl⟩ := id g1.four
 refine go9 ?_
 simp only [vT, vS, ratC, uB, uA, List.set_cons_zero, List.set_cons_succ, List.nil_append, List.cons_append, List.append_nil, List.replicate_succ, List.replicate_zero, List.length_cons, List.length_nil, splice, List.take_succ_cons, List.take_zero, List.drop_succ_cons, List.drop_zero, List.take_nil, List.drop_nil, Nat.zero_add, Nat.reduceAdd, Nat.reduceMul, Int.reduceToNat, xO, List.getElem?_cons_succ, List.getElem?_cons_zero]
 refine vB hX (i := i) (by omega) (by omega) rfl (fun ev hev => ?_)
 refine go9 ?_
 refine yB (pT hev hc (by decide)) (fun u hu => ?_)
 obtain rfl := hu
 refine go9 ?_
 rw [bB]
 cases c3 : dec (xs.getD i 0 ≤ rt x)
 case false =>
  have n2 : ¬ inR xs (rt x) i := fun h => yI.1 c3 h.1
  have g2 : IR M [r1, .bool r2, r3, .bool r4] (rgtR pc xs (rt x) (i + 1)) := by unfold rgtR; rw [vE n2]; exact g2
  refine go9 ?_
  rw [yT i (by omega)]
  exact l_n (by rfl) (n' := xs.length - 1 - (i + 1)) (by omega) ⟨i + 1, _, _, rfl, rfl, rfl, by omega, g1, g2⟩
 refine go9 ?_
 rw [yT i (by omega)]
 refine go9 ?_
 refine vB hX (i := i + 1) (by omega) (by omega) rfl (fun fv hfv => ?_)
 refine go9 ?_
 refine yG (pT hc hfv (by decide)) (fun u hu => ?_)
 obtain rfl := hu
 refine go9 ?_
 rw [jO]
 cases c4 : dec (rt x < xs.getD (i + 1) 0)
 case false =>
  have n2 : ¬ inR xs (rt x) i := fun h => yI.1 c4 h.2
  have g2 : IR M [r1, .bool r2, r3, .bool r4] (rgtR pc xs (rt x) (i + 1)) := by unfold rgtR; rw [vE n2]; exact g2
  refine go9 ?_
  rw [yT i (by omega)]
  exact l_n (by rfl) (n' := xs.length - 1 - (i + 1)) (by omega) ⟨i + 1, _, _, rfl, rfl, rfl, by omega, g1, g2⟩
 have y2 : inR xs (rt x) i := ⟨yE.1 c3, yE.1 c4⟩
 refine go9 ?_
 refine yG (hR.piece i (by omega)) (fun u hu => ?_)
 obtain ⟨cp, m, rfl, m1, m2⟩ := hu
 have m3 := m2.len
 refine go9 ?_
 refine yG (jW m1 (by omega) (by omega)) (fun u hu => ?_)
 obtain ⟨cd, D, rfl, d1, d2⟩ := hu
 have d3 := d2.len
 have d4 := jV (k := K + 1) (m := 2) (show D.length ≤ 3 by omega)
 refine go9 ?_
 refine yB (pL d1 hc (by omega) (by omega) (by omega)) (fun u hu => ?_)
 obtain ⟨r0, rfl, g2⟩ := hu
 have g2 : IR M r0 (rgtR pc xs (rt x) (i + 1)) := by unfold rgtR; rw [tL y2, ← drv_eq m2.ev, ← d2.ev]; exact g2.up (by omega)
 obtain ⟨r1, r2, r3, r4, rfl⟩ := id g2.four
 refine go9 ?_
 rw [yT i (by omega)]
 exact l_n (by rfl) (n' := xs.length - 1 - (i + 1)) (by omega) ⟨i + 1, _, _, rfl, rfl, rfl, by omega, g1, g2⟩
theorem law24_TableValues {cx cy : C} {X Y : List R2} (kind : Int) (x : R2) (i : Int) (hx : Ls elP cx X) (hy : Ls elP cy Y) : semC Tryz.prog n_law24_TableValues [.agg [iC kind, cx, cy], .agg (ratC x), i64 i] TrueK := by
 refine yC ok_law24_TableValues rfl (show HFVs [.agg [iC kind, cx, cy], .agg (ratC x), i64 i] from ⟨⟨trivial, hx.hf, hy.hf, trivial⟩, sN _, trivial, trivial⟩) ?_
 refine go9 ?_
 refine yB (table_Value kind x hx hy (fun h => table_made (kind := kind) hx hy h)) (fun u hu => ?_)
 obtain rfl := hu
 refine go9 ?_
 refine yB (ref24_Value kind x hx hy) (fun u hu => ?_)
 obtain rfl := hu
 generalize bT (hU kind (X.map rt) (Y.map rt)) kind X Y x = r
 obtain ⟨r1, r2⟩ := r
 refine go9 ?_
 refine yG (gQ kind hx hy) (fun u hu => ?_)
 obtain rfl := hu
 refine go9 ?_
 refine yB (pS kind hx hy) (fun u hu => ?_)
 obtain rfl := hu
 refine go9 ?_
 rw [show yA Cm.neq (valE kind X Y) (valE kind X Y) = false by simp [yA]]
 refine go9 ?_
 rw [show (bif true then !(r1.1 == r1.1 && (r1.2 == r1.2 && true)) else (r1.1 == r1.1 && (r1.2 == r1.2 && true))) = false by simp]
 refine go9 ?_
 rw [show yA Cm.neq ((r1, r2) : R2 × Int).snd ((r1, r2) : R2 × Int).snd = false by simp [yA]]
 refine go9 ?_
 refine yB (table_Piece kind i hx hy) (fun u hu => ?_)
 obtain ⟨c1, p1, p3, rfl⟩ := hu
 refine go9 ?_
 refine yB (ref24_Piece kind i hx hy) (fun u hu => ?_)
 obtain ⟨c2, p2, _, rfl⟩ := hu
 refine go9 ?_
 rw [show ∀ z : Int, yA Cm.neq z z = false from fun z => by simp [yA]]
 refine go9 ?_
 simp only [vT, vS, ratC, uB, uA, List.set_cons_zero, List.set_cons_succ, List.nil_append, List.cons_append, List.append_nil, List.replicate_succ, List.replicate_zero, List.length_cons, List.length_nil, splice, List.take_succ_cons, List.take_zero, List.drop_succ_cons, List.drop_zero, List.take_nil, List.drop_nil, Nat.zero_add, Nat.reduceAdd, Nat.reduceMul, Int.reduceToNat, xO, List.getElem?_cons_succ, List.getElem?_cons_zero]
 refine yB (ref02_Same p1 p2 (by omega) (by omega)) (fun u hu => ?_)
 obtain ⟨z, rfl, hz⟩ := hu
 obtain rfl : z = true := hz.2 rfl
 refine go9 ?_
 refine yB (table_Slope kind x hx hy) (fun u hu => ?_)
 obtain rfl := hu
 refine go9 ?_
 refine yB (ref24_Slope kind x hx hy) (fun u hu => ?_)
 obtain rfl := hu
 generalize slopeR (hU kind (X.map rt) (Y.map rt)) kind X Y x = q
 obtain ⟨q1, q2, q3⟩ := q
 refine go9 ?_
 have e2 : ∀ b : Bool, (b == b) = true := by decide
 simp only [e2]
 refine go9 ?_
 rw [show yA Cm.eql q3 q3 = true by simp [yA]]
 refine go9 ?_
 rw [show (q1.1 == q1.1 && (q1.2 == q1.2 && true)) = true by simp]
 refine go9 ?_
 refine yB law24_known (fun u hu => ?_)
 obtain rfl := hu
 refine go9 ?_
 exact TrueK.fz
end Go.Proofs.YtjncgcnofiaiaaaGreat
