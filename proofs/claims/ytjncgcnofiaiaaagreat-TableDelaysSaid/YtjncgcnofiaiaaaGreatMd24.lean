/-
  Parts of the proof: Integrals of tables of the program: the parts between two numbers, and their areas.
-/
import Derived.Test.YtjncgcnofiaiaaaGreatMd23
set_option linter.unusedVariables false
set_option linter.unusedSimpArgs false
namespace Go.Proofs.YtjncgcnofiaiaaaGreat
open Go.RowKit
set_option maxRecDepth 20000
/-! ### Antiderivatives of functions that are polynomials -/
theorem ev_pad {g : Nat → Rat} {n : Nat} (x : Rat) (h : ∀ j, n ≤ j → g j = 0) (m : Nat) : ev ((List.range (n + m)).map g) x = ev ((List.range n).map g) x := by
  induction m with
  | zero => rfl
  | succ m ih =>
    have e : (List.range (n + (m + 1))).map g = (List.range (n + m)).map g ++ [g (n + m)] := by
      rw [← Nat.add_assoc, List.range_succ, List.map_append]
      rfl
    rw [e, ev_append, ih, ev_one, h (n + m) (by omega)]
    grind
theorem integ_ext {l m : List Rat} (h : ∀ x, ev l x = ev m x) (x : Rat) : ev (integ l) x = ev (integ m) x := by
  have hc := coef_eq h
  have key : ∀ (l : List Rat) (n : Nat), ev ((List.range (l.length + n)).map fun i => l.getD i 0 / (((i + 1 : Nat) : Int) : Rat)) x = ev ((List.range l.length).map fun i => l.getD i 0 / (((i + 1 : Nat) : Int) : Rat)) x := fun l n => ev_pad x (fun j hj => by
    rw [getD_ge hj, Rat.div_def, Rat.zero_mul]) n
  unfold integ
  rw [show ev (0 :: (List.range l.length).map fun i => l.getD i 0 / (((i + 1 : Nat) : Int) : Rat)) x = 0 + x * ev ((List.range l.length).map fun i => l.getD i 0 / (((i + 1 : Nat) : Int) : Rat)) x from rfl,
    show ev (0 :: (List.range m.length).map fun i => m.getD i 0 / (((i + 1 : Nat) : Int) : Rat)) x = 0 + x * ev ((List.range m.length).map fun i => m.getD i 0 / (((i + 1 : Nat) : Int) : Rat)) x from rfl,
    ← key l m.length, ← key m l.length, Nat.add_comm m.length l.length]
  congr 3
  apply List.map_congr_left
  intro i _
  rw [hc i]
noncomputable def polyOf (f : Rat → Rat) : List Rat := Classical.epsilon fun m => ∀ x, ev m x = f x
noncomputable def prim (f : Rat → Rat) (x : Rat) : Rat := ev (integ (polyOf f)) x
theorem prim_eq {f : Rat → Rat} {m : List Rat} (h : ∀ x, ev m x = f x) (x : Rat) : ev (integ m) x = prim f x := by
  have h2 : ∀ x, ev (polyOf f) x = f x := Classical.epsilon_spec (p := fun m => ∀ x, ev m x = f x) ⟨m, h⟩
  exact integ_ext (fun x => (h x).trans (h2 x).symm) x
/-- The first boxes of a list under way may be others. -/
theorem Out.swap {α : Type} {E : El α} {el : TypeId} {F G R : Hp} {c : C} {l : List α} (h : Out E el F.length (F ++ R) c l) (hl : G.length = F.length) : Out E el F.length (G ++ R) c l := by
  cases h with
  | nil => exact .nil
  | @sl b n co cells ds l hm hb hn hc h =>
    have hb' : (G ++ R)[b]? = some (.live ⟨cells, el, .rw⟩) := by
      rw [List.getElem?_append_right hm] at hb
      rw [List.getElem?_append_right (by omega), hl]
      exact hb
    exact .sl hm hb' hn hc h
/-! ### Parts -/
def mxQ (a b : Rat) : Rat := if a < b then b else a
def mnQ (a b : Rat) : Rat := if b < a then b else a
abbrev Part : Type := (Rat → Rat) × Rat × Rat
def clip (f : Rat → Rat) (a b lo hi : Rat) : List Part := if mxQ a lo < mnQ b hi then [(f, mxQ a lo, mnQ b hi)] else []
def partsTo (pc : Nat → Rat → Rat) (xs : List Rat) (lo hi : Rat) : Nat → List Part
  | 0 => []
  | i + 1 => partsTo pc xs lo hi i ++ clip (pc i) (xs.getD i 0) (xs.getD (i + 1) 0) lo hi
def partsR (pc : Nat → Rat → Rat) (xs ys : List Rat) (lo hi : Rat) : List Part := clip (fun _ => ys.getD 0 0) lo (xs.getD 0 0) lo hi ++ partsTo pc xs lo hi (xs.length - 1) ++ clip (fun _ => ys.getD (xs.length - 1) 0) (xs.getD (xs.length - 1) 0) hi lo hi
noncomputable def termP (p : Part) : Rat := prim p.1 p.2.2 - prim p.1 p.2.1
noncomputable def areaL : List Part → Rat
  | [] => 0
  | p :: r => termP p + areaL r
theorem areaL_snoc (p : Part) : ∀ l, areaL (l ++ [p]) = areaL l + termP p
  | [] => by
    simp only [List.nil_append, areaL]
    grind
  | q :: r => by
    simp only [List.cons_append, areaL, areaL_snoc p r]
    grind
theorem areaL_take {l : List Part} {i : Nat} (h : i < l.length) : areaL (l.take (i + 1)) = areaL (l.take i) + termP l[i] := by
  rw [take_add h, areaL_snoc]
theorem clip_len {f : Rat → Rat} {a b lo hi : Rat} : (clip f a b lo hi).length ≤ 1 := by
  unfold clip
  split <;> simp
theorem partsTo_len {pc : Nat → Rat → Rat} {xs : List Rat} {lo hi : Rat} : ∀ i, (partsTo pc xs lo hi i).length ≤ i
  | 0 => Nat.le_refl _
  | i + 1 => by
    have h1 := partsTo_len (pc := pc) (xs := xs) (lo := lo) (hi := hi) i
    have h2 := clip_len (f := pc i) (a := xs.getD i 0) (b := xs.getD (i + 1) 0) (lo := lo) (hi := hi)
    simp only [partsTo, List.length_append]
    omega
theorem partsR_len {pc : Nat → Rat → Rat} {xs ys : List Rat} {lo hi : Rat} : (partsR pc xs ys lo hi).length ≤ xs.length + 2 := by
  have h1 := clip_len (f := fun _ => ys.getD 0 0) (a := lo) (b := xs.getD 0 0) (lo := lo) (hi := hi)
  have h2 := clip_len (f := fun _ => ys.getD (xs.length - 1) 0) (a := xs.getD (xs.length - 1) 0) (b := hi) (lo := lo) (hi := hi)
  have h3 := partsTo_len (pc := pc) (xs := xs) (lo := lo) (hi := hi) (xs.length - 1)
  simp only [partsR, List.length_append]
  omega
structure IsPart (K : Nat) (cs : List C) (q : Part) : Prop where
  is : ∃ c m av bs, cs = c :: (av ++ bs) ∧ Ls (elQ K) c m ∧ PieceIs q.1 m ∧ IQ 2 av q.2.1 ∧ IQ 2 bs q.2.2
def elPart (K : Nat) : El Part := ⟨IsPart K, 13, fun h => by
  obtain ⟨c, m, av, bs, rfl, _, _, h1, h2⟩ := h.is
  obtain ⟨_, _, _, _, _, _, rfl⟩ := h1.six
  obtain ⟨_, _, _, _, _, _, rfl⟩ := h2.six
  rfl, fun h => by
  obtain ⟨c, m, av, bs, rfl, h3, _, h1, h2⟩ := h.is
  exact ⟨h3.hf, HFL_app h1.hf h2.hf⟩⟩
theorem mx_rp (a b : Rat) : mxR (rp a) (rp b) = rp (mxQ a b) := by
  unfold mxR mxQ
  rw [less_rp]
  by_cases h : a < b
  · rw [dec_true.2 h, if_pos h]
    rfl
  · rw [dec_false.2 h, if_neg h]
    rfl
theorem mn_rp (a b : Rat) : mnR (rp a) (rp b) = rp (mnQ a b) := by
  unfold mnR mnQ
  rw [less_rp]
  by_cases h : b < a
  · rw [dec_true.2 h, if_pos h]
    rfl
  · rw [dec_false.2 h, if_neg h]
    rfl
theorem mx_bd {k : Nat} {a b : Rat} (h1 : Bd k (rp a)) (h2 : Bd k (rp b)) : Bd k (rp (mxQ a b)) := by
  unfold mxQ
  split
  · exact h2
  · exact h1
theorem mn_bd {k : Nat} {a b : Rat} (h1 : Bd k (rp a)) (h2 : Bd k (rp b)) : Bd k (rp (mnQ a b)) := by
  unfold mnQ
  split
  · exact h2
  · exact h1
theorem get2a {H : Hp} {a b : Slot} : ((H ++ [a]) ++ [b])[H.length]? = some a := by simp
theorem get2b {H : Hp} {a b : Slot} : ((H ++ [a]) ++ [b])[H.length + 1]? = some b := by simp
theorem set2a {H : Hp} {a b c : Slot} : ((H ++ [a]) ++ [b]).set H.length c = (H ++ [c]) ++ [b] := by simp
theorem set2b {H : Hp} {a b c : Slot} : ((H ++ [a]) ++ [b]).set (H.length + 1) c = (H ++ [a]) ++ [c] := by simp
theorem len1 {H : Hp} {a : Slot} : (H ++ [a]).length = H.length + 1 := by simp
theorem get_in {H : Hp} {a b s : Slot} {i : Nat} (h : H[i]? = some s) : ((H ++ [a]) ++ [b])[i]? = some s := by
  have := lt_of_getElem? h
  rw [List.getElem?_append_left (by simp; omega), List.getElem?_append_left this]
  exact h
attribute [local irreducible] compare' semH semC qLen qNil qIad qSlc qIdx ldBox ldCells stBox appX appI slcX awpF awpOpsF awpDF xopF xopDF qval lval seqQ blockQ loopQ bodyF retKF cnd arith IntKind.wrap
theorem q_Max {k : Nat} {cs ds : List C} {a b : Rat} (hx : IQ k cs a) (hy : IQ k ds b) (hk : k ≤ 268435456) : semC Tryz.prog n_num_Max [.agg cs, .agg ds] (QV k (mxQ a b)) := by
  refine semC_mono (fun u hu => ?_) (num_Max hx.is hy.is hx.bd hy.bd hk)
  obtain ⟨cs, rfl, h1⟩ := hu
  rw [mx_rp] at h1
  exact ⟨cs, rfl, h1, mx_bd hx.bd hy.bd⟩
theorem q_Min {k : Nat} {cs ds : List C} {a b : Rat} (hx : IQ k cs a) (hy : IQ k ds b) (hk : k ≤ 268435456) : semC Tryz.prog n_num_Min [.agg cs, .agg ds] (QV k (mnQ a b)) := by
  refine semC_mono (fun u hu => ?_) (num_Min hx.is hy.is hx.bd hy.bd hk)
  obtain ⟨cs, rfl, h1⟩ := hu
  rw [mn_rp] at h1
  exact ⟨cs, rfl, h1, mn_bd hx.bd hy.bd⟩
theorem parts_add {K : Nat} {cp o : C} {m : List Rat} {f : Rat → Rat} {av bs fs ts : List C} {a b lo hi : Rat} {x2 : Slot} {R : Hp} {L : List Part} (hp : Ls (elQ K) cp m) (hf : PieceIs f m) (ha : IQ 2 av a) (hb : IQ 2 bs b) (hfs : IQ 2 fs lo) (hts : IQ 2 ts hi)
    (hL : L.length < 1000000) (ho : Out (elPart K) T_table_part 4 (.live ⟨fs, T_num_Q, .rw⟩ :: .live ⟨ts, T_num_Q, .rw⟩ :: x2 :: .live ⟨[o], T_sl_table_part, .rw⟩ :: R) o L) :
    semH Tryz.prog n_table_parts_1 [.c cp, .agg av, .agg bs, .c (.ptr 0 0), .c (.ptr 1 0), .c (.ptr 3 0)] (.live ⟨fs, T_num_Q, .rw⟩ :: .live ⟨ts, T_num_Q, .rw⟩ :: x2 :: .live ⟨[o], T_sl_table_part, .rw⟩ :: R)
      (fun _ H' => ∃ o' R', H' = .live ⟨fs, T_num_Q, .rw⟩ :: .live ⟨ts, T_num_Q, .rw⟩ :: x2 :: .live ⟨[o'], T_sl_table_part, .rw⟩ :: R' ∧ Out (elPart K) T_table_part 4 (.live ⟨fs, T_num_Q, .rw⟩ :: .live ⟨ts, T_num_Q, .rw⟩ :: x2 :: .live ⟨[o'], T_sl_table_part, .rw⟩ :: R') o' (L ++ clip f a b lo hi)) := by
  refine semH_of_awpF ok_table_parts_1 rfl ?_
  obtain ⟨a1, a2, a3, a4, a5, a6, rfl⟩ := id ha.six
  obtain ⟨b1, b2, b3, b4, b5, b6, rfl⟩ := id hb.six
  obtain ⟨f1, f2, f3, f4, f5, f6, rfl⟩ := id hfs.six
  obtain ⟨t1, t2, t3, t4, t5, t6, rfl⟩ := id hts.six
  generalize hH : (Slot.live ⟨[f1, f2, f3, f4, f5, f6], T_num_Q, .rw⟩ :: .live ⟨[t1, t2, t3, t4, t5, t6], T_num_Q, .rw⟩ :: x2 :: .live ⟨[o], T_sl_table_part, .rw⟩ :: R) = H
  have g0 : H[0]? = some (.live ⟨[f1, f2, f3, f4, f5, f6], T_num_Q, .rw⟩) := by rw [← hH]; rfl
  have g1 : H[1]? = some (.live ⟨[t1, t2, t3, t4, t5, t6], T_num_Q, .rw⟩) := by rw [← hH]; rfl
  have g3 : H[3]? = some (.live ⟨[o], T_sl_table_part, .rw⟩) := by rw [← hH]; rfl
  have hHR : H = [.live ⟨[f1, f2, f3, f4, f5, f6], T_num_Q, .rw⟩, .live ⟨[t1, t2, t3, t4, t5, t6], T_num_Q, .rw⟩, x2, .live ⟨[o], T_sl_table_part, .rw⟩] ++ R := hH.symm
  refine go8 ?_
  rw [len1]
  refine ld_boxA get2a (by rfl) ?_
  refine go8 ?_
  refine ld_boxA (get_in g0) (by rfl) ?_
  refine go8 ?_
  refine ld_boxA (get_in g1) (by rfl) ?_
  refine go8 ?_
  refine call_C (q_Max ha hfs (by decide)) (fun u hu => ?_)
  obtain ⟨ms, rfl, h1⟩ := hu
  obtain ⟨m1, m2, m3, m4, m5, m6, rfl⟩ := id h1.six
  refine go8 ?_
  refine call_C (q_Min hb hts (by decide)) (fun u hu => ?_)
  obtain ⟨ns, rfl, h2⟩ := hu
  obtain ⟨n1, n2, n3, n4, n5, n6, rfl⟩ := id h2.six
  refine go8 ?_
  refine st_box get2a (by rfl) (by rfl) (by simp) ?_
  rw [set2a]
  simp only [len1]
  refine go8 ?_
  refine st_box get2b (by rfl) (by rfl) (by simp) ?_
  rw [set2b]
  refine go8 ?_
  refine ld_boxA get2a (by rfl) ?_
  refine go8 ?_
  refine ld_boxA get2b (by rfl) ?_
  refine go8 ?_
  refine semH_of_semC (q_Cmp2 h1 h2 (by decide)) (fun u hu => ?_)
  obtain rfl := hu
  refine go8 ?_
  rw [cq_lss]
  cases hlt : dec (mxQ a lo < mnQ b hi)
  case false =>
    refine go8 ?_
    refine ⟨o, (R ++ [_]) ++ [_], by rw [hHR]; rfl, ?_⟩
    have e : clip f a b lo hi = [] := by
      unfold clip
      rw [if_neg (dec_false.1 hlt)]
    rw [e, List.append_nil]
    exact (ho.grow (X := [_])).grow (X := [_])
  have e : clip f a b lo hi = [(f, mxQ a lo, mnQ b hi)] := by
    unfold clip
    rw [if_pos (dec_true.1 hlt)]
  have hP : (elPart K).p (cp :: ([m1, m2, m3, m4, m5, m6] ++ [n1, n2, n3, n4, n5, n6])) (f, mxQ a lo, mnQ b hi) := ⟨cp, m, _, _, rfl, hp, hf, h1, h2⟩
  refine go8 ?_
  refine ld_box (get_in g3) (by rfl) ?_
  refine go8 ?_
  refine ld_boxA get2a (by rfl) ?_
  refine go8 ?_
  refine ld_boxA get2b (by rfl) ?_
  refine go8 ?_
  refine app_imm (F := [.live ⟨[f1, f2, f3, f4, f5, f6], T_num_Q, .rw⟩, .live ⟨[t1, t2, t3, t4, t5, t6], T_num_Q, .rw⟩, x2, .live ⟨[o], T_sl_table_part, .rw⟩]) (R := (R ++ [_]) ++ [_]) (by rw [hHR]; rfl) ((ho.grow (X := [_])).grow (X := [_])) (by rfl) (by rfl) rfl hP (by omega) (fun R' o' h4 => ?_)
  refine go8 ?_
  rw [e]
  refine ⟨o', R', rfl, ?_⟩
  exact h4.swap (G := [.live ⟨[f1, f2, f3, f4, f5, f6], T_num_Q, .rw⟩, .live ⟨[t1, t2, t3, t4, t5, t6], T_num_Q, .rw⟩, x2, .live ⟨[o'], T_sl_table_part, .rw⟩]) rfl
end Go.Proofs.YtjncgcnofiaiaaaGreat

set_option linter.unusedVariables false
set_option linter.unusedSimpArgs false
namespace Go.Proofs.YtjncgcnofiaiaaaGreat
open Go.RowKit
set_option maxRecDepth 20000
/-- The sizes of a sum of areas behind so many parts. -/
def arK (K n : Nat) : Nat := n * (evK (K + 1) 2 5 + evK (K + 1) 2 5 + 2) + 1
theorem arK_succ (K n : Nat) : arK K (n + 1) = arK K n + (evK (K + 1) 2 5 + evK (K + 1) 2 5 + 2) := by
  unfold arK
  rw [Nat.succ_mul]
  omega
theorem arK_mono {K i n : Nat} (h : i ≤ n) : arK K i ≤ arK K n := by
  unfold arK
  have := Nat.mul_le_mul_right (evK (K + 1) 2 5 + evK (K + 1) 2 5 + 2) h
  omega
theorem arK_cap {K : Nat} (h : K ≤ shapeMax) : arK K 26 ≤ 134217728 := by
  unfold arK evK
  unfold shapeMax at h
  omega
noncomputable def sumR (pc : Nat → Rat → Rat) (xs ys : List Rat) (x y : Rat) : Rat := if y < x then -areaL (partsR pc xs ys (mnQ x y) (mxQ x y)) else areaL (partsR pc xs ys (mnQ x y) (mxQ x y))
noncomputable def integR (pc : Nat → Rat → Rat) (kind : Int) (X Y : List R2) (x y : R2) : R2 × Int := bif dec (withE kind X Y [x, y] = 0) then numR (sumR pc (X.map rt) (Y.map rt) (rt x) (rt y)) else ((0, 0), withE kind X Y [x, y])
theorem const_piece {q : Rat} {m : List Rat} (h : Cut [q] m) : PieceIs (fun _ => q) m := ⟨fun x => by rw [h.ev, ev_one], by have := h.len; simp at this; omega, h.top⟩
attribute [local irreducible] compare' semH semC qLen qNil qIad qSlc qIdx ldBox ldCells stBox appX appI slcX awpF awpOpsF awpDF xopF xopDF qval lval seqQ blockQ loopQ bodyF retKF cnd arith IntKind.wrap
theorem table_parts {s cx cy : C} {xs ys : List Rat} {K : Nat} {pc : Nat → Rat → Rat} {fs ts : List C} {lo hi : Rat} (h : Shape s cx cy xs ys K pc) (hK : 2 ≤ K) (hfs : IQ 2 fs lo) (hts : IQ 2 ts hi) : semC Tryz.prog n_table_parts [.c s, .agg fs, .agg ts] (LsK (elPart K) (partsR pc xs ys lo hi)) := by
  refine semC_of_awpF ok_table_parts rfl (show HFVs [.c s, .agg fs, .agg ts] from ⟨h.hf, hfs.hf, hts.hf, trivial⟩) ?_
  obtain ⟨f1, f2, f3, f4, f5, f6, rfl⟩ := id hfs.six
  obtain ⟨t1, t2, t3, t4, t5, t6, rfl⟩ := id hts.six
  have hx := h.x
  have hy := h.y
  have hlen := h.len
  have hpos := h.pos
  have hsm := h.small
  have e1 : arith .sub .i64 (xs.length : Int) 1 = ((xs.length - 1 : Nat) : Int) := by rw [ar_sub, wrap_i64 (by omega) (by omega)]; omega
  refine go9 ?_
  refine semH_of_semC h.at_ (fun u hu => ?_)
  obtain rfl := hu
  refine go9 ?_
  refine ld_ls hy (i := 0) (by omega) (by omega) rfl (fun av has => ?_)
  refine go9 ?_
  refine ld_ls hx (i := 0) (by omega) (by omega) rfl (fun bv hbs => ?_)
  refine go9 ?_
  refine call_C (qp_Const has) (fun u hu => ?_)
  obtain ⟨cp, m, rfl, g1, g2⟩ := hu
  refine go9 ?_
  rw [← getD_lt (l := ys) (i := 0) (by omega)] at g2
  rw [← getD_lt (l := xs) (i := 0) (by omega)] at hbs
  simp only [spanC, zeroC, ratC, zeroE, zeroS, List.set_cons_zero, List.set_cons_succ, List.nil_append, List.cons_append, List.append_nil, List.replicate_succ, List.replicate_zero, List.length_cons, List.length_nil, splice, List.take_succ_cons, List.take_zero, List.drop_succ_cons, List.drop_zero, List.take_nil, List.drop_nil, Nat.zero_add, Nat.reduceAdd, Nat.reduceMul, Int.reduceToNat, closeB, List.getElem?_cons_succ, List.getElem?_cons_zero]
  refine x_callc (by rfl) (by rfl) ?_
  refine semH_mono (fun u H' hK' => ?_) (parts_add (R := []) (L := []) (g1.up hK) (const_piece g2) hfs hbs hfs hts (by simp) .nil)
  obtain ⟨o1, R1, rfl, g3⟩ := hK'
  rw [List.nil_append] at g3
  refine go9 ?_
  rw [e1]
  have c0 := clip_len (f := fun _ => ys.getD 0 0) (a := lo) (b := xs.getD 0 0) (lo := lo) (hi := hi)
  refine f_loop (fun w vs H => ∃ (i : Nat) (o : C) (R : Hp), vs = [.c s, .c (.ptr 1 0), .c (.ptr 2 0), i64 xs.length, .c (.ptr 3 0), .c (.fn 130 [.ptr 0 0, .ptr 1 0, .ptr 3 0]), i64 ((xs.length - 1 : Nat) : Int), i64 i] ∧ H = .live ⟨[f1, f2, f3, f4, f5, f6], T_num_Q, .rw⟩ :: .live ⟨[t1, t2, t3, t4, t5, t6], T_num_Q, .rw⟩ :: .live ⟨[cx, cy], T_table_hold, .rw⟩ :: .live ⟨[o], T_sl_table_part, .rw⟩ :: R ∧ w = xs.length - 1 - i ∧ i ≤ xs.length - 1 ∧ Out (elPart K) T_table_part 4 (.live ⟨[f1, f2, f3, f4, f5, f6], T_num_Q, .rw⟩ :: .live ⟨[t1, t2, t3, t4, t5, t6], T_num_Q, .rw⟩ :: .live ⟨[cx, cy], T_table_hold, .rw⟩ :: .live ⟨[o], T_sl_table_part, .rw⟩ :: R) o (clip (fun _ => ys.getD 0 0) lo (xs.getD 0 0) lo hi ++ partsTo pc xs lo hi i)) (by rfl) ⟨0, o1, R1, rfl, rfl, rfl, by omega, by simpa [partsTo] using g3⟩ ?_
  clear g1 g2 g3 has hbs
  rintro w vs H ⟨i, o, R, rfl, rfl, rfl, h1, h2⟩
  have c1 := partsTo_len (pc := pc) (xs := xs) (lo := lo) (hi := hi) i
  refine go9 ?_
  cases hi' : compare' Cm.lss (i : Int) ((xs.length - 1 : Nat) : Int)
  case true =>
    simp [compare'] at hi'
    refine go9 ?_
    refine ld_ls hx (i := i) (by omega) (by omega) rfl (fun av has => ?_)
    refine go9 ?_
    rw [addI1 i (by omega)]
    refine go9 ?_
    refine ld_ls hx (i := i + 1) (by omega) (by omega) rfl (fun bv hbs => ?_)
    refine go9 ?_
    refine call_C (h.piece i (by omega)) (fun u hu => ?_)
    obtain ⟨cp, m, rfl, g1, g2⟩ := hu
    rw [← getD_lt (l := xs) (i := i) (by omega)] at has
    rw [← getD_lt (l := xs) (i := i + 1) (by omega)] at hbs
    refine go9 ?_
    refine x_callc (by rfl) (by rfl) ?_
    refine semH_mono (fun u H' hK' => ?_) (parts_add g1 g2 has hbs hfs hts (by rw [List.length_append]; omega) h2)
    obtain ⟨o2, R2, rfl, g3⟩ := hK'
    refine go9 ?_
    rw [addI1 i (by omega)]
    refine l_n (by rfl) (n' := xs.length - 1 - (i + 1)) (by omega) ⟨i + 1, o2, R2, rfl, rfl, rfl, by omega, ?_⟩
    simp only [partsTo]
    rw [← List.append_assoc]
    exact g3
  simp [compare'] at hi'
  have ei : i = xs.length - 1 := by omega
  refine go9 ?_
  rw [e1]
  refine go9 ?_
  refine ld_ls hy (i := xs.length - 1) (by omega) (by omega) rfl (fun av has => ?_)
  refine go9 ?_
  rw [e1]
  refine go9 ?_
  refine ld_ls hx (i := xs.length - 1) (by omega) (by omega) rfl (fun bv hbs => ?_)
  refine go9 ?_
  refine call_C (qp_Const has) (fun u hu => ?_)
  obtain ⟨cp, m, rfl, g1, g2⟩ := hu
  rw [← getD_lt (l := ys) (i := xs.length - 1) (by omega)] at g2
  rw [← getD_lt (l := xs) (i := xs.length - 1) (by omega)] at hbs
  refine go9 ?_
  refine x_callc (by rfl) (by rfl) ?_
  refine semH_mono (fun u H' hK' => ?_) (parts_add (g1.up hK) (const_piece g2) hbs hts hfs hts (by rw [List.length_append]; omega) h2)
  obtain ⟨o2, R2, rfl, g3⟩ := hK'
  refine go9 ?_
  rw [ei] at g3
  exact g3.done
theorem table_Integral {cx cy : C} {X Y : List R2} {pc : Nat → Rat → Rat} (kind : Int) (x y : R2) (hx : Ls elP cx X) (hy : Ls elP cy Y) (hm : valE kind X Y = 0 → semC Tryz.prog n_table_made [.agg [iC kind, cx, cy]] (MadeK (X.map rt) (Y.map rt) pc)) : semC Tryz.prog n_table_Integral [.agg [iC kind, cx, cy], .agg (ratC x), .agg (ratC y)] (PairK (integR pc kind X Y x y)) := by
  refine semC_of_awpF ok_table_Integral rfl (show HFVs [.agg [iC kind, cx, cy], .agg (ratC x), .agg (ratC y)] from ⟨⟨trivial, hx.hf, hy.hf, trivial⟩, HFL_rat _, HFL_rat _, trivial⟩) ?_
  refine go8 ?_
  simp only [spanC, zeroC, ratC, zeroE, zeroS, List.set_cons_zero, List.set_cons_succ, List.nil_append, List.cons_append, List.append_nil, List.replicate_succ, List.replicate_zero, List.length_cons, List.length_nil, splice, List.take_succ_cons, List.take_zero, List.drop_succ_cons, List.drop_zero, List.take_nil, List.drop_nil, Nat.zero_add, Nat.reduceAdd, Nat.reduceMul, Int.reduceToNat, closeB, List.getElem?_cons_succ, List.getElem?_cons_zero]
  have hc : Ls elP (.imm 2 (ratC x ++ ratC y)) [x, y] := .imm (.cons rfl (.one rfl))
  refine semH_of_semC (table_with kind hx hy hc (by simp)) (fun u hu => ?_)
  obtain rfl := hu
  refine go8 ?_
  rw [neq_dec]
  cases h1 : dec (withE kind X Y [x, y] ≠ 0)
  case true =>
    refine go8 ?_
    refine PairK.bad ?_
    unfold integR
    rw [dec_false.2 (dec_true.1 h1)]
    rfl
  have h1 : withE kind X Y [x, y] = 0 := Classical.byContradiction (dec_false.1 h1)
  obtain ⟨h2, h3⟩ := with_zero h1
  have h24 := (val_zero h2).1
  refine go8 ?_
  refine call_C (q_Of (h3 x (by simp))) (fun u hu => ?_)
  obtain ⟨es, rfl, g1⟩ := hu
  obtain ⟨x1, x2, x3, x4, x5, x6, rfl⟩ := id g1.six
  refine go8 ?_
  refine call_C (q_Of (h3 y (by simp))) (fun u hu => ?_)
  obtain ⟨fs, rfl, g2⟩ := hu
  obtain ⟨y1, y2, y3, y4, y5, y6, rfl⟩ := id g2.six
  refine go8 ?_
  refine semH_of_semC (q_Int (g := 0) (by decide)) (fun u hu => ?_)
  obtain ⟨zs, rfl, g3⟩ := hu
  obtain ⟨z1, z2, z3, z4, z5, z6, rfl⟩ := id g3.six
  refine go8 ?_
  simp only [spanC, zeroC, ratC, zeroE, zeroS, List.set_cons_zero, List.set_cons_succ, List.nil_append, List.cons_append, List.append_nil, List.replicate_succ, List.replicate_zero, List.length_cons, List.length_nil, splice, List.take_succ_cons, List.take_zero, List.drop_succ_cons, List.drop_zero, List.take_nil, List.drop_nil, Nat.zero_add, Nat.reduceAdd, Nat.reduceMul, Int.reduceToNat, closeB, List.getElem?_cons_succ, List.getElem?_cons_zero]
  refine call_C (hm h2) (fun u hu => ?_)
  obtain ⟨s, dx, dy, K, rfl, hK, hS⟩ := hu
  refine go8 ?_
  refine call_C (q_Min g1 g2 (by decide)) (fun u hu => ?_)
  obtain ⟨ls, rfl, g4⟩ := hu
  refine go8 ?_
  refine call_C (q_Max g1 g2 (by decide)) (fun u hu => ?_)
  obtain ⟨hs, rfl, g5⟩ := hu
  refine go8 ?_
  refine call_C (table_parts hS hK.1 g4 g5) (fun u hu => ?_)
  obtain ⟨cp, rfl, g6⟩ := hu
  have hll : (partsR pc (X.map rt) (Y.map rt) (mnQ (rt x) (rt y)) (mxQ (rt x) (rt y))).length ≤ 26 := by
    have := partsR_len (pc := pc) (xs := X.map rt) (ys := Y.map rt) (lo := mnQ (rt x) (rt y)) (hi := mxQ (rt x) (rt y))
    rw [List.length_map] at this
    omega
  have hsum : ∀ S : Rat, areaL (partsR pc (X.map rt) (Y.map rt) (mnQ (rt x) (rt y)) (mxQ (rt x) (rt y))) = S → integR pc kind X Y x y = numR (if rt y < rt x then -S else S) := by
    intro S hS
    unfold integR sumR
    rw [dec_true.2 h1, hS]
    rfl
  generalize partsR pc (X.map rt) (Y.map rt) (mnQ (rt x) (rt y)) (mxQ (rt x) (rt y)) = L at g6 hll hsum
  have hcap := arK_cap hK.2
  refine go8 ?_
  refine f_loop (fun w vs H => ∃ (i : Nat) (ss : List C) (b0 b1 b2 : Slot) (R : Hp), vs = [.c (.ptr 3 0), .c (.ptr 4 0), .c (.ptr 5 0), .c (.ptr 6 0), .c cp, i64 L.length, i64 i] ∧ H = b0 :: b1 :: b2 :: .live ⟨[.int .i64 0, .int .i64 0], T_api_Rat, .rw⟩ :: .live ⟨[x1, x2, x3, x4, x5, x6], T_num_Q, .rw⟩ :: .live ⟨[y1, y2, y3, y4, y5, y6], T_num_Q, .rw⟩ :: .live ⟨ss, T_num_Q, .rw⟩ :: R ∧ w = L.length - i ∧ i ≤ L.length ∧ IQ (arK K i) ss (areaL (L.take i))) (by rfl) ⟨0, _, _, _, _, [], rfl, rfl, rfl, by omega, g3.up (by unfold arK; omega)⟩ ?_
  clear g3
  rintro w vs H ⟨i, ss, b0, b1, b2, R, rfl, rfl, rfl, j1, j2⟩
  obtain ⟨s1, s2, s3, s4, s5, s6, rfl⟩ := id j2.six
  refine go8 ?_
  cases hi : compare' Cm.lss (i : Int) (L.length : Int)
  case true =>
    simp [compare'] at hi
    have hk1 := Nat.le_trans (arK_mono (K := K) (show i + 1 ≤ 26 by omega)) hcap
    rw [arK_succ] at hk1
    refine go8 ?_
    refine ld_ls g6 (i := i) hi (by omega) rfl (fun cs hcs => ?_)
    obtain ⟨c, m, av, bv, rfl, p1, p2, p3, p4⟩ := IsPart.is hcs
    obtain ⟨a1, a2, a3, a4, a5, a6, rfl⟩ := id p3.six
    obtain ⟨d1, d2, d3, d4, d5, d6, rfl⟩ := id p4.six
    have l1 := p2.len
    refine go8 ?_
    refine semH_of_semC (qp_Integral p1 (by omega) (by unfold evK at hk1; omega)) (fun u hu => ?_)
    obtain ⟨cf, F, rfl, q1, q2⟩ := hu
    have l2 := q2.len
    have hE := evK_mono (k := K + 1) (m := 2) (show F.length ≤ 5 by omega)
    refine go8 ?_
    refine call_C (qp_Eval q1 p4 (by omega) (by omega)) (fun u hu => ?_)
    obtain ⟨us, rfl, q3⟩ := hu
    refine go8 ?_
    refine call_C (qp_Eval q1 p3 (by omega) (by omega)) (fun u hu => ?_)
    obtain ⟨ws, rfl, q4⟩ := hu
    refine go8 ?_
    refine call_C (q_Sub2 (q3.up hE) (q4.up hE) (by omega)) (fun u hu => ?_)
    obtain ⟨rs, rfl, q5⟩ := hu
    refine go8 ?_
    refine call_C (q_Add2 j2 q5 (by omega)) (fun u hu => ?_)
    obtain ⟨ts, rfl, q6⟩ := hu
    obtain ⟨t1, t2, t3, t4, t5, t6, rfl⟩ := id q6.six
    refine go8 ?_
    rw [addI1 i (by omega)]
    refine l_n (by rfl) (n' := L.length - (i + 1)) (by omega) ⟨i + 1, _, b0, b1, b2, _, rfl, rfl, rfl, by omega, ?_⟩
    rw [areaL_take hi, arK_succ]
    have e : areaL (L.take i) + termP L[i] = areaL (L.take i) + (ev F L[i].2.2 - ev F L[i].2.1) := by
      unfold termP
      rw [q2.ev, q2.ev, prim_eq p2.ev, prim_eq p2.ev]
    rw [e]
    exact q6.up (by omega)
  simp [compare'] at hi
  have ei : i = L.length := by omega
  rw [ei, List.take_length] at j2
  have hk2 := Nat.le_trans (arK_mono (K := K) hll) hcap
  refine go8 ?_
  refine semH_of_semC (q_Cmp2 g2 g1 (by decide)) (fun u hu => ?_)
  obtain rfl := hu
  refine go8 ?_
  rw [cq_lss]
  cases hyx : dec (rt y < rt x)
  case true =>
    refine go8 ?_
    refine semH_of_semC (q_Neg j2 (by omega)) (fun u hu => ?_)
    obtain ⟨ns, rfl, k1⟩ := hu
    obtain ⟨n1, n2, n3, n4, n5, n6, rfl⟩ := id k1.six
    refine go8 ?_
    refine semH_of_semC (table_number k1) (fun u hu => ?_)
    obtain rfl := hu
    refine go8 ?_
    refine PairK.of ?_
    rw [hsum _ rfl, if_pos (dec_true.1 hyx)]
  refine go8 ?_
  refine semH_of_semC (table_number j2) (fun u hu => ?_)
  obtain rfl := hu
  refine go8 ?_
  refine PairK.of ?_
  rw [hsum _ rfl, if_neg (dec_false.1 hyx)]
end Go.Proofs.YtjncgcnofiaiaaaGreat

set_option linter.unusedVariables false
set_option linter.unusedSimpArgs false
namespace Go.Proofs.YtjncgcnofiaiaaaGreat
open Go.RowKit
set_option maxRecDepth 20000
def exX : List R2 := [(0, 1), (2, 1)]
def exY : List R2 := [(0, 1), (4, 1)]
theorem ex_x : exX.map rt = [0, 2] := by decide +kernel
theorem ex_y : exY.map rt = [0, 4] := by decide +kernel
theorem israt_int {n : Int} (h : -1000000000000 ≤ n) (h2 : n ≤ 1000000000000) : IsRat n 1 := ⟨by decide, by decide, h, h2, by simp⟩
theorem ex_valid : valE 1 exX exY = 0 := by
  refine val_ok (by decide) ⟨by decide, by decide, by decide, by decide, ?_, ?_, ?_⟩
  · intro p hp
    simp [exX] at hp
    rcases hp with rfl | rfl <;> exact israt_int (by decide) (by decide)
  · intro p hp
    simp [exY] at hp
    rcases hp with rfl | rfl <;> exact israt_int (by decide) (by decide)
  · rw [ex_x]
    intro i hi
    have : i = 0 := by simp at hi; omega
    subst this
    show (0 : Rat) < 2
    decide +kernel
theorem num_int {q : Rat} {n : Int} (h : q = (n : Rat)) (h1 : -1000000000000 ≤ n) (h2 : n ≤ 1000000000000) : numR q = ((n, 1), 0) := by
  subst h
  unfold numR fitR
  rw [rp_int, dec_true.2 ⟨h1, h2, (by decide : (1 : Int) ≤ 1000000000000)⟩]
  rfl
theorem ex_value : valueR (lineP (exX.map rt) (exY.map rt)) 1 exX exY (1, 2) = ((1, 1), 0) := by
  have hv : Valid [((1, 2) : R2)] := by
    intro p hp
    simp at hp
    subst hp
    exact ⟨by decide, by decide, by decide, by decide, by decide⟩
  unfold valueR
  rw [dec_true.2 (with_ok ex_valid hv), ex_x, ex_y]
  exact num_int (n := 1) (by decide +kernel) (by decide) (by decide)
theorem ex_line : ∀ x, ev [0, 2] x = lineP [0, 2] [0, 4] 0 x := by
  intro x
  have h : slope [0, 2] [0, 4] 0 = 2 := by decide +kernel
  unfold lineP
  rw [h]
  simp only [ev, List.getD_cons_zero]
  grind
theorem ex_parts : partsR (lineP [0, 2] [0, 4]) [0, 2] [0, 4] 0 2 = [(lineP [0, 2] [0, 4] 0, 0, 2)] := by
  have c0 : clip (fun _ => ([0, 4] : List Rat).getD 0 0) 0 (([0, 2] : List Rat).getD 0 0) 0 2 = [] := by
    unfold clip
    rw [if_neg (by decide +kernel)]
  have c1 : clip (fun _ => ([0, 4] : List Rat).getD (([0, 2] : List Rat).length - 1) 0) (([0, 2] : List Rat).getD (([0, 2] : List Rat).length - 1) 0) 2 0 2 = [] := by
    unfold clip
    rw [if_neg (by decide +kernel)]
  have c2 : clip (lineP [0, 2] [0, 4] 0) (([0, 2] : List Rat).getD 0 0) (([0, 2] : List Rat).getD (0 + 1) 0) 0 2 = [(lineP [0, 2] [0, 4] 0, 0, 2)] := by
    unfold clip
    rw [if_pos (by decide +kernel)]
    have e1 : mxQ (([0, 2] : List Rat).getD 0 0) 0 = 0 := by decide +kernel
    have e2 : mnQ (([0, 2] : List Rat).getD (0 + 1) 0) 2 = 2 := by decide +kernel
    rw [e1, e2]
  unfold partsR
  rw [c0, c1]
  simp only [partsTo, List.length_cons, List.length_nil, Nat.zero_add, Nat.reduceAdd, Nat.reduceSub, List.nil_append, List.append_nil]
  exact c2
theorem ex_area : sumR (lineP [0, 2] [0, 4]) [0, 2] [0, 4] 0 2 = ((4 : Int) : Rat) := by
  unfold sumR
  have e1 : mnQ 0 2 = 0 := by decide +kernel
  have e2 : mxQ 0 2 = 2 := by decide +kernel
  rw [if_neg (by decide +kernel), e1, e2, ex_parts]
  simp only [areaL, termP]
  rw [← prim_eq ex_line, ← prim_eq ex_line]
  decide +kernel
theorem ex_integral : integR (lineP (exX.map rt) (exY.map rt)) 1 exX exY (0, 1) (2, 1) = ((4, 1), 0) := by
  have hv : Valid [((0, 1) : R2), (2, 1)] := by
    intro p hp
    simp at hp
    rcases hp with rfl | rfl <;> exact israt_int (by decide) (by decide)
  unfold integR
  rw [dec_true.2 (with_ok ex_valid hv), ex_x, ex_y]
  have e1 : rt (0, 1) = 0 := by decide +kernel
  have e2 : rt (2, 1) = 2 := by decide +kernel
  rw [e1, e2]
  exact num_int ex_area (by decide) (by decide)
theorem delay_len {size : Int} {first : R2} {l : List R2} : (delayR size first l).1.length ≤ 64 := by
  unfold delayR
  cases h1 : dec (size < 0 ∨ 64 < size)
  · cases h2 : dec (64 < l.length)
    · cases h3 : dec (IsRat first.1 first.2 ∧ Valid l)
      · simp
      · have := dec_false.1 h2
        simp [delayL]
        omega
    · simp
  · simp
def TrueK (u : V) : Prop := u = .c (.bool true)
theorem TrueK.fz {H : Hp} : ∃ d, FzV H (.c (.bool true)) d ∧ TrueK d := ⟨_, .c (.hf trivial), rfl⟩
attribute [local irreducible] compare' semH semC qLen qNil qIad qSlc qIdx ldBox ldCells stBox appX appI slcX awpF awpOpsF awpDF xopF xopDF qval lval seqQ blockQ loopQ bodyF retKF cnd arith IntKind.wrap
theorem law24_known_1 (n : Int) : semC Tryz.prog n_law24_known_1 [i64 n] (EqK (.agg (ratC (n, 1)))) := by
  refine semC_of_awpF ok_law24_known_1 rfl (show HFVs [i64 n] from ⟨trivial, trivial⟩) ?_
  refine go5 ?_
  simp only [spanC, zeroC, ratC, zeroE, zeroS, List.set_cons_zero, List.set_cons_succ, List.nil_append, List.cons_append, List.append_nil, List.replicate_succ, List.replicate_zero, List.length_cons, List.length_nil, splice, List.take_succ_cons, List.take_zero, List.drop_succ_cons, List.drop_zero, List.take_nil, List.drop_nil, Nat.zero_add, Nat.reduceAdd, Nat.reduceMul, Int.reduceToNat, closeB, List.getElem?_cons_succ, List.getElem?_cons_zero]
  exact ⟨_, .agg (.hf (HFL_rat (n, 1))), rfl⟩
theorem law24_known : semC Tryz.prog n_law24_known [] TrueK := by
  refine semC_of_awpF ok_law24_known rfl (show HFVs [] from trivial) ?_
  refine go8 ?_
  refine semH_of_semC (law24_known_1 0) (fun u hu => ?_)
  obtain rfl := hu
  refine go8 ?_
  refine semH_of_semC (law24_known_1 2) (fun u hu => ?_)
  obtain rfl := hu
  refine go8 ?_
  refine semH_of_semC (law24_known_1 0) (fun u hu => ?_)
  obtain rfl := hu
  refine go8 ?_
  refine semH_of_semC (law24_known_1 4) (fun u hu => ?_)
  obtain rfl := hu
  refine go8 ?_
  simp only [spanC, zeroC, ratC, zeroE, zeroS, List.set_cons_zero, List.set_cons_succ, List.nil_append, List.cons_append, List.append_nil, List.replicate_succ, List.replicate_zero, List.length_cons, List.length_nil, splice, List.take_succ_cons, List.take_zero, List.drop_succ_cons, List.drop_zero, List.take_nil, List.drop_nil, Nat.zero_add, Nat.reduceAdd, Nat.reduceMul, Int.reduceToNat, closeB, List.getElem?_cons_succ, List.getElem?_cons_zero]
  have hx : Ls elP (.imm 2 (ratC (0, 1) ++ ratC (2, 1))) exX := .imm (.cons rfl (.one rfl))
  have hy : Ls elP (.imm 2 (ratC (0, 1) ++ ratC (4, 1))) exY := .imm (.cons rfl (.one rfl))
  refine semH_of_semC (table_Value 1 (1, 2) hx hy (table_made_line hx hy)) (fun u hu => ?_)
  rw [ex_value] at hu
  obtain rfl := hu
  refine go8 ?_
  refine call_C (law24_known_1 0) (fun u hu => ?_)
  obtain rfl := hu
  refine go8 ?_
  refine call_C (law24_known_1 2) (fun u hu => ?_)
  obtain rfl := hu
  refine go8 ?_
  refine call_C (table_Integral 1 (0, 1) (2, 1) hx hy (table_made_line hx hy)) (fun u hu => ?_)
  rw [ex_integral] at hu
  obtain rfl := hu
  refine go8 ?_
  refine call_C (law24_known_1 1) (fun u hu => ?_)
  obtain rfl := hu
  refine go8 ?_
  rw [show compare' Cm.eql (((1, 1), 0) : R2 × Int).snd 0 = true by simp [compare']]
  refine go8 ?_
  refine call_C (law24_known_1 4) (fun u hu => ?_)
  obtain rfl := hu
  refine go8 ?_
  rw [show compare' Cm.eql (((4, 1), 0) : R2 × Int).snd 0 = true by simp [compare']]
  refine go8 ?_
  exact TrueK.fz
theorem law24_TableDelays {ct cv : C} {t v : List R2} (size : Int) (first d w : R2) (ht : Ls elP ct t) (hv : Ls elP cv v) : semC Tryz.prog n_law24_TableDelays [i64 size, .agg (ratC first), .c ct, .c cv, .agg (ratC d), .agg (ratC w)] TrueK := by
  refine semC_of_awpF ok_law24_TableDelays rfl (show HFVs [i64 size, .agg (ratC first), .c ct, .c cv, .agg (ratC d), .agg (ratC w)] from ⟨trivial, HFL_rat _, ht.hf, hv.hf, HFL_rat _, HFL_rat _, trivial⟩) ?_
  refine go5 ?_
  refine semH_of_semC (table_Delay size first hv) (fun u hu => ?_)
  obtain ⟨c1, rfl, h1⟩ := hu
  refine go5 ?_
  refine semH_of_semC (ref24_Delay size first hv) (fun u hu => ?_)
  obtain ⟨c2, rfl, h2⟩ := hu
  have hd := delay_len (size := size) (first := first) (l := v)
  refine go5 ?_
  rw [show compare' Cm.neq (delayR size first v).2 (delayR size first v).2 = false by simp [compare']]
  refine go5 ?_
  refine semH_of_semC (ref02_Same h1 h2 (by omega) (by omega)) (fun u hu => ?_)
  obtain ⟨z, rfl, hz⟩ := hu
  obtain rfl : z = true := hz.2 rfl
  refine go5 ?_
  refine semH_of_semC (table_Lag d w ht hv) (fun u hu => ?_)
  obtain rfl := hu
  refine go5 ?_
  refine semH_of_semC (ref24_Lag d w ht hv) (fun u hu => ?_)
  obtain rfl := hu
  generalize lagR t v d w = r
  obtain ⟨r1, r2, r3⟩ := r
  refine go5 ?_
  have e2 : ∀ b : Bool, (b == b) = true := by decide
  simp only [e2]
  refine go5 ?_
  rw [show compare' Cm.eql r3 r3 = true by simp [compare']]
  refine go5 ?_
  rw [show (r1.1 == r1.1 && (r1.2 == r1.2 && true)) = true by simp]
  refine go5 ?_
  refine semH_of_semC law24_known (fun u hu => ?_)
  obtain rfl := hu
  refine go5 ?_
  exact TrueK.fz
end Go.Proofs.YtjncgcnofiaiaaaGreat
