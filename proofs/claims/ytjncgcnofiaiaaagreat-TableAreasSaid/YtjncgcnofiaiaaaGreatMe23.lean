/-
  Parts of the proof: Tables: which are valid; what is made of one; Value.
-/
import Derived.Test.YtjncgcnofiaiaaaGreatMe22
set_option linter.unusedVariables false
set_option linter.unusedSimpArgs false
namespace Go.Proofs.YtjncgcnofiaiaaaGreat
open Go.RowKit
set_option maxRecDepth 20000
def TabOk (kind : Int) (X Y : List R2) : Prop := 0 ≤ kind ∧ kind ≤ 3 ∧ X ≠ [] ∧ X.length = Y.length ∧ Valid X ∧ Valid Y ∧ Rises (X.map rt)
noncomputable def valE (kind : Int) (X Y : List R2) : Int := bif dec (24 < X.length ∨ 24 < Y.length) then 3 else bif dec (TabOk kind X Y) then 0 else 1
theorem val_long {kind : Int} {X Y : List R2} (h : 24 < X.length ∨ 24 < Y.length) : valE kind X Y = 3 := by
 unfold valE
 rw [dec_true.2 h]
 rfl
theorem val_bad {kind : Int} {X Y : List R2} (h : ¬ (24 < X.length ∨ 24 < Y.length)) (h2 : ¬ TabOk kind X Y) : valE kind X Y = 1 := by
 unfold valE
 rw [dec_false.2 h, dec_false.2 h2]
 rfl
theorem val_ok {kind : Int} {X Y : List R2} (h : ¬ (24 < X.length ∨ 24 < Y.length)) (h2 : TabOk kind X Y) : valE kind X Y = 0 := by
 unfold valE
 rw [dec_false.2 h, dec_true.2 h2]
 rfl
theorem val_zero {kind : Int} {X Y : List R2} (h : valE kind X Y = 0) : ¬ (24 < X.length ∨ 24 < Y.length) ∧ TabOk kind X Y := by
 unfold valE at h
 cases h1 : dec (24 < X.length ∨ 24 < Y.length)
 ·cases h2 : dec (TabOk kind X Y)
  ·rw [h1, h2] at h
   cases h
  ·exact ⟨dec_false.1 h1, dec_true.1 h2⟩
 ·rw [h1] at h
  cases h
theorem IntK.of {n m : Int} {H : Hp} (h : m = n) : ∃ d, FzV H (i64 n) d ∧ IntK m d := by
 subst h
 exact IntK.fz
noncomputable def withE (kind : Int) (X Y l : List R2) : Int := bif dec (valE kind X Y = 0) then bif dec (Valid l) then 0 else 1 else valE kind X Y
theorem with_val {kind : Int} {X Y l : List R2} (h : valE kind X Y ≠ 0) : withE kind X Y l = valE kind X Y := by
 unfold withE
 rw [dec_false.2 h]
 rfl
theorem with_bad {kind : Int} {X Y l : List R2} (h : valE kind X Y = 0) (h2 : ¬ Valid l) : withE kind X Y l = 1 := by
 unfold withE
 rw [dec_true.2 h, dec_false.2 h2]
 rfl
theorem with_ok {kind : Int} {X Y l : List R2} (h : valE kind X Y = 0) (h2 : Valid l) : withE kind X Y l = 0 := by
 unfold withE
 rw [dec_true.2 h, dec_true.2 h2]
 rfl
theorem with_zero {kind : Int} {X Y l : List R2} (h : withE kind X Y l = 0) : valE kind X Y = 0 ∧ Valid l := by
 unfold withE at h
 cases h1 : dec (valE kind X Y = 0)
 ·rw [h1] at h
  exact absurd h (dec_false.1 h1)
 ·cases h2 : dec (Valid l)
  ·rw [h1, h2] at h
   cases h
  ·exact ⟨dec_true.1 h1, dec_true.1 h2⟩
def shapeMax : Nat := 65536
def MadeK (xs ys : List Rat) (pc : Nat → Rat → Rat) (u : V) : Prop := ∃ s cx cy K, u = .c s ∧ (2 ≤ K ∧ K ≤ shapeMax) ∧ Shape s cx cy xs ys K pc
theorem MadeK.fz {xs ys : List Rat} {pc : Nat → Rat → Rat} {s cx cy : C} {K : Nat} {H : Hp} (h : Shape s cx cy xs ys K pc) (hK : 2 ≤ K ∧ K ≤ shapeMax) : ∃ d, FzV H (.c s) d ∧ MadeK xs ys pc d := ⟨_, .c (.hf h.hf), s, cx, cy, K, rfl, hK, h⟩
noncomputable def valueR (pc : Nat → Rat → Rat) (kind : Int) (X Y : List R2) (x : R2) : R2 × Int := bif dec (withE kind X Y [x] = 0) then numR (valR pc (X.map rt) (Y.map rt) (rt x)) else ((0, 0), withE kind X Y [x])
def PairK (r : R2 × Int) (u : V) : Prop := u = .tup [.agg (ratC r.1), i64 r.2]
theorem PairK.of {r r' : R2 × Int} {H : Hp} (h : r' = r) : ∃ d, FzV H (.tup [.agg (ratC r.1), i64 r.2]) d ∧ PairK r' d := by
 subst h
 exact ⟨_, .tup (.cons (.agg (.hf (HFL_rat _))) (.cons (.c (.hf trivial)) .nil)), rfl⟩
theorem PairK.bad {r' : R2 × Int} {e : Int} {H : Hp} (h : r' = ((0, 0), e)) : ∃ d, FzV H (.tup [.agg [.int .i64 0, .int .i64 0], i64 e]) d ∧ PairK r' d := PairK.of h
theorem evK_cap {K : Nat} (h : K ≤ shapeMax) : evK K 2 4 ≤ 134217728 := by
 unfold evK
 unfold shapeMax at h
 omega
theorem neq_dec (a b : Int) : compare' Cm.neq a b = dec (a ≠ b) := rfl
attribute [local irreducible] compare' semH semC qLen qNil qIad qSlc qIdx ldBox ldCells stBox appX appI slcX awpF awpOpsF awpDF xopF xopDF qval lval seqQ blockQ loopQ bodyF retKF cnd arith IntKind.wrap
theorem table_Validate {cx cy : C} {X Y : List R2} (kind : Int) (hx : Ls elP cx X) (hy : Ls elP cy Y) : semC Tryz.prog n_table_Validate [.agg [iC kind, cx, cy]] (IntK (valE kind X Y)) := by
 refine semC_of_awpF ok_table_Validate rfl (show HFVs [.agg [iC kind, cx, cy]] from ⟨⟨trivial, hx.hf, hy.hf, trivial⟩, trivial⟩) ?_
 refine go5 ?_
 cases h1 : compare' Cm.gtr (X.length : Int) 24
 case true =>
  simp [compare'] at h1
  refine go5 ?_
  exact IntK.of (val_long (.inl (by omega)))
 simp [compare'] at h1
 refine go5 ?_
 cases h2 : compare' Cm.gtr (Y.length : Int) 24
 case true =>
  simp [compare'] at h2
  refine go5 ?_
  exact IntK.of (val_long (.inr (by omega)))
 simp [compare'] at h2
 have hs : ¬ (24 < X.length ∨ 24 < Y.length) := by omega
 have hl : X.length < 1073741824 := by omega
 have hl2 : Y.length < 1073741824 := by omega
 refine go5 ?_
 cases h3 : compare' Cm.lss kind 0
 case true =>
  simp [compare'] at h3
  refine go5 ?_
  exact IntK.of (val_bad hs (fun h => absurd h.1 (by omega)))
 simp [compare'] at h3
 refine go5 ?_
 cases h4 : compare' Cm.gtr kind 3
 case true =>
  simp [compare'] at h4
  refine go5 ?_
  exact IntK.of (val_bad hs (fun h => absurd h.2.1 (by omega)))
 simp [compare'] at h4
 refine go5 ?_
 cases h5 : compare' Cm.eql (X.length : Int) 0
 case true =>
  simp [compare'] at h5
  refine go5 ?_
  exact IntK.of (val_bad hs (fun h => h.2.2.1 h5))
 simp [compare'] at h5
 refine go5 ?_
 cases h6 : compare' Cm.neq (X.length : Int) (Y.length : Int)
 case true =>
  simp [compare'] at h6
  refine go5 ?_
  exact IntK.of (val_bad hs (fun h => absurd h.2.2.2.1 (by omega)))
 simp [compare'] at h6
 refine go5 ?_
 refine semH_of_semC (num_AllValid hx hl) (fun u hu => ?_)
 obtain ⟨z1, rfl, k1⟩ := hu
 cases z1
 case false =>
  refine go5 ?_
  exact IntK.of (val_bad hs (fun h => absurd (k1.2 h.2.2.2.2.1) (by decide)))
 refine go5 ?_
 refine semH_of_semC (num_AllValid hy hl2) (fun u hu => ?_)
 obtain ⟨z2, rfl, k2⟩ := hu
 cases z2
 case false =>
  refine go5 ?_
  exact IntK.of (val_bad hs (fun h => absurd (k2.2 h.2.2.2.2.2.1) (by decide)))
 have k1 := k1.1 rfl
 have k2 := k2.1 rfl
 refine go5 ?_
 refine f_loop (fun n vs H => ∃ (i : Nat), vs = [.c (.ptr 0 0), i64 i] ∧ H = [.live ⟨[iC kind, cx, cy], T_api_Table, .rw⟩] ∧ n = X.length + 1 - i ∧ 1 ≤ i ∧ i ≤ X.length + 1 ∧ ∀ j (h : j + 1 < (X.map rt).length), j + 1 < i → (X.map rt)[j] < (X.map rt)[j + 1]) (by rfl) ⟨1, rfl, rfl, rfl, by omega, by omega, fun j _ h => by omega⟩ ?_
 rintro n vs H ⟨i, rfl, rfl, rfl, j1, j2, j3⟩
 refine go5 ?_
 cases hi : compare' Cm.lss (i : Int) (X.length : Int)
 case true =>
  simp [compare'] at hi
  have hi1 : i - 1 < X.length := by omega
  refine go5 ?_
  rw [show arith .sub .i64 (i : Int) 1 = ((i - 1 : Nat) : Int) by rw [ar_sub, wrap_i64 (by omega) (by omega)]; omega]
  refine go5 ?_
  refine ld_ls hx hi1 (by omega) rfl (fun cs hcs => ?_)
  obtain rfl := hcs
  refine go5 ?_
  refine ld_ls hx hi (by omega) rfl (fun cs hcs => ?_)
  obtain rfl := hcs
  refine go5 ?_
  refine call_C (q_Of (k1 _ (getL_mem hi1))) (fun u hu => ?_)
  obtain ⟨ds, rfl, hd⟩ := hu
  refine go5 ?_
  refine call_C (q_Of (k1 _ (getL_mem hi))) (fun u hu => ?_)
  obtain ⟨es, rfl, he⟩ := hu
  refine go5 ?_
  refine call_C (q_Cmp hd he (by decide)) (fun u hu => ?_)
  obtain rfl := hu
  refine go5 ?_
  rw [cq_geq]
  cases hg : dec (rt X[i] ≤ rt X[i - 1])
  ·refine go5 ?_
   rw [addI1 i (by omega)]
   refine l_n (by rfl) (n' := X.length + 1 - (i + 1)) (by omega) ⟨i + 1, rfl, rfl, rfl, by omega, by omega, ?_⟩
   refine rises_take (by simpa using hi) j3 (fun h0 => ?_)
   have := dec_false.1 hg
   simp only [List.getElem_map]
   exact Rat.not_le.1 this
  ·refine go5 ?_
   refine IntK.of (val_bad hs (fun h => ?_))
   have h5 := h.2.2.2.2.2.2 (i - 1) (by simp; omega)
   simp only [List.getElem_map, show i - 1 + 1 = i by omega] at h5
   exact absurd (dec_true.1 hg) (Rat.not_le.2 h5)
 simp [compare'] at hi
 have hr : Rises (X.map rt) := fun j hj => j3 j hj (by simp at hj; omega)
 refine go5 ?_
 exact IntK.of (val_ok hs ⟨by omega, by omega, h5, by omega, k1, k2, hr⟩)
theorem ref24_Validate {cx cy : C} {X Y : List R2} (kind : Int) (hx : Ls elP cx X) (hy : Ls elP cy Y) : semC Tryz.prog n_ref24_Validate [.agg [iC kind, cx, cy]] (IntK (valE kind X Y)) := by
 refine semC_of_awpF ok_ref24_Validate rfl (show HFVs [.agg [iC kind, cx, cy]] from ⟨⟨trivial, hx.hf, hy.hf, trivial⟩, trivial⟩) ?_
 refine go5 ?_
 cases h1 : compare' Cm.gtr (X.length : Int) 24
 case true =>
  simp [compare'] at h1
  refine go5 ?_
  exact IntK.of (val_long (.inl (by omega)))
 simp [compare'] at h1
 refine go5 ?_
 cases h2 : compare' Cm.gtr (Y.length : Int) 24
 case true =>
  simp [compare'] at h2
  refine go5 ?_
  exact IntK.of (val_long (.inr (by omega)))
 simp [compare'] at h2
 have hs : ¬ (24 < X.length ∨ 24 < Y.length) := by omega
 have hl : X.length < 1073741824 := by omega
 have hl2 : Y.length < 1073741824 := by omega
 refine go5 ?_
 cases h3 : compare' Cm.lss kind 0
 case true =>
  simp [compare'] at h3
  refine go5 ?_
  exact IntK.of (val_bad hs (fun h => absurd h.1 (by omega)))
 simp [compare'] at h3
 refine go5 ?_
 cases h4 : compare' Cm.gtr kind 3
 case true =>
  simp [compare'] at h4
  refine go5 ?_
  exact IntK.of (val_bad hs (fun h => absurd h.2.1 (by omega)))
 simp [compare'] at h4
 refine go5 ?_
 cases h5 : compare' Cm.eql (X.length : Int) 0
 case true =>
  simp [compare'] at h5
  refine go5 ?_
  exact IntK.of (val_bad hs (fun h => h.2.2.1 h5))
 simp [compare'] at h5
 refine go5 ?_
 cases h6 : compare' Cm.neq (X.length : Int) (Y.length : Int)
 case true =>
  simp [compare'] at h6
  refine go5 ?_
  exact IntK.of (val_bad hs (fun h => absurd h.2.2.2.1 (by omega)))
 simp [compare'] at h6
 refine go5 ?_
 refine semH_of_semC (ref01_Are hx hl) (fun u hu => ?_)
 obtain ⟨z1, rfl, k1⟩ := hu
 cases z1
 case false =>
  refine go5 ?_
  exact IntK.of (val_bad hs (fun h => absurd (k1.2 h.2.2.2.2.1) (by decide)))
 refine go5 ?_
 refine semH_of_semC (ref01_Are hy hl2) (fun u hu => ?_)
 obtain ⟨z2, rfl, k2⟩ := hu
 cases z2
 case false =>
  refine go5 ?_
  exact IntK.of (val_bad hs (fun h => absurd (k2.2 h.2.2.2.2.2.1) (by decide)))
 have k1 := k1.1 rfl
 have k2 := k2.1 rfl
 refine go5 ?_
 refine semH_of_semC (ref24_rises hx k1 hl) (fun u hu => ?_)
 obtain ⟨z3, rfl, k3⟩ := hu
 cases z3
 case false =>
  refine go5 ?_
  exact IntK.of (val_bad hs (fun h => absurd (k3.2 h.2.2.2.2.2.2) (by decide)))
 refine go5 ?_
 exact IntK.of (val_ok hs ⟨by omega, by omega, h5, by omega, k1, k2, k3.1 rfl⟩)
theorem table_with {cx cy cl : C} {X Y l : List R2} (kind : Int) (hx : Ls elP cx X) (hy : Ls elP cy Y) (hc : Ls elP cl l) (hl3 : l.length < 1073741824) : semC Tryz.prog n_table_with [.agg [iC kind, cx, cy], .c cl] (IntK (withE kind X Y l)) := by
 refine semC_of_awpF ok_table_with rfl (show HFVs [.agg [iC kind, cx, cy], .c cl] from ⟨⟨trivial, hx.hf, hy.hf, trivial⟩, hc.hf, trivial⟩) ?_
 refine go5 ?_
 refine semH_of_semC (table_Validate kind hx hy) (fun u hu => ?_)
 obtain rfl := hu
 refine go5 ?_
 rw [neq_dec]
 cases h1 : dec (valE kind X Y ≠ 0)
 case true =>
  refine go5 ?_
  exact IntK.of (with_val (dec_true.1 h1))
 have h1 : valE kind X Y = 0 := Classical.byContradiction (dec_false.1 h1)
 refine go5 ?_
 refine f_loop (fun n vs H => ∃ (i : Nat), vs = [.c cl, i64 l.length, i64 i] ∧ n = l.length - i ∧ i ≤ l.length ∧ Valid (l.take i)) (by rfl) ⟨0, rfl, rfl, by omega, by intro p hp; simp at hp⟩ ?_
 rintro n vs H ⟨i, rfl, rfl, j1, j2⟩
 refine go5 ?_
 cases hi : compare' Cm.lss (i : Int) (l.length : Int)
 case false =>
  simp [compare'] at hi
  have ei : i = l.length := by omega
  subst ei
  rw [List.take_length] at j2
  refine go5 ?_
  exact IntK.of (with_ok h1 j2)
 simp [compare'] at hi
 refine go5 ?_
 refine ld_ls hc hi (by omega) rfl (fun cs hcs => ?_)
 obtain rfl := hcs
 refine go5 ?_
 refine semH_of_semC (rat_Validate l[i]) (fun u hu => ?_)
 obtain rfl := hu
 cases hz : dec (IsRat l[i].1 l[i].2)
 case false =>
  refine go5 ?_
  refine c_t (by simp [compare']) ?_
  refine go5 ?_
  exact IntK.of (with_bad h1 (fun h => dec_false.1 hz (h _ (getL_mem hi))))
 refine go5 ?_
 refine c_f (by simp [compare']) ?_
 refine go5 ?_
 rw [addI1 i (by omega)]
 exact l_n (by rfl) (by omega) ⟨i + 1, rfl, rfl, by omega, j2.step hi (dec_true.1 hz)⟩
theorem table_made_line {cx cy : C} {X Y : List R2} (hx : Ls elP cx X) (hy : Ls elP cy Y) (h : valE 1 X Y = 0) : semC Tryz.prog n_table_made [.agg [iC 1, cx, cy]] (MadeK (X.map rt) (Y.map rt) (lineP (X.map rt) (Y.map rt))) := by
 obtain ⟨h1, h2⟩ := val_zero h
 refine semC_of_awpF ok_table_made rfl (show HFVs [.agg [iC 1, cx, cy]] from ⟨⟨trivial, hx.hf, hy.hf, trivial⟩, trivial⟩) ?_
 refine go5 ?_
 refine call_C (num_In hx h2.2.2.2.2.1 (by omega)) (fun u hu => ?_)
 obtain ⟨dx, rfl, g1⟩ := hu
 refine go5 ?_
 refine call_C (num_In hy h2.2.2.2.2.2.1 (by omega)) (fun u hu => ?_)
 obtain ⟨dy, rfl, g2⟩ := hu
 refine go5 ?_
 refine c_t (by simp [compare']) ?_
 refine go5 ?_
 have hpos := List.length_pos_iff.2 h2.2.2.1
 have hlen := h2.2.2.2.1
 exact MadeK.fz (line_shape g1 g2 h2.2.2.2.2.2.2 (by simp; omega) (by simpa using hpos) (by simp; omega)) (by decide)
theorem table_Value {cx cy : C} {X Y : List R2} {pc : Nat → Rat → Rat} (kind : Int) (x : R2) (hx : Ls elP cx X) (hy : Ls elP cy Y) (hm : valE kind X Y = 0 → semC Tryz.prog n_table_made [.agg [iC kind, cx, cy]] (MadeK (X.map rt) (Y.map rt) pc)) : semC Tryz.prog n_table_Value [.agg [iC kind, cx, cy], .agg (ratC x)] (PairK (valueR pc kind X Y x)) := by
 refine semC_of_awpF ok_table_Value rfl (show HFVs [.agg [iC kind, cx, cy], .agg (ratC x)] from ⟨⟨trivial, hx.hf, hy.hf, trivial⟩, HFL_rat _, trivial⟩) ?_
 refine go8 ?_
 simp only [spanC, zeroC, ratC, zeroE, zeroS, List.set_cons_zero, List.set_cons_succ, List.nil_append, List.cons_append, List.append_nil, List.replicate_succ, List.replicate_zero, List.length_cons, List.length_nil, splice, List.take_succ_cons, List.take_zero, List.drop_succ_cons, List.drop_zero, List.take_nil, List.drop_nil, Nat.zero_add, Nat.reduceAdd, Nat.reduceMul, Int.reduceToNat, closeB, List.getElem?_cons_succ, List.getElem?_cons_zero]
 have hc : Ls elP (.imm 1 (ratC x)) [x] := .imm (.one rfl)
 refine semH_of_semC (table_with kind hx hy hc (by simp)) (fun u hu => ?_)
 obtain rfl := hu
 refine go8 ?_
 rw [neq_dec]
 cases h1 : dec (withE kind X Y [x] ≠ 0)
 case true =>
  refine go8 ?_
  refine PairK.bad ?_
  unfold valueR
  rw [dec_false.2 (dec_true.1 h1)]
  rfl
 have h1 : withE kind X Y [x] = 0 := Classical.byContradiction (dec_false.1 h1)
 obtain ⟨h2, h3⟩ := with_zero h1
 refine go8 ?_
 refine call_C (hm h2) (fun u hu => ?_)
 obtain ⟨s, dx, dy, K, rfl, hK, hS⟩ := hu
 refine go8 ?_
 refine call_C (q_Of (h3 x (by simp))) (fun u hu => ?_)
 obtain ⟨es, rfl, g1⟩ := hu
 refine go8 ?_
 refine call_C (table_value hS g1 (evK_cap hK.2)) (fun u hu => ?_)
 obtain ⟨fs, rfl, g2⟩ := hu
 refine go8 ?_
 refine call_C (table_number g2) (fun u hu => ?_)
 obtain rfl := hu
 refine go8 ?_
 refine PairK.of ?_
 unfold valueR
 rw [dec_true.2 h1]
 rfl
end Go.Proofs.YtjncgcnofiaiaaaGreat

set_option linter.unusedVariables false
set_option linter.unusedSimpArgs false
namespace Go.Proofs.YtjncgcnofiaiaaaGreat
open Go.RowKit
set_option maxRecDepth 20000
theorem ev_pad {g : Nat → Rat} {n : Nat} (x : Rat) (h : ∀ j, n ≤ j → g j = 0) (m : Nat) : ev ((List.range (n + m)).map g) x = ev ((List.range n).map g) x := by
 induction m with
 | zero => rfl
 | succ m ih =>
  have e : (List.range (n + (m + 1))).map g = (List.range (n + m)).map g ++ [g (n + m)] := by
   rw [← Nat.add_assoc, List.range_succ, List.map_append]
   rfl
  rw [e, ev_append, ih, ev_one, h (n + m) (by omega)]
  grind
theorem integ_ext {l m : List Rat} (h : ∀ x, ev l x = ev m x) (x : Rat) : ev (integ l) x = ev (integ m) x := by
 have hc := coef_eq h
 have key : ∀ (l : List Rat) (n : Nat), ev ((List.range (l.length + n)).map fun i => l.getD i 0 / (((i + 1 : Nat) : Int) : Rat)) x = ev ((List.range l.length).map fun i => l.getD i 0 / (((i + 1 : Nat) : Int) : Rat)) x := fun l n => ev_pad x (fun j hj => by
  rw [getD_ge hj, Rat.div_def, Rat.zero_mul]) n
 unfold integ
 rw [show ev (0 :: (List.range l.length).map fun i => l.getD i 0 / (((i + 1 : Nat) : Int) : Rat)) x = 0 + x * ev ((List.range l.length).map fun i => l.getD i 0 / (((i + 1 : Nat) : Int) : Rat)) x from rfl,
  show ev (0 :: (List.range m.length).map fun i => m.getD i 0 / (((i + 1 : Nat) : Int) : Rat)) x = 0 + x * ev ((List.range m.length).map fun i => m.getD i 0 / (((i + 1 : Nat) : Int) : Rat)) x from rfl,
  ← key l m.length, ← key m l.length, Nat.add_comm m.length l.length]
 congr 3
 apply List.map_congr_left
 intro i _
 rw [hc i]
noncomputable def polyOf (f : Rat → Rat) : List Rat := Classical.epsilon fun m => ∀ x, ev m x = f x
noncomputable def prim (f : Rat → Rat) (x : Rat) : Rat := ev (integ (polyOf f)) x
theorem prim_eq {f : Rat → Rat} {m : List Rat} (h : ∀ x, ev m x = f x) (x : Rat) : ev (integ m) x = prim f x := by
 have h2 : ∀ x, ev (polyOf f) x = f x := Classical.epsilon_spec (p := fun m => ∀ x, ev m x = f x) ⟨m, h⟩
 exact integ_ext (fun x => (h x).trans (h2 x).symm) x
theorem Out.swap {α : Type} {E : El α} {el : TypeId} {F G R : Hp} {c : C} {l : List α} (h : Out E el F.length (F ++ R) c l) (hl : G.length = F.length) : Out E el F.length (G ++ R) c l := by
 cases h with
 | nil => exact .nil
 | @sl b n co cells ds l hm hb hn hc h =>
  have hb' : (G ++ R)[b]? = some (.live ⟨cells, el, .rw⟩) := by
   rw [List.getElem?_append_right hm] at hb
   rw [List.getElem?_append_right (by omega), hl]
   exact hb
  exact .sl hm hb' hn hc h
def mxQ (a b : Rat) : Rat := if a < b then b else a
def mnQ (a b : Rat) : Rat := if b < a then b else a
abbrev Part : Type := (Rat → Rat) × Rat × Rat
def clip (f : Rat → Rat) (a b lo hi : Rat) : List Part := if mxQ a lo < mnQ b hi then [(f, mxQ a lo, mnQ b hi)] else []
def partsTo (pc : Nat → Rat → Rat) (xs : List Rat) (lo hi : Rat) : Nat → List Part
 | 0 => []
 | i + 1 => partsTo pc xs lo hi i ++ clip (pc i) (xs.getD i 0) (xs.getD (i + 1) 0) lo hi
def partsR (pc : Nat → Rat → Rat) (xs ys : List Rat) (lo hi : Rat) : List Part := clip (fun _ => ys.getD 0 0) lo (xs.getD 0 0) lo hi ++ partsTo pc xs lo hi (xs.length - 1) ++ clip (fun _ => ys.getD (xs.length - 1) 0) (xs.getD (xs.length - 1) 0) hi lo hi
noncomputable def termP (p : Part) : Rat := prim p.1 p.2.2 - prim p.1 p.2.1
noncomputable def areaL : List Part → Rat
 | [] => 0
 | p :: r => termP p + areaL r
theorem areaL_snoc (p : Part) : ∀ l, areaL (l ++ [p]) = areaL l + termP p
 | [] => by
  simp only [List.nil_append, areaL]
  grind
 | q :: r => by
  simp only [List.cons_append, areaL, areaL_snoc p r]
  grind
theorem areaL_take {l : List Part} {i : Nat} (h : i < l.length) : areaL (l.take (i + 1)) = areaL (l.take i) + termP l[i] := by
 rw [take_add h, areaL_snoc]
theorem clip_len {f : Rat → Rat} {a b lo hi : Rat} : (clip f a b lo hi).length ≤ 1 := by
 unfold clip
 split <;> simp
theorem partsTo_len {pc : Nat → Rat → Rat} {xs : List Rat} {lo hi : Rat} : ∀ i, (partsTo pc xs lo hi i).length ≤ i
 | 0 => Nat.le_refl _
 | i + 1 => by
  have h1 := partsTo_len (pc := pc) (xs := xs) (lo := lo) (hi := hi) i
  have h2 := clip_len (f := pc i) (a := xs.getD i 0) (b := xs.getD (i + 1) 0) (lo := lo) (hi := hi)
  simp only [partsTo, List.length_append]
  omega
theorem partsR_len {pc : Nat → Rat → Rat} {xs ys : List Rat} {lo hi : Rat} : (partsR pc xs ys lo hi).length ≤ xs.length + 2 := by
 have h1 := clip_len (f := fun _ => ys.getD 0 0) (a := lo) (b := xs.getD 0 0) (lo := lo) (hi := hi)
 have h2 := clip_len (f := fun _ => ys.getD (xs.length - 1) 0) (a := xs.getD (xs.length - 1) 0) (b := hi) (lo := lo) (hi := hi)
 have h3 := partsTo_len (pc := pc) (xs := xs) (lo := lo) (hi := hi) (xs.length - 1)
 simp only [partsR, List.length_append]
 omega
structure IsPart (K : Nat) (cs : List C) (q : Part) : Prop where
 is : ∃ c m av bs, cs = c :: (av ++ bs) ∧ Ls (elQ K) c m ∧ PieceIs q.1 m ∧ IQ 2 av q.2.1 ∧ IQ 2 bs q.2.2
def elPart (K : Nat) : El Part := ⟨IsPart K, 13, fun h => by
 obtain ⟨c, m, av, bs, rfl, _, _, h1, h2⟩ := h.is
 obtain ⟨_, _, _, _, _, _, rfl⟩ := h1.six
 obtain ⟨_, _, _, _, _, _, rfl⟩ := h2.six
 rfl, fun h => by
 obtain ⟨c, m, av, bs, rfl, h3, _, h1, h2⟩ := h.is
 exact ⟨h3.hf, HFL_app h1.hf h2.hf⟩⟩
theorem mx_rp (a b : Rat) : mxR (rp a) (rp b) = rp (mxQ a b) := by
 unfold mxR mxQ
 rw [less_rp]
 by_cases h : a < b
 ·rw [dec_true.2 h, if_pos h]
  rfl
 ·rw [dec_false.2 h, if_neg h]
  rfl
theorem mn_rp (a b : Rat) : mnR (rp a) (rp b) = rp (mnQ a b) := by
 unfold mnR mnQ
 rw [less_rp]
 by_cases h : b < a
 ·rw [dec_true.2 h, if_pos h]
  rfl
 ·rw [dec_false.2 h, if_neg h]
  rfl
theorem mx_bd {k : Nat} {a b : Rat} (h1 : Bd k (rp a)) (h2 : Bd k (rp b)) : Bd k (rp (mxQ a b)) := by
 unfold mxQ
 split
 ·exact h2
 ·exact h1
theorem mn_bd {k : Nat} {a b : Rat} (h1 : Bd k (rp a)) (h2 : Bd k (rp b)) : Bd k (rp (mnQ a b)) := by
 unfold mnQ
 split
 ·exact h2
 ·exact h1
theorem get2a {H : Hp} {a b : Slot} : ((H ++ [a]) ++ [b])[H.length]? = some a := by simp
theorem get2b {H : Hp} {a b : Slot} : ((H ++ [a]) ++ [b])[H.length + 1]? = some b := by simp
theorem set2a {H : Hp} {a b c : Slot} : ((H ++ [a]) ++ [b]).set H.length c = (H ++ [c]) ++ [b] := by simp
theorem set2b {H : Hp} {a b c : Slot} : ((H ++ [a]) ++ [b]).set (H.length + 1) c = (H ++ [a]) ++ [c] := by simp
theorem len1 {H : Hp} {a : Slot} : (H ++ [a]).length = H.length + 1 := by simp
theorem get_in {H : Hp} {a b s : Slot} {i : Nat} (h : H[i]? = some s) : ((H ++ [a]) ++ [b])[i]? = some s := by
 have := lt_of_getElem? h
 rw [List.getElem?_append_left (by simp; omega), List.getElem?_append_left this]
 exact h
attribute [local irreducible] compare' semH semC qLen qNil qIad qSlc qIdx ldBox ldCells stBox appX appI slcX awpF awpOpsF awpDF xopF xopDF qval lval seqQ blockQ loopQ bodyF retKF cnd arith IntKind.wrap
theorem q_Max {k : Nat} {cs ds : List C} {a b : Rat} (hx : IQ k cs a) (hy : IQ k ds b) (hk : k ≤ 268435456) : semC Tryz.prog n_num_Max [.agg cs, .agg ds] (QV k (mxQ a b)) := by
 refine semC_mono (fun u hu => ?_) (num_Max hx.is hy.is hx.bd hy.bd hk)
 obtain ⟨cs, rfl, h1⟩ := hu
 rw [mx_rp] at h1
 exact ⟨cs, rfl, h1, mx_bd hx.bd hy.bd⟩
theorem q_Min {k : Nat} {cs ds : List C} {a b : Rat} (hx : IQ k cs a) (hy : IQ k ds b) (hk : k ≤ 268435456) : semC Tryz.prog n_num_Min [.agg cs, .agg ds] (QV k (mnQ a b)) := by
 refine semC_mono (fun u hu => ?_) (num_Min hx.is hy.is hx.bd hy.bd hk)
 obtain ⟨cs, rfl, h1⟩ := hu
 rw [mn_rp] at h1
 exact ⟨cs, rfl, h1, mn_bd hx.bd hy.bd⟩
theorem parts_add {K : Nat} {cp o : C} {m : List Rat} {f : Rat → Rat} {av bs fs ts : List C} {a b lo hi : Rat} {x2 : Slot} {R : Hp} {L : List Part} (hp : Ls (elQ K) cp m) (hf : PieceIs f m) (ha : IQ 2 av a) (hb : IQ 2 bs b) (hfs : IQ 2 fs lo) (hts : IQ 2 ts hi)
  (hL : L.length < 1000000) (ho : Out (elPart K) T_table_part 4 (.live ⟨fs, T_num_Q, .rw⟩ :: .live ⟨ts, T_num_Q, .rw⟩ :: x2 :: .live ⟨[o], T_sl_table_part, .rw⟩ :: R) o L) :
  semH Tryz.prog n_table_parts_1 [.c cp, .agg av, .agg bs, .c (.ptr 0 0), .c (.ptr 1 0), .c (.ptr 3 0)] (.live ⟨fs, T_num_Q, .rw⟩ :: .live ⟨ts, T_num_Q, .rw⟩ :: x2 :: .live ⟨[o], T_sl_table_part, .rw⟩ :: R)
   (fun _ H' => ∃ o' R', H' = .live ⟨fs, T_num_Q, .rw⟩ :: .live ⟨ts, T_num_Q, .rw⟩ :: x2 :: .live ⟨[o'], T_sl_table_part, .rw⟩ :: R' ∧ Out (elPart K) T_table_part 4 (.live ⟨fs, T_num_Q, .rw⟩ :: .live ⟨ts, T_num_Q, .rw⟩ :: x2 :: .live ⟨[o'], T_sl_table_part, .rw⟩ :: R') o' (L ++ clip f a b lo hi)) := by
 refine semH_of_awpF ok_table_parts_1 rfl ?_
 obtain ⟨a1, a2, a3, a4, a5, a6, rfl⟩ := id ha.six
 obtain ⟨b1, b2, b3, b4, b5, b6, rfl⟩ := id hb.six
 obtain ⟨f1, f2, f3, f4, f5, f6, rfl⟩ := id hfs.six
 obtain ⟨t1, t2, t3, t4, t5, t6, rfl⟩ := id hts.six
 generalize hH : (Slot.live ⟨[f1, f2, f3, f4, f5, f6], T_num_Q, .rw⟩ :: .live ⟨[t1, t2, t3, t4, t5, t6], T_num_Q, .rw⟩ :: x2 :: .live ⟨[o], T_sl_table_part, .rw⟩ :: R) = H
 have g0 : H[0]? = some (.live ⟨[f1, f2, f3, f4, f5, f6], T_num_Q, .rw⟩) := by rw [← hH]; rfl
 have g1 : H[1]? = some (.live ⟨[t1, t2, t3, t4, t5, t6], T_num_Q, .rw⟩) := by rw [← hH]; rfl
 have g3 : H[3]? = some (.live ⟨[o], T_sl_table_part, .rw⟩) := by rw [← hH]; rfl
 have hHR : H = [.live ⟨[f1, f2, f3, f4, f5, f6], T_num_Q, .rw⟩, .live ⟨[t1, t2, t3, t4, t5, t6], T_num_Q, .rw⟩, x2, .live ⟨[o], T_sl_table_part, .rw⟩] ++ R := hH.symm
 refine go8 ?_
 rw [len1]
 refine ld_boxA get2a (by rfl) ?_
 refine go8 ?_
 refine ld_boxA (get_in g0) (by rfl) ?_
 refine go8 ?_
 refine ld_boxA (get_in g1) (by rfl) ?_
 refine go8 ?_
 refine call_C (q_Max ha hfs (by decide)) (fun u hu => ?_)
 obtain ⟨ms, rfl, h1⟩ := hu
 obtain ⟨m1, m2, m3, m4, m5, m6, rfl⟩ := id h1.six
 refine go8 ?_
 refine call_C (q_Min hb hts (by decide)) (fun u hu => ?_)
 obtain ⟨ns, rfl, h2⟩ := hu
 obtain ⟨n1, n2, n3, n4, n5, n6, rfl⟩ := id h2.six
 refine go8 ?_
 refine st_box get2a (by rfl) (by rfl) (by simp) ?_
 rw [set2a]
 simp only [len1]
 refine go8 ?_
 refine st_box get2b (by rfl) (by rfl) (by simp) ?_
 rw [set2b]
 refine go8 ?_
 refine ld_boxA get2a (by rfl) ?_
 refine go8 ?_
 refine ld_boxA get2b (by rfl) ?_
 refine go8 ?_
 refine semH_of_semC (q_Cmp2 h1 h2 (by decide)) (fun u hu => ?_)
 obtain rfl := hu
 refine go8 ?_
 rw [cq_lss]
 cases hlt : dec (mxQ a lo < mnQ b hi)
 case false =>
  refine go8 ?_
  refine ⟨o, (R ++ [_]) ++ [_], by rw [hHR]; rfl, ?_⟩
  have e : clip f a b lo hi = [] := by
   unfold clip
   rw [if_neg (dec_false.1 hlt)]
  rw [e, List.append_nil]
  exact (ho.grow (X := [_])).grow (X := [_])
 have e : clip f a b lo hi = [(f, mxQ a lo, mnQ b hi)] := by
  unfold clip
  rw [if_pos (dec_true.1 hlt)]
 have hP : (elPart K).p (cp :: ([m1, m2, m3, m4, m5, m6] ++ [n1, n2, n3, n4, n5, n6])) (f, mxQ a lo, mnQ b hi) := ⟨cp, m, _, _, rfl, hp, hf, h1, h2⟩
 refine go8 ?_
 refine ld_box (get_in g3) (by rfl) ?_
 refine go8 ?_
 refine ld_boxA get2a (by rfl) ?_
 refine go8 ?_
 refine ld_boxA get2b (by rfl) ?_
 refine go8 ?_
 refine app_imm (F := [.live ⟨[f1, f2, f3, f4, f5, f6], T_num_Q, .rw⟩, .live ⟨[t1, t2, t3, t4, t5, t6], T_num_Q, .rw⟩, x2, .live ⟨[o], T_sl_table_part, .rw⟩]) (R := (R ++ [_]) ++ [_]) (by rw [hHR]; rfl) ((ho.grow (X := [_])).grow (X := [_])) (by rfl) (by rfl) rfl hP (by omega) (fun R' o' h4 => ?_)
 refine go8 ?_
 rw [e]
 refine ⟨o', R', rfl, ?_⟩
 exact h4.swap (G := [.live ⟨[f1, f2, f3, f4, f5, f6], T_num_Q, .rw⟩, .live ⟨[t1, t2, t3, t4, t5, t6], T_num_Q, .rw⟩, x2, .live ⟨[o'], T_sl_table_part, .rw⟩]) rfl
end Go.Proofs.YtjncgcnofiaiaaaGreat

set_option linter.unusedVariables false
set_option linter.unusedSimpArgs false
namespace Go.Proofs.YtjncgcnofiaiaaaGreat
open Go.RowKit
set_option maxRecDepth 20000
def arK (K n : Nat) : Nat := n * (evK (K + 1) 2 5 + evK (K + 1) 2 5 + 2) + 1
theorem arK_succ (K n : Nat) : arK K (n + 1) = arK K n + (evK (K + 1) 2 5 + evK (K + 1) 2 5 + 2) := by
 unfold arK
 rw [Nat.succ_mul]
 omega
theorem arK_mono {K i n : Nat} (h : i ≤ n) : arK K i ≤ arK K n := by
 unfold arK
 have := Nat.mul_le_mul_right (evK (K + 1) 2 5 + evK (K + 1) 2 5 + 2) h
 omega
theorem arK_cap {K : Nat} (h : K ≤ shapeMax) : arK K 26 ≤ 134217728 := by
 unfold arK evK
 unfold shapeMax at h
 omega
noncomputable def sumR (pc : Nat → Rat → Rat) (xs ys : List Rat) (x y : Rat) : Rat := if y < x then -areaL (partsR pc xs ys (mnQ x y) (mxQ x y)) else areaL (partsR pc xs ys (mnQ x y) (mxQ x y))
noncomputable def integR (pc : Nat → Rat → Rat) (kind : Int) (X Y : List R2) (x y : R2) : R2 × Int := bif dec (withE kind X Y [x, y] = 0) then numR (sumR pc (X.map rt) (Y.map rt) (rt x) (rt y)) else ((0, 0), withE kind X Y [x, y])
theorem const_piece {q : Rat} {m : List Rat} (h : Cut [q] m) : PieceIs (fun _ => q) m := ⟨fun x => by rw [h.ev, ev_one], by have := h.len; simp at this; omega, h.top⟩
attribute [local irreducible] compare' semH semC qLen qNil qIad qSlc qIdx ldBox ldCells stBox appX appI slcX awpF awpOpsF awpDF xopF xopDF qval lval seqQ blockQ loopQ bodyF retKF cnd arith IntKind.wrap
theorem table_parts {s cx cy : C} {xs ys : List Rat} {K : Nat} {pc : Nat → Rat → Rat} {fs ts : List C} {lo hi : Rat} (h : Shape s cx cy xs ys K pc) (hK : 2 ≤ K) (hfs : IQ 2 fs lo) (hts : IQ 2 ts hi) : semC Tryz.prog n_table_parts [.c s, .agg fs, .agg ts] (LsK (elPart K) (partsR pc xs ys lo hi)) := by
 refine semC_of_awpF ok_table_parts rfl (show HFVs [.c s, .agg fs, .agg ts] from ⟨h.hf, hfs.hf, hts.hf, trivial⟩) ?_
 obtain ⟨f1, f2, f3, f4, f5, f6, rfl⟩ := id hfs.six
 obtain ⟨t1, t2, t3, t4, t5, t6, rfl⟩ := id hts.six
 have hx := h.x
 have hy := h.y
 have hlen := h.len
 have hpos := h.pos
 have hsm := h.small
 have e1 : arith .sub .i64 (xs.length : Int) 1 = ((xs.length - 1 : Nat) : Int) := by rw [ar_sub, wrap_i64 (by omega) (by omega)]; omega
 refine go9 ?_
 refine semH_of_semC h.at_ (fun u hu => ?_)
 obtain rfl := hu
 refine go9 ?_
 refine ld_ls hy (i := 0) (by omega) (by omega) rfl (fun av has => ?_)
 refine go9 ?_
 refine ld_ls hx (i := 0) (by omega) (by omega) rfl (fun bv hbs => ?_)
 refine go9 ?_
 first | refine call_C (qp_Const has) (fun u hu => ?_) | refine semH_of_semC (qp_Const has) (fun u hu => ?_)
 obtain ⟨cp, m, rfl, g1, g2⟩ := hu
 refine go9 ?_
 rw [← getD_lt (l := ys) (i := 0) (by omega)] at g2
 rw [← getD_lt (l := xs) (i := 0) (by omega)] at hbs
 simp only [spanC, zeroC, ratC, zeroE, zeroS, List.set_cons_zero, List.set_cons_succ, List.nil_append, List.cons_append, List.append_nil, List.replicate_succ, List.replicate_zero, List.length_cons, List.length_nil, splice, List.take_succ_cons, List.take_zero, List.drop_succ_cons, List.drop_zero, List.take_nil, List.drop_nil, Nat.zero_add, Nat.reduceAdd, Nat.reduceMul, Int.reduceToNat, closeB, List.getElem?_cons_succ, List.getElem?_cons_zero]
 refine x_callc (by rfl) (by rfl) ?_
 refine semH_mono (fun u H' hK' => ?_) (parts_add (R := []) (L := []) (g1.up hK) (const_piece g2) hfs hbs hfs hts (by simp) .nil)
 obtain ⟨o1, R1, rfl, g3⟩ := hK'
 rw [List.nil_append] at g3
 refine go9 ?_
 rw [e1]
 have c0 := clip_len (f := fun _ => ys.getD 0 0) (a := lo) (b := xs.getD 0 0) (lo := lo) (hi := hi)
 refine f_loop (fun w vs H => ∃ (i : Nat) (o : C) (R : Hp), vs = [.c s, .c (.ptr 1 0), .c (.ptr 2 0), i64 xs.length, .c (.ptr 3 0), .c (.fn 130 [.ptr 0 0, .ptr 1 0, .ptr 3 0]), i64 ((xs.length - 1 : Nat) : Int), i64 i] ∧ H = .live ⟨[f1, f2, f3, f4, f5, f6], T_num_Q, .rw⟩ :: .live ⟨[t1, t2, t3, t4, t5, t6], T_num_Q, .rw⟩ :: .live ⟨[cx, cy], T_table_hold, .rw⟩ :: .live ⟨[o], T_sl_table_part, .rw⟩ :: R ∧ w = xs.length - 1 - i ∧ i ≤ xs.length - 1 ∧ Out (elPart K) T_table_part 4 (.live ⟨[f1, f2, f3, f4, f5, f6], T_num_Q, .rw⟩ :: .live ⟨[t1, t2, t3, t4, t5, t6], T_num_Q, .rw⟩ :: .live ⟨[cx, cy], T_table_hold, .rw⟩ :: .live ⟨[o], T_sl_table_part, .rw⟩ :: R) o (clip (fun _ => ys.getD 0 0) lo (xs.getD 0 0) lo hi ++ partsTo pc xs lo hi i)) (by rfl) ⟨0, o1, R1, rfl, rfl, rfl, by omega, by simpa [partsTo] using g3⟩ ?_
 clear g1 g2 g3 has hbs
 rintro w vs H ⟨i, o, R, rfl, rfl, rfl, h1, h2⟩
 have c1 := partsTo_len (pc := pc) (xs := xs) (lo := lo) (hi := hi) i
 refine go9 ?_
 cases hi' : compare' Cm.lss (i : Int) ((xs.length - 1 : Nat) : Int)
 case true =>
  simp [compare'] at hi'
  refine go9 ?_
  refine ld_ls hx (i := i) (by omega) (by omega) rfl (fun av has => ?_)
  refine go9 ?_
  rw [addI1 i (by omega)]
  refine go9 ?_
  refine ld_ls hx (i := i + 1) (by omega) (by omega) rfl (fun bv hbs => ?_)
  refine go9 ?_
  first | refine call_C (h.piece i (by omega)) (fun u hu => ?_) | refine semH_of_semC (h.piece i (by omega)) (fun u hu => ?_)
  obtain ⟨cp, m, rfl, g1, g2⟩ := hu
  rw [← getD_lt (l := xs) (i := i) (by omega)] at has
  rw [← getD_lt (l := xs) (i := i + 1) (by omega)] at hbs
  refine go9 ?_
  refine x_callc (by rfl) (by rfl) ?_
  refine semH_mono (fun u H' hK' => ?_) (parts_add g1 g2 has hbs hfs hts (by rw [List.length_append]; omega) h2)
  obtain ⟨o2, R2, rfl, g3⟩ := hK'
  refine go9 ?_
  rw [addI1 i (by omega)]
  refine l_n (by rfl) (n' := xs.length - 1 - (i + 1)) (by omega) ⟨i + 1, o2, R2, rfl, rfl, rfl, by omega, ?_⟩
  simp only [partsTo]
  rw [← List.append_assoc]
  exact g3
 simp [compare'] at hi'
 have ei : i = xs.length - 1 := by omega
 refine go9 ?_
 rw [e1]
 refine go9 ?_
 refine ld_ls hy (i := xs.length - 1) (by omega) (by omega) rfl (fun av has => ?_)
 refine go9 ?_
 rw [e1]
 refine go9 ?_
 refine ld_ls hx (i := xs.length - 1) (by omega) (by omega) rfl (fun bv hbs => ?_)
 refine go9 ?_
 first | refine call_C (qp_Const has) (fun u hu => ?_) | refine semH_of_semC (qp_Const has) (fun u hu => ?_)
 obtain ⟨cp, m, rfl, g1, g2⟩ := hu
 rw [← getD_lt (l := ys) (i := xs.length - 1) (by omega)] at g2
 rw [← getD_lt (l := xs) (i := xs.length - 1) (by omega)] at hbs
 refine go9 ?_
 refine x_callc (by rfl) (by rfl) ?_
 refine semH_mono (fun u H' hK' => ?_) (parts_add (g1.up hK) (const_piece g2) hbs hts hfs hts (by rw [List.length_append]; omega) h2)
 obtain ⟨o2, R2, rfl, g3⟩ := hK'
 refine go9 ?_
 rw [ei] at g3
 exact g3.done
theorem table_Integral {cx cy : C} {X Y : List R2} {pc : Nat → Rat → Rat} (kind : Int) (x y : R2) (hx : Ls elP cx X) (hy : Ls elP cy Y) (hm : valE kind X Y = 0 → semC Tryz.prog n_table_made [.agg [iC kind, cx, cy]] (MadeK (X.map rt) (Y.map rt) pc)) : semC Tryz.prog n_table_Integral [.agg [iC kind, cx, cy], .agg (ratC x), .agg (ratC y)] (PairK (integR pc kind X Y x y)) := by
 refine semC_of_awpF ok_table_Integral rfl (show HFVs [.agg [iC kind, cx, cy], .agg (ratC x), .agg (ratC y)] from ⟨⟨trivial, hx.hf, hy.hf, trivial⟩, HFL_rat _, HFL_rat _, trivial⟩) ?_
 refine go8 ?_
 simp only [spanC, zeroC, ratC, zeroE, zeroS, List.set_cons_zero, List.set_cons_succ, List.nil_append, List.cons_append, List.append_nil, List.replicate_succ, List.replicate_zero, List.length_cons, List.length_nil, splice, List.take_succ_cons, List.take_zero, List.drop_succ_cons, List.drop_zero, List.take_nil, List.drop_nil, Nat.zero_add, Nat.reduceAdd, Nat.reduceMul, Int.reduceToNat, closeB, List.getElem?_cons_succ, List.getElem?_cons_zero]
 have hc : Ls elP (.imm 2 (ratC x ++ ratC y)) [x, y] := .imm (.cons rfl (.one rfl))
 refine semH_of_semC (table_with kind hx hy hc (by simp)) (fun u hu => ?_)
 obtain rfl := hu
 refine go8 ?_
 rw [neq_dec]
 cases h1 : dec (withE kind X Y [x, y] ≠ 0)
 case true =>
  refine go8 ?_
  refine PairK.bad ?_
  unfold integR
  rw [dec_false.2 (dec_true.1 h1)]
  rfl
 have h1 : withE kind X Y [x, y] = 0 := Classical.byContradiction (dec_false.1 h1)
 obtain ⟨h2, h3⟩ := with_zero h1
 have h24 := (val_zero h2).1
 refine go8 ?_
 refine call_C (q_Of (h3 x (by simp))) (fun u hu => ?_)
 obtain ⟨es, rfl, g1⟩ := hu
 obtain ⟨x1, x2, x3, x4, x5, x6, rfl⟩ := id g1.six
 refine go8 ?_
 refine call_C (q_Of (h3 y (by simp))) (fun u hu => ?_)
 obtain ⟨fs, rfl, g2⟩ := hu
 obtain ⟨y1, y2, y3, y4, y5, y6, rfl⟩ := id g2.six
 refine go8 ?_
 refine semH_of_semC (q_Int (g := 0) (by decide)) (fun u hu => ?_)
 obtain ⟨zs, rfl, g3⟩ := hu
 obtain ⟨z1, z2, z3, z4, z5, z6, rfl⟩ := id g3.six
 refine go8 ?_
 simp only [spanC, zeroC, ratC, zeroE, zeroS, List.set_cons_zero, List.set_cons_succ, List.nil_append, List.cons_append, List.append_nil, List.replicate_succ, List.replicate_zero, List.length_cons, List.length_nil, splice, List.take_succ_cons, List.take_zero, List.drop_succ_cons, List.drop_zero, List.take_nil, List.drop_nil, Nat.zero_add, Nat.reduceAdd, Nat.reduceMul, Int.reduceToNat, closeB, List.getElem?_cons_succ, List.getElem?_cons_zero]
 refine call_C (hm h2) (fun u hu => ?_)
 obtain ⟨s, dx, dy, K, rfl, hK, hS⟩ := hu
 refine go8 ?_
 refine call_C (q_Min g1 g2 (by decide)) (fun u hu => ?_)
 obtain ⟨ls, rfl, g4⟩ := hu
 refine go8 ?_
 refine call_C (q_Max g1 g2 (by decide)) (fun u hu => ?_)
 obtain ⟨hs, rfl, g5⟩ := hu
 refine go8 ?_
 refine call_C (table_parts hS hK.1 g4 g5) (fun u hu => ?_)
 obtain ⟨cp, rfl, g6⟩ := hu
 have hll : (partsR pc (X.map rt) (Y.map rt) (mnQ (rt x) (rt y)) (mxQ (rt x) (rt y))).length ≤ 26 := by
  have := partsR_len (pc := pc) (xs := X.map rt) (ys := Y.map rt) (lo := mnQ (rt x) (rt y)) (hi := mxQ (rt x) (rt y))
  rw [List.length_map] at this
  omega
 have hsum : ∀ S : Rat, areaL (partsR pc (X.map rt) (Y.map rt) (mnQ (rt x) (rt y)) (mxQ (rt x) (rt y))) = S → integR pc kind X Y x y = numR (if rt y < rt x then -S else S) := by
  intro S hS
  unfold integR sumR
  rw [dec_true.2 h1, hS]
  rfl
 generalize partsR pc (X.map rt) (Y.map rt) (mnQ (rt x) (rt y)) (mxQ (rt x) (rt y)) = L at g6 hll hsum
 have hcap := arK_cap hK.2
 refine go8 ?_
 refine f_loop (fun w vs H => ∃ (i : Nat) (ss : List C) (b0 b1 b2 : Slot) (R : Hp), vs = [.c (.ptr 3 0), .c (.ptr 4 0), .c (.ptr 5 0), .c (.ptr 6 0), .c cp, i64 L.length, i64 i] ∧ H = b0 :: b1 :: b2 :: .live ⟨[.int .i64 0, .int .i64 0], T_api_Rat, .rw⟩ :: .live ⟨[x1, x2, x3, x4, x5, x6], T_num_Q, .rw⟩ :: .live ⟨[y1, y2, y3, y4, y5, y6], T_num_Q, .rw⟩ :: .live ⟨ss, T_num_Q, .rw⟩ :: R ∧ w = L.length - i ∧ i ≤ L.length ∧ IQ (arK K i) ss (areaL (L.take i))) (by rfl) ⟨0, _, _, _, _, [], rfl, rfl, rfl, by omega, g3.up (by unfold arK; omega)⟩ ?_
 clear g3
 rintro w vs H ⟨i, ss, b0, b1, b2, R, rfl, rfl, rfl, j1, j2⟩
 obtain ⟨s1, s2, s3, s4, s5, s6, rfl⟩ := id j2.six
 refine go8 ?_
 cases hi : compare' Cm.lss (i : Int) (L.length : Int)
 case true =>
  simp [compare'] at hi
  have hk1 := Nat.le_trans (arK_mono (K := K) (show i + 1 ≤ 26 by omega)) hcap
  rw [arK_succ] at hk1
  refine go8 ?_
  refine ld_ls g6 (i := i) hi (by omega) rfl (fun cs hcs => ?_)
  obtain ⟨c, m, av, bv, rfl, p1, p2, p3, p4⟩ := IsPart.is hcs
  obtain ⟨a1, a2, a3, a4, a5, a6, rfl⟩ := id p3.six
  obtain ⟨d1, d2, d3, d4, d5, d6, rfl⟩ := id p4.six
  have l1 := p2.len
  refine go8 ?_
  refine semH_of_semC (qp_Integral p1 (by omega) (by unfold evK at hk1; omega)) (fun u hu => ?_)
  obtain ⟨cf, F, rfl, q1, q2⟩ := hu
  have l2 := q2.len
  have hE := evK_mono (k := K + 1) (m := 2) (show F.length ≤ 5 by omega)
  refine go8 ?_
  refine call_C (qp_Eval q1 p4 (by omega) (by omega)) (fun u hu => ?_)
  obtain ⟨us, rfl, q3⟩ := hu
  refine go8 ?_
  refine call_C (qp_Eval q1 p3 (by omega) (by omega)) (fun u hu => ?_)
  obtain ⟨ws, rfl, q4⟩ := hu
  refine go8 ?_
  refine call_C (q_Sub2 (q3.up hE) (q4.up hE) (by omega)) (fun u hu => ?_)
  obtain ⟨rs, rfl, q5⟩ := hu
  refine go8 ?_
  refine call_C (q_Add2 j2 q5 (by omega)) (fun u hu => ?_)
  obtain ⟨ts, rfl, q6⟩ := hu
  obtain ⟨t1, t2, t3, t4, t5, t6, rfl⟩ := id q6.six
  refine go8 ?_
  rw [addI1 i (by omega)]
  refine l_n (by rfl) (n' := L.length - (i + 1)) (by omega) ⟨i + 1, _, b0, b1, b2, _, rfl, rfl, rfl, by omega, ?_⟩
  rw [areaL_take hi, arK_succ]
  have e : areaL (L.take i) + termP L[i] = areaL (L.take i) + (ev F L[i].2.2 - ev F L[i].2.1) := by
   unfold termP
   rw [q2.ev, q2.ev, prim_eq p2.ev, prim_eq p2.ev]
  rw [e]
  exact q6.up (by omega)
 simp [compare'] at hi
 have ei : i = L.length := by omega
 rw [ei, List.take_length] at j2
 have hk2 := Nat.le_trans (arK_mono (K := K) hll) hcap
 refine go8 ?_
 refine semH_of_semC (q_Cmp2 g2 g1 (by decide)) (fun u hu => ?_)
 obtain rfl := hu
 refine go8 ?_
 rw [cq_lss]
 cases hyx : dec (rt y < rt x)
 case true =>
  refine go8 ?_
  refine semH_of_semC (q_Neg j2 (by omega)) (fun u hu => ?_)
  obtain ⟨ns, rfl, k1⟩ := hu
  obtain ⟨n1, n2, n3, n4, n5, n6, rfl⟩ := id k1.six
  refine go8 ?_
  refine semH_of_semC (table_number k1) (fun u hu => ?_)
  obtain rfl := hu
  refine go8 ?_
  refine PairK.of ?_
  rw [hsum _ rfl, if_pos (dec_true.1 hyx)]
 refine go8 ?_
 refine semH_of_semC (table_number j2) (fun u hu => ?_)
 obtain rfl := hu
 refine go8 ?_
 refine PairK.of ?_
 rw [hsum _ rfl, if_neg (dec_false.1 hyx)]
end Go.Proofs.YtjncgcnofiaiaaaGreat

set_option linter.unusedVariables false
set_option linter.unusedSimpArgs false
namespace Go.Proofs.YtjncgcnofiaiaaaGreat
open Go.RowKit
set_option maxRecDepth 20000
def exX : List R2 := [(0, 1), (2, 1)]
def exY : List R2 := [(0, 1), (4, 1)]
theorem ex_x : exX.map rt = [0, 2] := by decide +kernel
theorem ex_y : exY.map rt = [0, 4] := by decide +kernel
theorem israt_int {n : Int} (h : -1000000000000 ≤ n) (h2 : n ≤ 1000000000000) : IsRat n 1 := ⟨by decide, by decide, h, h2, by simp⟩
theorem ex_valid : valE 1 exX exY = 0 := by
 refine val_ok (by decide) ⟨by decide, by decide, by decide, by decide, ?_, ?_, ?_⟩
 ·intro p hp
  simp [exX] at hp
  rcases hp with rfl | rfl <;> exact israt_int (by decide) (by decide)
 ·intro p hp
  simp [exY] at hp
  rcases hp with rfl | rfl <;> exact israt_int (by decide) (by decide)
 ·rw [ex_x]
  intro i hi
  have : i = 0 := by simp at hi; omega
  subst this
  show (0 : Rat) < 2
  decide +kernel
theorem num_int {q : Rat} {n : Int} (h : q = (n : Rat)) (h1 : -1000000000000 ≤ n) (h2 : n ≤ 1000000000000) : numR q = ((n, 1), 0) := by
 subst h
 unfold numR fitR
 rw [rp_int, dec_true.2 ⟨h1, h2, (by decide : (1 : Int) ≤ 1000000000000)⟩]
 rfl
theorem ex_value : valueR (lineP (exX.map rt) (exY.map rt)) 1 exX exY (1, 2) = ((1, 1), 0) := by
 have hv : Valid [((1, 2) : R2)] := by
  intro p hp
  simp at hp
  subst hp
  exact ⟨by decide, by decide, by decide, by decide, by decide⟩
 unfold valueR
 rw [dec_true.2 (with_ok ex_valid hv), ex_x, ex_y]
 exact num_int (n := 1) (by decide +kernel) (by decide) (by decide)
theorem ex_line : ∀ x, ev [0, 2] x = lineP [0, 2] [0, 4] 0 x := by
 intro x
 have h : slope [0, 2] [0, 4] 0 = 2 := by decide +kernel
 unfold lineP
 rw [h]
 simp only [ev, List.getD_cons_zero]
 grind
theorem ex_parts : partsR (lineP [0, 2] [0, 4]) [0, 2] [0, 4] 0 2 = [(lineP [0, 2] [0, 4] 0, 0, 2)] := by
 have c0 : clip (fun _ => ([0, 4] : List Rat).getD 0 0) 0 (([0, 2] : List Rat).getD 0 0) 0 2 = [] := by
  unfold clip
  rw [if_neg (by decide +kernel)]
 have c1 : clip (fun _ => ([0, 4] : List Rat).getD (([0, 2] : List Rat).length - 1) 0) (([0, 2] : List Rat).getD (([0, 2] : List Rat).length - 1) 0) 2 0 2 = [] := by
  unfold clip
  rw [if_neg (by decide +kernel)]
 have c2 : clip (lineP [0, 2] [0, 4] 0) (([0, 2] : List Rat).getD 0 0) (([0, 2] : List Rat).getD (0 + 1) 0) 0 2 = [(lineP [0, 2] [0, 4] 0, 0, 2)] := by
  unfold clip
  rw [if_pos (by decide +kernel)]
  have e1 : mxQ (([0, 2] : List Rat).getD 0 0) 0 = 0 := by decide +kernel
  have e2 : mnQ (([0, 2] : List Rat).getD (0 + 1) 0) 2 = 2 := by decide +kernel
  rw [e1, e2]
 unfold partsR
 rw [c0, c1]
 simp only [partsTo, List.length_cons, List.length_nil, Nat.zero_add, Nat.reduceAdd, Nat.reduceSub, List.nil_append, List.append_nil]
 exact c2
theorem ex_area : sumR (lineP [0, 2] [0, 4]) [0, 2] [0, 4] 0 2 = ((4 : Int) : Rat) := by
 unfold sumR
 have e1 : mnQ 0 2 = 0 := by decide +kernel
 have e2 : mxQ 0 2 = 2 := by decide +kernel
 rw [if_neg (by decide +kernel), e1, e2, ex_parts]
 simp only [areaL, termP]
 rw [← prim_eq ex_line, ← prim_eq ex_line]
 decide +kernel
theorem ex_integral : integR (lineP (exX.map rt) (exY.map rt)) 1 exX exY (0, 1) (2, 1) = ((4, 1), 0) := by
 have hv : Valid [((0, 1) : R2), (2, 1)] := by
  intro p hp
  simp at hp
  rcases hp with rfl | rfl <;> exact israt_int (by decide) (by decide)
 unfold integR
 rw [dec_true.2 (with_ok ex_valid hv), ex_x, ex_y]
 have e1 : rt (0, 1) = 0 := by decide +kernel
 have e2 : rt (2, 1) = 2 := by decide +kernel
 rw [e1, e2]
 exact num_int ex_area (by decide) (by decide)
def TrueK (u : V) : Prop := u = .c (.bool true)
theorem TrueK.fz {H : Hp} : ∃ d, FzV H (.c (.bool true)) d ∧ TrueK d := ⟨_, .c (.hf trivial), rfl⟩
attribute [local irreducible] compare' semH semC qLen qNil qIad qSlc qIdx ldBox ldCells stBox appX appI slcX awpF awpOpsF awpDF xopF xopDF qval lval seqQ blockQ loopQ bodyF retKF cnd arith IntKind.wrap
theorem law24_known_1 (n : Int) : semC Tryz.prog n_law24_known_1 [i64 n] (EqK (.agg (ratC (n, 1)))) := by
 refine semC_of_awpF ok_law24_known_1 rfl (show HFVs [i64 n] from ⟨trivial, trivial⟩) ?_
 refine go5 ?_
 simp only [spanC, zeroC, ratC, zeroE, zeroS, List.set_cons_zero, List.set_cons_succ, List.nil_append, List.cons_append, List.append_nil, List.replicate_succ, List.replicate_zero, List.length_cons, List.length_nil, splice, List.take_succ_cons, List.take_zero, List.drop_succ_cons, List.drop_zero, List.take_nil, List.drop_nil, Nat.zero_add, Nat.reduceAdd, Nat.reduceMul, Int.reduceToNat, closeB, List.getElem?_cons_succ, List.getElem?_cons_zero]
 exact ⟨_, .agg (.hf (HFL_rat (n, 1))), rfl⟩
theorem law24_known : semC Tryz.prog n_law24_known [] TrueK := by
 refine semC_of_awpF ok_law24_known rfl (show HFVs [] from trivial) ?_
 refine go8 ?_
 refine semH_of_semC (law24_known_1 0) (fun u hu => ?_)
 obtain rfl := hu
 refine go8 ?_
 refine semH_of_semC (law24_known_1 2) (fun u hu => ?_)
 obtain rfl := hu
 refine go8 ?_
 refine semH_of_semC (law24_known_1 0) (fun u hu => ?_)
 obtain rfl := hu
 refine go8 ?_
 refine semH_of_semC (law24_known_1 4) (fun u hu => ?_)
 obtain rfl := hu
 refine go8 ?_
 simp only [spanC, zeroC, ratC, zeroE, zeroS, List.set_cons_zero, List.set_cons_succ, List.nil_append, List.cons_append, List.append_nil, List.replicate_succ, List.replicate_zero, List.length_cons, List.length_nil, splice, List.take_succ_cons, List.take_zero, List.drop_succ_cons, List.drop_zero, List.take_nil, List.drop_nil, Nat.zero_add, Nat.reduceAdd, Nat.reduceMul, Int.reduceToNat, closeB, List.getElem?_cons_succ, List.getElem?_cons_zero]
 have hx : Ls elP (.imm 2 (ratC (0, 1) ++ ratC (2, 1))) exX := .imm (.cons rfl (.one rfl))
 have hy : Ls elP (.imm 2 (ratC (0, 1) ++ ratC (4, 1))) exY := .imm (.cons rfl (.one rfl))
 refine semH_of_semC (table_Value 1 (1, 2) hx hy (table_made_line hx hy)) (fun u hu => ?_)
 rw [ex_value] at hu
 obtain rfl := hu
 refine go8 ?_
 refine call_C (law24_known_1 0) (fun u hu => ?_)
 obtain rfl := hu
 refine go8 ?_
 refine call_C (law24_known_1 2) (fun u hu => ?_)
 obtain rfl := hu
 refine go8 ?_
 refine call_C (table_Integral 1 (0, 1) (2, 1) hx hy (table_made_line hx hy)) (fun u hu => ?_)
 rw [ex_integral] at hu
 obtain rfl := hu
 refine go8 ?_
 refine call_C (law24_known_1 1) (fun u hu => ?_)
 obtain rfl := hu
 refine go8 ?_
 rw [show compare' Cm.eql (((1, 1), 0) : R2 × Int).snd 0 = true by simp [compare']]
 refine go8 ?_
 refine call_C (law24_known_1 4) (fun u hu => ?_)
 obtain rfl := hu
 refine go8 ?_
 rw [show compare' Cm.eql (((4, 1), 0) : R2 × Int).snd 0 = true by simp [compare']]
 refine go8 ?_
 exact TrueK.fz
end Go.Proofs.YtjncgcnofiaiaaaGreat

set_option linter.unusedVariables false
set_option linter.unusedSimpArgs false
namespace Go.Proofs.YtjncgcnofiaiaaaGreat
open Go.RowKit
set_option maxRecDepth 20000
theorem bd_div {n d : Int} {q : Rat} {k : Nat} (hd : d ≠ 0) (e : Rat.divInt n d = q) (h1 : Sz k n) (h2 : Sz k d) : Bd k (rp q) := by
 have hdq : ((q.den : Nat) : Int) ≠ 0 := by exact_mod_cast q.den_nz
 have e2 : q.num * d = n * (q.den : Int) := by
  have : Rat.divInt q.num q.den = Rat.divInt n d := by rw [e]; exact Rat.num_divInt_den q
  exact (Rat.divInt_eq_divInt_iff hdq hd).1 this
 have e3 : q.num.natAbs * d.natAbs = n.natAbs * q.den := by
  have := congrArg Int.natAbs e2
  rwa [Int.natAbs_mul, Int.natAbs_mul, Int.natAbs_natCast] at this
 have c := q.reduced
 have hd' : 0 < d.natAbs := Int.natAbs_pos.2 hd
 have l1 : q.num.natAbs ≤ n.natAbs := by
  rcases Nat.eq_zero_or_pos n.natAbs with h0 | h0
  ·rw [h0, Nat.zero_mul] at e3
   rcases Nat.mul_eq_zero.1 e3 with h | h
   ·omega
   ·omega
  ·exact Nat.le_of_dvd h0 (c.dvd_of_dvd_mul_right ⟨d.natAbs, e3.symm⟩)
 have l2 : q.den ≤ d.natAbs := Nat.le_of_dvd hd' (c.symm.dvd_of_dvd_mul_left ⟨n.natAbs, by rw [e3, Nat.mul_comm]⟩)
 exact ⟨Nat.lt_of_le_of_lt l1 h1, Nat.lt_of_le_of_lt (by simpa [rp] using l2) h2, rp_pos q⟩
theorem bq_add {k m : Nat} {a b : Rat} (h1 : Bd k (rp a)) (h2 : Bd m (rp b)) : Bd (k + m + 1) (rp (a + b)) :=
 bd_div (dd_ne a b) (rat_add a b) ((h1.n.mulT h2.d).add2 ((h2.n.mulT h1.d).up (show m + k ≤ k + m by omega)) (Nat.le_refl _)) ((h1.d.mulT h2.d).up (by omega))
theorem bq_sub {k m : Nat} {a b : Rat} (h1 : Bd k (rp a)) (h2 : Bd m (rp b)) : Bd (k + m + 1) (rp (a - b)) :=
 bd_div (dd_ne a b) (rat_sub a b) ((h1.n.mulT h2.d).add2 ((h2.n.neg.mulT h1.d).up (show m + k ≤ k + m by omega)) (Nat.le_refl _)) ((h1.d.mulT h2.d).up (by omega))
theorem bq_mul {k m : Nat} {a b : Rat} (h1 : Bd k (rp a)) (h2 : Bd m (rp b)) : Bd (k + m) (rp (a * b)) :=
 bd_div (dd_ne a b) (rat_mul a b) (h1.n.mulT h2.n) (h1.d.mulT h2.d)
theorem bq_div {k m : Nat} {a b : Rat} (h1 : Bd k (rp a)) (h2 : Bd m (rp b)) (h0 : b ≠ 0) : Bd (k + m) (rp (a / b)) :=
 bd_div (Int.mul_ne_zero (Int.ne_of_gt (rp_pos a)) (num_ne h0)) (rat_div a b h0) (h1.n.mulT h2.d) (h1.d.mulT h2.n)
theorem bq_int {g : Int} (h : g.natAbs < 4294967296) : Bd 1 (rp (g : Rat)) := by
 rw [rp_int]
 exact one_bd (k := 0) h
def curve (xs ys : List Rat) (k : Nat) : Rat := (slope xs ys (k + 1) - slope xs ys k) / (xs.getD (k + 2) 0 - xs.getD k 0)
def paraS (xs ys : List Rat) (k i : Nat) : Rat := slope xs ys k + curve xs ys k * ((xs.getD i 0 - xs.getD k 0) + (xs.getD i 0 - xs.getD (k + 1) 0))
def smoothS (xs ys : List Rat) (i : Nat) : Rat := if xs.length = 1 then 0 else if xs.length = 2 then slope xs ys 0 else paraS xs ys (min (i - 1) (xs.length - 3)) i
def keepS (xs ys : List Rat) (i : Nat) : Rat := if xs.length = 1 then 0 else if i = 0 then slope xs ys 0 else if i = xs.length - 1 then slope xs ys (xs.length - 2) else if slope xs ys (i - 1) * slope xs ys i ≤ 0 then 0 else 2 * slope xs ys (i - 1) * slope xs ys i / (slope xs ys (i - 1) + slope xs ys i)
def BdL (k : Nat) (l : List Rat) : Prop := ∀ i, i < l.length → Bd k (rp (l.getD i 0))
theorem Rises.lt {l : List Rat} (h : Rises l) {i j : Nat} (hij : i < j) (hj : j < l.length) : l.getD i 0 < l.getD j 0 := by
 induction j with
 | zero => omega
 | succ j ih =>
  have h2 := h.get hj
  rcases Nat.lt_or_ge i j with h3 | h3
  ·have := ih h3 (by omega)
   grind
  ·have : i = j := by omega
   subst this
   exact h2
theorem bd_slope {xs ys : List Rat} {k i : Nat} (hx : BdL k xs) (hy : BdL k ys) (hr : Rises xs) (hlen : ys.length = xs.length) (hi : i + 1 < xs.length) : Bd (4 * k + 2) (rp (slope xs ys i)) := by
 have := bq_div (bq_sub (hy (i + 1) (by omega)) (hy i (by omega))) (bq_sub (hx (i + 1) hi) (hx i (by omega))) (sub_ne (hr.get hi))
 exact this.to (by omega)
theorem bd_para {xs ys : List Rat} {k i a : Nat} (hx : BdL k xs) (hy : BdL k ys) (hr : Rises xs) (hlen : ys.length = xs.length) (ha : a + 2 < xs.length) (hi : i < xs.length) : Bd (18 * k + 13) (rp (paraS xs ys a i)) := by
 have h1 := bd_slope hx hy hr hlen (i := a) (by omega)
 have h2 := bd_slope hx hy hr hlen (i := a + 1) (by omega)
 have h3 := bq_div (bq_sub h2 h1) (bq_sub (hx (a + 2) ha) (hx a (by omega))) (sub_ne (hr.lt (show a < a + 2 by omega) ha))
 have h4 := bq_add (bq_sub (hx i hi) (hx a (by omega))) (bq_sub (hx i hi) (hx (a + 1) (by omega)))
 exact (bq_add h1 (bq_mul h3 h4)).to (by omega)
theorem bd_zero {k : Nat} : Bd (k + 1) (rp 0) := by
 have := bq_int (g := 0) (by decide)
 exact this.to (by omega)
theorem bd_smooth {xs ys : List Rat} {k i : Nat} (hx : BdL k xs) (hy : BdL k ys) (hr : Rises xs) (hlen : ys.length = xs.length) (hi : i < xs.length) : Bd (18 * k + 13) (rp (smoothS xs ys i)) := by
 unfold smoothS
 split
 ·exact bd_zero
 ·split
  ·exact (bd_slope hx hy hr hlen (i := 0) (by omega)).to (by omega)
  ·exact bd_para hx hy hr hlen (by omega) hi
theorem keep_ne {a b : Rat} (h : ¬ a * b ≤ 0) : a + b ≠ 0 := by
 intro e
 have : b = -a := by grind
 subst this
 apply h
 have h2 : 0 ≤ a * a := by
  rcases Rat.le_total (a := 0) (b := a) with h3 | h3
  ·exact Rat.mul_nonneg h3 h3
  ·have h4 : 0 ≤ -a := by grind
   have := Rat.mul_nonneg h4 h4
   grind
 grind
theorem bd_keep {xs ys : List Rat} {k i : Nat} (hx : BdL k xs) (hy : BdL k ys) (hr : Rises xs) (hlen : ys.length = xs.length) (hi : i < xs.length) : Bd (18 * k + 13) (rp (keepS xs ys i)) := by
 unfold keepS
 split
 ·exact bd_zero
 split
 ·exact (bd_slope hx hy hr hlen (i := 0) (by omega)).to (by omega)
 split
 ·exact (bd_slope hx hy hr hlen (i := xs.length - 2) (by omega)).to (by omega)
 split
 ·exact bd_zero
 rename_i h
 have h1 := bd_slope hx hy hr hlen (i := i - 1) (by omega)
 have h2 := bd_slope hx hy hr hlen (i := i) (by omega)
 have h3 := bq_div (bq_mul (bq_mul (bq_int (g := 2) (by decide)) h1) h2) (bq_add h1 h2) (keep_ne h)
 exact h3.to (by omega)
def cubA (xs ys : List Rat) (m : Nat → Rat) (i : Nat) : Rat := (3 * slope xs ys i - 2 * m i - m (i + 1)) / (xs.getD (i + 1) 0 - xs.getD i 0)
def cubB (xs ys : List Rat) (m : Nat → Rat) (i : Nat) : Rat := (m i + m (i + 1) - 2 * slope xs ys i) / ((xs.getD (i + 1) 0 - xs.getD i 0) * (xs.getD (i + 1) 0 - xs.getD i 0))
def cubP (m : Nat → Rat) (xs ys : List Rat) (i : Nat) (x : Rat) : Rat := ys.getD i 0 + m i * (x - xs.getD i 0) + cubA xs ys m i * (x - xs.getD i 0) ^ 2 + cubB xs ys m i * (x - xs.getD i 0) ^ 3
end Go.Proofs.YtjncgcnofiaiaaaGreat

set_option linter.unusedVariables false
set_option linter.unusedSimpArgs false
namespace Go.Proofs.YtjncgcnofiaiaaaGreat
open Go.RowKit
set_option maxRecDepth 20000
def der (l : List Rat) : List Rat := (List.range (l.length - 1)).map fun i => l.getD (i + 1) 0 * (((i + 1 : Nat) : Int) : Rat)
theorem der_ext {l m : List Rat} (h : ∀ x, ev l x = ev m x) (x : Rat) : ev (der l) x = ev (der m) x := by
 have hc := coef_eq h
 have key : ∀ (l : List Rat) (n : Nat), l.length - 1 ≤ n → ev ((List.range n).map fun i => l.getD (i + 1) 0 * (((i + 1 : Nat) : Int) : Rat)) x = ev (der l) x := fun l n hn => by
  obtain ⟨d, rfl⟩ := Nat.le.dest hn
  exact ev_pad x (fun j hj => by rw [getD_ge (by omega), Rat.zero_mul]) d
 rw [← key l (l.length + m.length) (by omega), ← key m (l.length + m.length) (by omega)]
 congr 1
 apply List.map_congr_left
 intro i _
 rw [hc (i + 1)]
theorem row_three {xs : List Rat} {i : Nat} (hi : i + 2 < xs.length) : (xs.drop i).take 3 = [xs.getD i 0, xs.getD (i + 1) 0, xs.getD (i + 2) 0] := by
 apply List.ext_getElem
 ·simp; omega
 ·intro j h1 h2
  rw [List.getElem_take, List.getElem_drop]
  have : j < 3 := by simpa using h2
  match j, this with
  | 0, _ => simp [show i < xs.length by omega]
  | 1, _ => simp [show i + 1 < xs.length by omega]
  | 2, _ => simp [hi]
theorem inv_neg {a b : Rat} (h : b - a ≠ 0) : (a - b)⁻¹ = -(b - a)⁻¹ := by
 have n2 : a - b ≠ 0 := fun e => h (by grind)
 have h1 : (b - a) * (b - a)⁻¹ = 1 := Rat.mul_inv_cancel _ h
 have h2 : (a - b) * (a - b)⁻¹ = 1 := Rat.mul_inv_cancel _ n2
 generalize (b - a)⁻¹ = u at *
 generalize (a - b)⁻¹ = v at *
 grind
theorem lag_three {a b c d e f x : Rat} (h1 : b - a ≠ 0) (h2 : c - b ≠ 0) (h3 : c - a ≠ 0) :
  lagTo [a, b, c] [d, e, f] x 3 = d + (e - d) / (b - a) * (x - a) + ((f - e) / (c - b) - (e - d) / (b - a)) / (c - a) * ((x - a) * (x - b)) := by
 simp only [lagTo, prodTo, List.length_cons, List.length_nil, List.getD_cons_zero, List.getD_cons_succ, if_pos, Nat.zero_add, Nat.reduceAdd, if_false, Nat.reduceEqDiff, Nat.one_ne_zero, Nat.zero_ne_one]
 rw [inv_neg h1, inv_neg h2, inv_neg h3, Rat.div_def, Rat.div_def, Rat.div_def]
 have e1 := Rat.mul_inv_cancel _ h1
 have e2 := Rat.mul_inv_cancel _ h2
 have e3 := Rat.mul_inv_cancel _ h3
 generalize (b - a)⁻¹ = u at *
 generalize (c - b)⁻¹ = v at *
 generalize (c - a)⁻¹ = w at *
 grind
theorem der_two (p q x : Rat) : ev (der [p, q]) x = q := by
 simp only [der, List.length_cons, List.length_nil, Nat.reduceAdd, Nat.reduceSub, List.range_succ, List.range_zero, List.map_append, List.map_cons, List.map_nil, List.getD_cons_succ, List.getD_cons_zero, List.nil_append, ev]
 grind
theorem der_three (p q r x : Rat) : ev (der [p, q, r]) x = q + 2 * r * x := by
 simp only [der, List.length_cons, List.length_nil, Nat.reduceAdd, Nat.reduceSub, List.range_succ, List.range_zero, List.map_append, List.map_cons, List.map_nil, List.getD_cons_succ, List.getD_cons_zero, List.nil_append, List.cons_append, ev]
 grind
theorem smooth_two {xs ys m : List Rat} {x : Rat} (hr : Rises xs) (hlen : ys.length = xs.length) (h2 : xs.length = 2) (h : ∀ x, ev m x = lagTo ((xs.drop 0).take 2) ((ys.drop 0).take 2) x 2) : ev (der m) x = slope xs ys 0 := by
 have e : ∀ x, ev m x = ev [ys.getD 0 0 - slope xs ys 0 * xs.getD 0 0, slope xs ys 0] x := fun x => by
  rw [h, line_through (hr.get (by omega)) (by omega) hlen]
  unfold lineP
  simp only [ev]
  grind
 rw [der_ext e, der_two]
theorem smooth_three {xs ys m : List Rat} {k i : Nat} (hr : Rises xs) (hlen : ys.length = xs.length) (hk : k + 2 < xs.length) (h : ∀ x, ev m x = lagTo ((xs.drop k).take 3) ((ys.drop k).take 3) x 3) : ev (der m) (xs.getD i 0) = paraS xs ys k i := by
 have e : ∀ x, ev m x = ev [ys.getD k 0 - slope xs ys k * xs.getD k 0 + curve xs ys k * (xs.getD k 0 * xs.getD (k + 1) 0), slope xs ys k - curve xs ys k * (xs.getD k 0 + xs.getD (k + 1) 0), curve xs ys k] x := fun x => by
  rw [h, row_three hk, row_three (by omega), lag_three (sub_ne (hr.get (by omega))) (sub_ne (hr.get (by omega))) (sub_ne (hr.lt (show k < k + 2 by omega) hk))]
  unfold curve slope
  simp only [ev, show k + 1 + 1 = k + 2 from rfl]
  generalize ((ys.getD (k + 2) 0 - ys.getD (k + 1) 0) / (xs.getD (k + 2) 0 - xs.getD (k + 1) 0) - (ys.getD (k + 1) 0 - ys.getD k 0) / (xs.getD (k + 1) 0 - xs.getD k 0)) / (xs.getD (k + 2) 0 - xs.getD k 0) = w
  generalize (ys.getD (k + 1) 0 - ys.getD k 0) / (xs.getD (k + 1) 0 - xs.getD k 0) = v
  grind
 rw [der_ext e, der_three]
 unfold paraS
 generalize slope xs ys k = s
 generalize curve xs ys k = c
 grind
def hermA (a b : Rat) : Nat → Nat → Rat := fun i j => if i % 2 = 0 then (if i = 0 then a else b) ^ j else if j = 0 then 0 else (if i = 1 then a else b) ^ (j - 1) * ((j : Int) : Rat)
def hermB (y0 m0 y1 m1 : Rat) : Nat → Rat := fun i => if i = 0 then y0 else if i = 1 then m0 else if i = 2 then y1 else m1
def hermS (a y0 m0 c d : Rat) : Nat → Rat := fun j => if j = 0 then y0 - m0 * a + c * a ^ 2 - d * a ^ 3 else if j = 1 then m0 - 2 * c * a + 3 * d * a ^ 2 else if j = 2 then c - 3 * d * a else d
theorem herm_solves_iff {a b y0 m0 y1 m1 : Rat} {v : Nat → Rat} : Solves 4 4 (besideA (hermA a b) (hermB y0 m0 y1 m1) 4) v ↔
  v 0 + a * v 1 + a ^ 2 * v 2 + a ^ 3 * v 3 = y0 ∧ v 1 + 2 * a * v 2 + 3 * a ^ 2 * v 3 = m0 ∧ v 0 + b * v 1 + b ^ 2 * v 2 + b ^ 3 * v 3 = y1 ∧ v 1 + 2 * b * v 2 + 3 * b ^ 2 * v 3 = m1 := by
 have all : (∀ i, i < 4 → sumTo (fun j => besideA (hermA a b) (hermB y0 m0 y1 m1) 4 i j * v j) 4 = besideA (hermA a b) (hermB y0 m0 y1 m1) 4 i 4) ↔
   (∀ i, i < 4 → sumTo (fun j => hermA a b i j * v j) 4 = hermB y0 m0 y1 m1 i) := by
  constructor
  ·intro h i hi
   have := h i hi
   simpa [besideA, sumTo] using this
  ·intro h i hi
   have := h i hi
   simpa [besideA, sumTo] using this
 unfold Solves
 rw [all]
 constructor
 ·intro h
  have h0 := h 0 (by omega)
  have h1 := h 1 (by omega)
  have h2 := h 2 (by omega)
  have h3 := h 3 (by omega)
  simp [sumTo, hermA, hermB] at h0 h1 h2 h3
  refine ⟨?_, ?_, ?_, ?_⟩ <;> grind
 ·rintro ⟨h0, h1, h2, h3⟩ i hi
  match i, hi with
  | 0, _ => simp [sumTo, hermA, hermB]; grind
  | 1, _ => simp [sumTo, hermA, hermB]; grind
  | 2, _ => simp [sumTo, hermA, hermB]; grind
  | 3, _ => simp [sumTo, hermA, hermB]; grind
end Go.Proofs.YtjncgcnofiaiaaaGreat

set_option linter.unusedVariables false
set_option linter.unusedSimpArgs false
namespace Go.Proofs.YtjncgcnofiaiaaaGreat
open Go.RowKit
set_option maxRecDepth 20000
theorem herm_solves {a b y0 m0 y1 m1 s c d : Rat} (h : b - a ≠ 0) (hs : s = (y1 - y0) / (b - a)) (hc : c = (3 * s - 2 * m0 - m1) / (b - a)) (hd : d = (m0 + m1 - 2 * s) / ((b - a) * (b - a))) :
  Solves 4 4 (besideA (hermA a b) (hermB y0 m0 y1 m1) 4) (hermS a y0 m0 c d) ∧ ∀ v, Solves 4 4 (besideA (hermA a b) (hermB y0 m0 y1 m1) 4) v → ∀ q, q < 4 → v q = hermS a y0 m0 c d q := by
 have h2 : (b - a) * (b - a) ≠ 0 := fun e => by
  rcases Rat.mul_eq_zero.1 e with e | e <;> exact h e
 have e1 := Rat.mul_inv_cancel _ h
 have e2 := Rat.mul_inv_cancel _ h2
 rw [Rat.div_def] at hs hc hd
 generalize (b - a)⁻¹ = u at *
 generalize ((b - a) * (b - a))⁻¹ = t at *
 have et : t = u * u := by grind
 subst et
 have hw : b = a + (b - a) := by grind
 generalize b - a = w at *
 subst hw
 subst hs hc hd
 constructor
 ·rw [herm_solves_iff]
  simp only [hermS, if_true, Nat.one_ne_zero, if_false, Nat.reduceEqDiff]
  refine ⟨?_, ?_, ?_, ?_⟩ <;> grind
 ·intro v hv
  rw [herm_solves_iff] at hv
  obtain ⟨v0, v1, v2, v3⟩ := hv
  have k3 : w ^ 3 * v 3 = (m0 + m1) * w - 2 * (y1 - y0) := by grind
  have k3' : v 3 = (m0 + m1 - 2 * ((y1 - y0) * u)) * (u * u) := by grind
  have k2 : w * v 2 * 2 = m1 - m0 - 3 * ((a + w) ^ 2 - a ^ 2) * v 3 := by grind
  have k2' : v 2 = (3 * ((y1 - y0) * u) - 2 * m0 - m1) * u - 3 * v 3 * a := by grind
  have k1' : v 1 = m0 - 2 * a * v 2 - 3 * a ^ 2 * v 3 := by
   clear k3 k3' k2 k2' v0 v2 v3 e1 e2 h h2
   grind
  have k0' : v 0 = y0 - a * v 1 - a ^ 2 * v 2 - a ^ 3 * v 3 := by
   clear k3 k3' k2 k2' k1' v1 v2 v3 e1 e2 h h2
   grind
  clear v0 v1 v2 v3 k3 k2 e1 e2 h h2
  have hh : v 3 = hermS a y0 m0 ((3 * ((y1 - y0) * u) - 2 * m0 - m1) * u) ((m0 + m1 - 2 * ((y1 - y0) * u)) * (u * u)) 3 := k3'
  generalize (m0 + m1 - 2 * ((y1 - y0) * u)) * (u * u) = d at *
  generalize (3 * ((y1 - y0) * u) - 2 * m0 - m1) * u = c at *
  rw [k3'] at k2' k1' k0'
  rw [k2'] at k1' k0'
  rw [k1'] at k0'
  intro q hq
  match q, hq with
  | 0, _ =>
   rw [k0']
   simp only [hermS, if_true]
   all_goals grind
  | 1, _ =>
   rw [k1']
   simp only [hermS, if_true, Nat.one_ne_zero, if_false]
   all_goals grind
  | 2, _ =>
   rw [k2']
   simp only [hermS, if_true, Nat.reduceEqDiff, if_false]
   all_goals grind
  | 3, _ => exact hh
theorem herm_ev {a y0 m0 c d x : Rat} : ev ((List.range 4).map (hermS a y0 m0 c d)) x = y0 + m0 * (x - a) + c * (x - a) ^ 2 + d * (x - a) ^ 3 := by
 rw [show List.range 4 = [0, 1, 2, 3] from rfl]
 simp only [List.map_cons, List.map_nil, ev, hermS, if_true, Nat.one_ne_zero, if_false, Nat.reduceEqDiff]
 grind
end Go.Proofs.YtjncgcnofiaiaaaGreat

set_option linter.unusedVariables false
set_option linter.unusedSimpArgs false
namespace Go.Proofs.YtjncgcnofiaiaaaGreat
open Go.RowKit
set_option maxRecDepth 20000
theorem Els.bdR {k : Nat} : ∀ {l : List Rat} {ds : List C}, Els (elR k) ds l → BdL k l := by
 intro l ds h i hi
 obtain ⟨cs, r, h1, _⟩ := h.get hi
 rw [getD_lt hi]
 exact (show IR k cs l[i] from h1).bd
theorem Ls.bdR {k : Nat} {c : C} {l : List Rat} (h : Ls (elR k) c l) : BdL k l := h.els.bdR
theorem IR.tight {k m : Nat} {cs : List C} {q : Rat} (h : IR k cs q) (hb : Bd m (rp q)) : IR m cs q := ⟨h.is, hb⟩
structure IsPrime (p m : List Rat) : Prop where
 ev : ∀ x, ev m x = ev (der p) x
 len : m.length ≤ p.length - 1
 top : Top m
theorem der_len {p : List Rat} : (der p).length = p.length - 1 := by simp [der]
theorem der_get {p : List Rat} {i : Nat} (h : i < (der p).length) : (der p)[i] = p.getD (i + 1) 0 * (((i + 1 : Nat) : Int) : Rat) := by simp [der]
theorem Out.close {α : Type} {E : El α} {el : TypeId} {m : Nat} {H : Hp} {c : C} {l : List α} (h : Out E el m H c l) : ∃ bs d, Fz (· = .ro) (closeB H bs) c d ∧ Ls E d l := by
 cases h with
 | nil => exact ⟨[], _, .hf trivial, .nil⟩
 | sl hm hb hn hc h =>
  rename_i b n co cells ds
  subst hn
  refine ⟨[b], _, .sl (closeB_get (List.mem_cons_self) hb) rfl (by simp) ?_, .imm h⟩
  simp only [List.drop_zero]
  rw [hc]
  exact .hf h.hf
def sgR (q : Rat) : Int := sgn (rp q).1
theorem sgR_cases (q : Rat) : (sgR q = -1 ∧ q < 0) ∨ (sgR q = 0 ∧ q = 0) ∨ (sgR q = 1 ∧ 0 < q) := by
 unfold sgR sgn rp
 simp only
 rcases Int.lt_trichotomy q.num 0 with h | h | h
 ·left
  exact ⟨by rw [if_pos h], Rat.not_le.1 (fun h2 => by have := Rat.num_nonneg.2 h2; omega)⟩
 ·right; left
  exact ⟨by rw [if_neg (by omega), if_pos h], Rat.num_eq_zero.1 h⟩
 ·right; right
  exact ⟨by rw [if_neg (by omega), if_neg (by omega)], by
   have h2 : 0 ≤ q := Rat.num_nonneg.1 (by omega)
   have h3 : q ≠ 0 := fun e => by rw [e] at h; exact absurd h (by decide)
   grind⟩
attribute [local irreducible] compare' semH semC qLen qNil qIad qSlc qIdx ldBox ldCells stBox appX appI slcX awpF awpOpsF awpDF xopF xopDF qval lval seqQ blockQ loopQ bodyF retKF cnd arith IntKind.wrap
theorem ref01_Q_Sign {k : Nat} {cs : List C} {q : Rat} (hx : IR k cs q) : semC Tryz.prog n_ref01_Q_Sign [.agg cs] (IntK (sgR q)) := by
 refine semC_of_awpF ok_ref01_Q_Sign rfl (show HFVs [.agg cs] from ⟨hx.hf, trivial⟩) ?_
 obtain ⟨a, b, c, d, x, rfl, h1, h2, e⟩ := hx.is.four
 obtain ⟨c1, l, mi, h3, hw, hn, hm, hz⟩ := h1.two
 cases h3
 refine go5 ?_
 refine semH_of_semC (ref01_whole_isNought h1) (fun u hu => ?_)
 obtain ⟨z, rfl, hz2⟩ := hu
 unfold sgR
 cases z
 case true =>
  rw [hz2.1 rfl]
  refine go5 ?_
  exact IntK.fz
 have hne : (rp q).1 ≠ 0 := fun e => absurd (hz2.2 e) (by decide)
 cases b
 ·have : sgn (rp q).1 = 1 := by
   rw [hz] at hne ⊢
   simp only [amt, cond_false] at hne ⊢
   exact sgn_pos (by omega)
  rw [this]
  refine go5 ?_
  exact IntK.fz
 ·have : sgn (rp q).1 = -1 := by
   rw [hz] at hne ⊢
   simp only [amt, cond_true] at hne ⊢
   exact sgn_lt (by omega)
  rw [this]
  refine go5 ?_
  exact IntK.fz
theorem r_Pow {k : Nat} {cs : List C} {x : Rat} (n : Nat) (hx : IR k cs x) (hn : n < 1024) (hk : n * k + 1 ≤ 134217727) : semC Tryz.prog n_ref01_Q_Pow [.agg cs, i64 n] (RQV (n * k + 1) (x ^ n)) := by
 refine semC_of_awpF ok_ref01_Q_Pow rfl (show HFVs [.agg cs, i64 n] from ⟨hx.hf, trivial, trivial⟩) ?_
 obtain ⟨a, b, c, d, rfl⟩ := id hx.four
 refine go5 ?_
 refine c_f (by simp [compare']) ?_
 refine go5 ?_
 refine semH_of_semC (r_Int (g := 1) (by decide)) (fun u hu => ?_)
 obtain ⟨es, rfl, h1⟩ := hu
 obtain ⟨_, _, _, _, rfl⟩ := id h1.four
 refine go5 ?_
 simp only [spanC, zeroC, ratC, zeroE, zeroS, List.set_cons_zero, List.set_cons_succ, List.nil_append, List.cons_append, List.append_nil, List.replicate_succ, List.replicate_zero, List.length_cons, List.length_nil, splice, List.take_succ_cons, List.take_zero, List.drop_succ_cons, List.drop_zero, List.take_nil, List.drop_nil, Nat.zero_add, Nat.reduceAdd, Nat.reduceMul, Int.reduceToNat, closeB, List.getElem?_cons_succ, List.getElem?_cons_zero]
 refine f_loop (fun m vs H => ∃ (i : Nat) (es : List C), vs = [i64 n, .c (.ptr 0 0), .c (.ptr 1 0), .c (.ptr 2 0), i64 i] ∧ H = [.live ⟨[a, .bool b, c, .bool d], T_isoclineref01_Q, .rw⟩, .live ⟨zeroRQ, T_isoclineref01_Q, .rw⟩, .live ⟨es, T_isoclineref01_Q, .rw⟩] ∧ m = n - i ∧ i ≤ n ∧ IR (i * k + 1) es (x ^ i)) (by rfl) ⟨0, _, rfl, rfl, rfl, by omega, by rw [Nat.zero_mul, Rat.pow_zero]; exact h1⟩ ?_
 clear h1
 rintro m vs H ⟨i, es, rfl, rfl, rfl, h2, h3⟩
 obtain ⟨_, _, _, _, rfl⟩ := id h3.four
 refine go5 ?_
 cases hq : compare' Cm.lss (i : Int) (n : Int)
 ·simp [compare'] at hq
  have ei : i = n := by omega
  subst ei
  refine go5 ?_
  exact RQV.fz h3
 ·simp [compare'] at hq
  have hle := Nat.mul_le_mul_right k (show i + 1 ≤ n from hq)
  rw [Nat.succ_mul] at hle
  refine go5 ?_
  refine semH_of_semC (r_Mul2 h3 hx (by omega)) (fun u hu => ?_)
  obtain ⟨gs, rfl, j1⟩ := hu
  obtain ⟨_, _, _, _, rfl⟩ := id j1.four
  refine go5 ?_
  rw [addI1 i (by omega)]
  refine l_n (by rfl) (by omega) ⟨i + 1, _, rfl, rfl, rfl, by omega, ?_⟩
  rw [Rat.pow_succ, Nat.succ_mul]
  exact j1.up (by omega)
theorem ref02_Prime {k : Nat} {c : C} {p : List Rat} (hc : Ls (elR k) c p) (hp : p.length < 524288) (hk : k + 1 ≤ 134217727) : semC Tryz.prog n_ref02_Poly_Prime [.c c] (PolyK (elR (k + 1)) (IsPrime p)) := by
 refine semC_of_awpF ok_ref02_Poly_Prime rfl (show HFVs [.c c] from ⟨hc.hf, trivial⟩) ?_
 refine go9 ?_
 refine f_loop (fun w vs H => ∃ (i : Nat) (o : C), vs = [.c c, .c o, i64 i] ∧ w = p.length + 1 - i ∧ 1 ≤ i ∧ i ≤ p.length + 1 ∧ Out (elR (k + 1)) T_isoclineref01_Q 0 H o ((der p).take (i - 1))) (by rfl) ⟨1, _, rfl, rfl, by omega, by omega, .nil⟩ ?_
 rintro w vs H ⟨i, o, rfl, rfl, h1, h2, h3⟩
 refine go9 ?_
 cases hi : compare' Cm.lss (i : Int) (p.length : Int)
 case false =>
  simp [compare'] at hi
  rw [List.take_of_length_le (by rw [der_len]; omega)] at h3
  obtain ⟨bs, d, f1, l1⟩ := h3.close
  refine go9 ?_
  refine semH_of_semC_close bs (.cons (.c f1) .nil) (ref02_Trim l1 (by rw [der_len]; omega)) (fun u hu => ?_)
  obtain ⟨c', r, rfl, h6, h7⟩ := hu
  refine go9 ?_
  exact PolyK.fz h6 ⟨h7.ev, by have := h7.len; rwa [der_len] at this, h7.top⟩
 simp [compare'] at hi
 refine go9 ?_
 refine ld_ls hc (i := i) hi (by omega) rfl (fun cs hcs => ?_)
 refine go9 ?_
 refine semH_of_semC (r_Int (g := (i : Int)) (by omega)) (fun u hu => ?_)
 obtain ⟨ds, rfl, hds⟩ := hu
 refine go9 ?_
 refine semH_of_semC (r_Mul2 hcs hds hk) (fun u hu => ?_)
 obtain ⟨es, rfl, hes⟩ := hu
 obtain ⟨_, _, _, _, rfl⟩ := id hes.four
 have hdl : (der p).length = p.length - 1 := der_len
 refine go9 ?_
 refine app_imm (F := []) (R := _) rfl (h3.grow (X := List.replicate (0 + 1) Slot.unb)) (by rfl) (by rfl) rfl hes (by simp; omega) (fun R' o' h4 => ?_)
 refine go9 ?_
 rw [addI1 i (by omega)]
 refine l_n (by rfl) (n' := p.length + 1 - (i + 1)) (by omega) ⟨i + 1, o', rfl, rfl, by omega, by omega, ?_⟩
 rw [show i + 1 - 1 = (i - 1) + 1 by omega, take_add (l := der p) (i := i - 1) (by omega), der_get, show i - 1 + 1 = i by omega, getD_lt (l := p) (i := i) hi]
 exact h4
theorem ref24_line {kind : Int} {cx cy : C} {xs ys : List Rat} {i : Nat} (hx : Ls (elR 2) cx xs) (hy : Ls (elR 2) cy ys) (hr : Rises xs) (hlen : ys.length = xs.length) (hl : xs.length ≤ 1024) (hi : i + 1 < xs.length) : semC Tryz.prog n_ref24_table_line [.agg [iC kind, cx, cy], i64 i] (RQV 10 (slope xs ys i)) := by
 refine semC_of_awpF ok_ref24_table_line rfl (show HFVs [.agg [iC kind, cx, cy], i64 i] from ⟨⟨trivial, hx.hf, hy.hf, trivial⟩, trivial, trivial⟩) ?_
 refine go5 ?_
 rw [addI1 i (by omega)]
 refine go5 ?_
 refine ld_ls hy (i := i + 1) (by omega) (by omega) rfl (fun cs hcs => ?_)
 refine go5 ?_
 refine ld_ls hy (i := i) (by omega) (by omega) rfl (fun ds hds => ?_)
 refine go5 ?_
 rw [addI1 i (by omega)]
 refine go5 ?_
 refine ld_ls hx (i := i + 1) (by omega) (by omega) rfl (fun es hes => ?_)
 refine go5 ?_
 refine ld_ls hx (i := i) (by omega) (by omega) rfl (fun fs hfs => ?_)
 have hne : xs[i + 1] - xs[i] ≠ 0 := sub_ne (hr i hi)
 refine go5 ?_
 refine call_C (r_Sub2 hcs hds (by decide)) (fun u hu => ?_)
 obtain ⟨gs, rfl, g1⟩ := hu
 refine go5 ?_
 refine call_C (r_Sub2 hes hfs (by decide)) (fun u hu => ?_)
 obtain ⟨hs, rfl, g2⟩ := hu
 refine go5 ?_
 refine call_C (r_Div2 g1 g2 (by decide) hne) (fun u hu => ?_)
 obtain ⟨js, rfl, g3⟩ := hu
 obtain ⟨_, _, _, _, rfl⟩ := id g3.four
 refine go5 ?_
 refine RQV.fz ?_
 unfold slope
 rw [getD_lt (l := ys) (i := i + 1) (by omega), getD_lt (l := ys) (i := i) (by omega), getD_lt (l := xs) (i := i + 1) (by omega), getD_lt (l := xs) (i := i) (by omega)]
 exact g3
end Go.Proofs.YtjncgcnofiaiaaaGreat

set_option linter.unusedVariables false
set_option linter.unusedSimpArgs false
namespace Go.Proofs.YtjncgcnofiaiaaaGreat
open Go.RowKit
set_option maxRecDepth 20000
theorem sg_le (a b : Rat) : (sgR a ≠ sgR b ∨ a = 0) ↔ a * b ≤ 0 := by
 have np : ∀ {x y : Rat}, x < 0 → 0 < y → x * y ≤ 0 := fun {x y} h1 h2 => by
  have h3 : 0 < -x := by grind
  have := Rat.mul_pos h3 h2
  grind
 rcases sgR_cases a with ⟨e1, h1⟩ | ⟨e1, h1⟩ | ⟨e1, h1⟩ <;> rcases sgR_cases b with ⟨e2, h2⟩ | ⟨e2, h2⟩ | ⟨e2, h2⟩ <;> rw [e1, e2]
 ·constructor
  ·rintro (h | h)
   ·exact absurd rfl h
   ·subst h
    exact absurd h1 Rat.lt_irrefl
  ·intro h
   have h3 : 0 < -a := by grind
   have h4 : 0 < -b := by grind
   have := Rat.mul_pos h3 h4
   grind
 ·subst h2
  exact ⟨fun _ => by rw [Rat.mul_zero]; exact Rat.le_refl, fun _ => .inl (by decide)⟩
 ·exact ⟨fun _ => np h1 h2, fun _ => .inl (by decide)⟩
 ·subst h1
  exact ⟨fun _ => by rw [Rat.zero_mul]; exact Rat.le_refl, fun _ => .inl (by decide)⟩
 ·subst h1
  exact ⟨fun _ => by rw [Rat.zero_mul]; exact Rat.le_refl, fun _ => .inr rfl⟩
 ·subst h1
  exact ⟨fun _ => by rw [Rat.zero_mul]; exact Rat.le_refl, fun _ => .inl (by decide)⟩
 ·exact ⟨fun _ => by rw [Rat.mul_comm]; exact np h2 h1, fun _ => .inl (by decide)⟩
 ·subst h2
  exact ⟨fun _ => by rw [Rat.mul_zero]; exact Rat.le_refl, fun _ => .inl (by decide)⟩
 ·constructor
  ·rintro (h | h)
   ·exact absurd rfl h
   ·subst h
    exact absurd h1 Rat.lt_irrefl
  ·intro h
   have := Rat.mul_pos h1 h2
   grind
attribute [local irreducible] compare' semH semC qLen qNil qIad qSlc qIdx ldBox ldCells stBox appX appI slcX awpF awpOpsF awpDF xopF xopDF qval lval seqQ blockQ loopQ bodyF retKF cnd arith IntKind.wrap
theorem ref24_slope_smooth {cx cy : C} {xs ys : List Rat} {i : Nat} (hx : Ls (elR 2) cx xs) (hy : Ls (elR 2) cy ys) (hr : Rises xs) (hlen : ys.length = xs.length) (hl : xs.length ≤ 1024) (h2 : 2 ≤ xs.length) (hi : i < xs.length) : semC Tryz.prog n_ref24_table_slope [.agg [iC 2, cx, cy], i64 i] (RQV 49 (smoothS xs ys i)) := by
 refine semC_of_awpF ok_ref24_table_slope rfl (show HFVs [.agg [iC 2, cx, cy], i64 i] from ⟨⟨trivial, hx.hf, hy.hf, trivial⟩, trivial, trivial⟩) ?_
 refine go9 ?_
 refine semH_of_semC (ref24_last hx hy.hf (by omega) (by omega)) (fun u hu => ?_)
 obtain rfl := hu
 refine go9 ?_
 refine c_t (by simp [compare']) ?_
 refine go9 ?_
 rw [show arith .sub .i64 ((xs.length - 1 : Nat) : Int) 2 = (xs.length : Int) - 3 by rw [ar_sub, wrap_i64 (by omega) (by omega)]; omega, show arith .sub .i64 (i : Int) 1 = (i : Int) - 1 by rw [ar_sub, wrap_i64 (by omega) (by omega)]]
 obtain ⟨lo, w, hc⟩ : ∃ lo w : Nat, (xs.length = 2 ∧ lo = 0 ∧ w = 2) ∨ (3 ≤ xs.length ∧ lo = min (i - 1) (xs.length - 3) ∧ w = 3) := by
  rcases Nat.lt_or_ge 2 xs.length with h | h
  ·exact ⟨_, _, .inr ⟨h, rfl, rfl⟩⟩
  ·exact ⟨_, _, .inl ⟨by omega, rfl, rfl⟩⟩
 have hlw : lo + w ≤ xs.length := by omega
 have hww : w = 2 ∨ w = 3 := by omega
 rw [show (if (if (xs.length : Int) - 3 < (i : Int) - 1 then (xs.length : Int) - 3 else (i : Int) - 1) > 0 then (if (xs.length : Int) - 3 < (i : Int) - 1 then (xs.length : Int) - 3 else (i : Int) - 1) else 0) = (lo : Int) by
  split <;> split <;> omega]
 rw [show arith .add .i64 (lo : Int) 2 = ((lo + 2 : Nat) : Int) by rw [ar_add, wrap_i64 (by omega) (by omega)]; omega]
 rw [show (if ((lo + 2 : Nat) : Int) < ((xs.length - 1 : Nat) : Int) then ((lo + 2 : Nat) : Int) else ((xs.length - 1 : Nat) : Int)) = ((lo + w - 1 : Nat) : Int) by
  split <;> omega]
 rw [show arith .add .i64 ((lo + w - 1 : Nat) : Int) 1 = ((lo + w : Nat) : Int) by rw [ar_add, wrap_i64 (by omega) (by omega)]; omega]
 refine slc_ls (l := xs) (a := (lo : Int)) (b := ((lo + w : Nat) : Int)) (by rfl) hx rfl (by rfl) (by rfl) (by omega) (by omega) (by omega) (fun c1 hc1 => ?_)
 refine go9 ?_
 rw [show arith .add .i64 ((lo + w - 1 : Nat) : Int) 1 = ((lo + w : Nat) : Int) by rw [ar_add, wrap_i64 (by omega) (by omega)]; omega]
 refine slc_ls (l := ys) (a := (lo : Int)) (b := ((lo + w : Nat) : Int)) (by rfl) hy rfl (by rfl) (by rfl) (by omega) (by omega) (by omega) (fun c2 hc2 => ?_)
 rw [show ((lo : Nat) : Int).toNat = lo by omega, show ((lo + w : Nat) : Int).toNat - lo = w by omega] at hc1 hc2
 have l1 : ((xs.drop lo).take w).length = w := by simp; omega
 have l2 : ((ys.drop lo).take w).length = w := by simp; omega
 have hne : ∀ a b (ha : a < ((xs.drop lo).take w).length) (hb : b < ((xs.drop lo).take w).length), a ≠ b → ((xs.drop lo).take w)[a] ≠ ((xs.drop lo).take w)[b] := by
  intro a b ha hb hab
  rw [l1] at ha hb
  simp only [List.getElem_take, List.getElem_drop]
  rw [← getD_lt (l := xs) (i := lo + a) (by omega), ← getD_lt (l := xs) (i := lo + b) (by omega)]
  rcases Nat.lt_or_ge a b with h | h
  ·exact fun e => absurd (hr.lt (show lo + a < lo + b by omega) (by omega)) (by rw [e]; exact Rat.lt_irrefl)
  ·exact fun e => absurd (hr.lt (show lo + b < lo + a by omega) (by omega)) (by rw [e]; exact Rat.lt_irrefl)
 have k1 : thF 2 2 ((xs.drop lo).take w).length ≤ 134217727 := by
  rw [l1]
  rcases hww with rfl | rfl <;> decide
 have k2 : thO 2 2 ((xs.drop lo).take w).length ((xs.drop lo).take w).length ≤ 4096 := by
  rw [l1]
  rcases hww with rfl | rfl <;> decide
 refine go9 ?_
 refine ld_ls hx (i := i) hi (by omega) rfl (fun cs hcs => ?_)
 refine go9 ?_
 first | refine call_C (ref02_Through hc1 hc2 (by omega) (by omega) (by decide) hne k1 (by omega) (by decide)) (fun u hu => ?_) | refine semH_of_semC (ref02_Through hc1 hc2 (by omega) (by omega) (by decide) hne k1 (by omega) (by decide)) (fun u hu => ?_)
 obtain ⟨ct, T, rfl, t1, t2⟩ := hu
 have t1 := t1.up' k2
 have t3 := t2.len
 rw [l1] at t3
 refine go9 ?_
 first | refine call_C (ref02_Prime t1 (by omega) (by decide)) (fun u hu => ?_) | refine semH_of_semC (ref02_Prime t1 (by omega) (by decide)) (fun u hu => ?_)
 obtain ⟨cd, D, rfl, d1, d2⟩ := hu
 have d3 := d2.len
 have k3 := vaK_mono (k := 4096 + 1) (m := 2) (show D.length ≤ 3 by omega)
 rw [show vaK (4096 + 1) 2 3 = 12304 by decide] at k3
 refine go9 ?_
 first | refine call_C (ref02_Value d1 hcs (by omega) (by omega) (by omega)) (fun u hu => ?_) | refine semH_of_semC (ref02_Value d1 hcs (by omega) (by omega) (by omega)) (fun u hu => ?_)
 obtain ⟨es, rfl, hes⟩ := hu
 obtain ⟨_, _, _, _, rfl⟩ := id hes.four
 refine go9 ?_
 refine RQV.fz ?_
 have e : ev D xs[i] = smoothS xs ys i := by
  rw [d2.ev, ← getD_lt (l := xs) (i := i) hi]
  unfold smoothS
  rw [if_neg (by omega)]
  rcases hc with ⟨n2, rfl, rfl⟩ | ⟨n3, e1, rfl⟩
  ·rw [if_pos n2]
   exact smooth_two hr hlen n2 (fun x => by rw [t2.ev, l1])
  ·rw [if_neg (by omega), ← e1]
   exact smooth_three hr hlen (by omega) (fun x => by rw [t2.ev, l1])
 rw [← e]
 refine hes.tight ?_
 rw [e]
 exact bd_smooth hx.bdR hy.bdR hr hlen hi
theorem ref24_slope_keep {cx cy : C} {xs ys : List Rat} {i : Nat} (hx : Ls (elR 2) cx xs) (hy : Ls (elR 2) cy ys) (hr : Rises xs) (hlen : ys.length = xs.length) (hl : xs.length ≤ 1024) (h2 : 2 ≤ xs.length) (hi : i < xs.length) : semC Tryz.prog n_ref24_table_slope [.agg [iC 3, cx, cy], i64 i] (RQV 49 (keepS xs ys i)) := by
 refine semC_of_awpF ok_ref24_table_slope rfl (show HFVs [.agg [iC 3, cx, cy], i64 i] from ⟨⟨trivial, hx.hf, hy.hf, trivial⟩, trivial, trivial⟩) ?_
 have hbd := bd_keep hx.bdR hy.bdR hr hlen hi
 unfold keepS at hbd ⊢
 rw [if_neg (show ¬ xs.length = 1 by omega)] at hbd ⊢
 refine go9 ?_
 first | refine call_C (ref24_last hx hy.hf (by omega) (by omega)) (fun u hu => ?_) | refine semH_of_semC (ref24_last hx hy.hf (by omega) (by omega)) (fun u hu => ?_)
 obtain rfl := hu
 refine go9 ?_
 refine c_f (by simp [compare']) ?_
 refine go9 ?_
 cases h0 : compare' Cm.eql (i : Int) 0
 case true =>
  simp [compare'] at h0
  rw [if_pos h0]
  refine go9 ?_
  first | refine call_C (ref24_line (i := 0) hx hy hr hlen hl (by omega)) (fun u hu => ?_) | refine semH_of_semC (ref24_line (i := 0) hx hy hr hlen hl (by omega)) (fun u hu => ?_)
  obtain ⟨es, rfl, hes⟩ := hu
  obtain ⟨_, _, _, _, rfl⟩ := id hes.four
  refine go9 ?_
  exact RQV.fz (hes.up (by decide))
 simp [compare'] at h0
 rw [if_neg h0] at hbd ⊢
 refine go9 ?_
 cases h1 : compare' Cm.eql (i : Int) ((xs.length - 1 : Nat) : Int)
 case true =>
  simp [compare'] at h1
  rw [if_pos (show i = xs.length - 1 by omega)]
  refine go9 ?_
  rw [show arith .sub .i64 ((xs.length - 1 : Nat) : Int) 1 = ((xs.length - 2 : Nat) : Int) by rw [ar_sub, wrap_i64 (by omega) (by omega)]; omega]
  first | refine call_C (ref24_line (i := xs.length - 2) hx hy hr hlen hl (by omega)) (fun u hu => ?_) | refine semH_of_semC (ref24_line (i := xs.length - 2) hx hy hr hlen hl (by omega)) (fun u hu => ?_)
  obtain ⟨es, rfl, hes⟩ := hu
  obtain ⟨_, _, _, _, rfl⟩ := id hes.four
  refine go9 ?_
  exact RQV.fz (hes.up (by decide))
 simp [compare'] at h1
 rw [if_neg (show ¬ i = xs.length - 1 by omega)] at hbd ⊢
 refine go9 ?_
 rw [show arith .sub .i64 (i : Int) 1 = ((i - 1 : Nat) : Int) by rw [ar_sub, wrap_i64 (by omega) (by omega)]; omega]
 first | refine call_C (ref24_line (i := i - 1) hx hy hr hlen hl (by omega)) (fun u hu => ?_) | refine semH_of_semC (ref24_line (i := i - 1) hx hy hr hlen hl (by omega)) (fun u hu => ?_)
 obtain ⟨es, rfl, hes⟩ := hu
 obtain ⟨e1, e2, e3, e4, rfl⟩ := id hes.four
 refine go9 ?_
 first | refine call_C (ref24_line (i := i) hx hy hr hlen hl (by omega)) (fun u hu => ?_) | refine semH_of_semC (ref24_line (i := i) hx hy hr hlen hl (by omega)) (fun u hu => ?_)
 obtain ⟨fs, rfl, hfs⟩ := hu
 obtain ⟨f1, f2, f3, f4, rfl⟩ := id hfs.four
 refine go9 ?_
 simp only [spanC, zeroC, ratC, zeroE, zeroS, List.set_cons_zero, List.set_cons_succ, List.nil_append, List.cons_append, List.append_nil, List.replicate_succ, List.replicate_zero, List.length_cons, List.length_nil, splice, List.take_succ_cons, List.take_zero, List.drop_succ_cons, List.drop_zero, List.take_nil, List.drop_nil, Nat.zero_add, Nat.reduceAdd, Nat.reduceMul, Int.reduceToNat, closeB, List.getElem?_cons_succ, List.getElem?_cons_zero]
 first | refine call_C (ref01_Q_Sign hes) (fun u hu => ?_) | refine semH_of_semC (ref01_Q_Sign hes) (fun u hu => ?_)
 obtain rfl := hu
 refine go9 ?_
 first | refine call_C (ref01_Q_Sign hfs) (fun u hu => ?_) | refine semH_of_semC (ref01_Q_Sign hfs) (fun u hu => ?_)
 obtain rfl := hu
 refine go9 ?_
 have hsg := sg_le (slope xs ys (i - 1)) (slope xs ys i)
 cases h3 : compare' Cm.neq (sgR (slope xs ys (i - 1))) (sgR (slope xs ys i))
 case true =>
  simp [compare'] at h3
  rw [if_pos (hsg.1 (.inl h3))]
  refine go9 ?_
  exact RQV.fz (zeroRQ_is.up (by decide))
 simp [compare'] at h3
 refine go9 ?_
 first | refine call_C (ref01_Q_IsZero hes) (fun u hu => ?_) | refine semH_of_semC (ref01_Q_IsZero hes) (fun u hu => ?_)
 obtain ⟨z, rfl, hz⟩ := hu
 cases z
 case true =>
  rw [if_pos (hsg.1 (.inr (hz.1 rfl)))]
  refine go9 ?_
  exact RQV.fz (zeroRQ_is.up (by decide))
 have hnz : ¬ slope xs ys (i - 1) * slope xs ys i ≤ 0 := fun h => by
  rcases hsg.2 h with h | h
  ·exact h h3
  ·exact absurd (hz.2 h) (by decide)
 rw [if_neg hnz] at hbd ⊢
 refine go9 ?_
 first | refine call_C (r_Mul2 hes hfs (by decide)) (fun u hu => ?_) | refine semH_of_semC (r_Mul2 hes hfs (by decide)) (fun u hu => ?_)
 obtain ⟨gs, rfl, g1⟩ := hu
 refine go9 ?_
 first | refine call_C (r_Int (g := 2) (by decide)) (fun u hu => ?_) | refine semH_of_semC (r_Int (g := 2) (by decide)) (fun u hu => ?_)
 obtain ⟨hs, rfl, g2⟩ := hu
 refine go9 ?_
 first | refine call_C (r_Mul2 g1 g2 (by decide)) (fun u hu => ?_) | refine semH_of_semC (r_Mul2 g1 g2 (by decide)) (fun u hu => ?_)
 obtain ⟨js, rfl, g3⟩ := hu
 refine go9 ?_
 first | refine call_C (r_Add2 hes hfs (by decide)) (fun u hu => ?_) | refine semH_of_semC (r_Add2 hes hfs (by decide)) (fun u hu => ?_)
 obtain ⟨ks, rfl, g4⟩ := hu
 refine go9 ?_
 first | refine call_C (r_Div2 g3 g4 (by decide) (keep_ne hnz)) (fun u hu => ?_) | refine semH_of_semC (r_Div2 g3 g4 (by decide) (keep_ne hnz)) (fun u hu => ?_)
 obtain ⟨ls, rfl, g5⟩ := hu
 obtain ⟨_, _, _, _, rfl⟩ := id g5.four
 refine go9 ?_
 rw [show slope xs ys (i - 1) * slope xs ys i * ((2 : Int) : Rat) = 2 * slope xs ys (i - 1) * slope xs ys i by grind] at g5
 exact RQV.fz (g5.tight hbd)
end Go.Proofs.YtjncgcnofiaiaaaGreat

set_option linter.unusedVariables false
set_option linter.unusedSimpArgs false
namespace Go.Proofs.YtjncgcnofiaiaaaGreat
open Go.RowKit
set_option maxRecDepth 20000
structure RowP (c : C) (bx : Nat → Nat) (ds : Nat → List C) (H : Hp) (n w : Nat) (V : Nat → Nat → Rat) (K : Nat) : Prop where
 T : (n = 0 ∧ c = .nilSl) ∨ ∃ b, c = .sl b 0 n none 1 ∧ H[b]? = some (.live ⟨(List.range n).map (rowC bx (fun _ => some w) w), T_sl_isoclineref01_Q, .rw⟩)
 row : ∀ l, l < n → H[bx l]? = some (.live ⟨ds l, T_isoclineref01_Q, .rw⟩)
 len : ∀ l, l < n → (ds l).length = w * 4
 at_ : ∀ l j, l < n → j < w → IR K (((ds l).drop (j * 4)).take 4) (V l j)
theorem RowP.grow {c : C} {bx : Nat → Nat} {ds : Nat → List C} {H X : Hp} {n w : Nat} {V : Nat → Nat → Rat} {K : Nat} (h : RowP c bx ds H n w V K) : RowP c bx ds (H ++ X) n w V K := by
 refine ⟨?_, fun l hl => by
  have := h.row l hl
  rw [List.getElem?_append_left (lt_of_getElem? this)]
  exact this, h.len, h.at_⟩
 rcases h.T with h1 | ⟨b, h1, h2⟩
 ·exact .inl h1
 ·exact .inr ⟨b, h1, by rw [List.getElem?_append_left (lt_of_getElem? h2)]; exact h2⟩
theorem Els.at4 {k : Nat} {ds : List C} {l : List Rat} {j : Nat} (h : Els (elR k) ds l) (hj : j < l.length) : IR k ((ds.drop (j * 4)).take 4) (l.getD j 0) := by
 obtain ⟨cs, r, h1, h2⟩ := h.get hj
 have h3 : cs.length = 4 := (elR k).len h1
 rw [show j * 4 = j * (elR k).s from rfl, h2, List.take_left' h3, getD_lt hj]
 exact h1
theorem RowP.close {c : C} {bx : Nat → Nat} {ds : Nat → List C} {H : Hp} {n w : Nat} {V : Nat → Nat → Rat} {K : Nat} (h : RowP c bx ds H n w V K) (hn : 0 < n) : ∃ bs d, Fz (· = .ro) (closeB H bs) c d ∧ Tab ds d n w V (fun _ _ => K) := by
 rcases h.T with ⟨h0, _⟩ | ⟨b, rfl, hb⟩
 ·omega
 refine ⟨b :: (List.range n).map bx, _, .sl (closeB_get List.mem_cons_self hb) rfl (by simp) ?_, rfl, h.len, h.at_⟩
 rw [List.drop_zero, List.take_of_length_le (by simp)]
 exact fz_rowsK (p := (· = .ro)) (H := closeB H (b :: (List.range n).map bx)) (bx := bx) (co := fun _ => some w) (ds := ds) (w := w) (l := List.range n) rfl (by simp) (fun i hi => ⟨closeB_get (List.mem_cons_of_mem _ (List.mem_map_of_mem hi)) (h.row i (by simpa using hi)), h.len i (by simpa using hi), hfl_blocks (h.len i (by simpa using hi)) (fun j hj => (h.at_ i j (by simpa using hi) hj).hf)⟩)
theorem get_grow {H X : Hp} {l : Nat} {s : Slot} (h : H[l]? = some s) : (H ++ X)[l]? = some s := by
 rw [List.getElem?_append_left (lt_of_getElem? h)]
 exact h
def addF {α : Type} (f : Nat → α) (n : Nat) (a b : α) : Nat → α := fun l => if l = n then a else if l = n + 1 then b else f l
theorem addF_old {α : Type} {f : Nat → α} {n l : Nat} {a b : α} (h : l < n) : addF f n a b l = f l := by
 unfold addF
 rw [if_neg (by omega), if_neg (by omega)]
theorem addF_fst {α : Type} {f : Nat → α} {n : Nat} {a b : α} : addF f n a b n = a := by simp [addF]
theorem addF_snd {α : Type} {f : Nat → α} {n : Nat} {a b : α} : addF f n a b (n + 1) = b := by simp [addF]
abbrev Stay (H H' : Hp) : Prop := ∀ (l : Nat) (cells : List C) (el : TypeId), el ≠ T_sl_isoclineref01_Q → H[l]? = some (Slot.live ⟨cells, el, BK.rw⟩) → H'[l]? = some (Slot.live ⟨cells, el, BK.rw⟩)
theorem RowP.two {c : C} {bx : Nat → Nat} {ds : Nat → List C} {H : Hp} {n : Nat} {V : Nat → Nat → Rat} {K : Nat} {c1 c2 : List C} {s x : Option Go.Proofs.YtjncgcnofiaiaaaGreat.V} {k : Go.Proofs.YtjncgcnofiaiaaaGreat.V → Hp → Prop} (h : RowP c bx ds H n 4 V K) (hn : n < 1024) (l1 : c1.length = 16) (l2 : c2.length = 16) (h1 : ∀ j, j < 4 → IR K ((c1.drop (j * 4)).take 4) (V n j)) (h2 : ∀ j, j < 4 → IR K ((c2.drop (j * 4)).take 4) (V (n + 1) j))
  (hs : s = some (.c c)) (hx : x = some (.c (.imm 2 [.sl H.length 0 4 (some 4) 4, .sl (H.length + 1) 0 4 (some 4) 4])))
  (hk : ∀ c' H', Stay H H' → RowP c' (addF bx n H.length (H.length + 1)) (addF ds n c1 c2) H' (n + 2) 4 V K → k (.c c') H') : appX ((H ++ [.live ⟨c1, T_isoclineref01_Q, .rw⟩]) ++ [.live ⟨c2, T_isoclineref01_Q, .rw⟩]) T_sl_isoclineref01_Q 1 24 s x k := by
 subst hs hx
 have hrow : ∀ {H' : Hp}, Stay ((H ++ [.live ⟨c1, T_isoclineref01_Q, .rw⟩]) ++ [Slot.live ⟨c2, T_isoclineref01_Q, .rw⟩]) H' → ∀ l, l < n + 2 → H'[addF bx n H.length (H.length + 1) l]? = some (.live ⟨addF ds n c1 c2 l, T_isoclineref01_Q, .rw⟩) := fun hH l hl => by
  refine hH _ _ _ (by decide) ?_
  rcases Nat.lt_or_ge l n with e | e
  ·rw [addF_old e, addF_old e]
   exact get_in (h.row l e)
  ·rcases Nat.lt_or_ge n l with e2 | e2
   ·have : l = n + 1 := by omega
    subst this
    rw [addF_snd, addF_snd]
    exact get2b
   ·have : l = n := by omega
    subst this
    rw [addF_fst, addF_fst]
    exact get2a
 have hlen : ∀ l, l < n + 2 → (addF ds n c1 c2 l).length = 4 * 4 := fun l hl => by
  rcases Nat.lt_or_ge l n with e | e
  ·rw [addF_old e]
   exact h.len l e
  ·rcases Nat.lt_or_ge n l with e2 | e2
   ·have : l = n + 1 := by omega
    subst this
    rw [addF_snd]
    exact l2
   ·have : l = n := by omega
    subst this
    rw [addF_fst]
    exact l1
 have hat : ∀ l j, l < n + 2 → j < 4 → IR K (((addF ds n c1 c2 l).drop (j * 4)).take 4) (V l j) := fun l j hl hj => by
  rcases Nat.lt_or_ge l n with e | e
  ·rw [addF_old e]
   exact h.at_ l j e hj
  ·rcases Nat.lt_or_ge n l with e2 | e2
   ·have : l = n + 1 := by omega
    subst this
    rw [addF_snd]
    exact h2 j hj
   ·have : l = n := by omega
    subst this
    rw [addF_fst]
    exact h1 j hj
 have hcells : (List.range (n + 2)).map (rowC (addF bx n H.length (H.length + 1)) (fun _ => some 4) 4) = (List.range n).map (rowC bx (fun _ => some 4) 4) ++ [.sl H.length 0 4 (some 4) 4, .sl (H.length + 1) 0 4 (some 4) 4] := by
  rw [List.range_succ, List.range_succ, List.map_append, List.map_append, List.append_assoc]
  congr 1
  ·apply List.map_congr_left
   intro l hl
   have := List.mem_range.1 hl
   unfold rowC
   rw [addF_old this]
  ·simp only [List.map_cons, List.map_nil, rowC, addF_fst, addF_snd, List.cons_append, List.nil_append]
 have hxs : slCells ((H ++ [.live ⟨c1, T_isoclineref01_Q, .rw⟩]) ++ [Slot.live ⟨c2, T_isoclineref01_Q, .rw⟩]) 1 (.imm 2 [.sl H.length 0 4 (some 4) 4, .sl (H.length + 1) 0 4 (some 4) 4]) = some [.sl H.length 0 4 (some 4) 4, .sl (H.length + 1) 0 4 (some 4) 4] := rfl
 rcases h.T with ⟨rfl, rfl⟩ | ⟨b, rfl, hb⟩
 ·simp only [appX, hxs, slLen]
  refine chk_intro (by rfl) (cnd_false rfl (chk_intro (by simp only [Bool.and_eq_true, dec_true]; decide) (hk _ _ (fun l cells el he hl => get_grow (get_in hl)) ⟨.inr ⟨_, rfl, ?_⟩, hrow (fun l cells el he hl => get_grow hl), hlen, hat⟩)))
  rw [hcells]
  exact last_live _ _
 ·have hbn : ∀ {l : Nat} {cells : List C} {el : TypeId}, el ≠ T_sl_isoclineref01_Q → ((H ++ [.live ⟨c1, T_isoclineref01_Q, .rw⟩]) ++ [Slot.live ⟨c2, T_isoclineref01_Q, .rw⟩])[l]? = some (.live ⟨cells, el, .rw⟩) → b ≠ l := fun he hl e => by
   subst e
   rw [get_in hb] at hl
   cases hl
   exact he rfl
  refine app_sl (m := 2) rfl rfl hxs rfl rfl (get_in hb) (by simp) (by omega) (by omega) (hk _ _ (fun l cells el he hl => ?_) ⟨.inr ⟨_, rfl, ?_⟩, hrow (fun l cells el he hl => ?_), hlen, hat⟩)
  ·have := get_in (a := Slot.live ⟨c1, T_isoclineref01_Q, .rw⟩) (b := Slot.live ⟨c2, T_isoclineref01_Q, .rw⟩) hl
   exact get_grow (by rw [List.getElem?_set_ne (hbn he this)]; exact this)
  ·rw [hcells]
   rw [List.getElem?_append_right (by simp), List.length_set, Nat.sub_self, List.take_of_length_le (by simp)]
   rfl
  ·exact get_grow (by rw [List.getElem?_set_ne (hbn he hl)]; exact hl)
theorem xd_mkSl {P : Program} {e : Env} {H : Hp} {nid : Nat} {K : V → Hp → Prop} {el : TypeId} {es bytes : Nat} {zero : List C} {l c : AO} {m n : Int} (h : l.ev e = some (.c (.int .i64 m))) (h2 : c.ev e = some (.c (.int .i64 n))) (h3 : 0 ≤ m ∧ m ≤ n ∧ n * bytes ≤ 281474976710656 ∧ n ≤ 281474976710656) (hn : H[nid]? = some .unb)
  (k : K (.c (.sl nid 0 m.toNat (some n.toNat) es)) (H.set nid (.live ⟨(List.replicate n.toNat zero).flatten, el, .rw⟩))) : xopDF P e H nid (.mkSl el es bytes zero l c) K := by
 simp only [xopDF, dstep, aval, h, h2]
 refine chk_intro (dec_true.2 h3) ?_
 simp only [hn]
 exact k
theorem beq_succ (n : Nat) : Nat.beq n (n + 1) = false := by
 cases h : Nat.beq n (n + 1)
 ·rfl
 ·exact absurd (Nat.eq_of_beq_eq_true h) (by omega)
theorem two_drawn {H : Hp} {a b : Slot} : ((H ++ List.replicate (1 + 1) Slot.unb).set (H.length + 0) a).set (H.length + 1) b = (H ++ [a]) ++ [b] := by
 simp [List.set_append]
attribute [local irreducible] compare' semH semC qLen qNil qIad qSlc qIdx ldBox ldCells stBox appX appI slcX awpF awpOpsF awpDF xopF xopDF qval lval seqQ blockQ loopQ bodyF retKF cnd arith IntKind.wrap
theorem ref24_piece_cubic {kind : Int} {cx cy : C} {xs ys : List Rat} {m : Nat → Rat} {i : Nat} (hk : kind = 2 ∨ kind = 3) (hx : Ls (elR 2) cx xs) (hy : Ls (elR 2) cy ys) (hr : Rises xs) (hlen : ys.length = xs.length) (hl : xs.length ≤ 1024) (hi : i + 1 < xs.length) (hm : ∀ j, j < xs.length → semC Tryz.prog n_ref24_table_slope [.agg [iC kind, cx, cy], i64 j] (RQV 49 (m j))) : semC Tryz.prog n_ref24_table_piece [.agg [iC kind, cx, cy], i64 i] (PolyK (elR 12629) (PieceIs (cubP m xs ys i))) := by
 refine semC_of_awpF ok_ref24_table_piece rfl (show HFVs [.agg [iC kind, cx, cy], i64 i] from ⟨⟨trivial, hx.hf, hy.hf, trivial⟩, trivial, trivial⟩) ?_
 refine go8 ?_
 refine c_f (by simp [compare']; omega) ?_
 refine go8 ?_
 refine c_f (by simp [compare']; omega) ?_
 refine go8 ?_
 refine f_loop (fun n vs H => ∃ (o : Nat) (c : C) (bx : Nat → Nat) (ds : Nat → List C), vs = [i64 i, .c (.ptr 0 0), .c c, i64 ((i + o : Nat) : Int)] ∧ n = 2 - o ∧ o ≤ 2 ∧ H[0]? = some (.live ⟨[iC kind, cx, cy], T_isoclineref24_table, .rw⟩) ∧ RowP c bx ds H (2 * o) 4 (hermA (xs.getD i 0) (xs.getD (i + 1) 0)) 49) (by rfl) ⟨0, _, fun _ => 0, fun _ => [], rfl, rfl, by omega, rfl, ⟨.inl ⟨rfl, rfl⟩, fun l h => by omega, fun l h => by omega, fun l j h => by omega⟩⟩ ?_
 rintro n vs H ⟨o, c, bx, ds, rfl, rfl, o1, g0, o2⟩
 refine go8 ?_
 rw [show arith .add .i64 (i : Int) 2 = ((i + 2 : Nat) : Int) by rw [ar_add, wrap_i64 (by omega) (by omega)]; omega]
 cases ho : compare' Cm.lss ((i + o : Nat) : Int) ((i + 2 : Nat) : Int)
 case true =>
  simp [compare'] at ho
  have hio : i + o < xs.length := by omega
  refine go8 ?_
  refine xd_mkSl (by rfl) (by rfl) (by decide) (by simp) ?_
  refine go8 ?_
  refine d_some (T := some (H.length + 1)) (by rfl) (by simp [logOk, tch, same?, beq_succ]) ?_
  refine xd_mkSl (by rfl) (by rfl) (by decide) (by simp) ?_
  rw [two_drawn]
  refine go8 ?_
  refine f_loop (fun n vs H' => ∃ (q : Nat) (c1 c2 : List C) (L1 L2 : List Rat), vs = [i64 i, .c (.ptr 0 0), .c c, i64 ((i + o : Nat) : Int), .c (.sl H.length 0 4 (some 4) 4), .c (.sl (H.length + 1) 0 4 (some 4) 4), i64 q] ∧ H' = (H ++ [.live ⟨c1, T_isoclineref01_Q, .rw⟩]) ++ [.live ⟨c2, T_isoclineref01_Q, .rw⟩] ∧ n = 4 - q ∧ q ≤ 4 ∧ L1.length = 4 ∧ L2.length = 4 ∧ Els (elR 49) c1 L1 ∧ Els (elR 49) c2 L2 ∧ L2.getD 0 0 = 0 ∧ (∀ j, j < q → L1.getD j 0 = xs.getD (i + o) 0 ^ j) ∧ ∀ j, 0 < j → j < q → L2.getD j 0 = xs.getD (i + o) 0 ^ (j - 1) * ((j : Int) : Rat)) (by rfl) ⟨0, _, _, List.replicate 4 0, List.replicate 4 0, rfl, rfl, rfl, by omega, rfl, rfl, (Els.rep (E := elR 1) zeroRQ_is 4).up' (by decide), (Els.rep (E := elR 1) zeroRQ_is 4).up' (by decide), rfl, fun j h => by omega, fun j _ h => by omega⟩ ?_
  rintro n vs H1 ⟨q, c1, c2, L1, L2, rfl, rfl, rfl, q1, q2, q3, q4, q5, q6, q7, q8⟩
  have hH0 := lt_of_getElem? g0
  have hcl1 : c1.length = 16 := by rw [q4.len, q2]; rfl
  have hcl2 : c2.length = 16 := by rw [q5.len, q3]; rfl
  refine go8 ?_
  cases hq : compare' Cm.lss (q : Int) 4
  case true =>
   simp [compare'] at hq
   have hq : q < 4 := by omega
   refine go8 ?_
   refine ld_box (get_in g0) (by rfl) ?_
   refine go8 ?_
   refine ld_ls hx (i := i + o) hio (by omega) rfl (fun cs hcs => ?_)
   rw [← getD_lt (l := xs) (i := i + o) hio] at hcs
   refine go8 ?_
   first | refine call_C (r_Pow q hcs (by omega) (by omega)) (fun u hu => ?_) | refine semH_of_semC (r_Pow q hcs (by omega) (by omega)) (fun u hu => ?_)
   obtain ⟨es, rfl, hes⟩ := hu
   obtain ⟨e1, e2, e3, e4, rfl⟩ := id hes.four
   refine go8 ?_
   refine st_box get2a (by rfl) (by rfl) (by omega) ?_
   rw [set2a, show 0 + ((q : Nat) : Int).toNat * 4 = q * 4 by omega]
   have k1 := q4.set (i := q) (by omega) (show (elR 49).p _ _ from hes.up (show q * 2 + 1 ≤ 49 by omega))
   have k2 : ∀ j, j < q + 1 → (L1.set q (xs.getD (i + o) 0 ^ q)).getD j 0 = xs.getD (i + o) 0 ^ j := fun j hj => by
    by_cases e : j = q
    ·subst e
     simp [List.getD, q2, hq]
    ·have := q7 j (by omega)
     simpa [List.getD, List.getElem?_set_ne (show q ≠ j from fun x => e x.symm)] using this
   refine go8 ?_
   cases hq0 : compare' Cm.gtr (q : Int) 0
   case false =>
    simp [compare'] at hq0
    refine go8 ?_
    rw [addI1 q (by omega)]
    exact l_n (by rfl) (n' := 4 - (q + 1)) (by omega) ⟨q + 1, _, _, _, _, rfl, rfl, rfl, by omega, by simp [q2], q3, k1, q5, q6, k2, fun j _ h => by omega⟩
   simp [compare'] at hq0
   refine go8 ?_
   refine ld_box (get_in g0) (by rfl) ?_
   refine go8 ?_
   refine ld_ls hx (i := i + o) hio (by omega) rfl (fun ds hds => ?_)
   rw [← getD_lt (l := xs) (i := i + o) hio] at hds
   refine go8 ?_
   rw [show arith .sub .i64 (q : Int) 1 = ((q - 1 : Nat) : Int) by rw [ar_sub, wrap_i64 (by omega) (by omega)]; omega]
   first | refine call_C (r_Pow (q - 1) hds (by omega) (by omega)) (fun u hu => ?_) | refine semH_of_semC (r_Pow (q - 1) hds (by omega) (by omega)) (fun u hu => ?_)
   obtain ⟨fs, rfl, hfs⟩ := hu
   refine go8 ?_
   first | refine call_C (r_Int (g := (q : Int)) (by omega)) (fun u hu => ?_) | refine semH_of_semC (r_Int (g := (q : Int)) (by omega)) (fun u hu => ?_)
   obtain ⟨gs, rfl, hgs⟩ := hu
   refine go8 ?_
   first | refine call_C (r_Mul2 hfs hgs (by omega)) (fun u hu => ?_) | refine semH_of_semC (r_Mul2 hfs hgs (by omega)) (fun u hu => ?_)
   obtain ⟨hs, rfl, hhs⟩ := hu
   obtain ⟨h1, h2, h3, h4, rfl⟩ := id hhs.four
   refine go8 ?_
   refine st_box get2b (by rfl) (by rfl) (by omega) ?_
   rw [set2b, show 0 + ((q : Nat) : Int).toNat * 4 = q * 4 by omega]
   refine go8 ?_
   rw [addI1 q (by omega)]
   refine l_n (by rfl) (n' := 4 - (q + 1)) (by omega) ⟨q + 1, _, _, _, _, rfl, rfl, rfl, by omega, by simp [q2], by simp [q3], k1, q5.set (i := q) (by omega) (show (elR 49).p _ _ from hhs.up (show (q - 1) * 2 + 1 + 1 ≤ 49 by omega)), ?_, k2, fun j j0 hj => ?_⟩
   ·simpa [List.getD, List.getElem?_set_ne (show q ≠ 0 by omega)] using q6
   ·by_cases e : j = q
    ·subst e
     simp [List.getD, q3, hq]
    ·have := q8 j j0 (by omega)
     simpa [List.getD, List.getElem?_set_ne (show q ≠ j from fun x => e x.symm)] using this
  simp [compare'] at hq
  have eq : q = 4 := by omega
  subst eq
  refine go8 ?_
  have r1 : ∀ j, j < 4 → IR 49 ((c1.drop (j * 4)).take 4) (hermA (xs.getD i 0) (xs.getD (i + 1) 0) (2 * o) j) := fun j hj => by
   have := q4.at4 (j := j) (by omega)
   rw [q7 j hj] at this
   have e : hermA (xs.getD i 0) (xs.getD (i + 1) 0) (2 * o) j = xs.getD (i + o) 0 ^ j := by
    have : o = 0 ∨ o = 1 := by omega
    rcases this with rfl | rfl <;> simp [hermA]
   rw [e]
   exact this
  have r2 : ∀ j, j < 4 → IR 49 ((c2.drop (j * 4)).take 4) (hermA (xs.getD i 0) (xs.getD (i + 1) 0) (2 * o + 1) j) := fun j hj => by
   have := q5.at4 (j := j) (by omega)
   have e : hermA (xs.getD i 0) (xs.getD (i + 1) 0) (2 * o + 1) j = if j = 0 then 0 else xs.getD (i + o) 0 ^ (j - 1) * ((j : Int) : Rat) := by
    have : o = 0 ∨ o = 1 := by omega
    rcases this with rfl | rfl <;> simp [hermA]
   rw [e]
   split
   ·rename_i e0
    subst e0
    rw [q6] at this
    exact this
   ·rw [q8 j (by omega) hj] at this
    exact this
  refine o2.two (by omega) hcl1 hcl2 r1 r2 (by rfl) (by rfl) (fun c' H' f1 f2 => ?_)
  refine go8 ?_
  rw [addI1 (i + o) (by omega)]
  exact l_n (by rfl) (n' := 2 - (o + 1)) (by omega) ⟨o + 1, c', _, _, rfl, rfl, by omega, f1 0 _ _ (by decide) g0, f2⟩
 simp [compare'] at ho
 have eo : o = 2 := by omega
 subst eo
 refine go8 ?_
 have hH0 := lt_of_getElem? g0
 refine ld_box (get_grow g0) (by rfl) ?_
 refine go9 ?_
 refine ld_ls hy (i := i) (by omega) (by omega) rfl (fun av hav => ?_)
 rw [← getD_lt (l := ys) (i := i) (by omega)] at hav
 refine go9 ?_
 refine ld_boxA (get_grow g0) (by rfl) ?_
 refine go9 ?_
 refine ld_box (get_grow g0) (by rfl) ?_
 refine go9 ?_
 rw [addI1 i (by omega)]
 refine go9 ?_
 refine ld_ls hy (i := i + 1) (by omega) (by omega) rfl (fun bv hbv => ?_)
 rw [← getD_lt (l := ys) (i := i + 1) (by omega)] at hbv
 refine go9 ?_
 refine ld_boxA (get_grow g0) (by rfl) ?_
 refine go9 ?_
 first | refine call_C (hm i (by omega)) (fun u hu => ?_) | refine semH_of_semC (hm i (by omega)) (fun u hu => ?_)
 obtain ⟨cv, rfl, hcv⟩ := hu
 refine go9 ?_
 rw [addI1 i (by omega)]
 first | refine call_C (hm (i + 1) hi) (fun u hu => ?_) | refine semH_of_semC (hm (i + 1) hi) (fun u hu => ?_)
 obtain ⟨dv, rfl, hdv⟩ := hu
 obtain ⟨a1, a2, a3, a4, rfl⟩ := id (show IR 2 av _ from hav).four
 obtain ⟨b1, b2, b3, b4, rfl⟩ := id (show IR 2 bv _ from hbv).four
 obtain ⟨c1, c2, c3, c4, rfl⟩ := id hcv.four
 obtain ⟨d1, d2, d3, d4, rfl⟩ := id hdv.four
 refine go9 ?_
 obtain ⟨bs, d, f1, t1⟩ := (o2.grow (X := List.replicate (0 + 1) Slot.unb)).close (by omega)
 have hw := sub_ne (hr.get hi)
 obtain ⟨s1, s2⟩ := herm_solves (a := xs.getD i 0) (b := xs.getD (i + 1) 0) (y0 := ys.getD i 0) (m0 := m i) (y1 := ys.getD (i + 1) 0) (m1 := m (i + 1)) (s := slope xs ys i) (c := cubA xs ys m i) (d := cubB xs ys m i) hw rfl rfl rfl
 have hb : Ls (elR 49) (.imm 4 [a1, .bool a2, a3, .bool a4, c1, .bool c2, c3, .bool c4, b1, .bool b2, b3, .bool b4, d1, .bool d2, d3, .bool d4]) ((List.range 4).map (hermB (ys.getD i 0) (m i) (ys.getD (i + 1) 0) (m (i + 1)))) := by
  rw [show (List.range 4).map (hermB (ys.getD i 0) (m i) (ys.getD (i + 1) 0) (m (i + 1))) = [ys.getD i 0, m i, ys.getD (i + 1) 0, m (i + 1)] from rfl]
  exact .imm (.cons (show (elR 49).p _ _ from (show IR 2 _ _ from hav).up (by decide)) (.cons (show (elR 49).p _ _ from hcv) (.cons (show (elR 49).p _ _ from (show IR 2 _ _ from hbv).up (by decide)) (.one (show (elR 49).p _ _ from hdv)))))
 refine semH_of_semC_close bs (.cons (.c f1) (.cons (.c (.hf trivial)) (.cons (.c (.hf hb.hf)) .nil))) (ref04_Solution t1 hb (by decide) (by decide) (by decide) (by decide) (by decide) (by decide) s1 s2) (fun u hu => ?_)
 obtain ⟨ce, rfl, e1⟩ := hu
 refine go9 ?_
 first | refine call_C (ref02_Trim e1 (by simp)) (fun u hu => ?_) | refine semH_of_semC (ref02_Trim e1 (by simp)) (fun u hu => ?_)
 obtain ⟨cr, r, rfl, e2, e3⟩ := hu
 refine go9 ?_
 refine PolyK.fz e2 ⟨fun x => ?_, by have := e3.len; simpa using this, e3.top⟩
 rw [e3.ev, herm_ev]
 rfl
end Go.Proofs.YtjncgcnofiaiaaaGreat

set_option linter.unusedVariables false
set_option linter.unusedSimpArgs false
namespace Go.Proofs.YtjncgcnofiaiaaaGreat
open Go.RowKit
set_option maxRecDepth 20000
theorem Els.bdQ {k : Nat} {l : List Rat} {ds : List C} (h : Els (elQ k) ds l) : BdL k l := by
 intro i hi
 obtain ⟨cs, r, h1, _⟩ := h.get hi
 rw [getD_lt hi]
 exact (show IQ k cs l[i] from h1).bd
theorem Ls.bdQ {k : Nat} {c : C} {l : List Rat} (h : Ls (elQ k) c l) : BdL k l := h.els.bdQ
theorem IQ.tight {k m : Nat} {cs : List C} {q : Rat} (h : IQ k cs q) (hb : Bd m (rp q)) : IQ m cs q := ⟨h.is, hb⟩
theorem sg_mul (a b : Rat) : compare' Cm.leq (arith .mul .i64 (sgn (rp a).1) (sgn (rp b).1)) 0 = dec (a * b ≤ 0) := by
 have h := sg_le a b
 have h2 := sg_le b a
 show compare' Cm.leq (arith .mul .i64 (sgR a) (sgR b)) 0 = _
 have key : (sgR a * sgR b ≤ 0) ↔ a * b ≤ 0 := by
  rcases sgR_cases a with ⟨e1, h1⟩ | ⟨e1, h1⟩ | ⟨e1, h1⟩ <;> rcases sgR_cases b with ⟨e2, h2⟩ | ⟨e2, h2⟩ | ⟨e2, h2⟩ <;> rw [e1, e2] at h ⊢ <;> constructor <;> intro h3
  all_goals first | (exact absurd h3 (by decide)) | decide | skip
  all_goals first | (refine h.1 ?_; first | exact .inl (by decide) | exact .inr (by assumption)) | skip
  all_goals (rcases h.2 h3 with h4 | h4 <;> first | exact absurd rfl h4 | (subst h4; exact absurd h1 Rat.lt_irrefl))
 have hb : ∀ q, -1 ≤ sgR q ∧ sgR q ≤ 1 := fun q => by
  rcases sgR_cases q with ⟨e, _⟩ | ⟨e, _⟩ | ⟨e, _⟩ <;> rw [e] <;> omega
 have hm : -1 ≤ sgR a * sgR b ∧ sgR a * sgR b ≤ 1 := by
  rcases sgR_cases a with ⟨e1, h1⟩ | ⟨e1, h1⟩ | ⟨e1, h1⟩ <;> rcases sgR_cases b with ⟨e2, h2⟩ | ⟨e2, h2⟩ | ⟨e2, h2⟩ <;> rw [e1, e2] <;> decide
 rw [show arith .mul .i64 (sgR a) (sgR b) = sgR a * sgR b from by
  show IntKind.i64.wrap _ = _
  rw [wrap_i64 (by omega) (by omega)]]
 show dec _ = _
 rw [propext key]
theorem ld_lsD {E : El Rat} {c : C} {l : List Rat} {es n i : Nat} {K : V → Prop} (hc : Ls E c l) (hi : i < l.length) (hn : n = i) (he : E.s = es) (k : ∀ cs, E.p cs (l.getD i 0) → K (.agg cs)) : ldCells (c.ds.drop (n * es)) true es K :=
 ld_ls hc hi hn he (fun cs h => k cs (by rw [getD_lt hi]; exact h))
attribute [local irreducible] compare' semH semC qLen qNil qIad qSlc qIdx ldBox ldCells stBox appX appI slcX awpF awpOpsF awpDF xopF xopDF qval lval seqQ blockQ loopQ bodyF retKF cnd arith IntKind.wrap
theorem table_parabola {cx cy : C} {xs ys : List Rat} {a i : Nat} (hx : Ls (elQ 2) cx xs) (hy : Ls (elQ 2) cy ys) (hr : Rises xs) (hlen : ys.length = xs.length) (hl : xs.length ≤ 1024) (ha : a + 2 < xs.length) (hi : i < xs.length) : semC Tryz.prog n_table_hold_parabola [.agg [cx, cy], i64 a, i64 i] (QV 49 (paraS xs ys a i)) := by
 refine semC_of_awpF ok_table_hold_parabola rfl (show HFVs [.agg [cx, cy], i64 a, i64 i] from ⟨⟨hx.hf, hy.hf, trivial⟩, trivial, trivial, trivial⟩) ?_
 have hsl : (slopes xs ys).length = xs.length - 1 := slopes_len
 refine go9 ?_
 first | refine call_C (table_hold_lines hx hy hr hlen (by omega) (by decide)) (fun u hu => ?_) | refine semH_of_semC (table_hold_lines hx hy hr hlen (by omega) (by decide)) (fun u hu => ?_)
 obtain ⟨cl, rfl, g1⟩ := hu
 refine go9 ?_
 rw [addI1 a (by omega)]
 refine go9 ?_
 refine ld_ls g1 (i := a + 1) (by omega) (by omega) rfl (fun av hav => ?_)
 rw [slopes_get] at hav
 refine go9 ?_
 refine ld_ls g1 (i := a) (by omega) (by omega) rfl (fun bv hbv => ?_)
 rw [slopes_get] at hbv
 refine go9 ?_
 rw [show arith .add .i64 (a : Int) 2 = ((a + 2 : Nat) : Int) by rw [ar_add, wrap_i64 (by omega) (by omega)]; omega]
 refine go9 ?_
 refine ld_ls hx (i := a + 2) (by omega) (by omega) rfl (fun cv hcv => ?_)
 rw [← getD_lt (l := xs) (i := a + 2) (by omega)] at hcv
 refine go9 ?_
 refine ld_ls hx (i := a) (by omega) (by omega) rfl (fun dv hdv => ?_)
 rw [← getD_lt (l := xs) (i := a) (by omega)] at hdv
 refine go9 ?_
 first | refine call_C (q_Sub2 hav hbv (by decide)) (fun u hu => ?_) | refine semH_of_semC (q_Sub2 hav hbv (by decide)) (fun u hu => ?_)
 obtain ⟨es, rfl, h1⟩ := hu
 refine go9 ?_
 first | refine call_C (q_Sub2 hcv hdv (by decide)) (fun u hu => ?_) | refine semH_of_semC (q_Sub2 hcv hdv (by decide)) (fun u hu => ?_)
 obtain ⟨fs, rfl, h2⟩ := hu
 refine go9 ?_
 first | refine call_C (q_Div2 h1 h2 (by decide) (sub_ne (hr.lt (show a < a + 2 by omega) ha))) (fun u hu => ?_) | refine semH_of_semC (q_Div2 h1 h2 (by decide) (sub_ne (hr.lt (show a < a + 2 by omega) ha))) (fun u hu => ?_)
 obtain ⟨gs, rfl, h3⟩ := hu
 obtain ⟨z1, z2, z3, z4, z5, z6, rfl⟩ := id h3.six
 refine go9 ?_
 simp only [spanC, zeroC, ratC, zeroE, zeroS, List.set_cons_zero, List.set_cons_succ, List.nil_append, List.cons_append, List.append_nil, List.replicate_succ, List.replicate_zero, List.length_cons, List.length_nil, splice, List.take_succ_cons, List.take_zero, List.drop_succ_cons, List.drop_zero, List.take_nil, List.drop_nil, Nat.zero_add, Nat.reduceAdd, Nat.reduceMul, Int.reduceToNat, closeB, List.getElem?_cons_succ, List.getElem?_cons_zero]
 refine ld_ls g1 (i := a) (by omega) (by omega) rfl (fun iv hiv => ?_)
 rw [slopes_get] at hiv
 refine go9 ?_
 refine ld_lsD hx (i := i) hi (by omega) rfl (fun jv hjv => ?_)
 refine go9 ?_
 refine ld_lsD hx (i := a) (by omega) (by omega) rfl (fun kv hkv => ?_)
 refine go9 ?_
 refine ld_lsD hx (i := i) hi (by omega) rfl (fun lv hlv => ?_)
 refine go9 ?_
 rw [addI1 a (by omega)]
 refine go9 ?_
 refine ld_lsD hx (i := a + 1) (by omega) (by omega) rfl (fun mv hmv => ?_)
 refine go9 ?_
 first | refine call_C (q_Sub2 hjv hkv (by decide)) (fun u hu => ?_) | refine semH_of_semC (q_Sub2 hjv hkv (by decide)) (fun u hu => ?_)
 obtain ⟨ns, rfl, h4⟩ := hu
 refine go9 ?_
 first | refine call_C (q_Sub2 hlv hmv (by decide)) (fun u hu => ?_) | refine semH_of_semC (q_Sub2 hlv hmv (by decide)) (fun u hu => ?_)
 obtain ⟨os, rfl, h5⟩ := hu
 refine go9 ?_
 first | refine call_C (q_Add2 h4 h5 (by decide)) (fun u hu => ?_) | refine semH_of_semC (q_Add2 h4 h5 (by decide)) (fun u hu => ?_)
 obtain ⟨ps, rfl, h6⟩ := hu
 refine go9 ?_
 first | refine call_C (q_Mul2 h3 h6 (by decide)) (fun u hu => ?_) | refine semH_of_semC (q_Mul2 h3 h6 (by decide)) (fun u hu => ?_)
 obtain ⟨qs, rfl, h7⟩ := hu
 refine go9 ?_
 first | refine call_C (q_Add2 hiv h7 (by decide)) (fun u hu => ?_) | refine semH_of_semC (q_Add2 hiv h7 (by decide)) (fun u hu => ?_)
 obtain ⟨rs, rfl, h8⟩ := hu
 obtain ⟨_, _, _, _, _, _, rfl⟩ := id h8.six
 refine go9 ?_
 exact QV.fz (h8.tight (bd_para hx.bdQ hy.bdQ hr hlen ha hi))
theorem table_smooth {cx cy : C} {xs ys : List Rat} (hx : Ls (elQ 2) cx xs) (hy : Ls (elQ 2) cy ys) (hr : Rises xs) (hlen : ys.length = xs.length) (hl : xs.length ≤ 1024) : semC Tryz.prog n_table_hold_smooth [.agg [cx, cy]] (LsK (elQ 49) ((List.range xs.length).map (smoothS xs ys))) := by
 refine semC_of_awpF ok_table_hold_smooth rfl (show HFVs [.agg [cx, cy]] from ⟨⟨hx.hf, hy.hf, trivial⟩, trivial⟩) ?_
 have hsl : (slopes xs ys).length = xs.length - 1 := slopes_len
 generalize hn : xs.length = n at *
 refine go9 ?_
 rw [hn]
 refine x_mkSl (by rfl) (by rfl) ⟨by omega, by omega, by omega, by omega⟩ ?_
 refine go9 ?_
 simp only [spanC, zeroC, ratC, zeroE, zeroS, List.set_cons_zero, List.set_cons_succ, List.nil_append, List.cons_append, List.append_nil, List.replicate_succ, List.replicate_zero, List.length_cons, List.length_nil, splice, List.take_succ_cons, List.take_zero, List.drop_succ_cons, List.drop_zero, List.take_nil, List.drop_nil, Nat.zero_add, Nat.reduceAdd, Nat.reduceMul, Int.reduceToNat, closeB, List.getElem?_cons_succ, List.getElem?_cons_zero]
 refine f_loop (fun w vs H => ∃ (i : Nat) (cells : List C), vs = [.c (.ptr 0 0), i64 n, .c (.sl 1 0 n (some n) 6), i64 n, i64 i] ∧ H = [.live ⟨[cx, cy], T_table_hold, .rw⟩, .live ⟨cells, T_num_Q, .rw⟩] ∧ w = n - i ∧ i ≤ n ∧ Fill (elQ 49) zeroQ n cells ((List.range i).map (smoothS xs ys))) (by rfl) ⟨0, _, rfl, rfl, rfl, by omega, .zero rfl⟩ ?_
 rintro w vs H ⟨i, cells, rfl, rfl, rfl, h1, h2⟩
 have hcl : cells.length = n * 6 := h2.len
 have htl : ((List.range i).map (smoothS xs ys)).length = i := by simp
 refine go9 ?_
 cases hi : compare' Cm.lss (i : Int) (n : Int)
 case false =>
  simp [compare'] at hi
  have ei : i = n := by omega
  subst ei
  have h3 := h2.done htl
  have h4 := Ls.imm h3
  rw [htl] at h4
  refine go9 ?_
  exact ⟨_, .c (fz_sl (bx := ⟨cells, T_num_Q, .rw⟩) (ds := cells) (by rfl) (by simp) (by simp) (by rw [List.drop_zero, List.take_of_length_le (by simp only; omega)]) h3.hf), _, rfl, h4⟩
 simp [compare'] at hi
 have fin : ∀ {cs : List C}, IQ 49 cs (smoothS xs ys i) → Fill (elQ 49) zeroQ n (splice cells (0 + ((i : Nat) : Int).toNat * 6) cs) ((List.range (i + 1)).map (smoothS xs ys)) := fun h => by
  have h3 := h2.put (by rw [htl]; omega) h
  rw [htl, ← range_map_succ] at h3
  rw [show 0 + ((i : Nat) : Int).toNat * 6 = i * 6 by omega]
  exact h3
 refine go9 ?_
 cases hn1 : compare' Cm.eql (n : Int) 1
 case true =>
  simp [compare'] at hn1
  refine go9 ?_
  first | refine call_C (q_Int (g := 0) (by decide)) (fun u hu => ?_) | refine semH_of_semC (q_Int (g := 0) (by decide)) (fun u hu => ?_)
  obtain ⟨es, rfl, hes⟩ := hu
  have hes : IQ 49 es (smoothS xs ys i) := by
   unfold smoothS
   rw [if_pos (by omega)]
   exact hes.up (by decide)
  obtain ⟨_, _, _, _, _, _, rfl⟩ := id hes.six
  refine go9 ?_
  rw [addI1 i (by omega)]
  exact l_n (by rfl) (by omega) ⟨i + 1, _, rfl, rfl, rfl, by omega, fin hes⟩
 simp [compare'] at hn1
 refine go9 ?_
 cases hn2 : compare' Cm.eql (n : Int) 2
 case true =>
  simp [compare'] at hn2
  refine go9 ?_
  first | refine call_C (table_hold_lines hx hy hr (by omega) (by omega) (by decide)) (fun u hu => ?_) | refine semH_of_semC (table_hold_lines hx hy hr (by omega) (by omega) (by decide)) (fun u hu => ?_)
  obtain ⟨cl, rfl, g1⟩ := hu
  refine go9 ?_
  refine ld_ls g1 (i := 0) (by omega) rfl rfl (fun es hes => ?_)
  rw [slopes_get] at hes
  have hes : IQ 49 es (smoothS xs ys i) := by
   unfold smoothS
   rw [if_neg (by omega), if_pos (by omega)]
   exact (show IQ 10 _ _ from hes).up (by decide)
  obtain ⟨_, _, _, _, _, _, rfl⟩ := id hes.six
  refine go9 ?_
  rw [addI1 i (by omega)]
  exact l_n (by rfl) (by omega) ⟨i + 1, _, rfl, rfl, rfl, by omega, fin hes⟩
 simp [compare'] at hn2
 refine go9 ?_
 rw [show arith .sub .i64 (n : Int) 3 = (n : Int) - 3 by rw [ar_sub, wrap_i64 (by omega) (by omega)], show arith .sub .i64 (i : Int) 1 = (i : Int) - 1 by rw [ar_sub, wrap_i64 (by omega) (by omega)]]
 rw [show (if (n : Int) - 3 < (if 0 > (i : Int) - 1 then 0 else (i : Int) - 1) then (n : Int) - 3 else (if 0 > (i : Int) - 1 then 0 else (i : Int) - 1)) = ((min (i - 1) (n - 3) : Nat) : Int) by split <;> split <;> omega]
 first | refine call_C (table_parabola (a := min (i - 1) (n - 3)) (i := i) hx hy hr (by omega) (by omega) (by omega) (by omega)) (fun u hu => ?_) | refine semH_of_semC (table_parabola (a := min (i - 1) (n - 3)) (i := i) hx hy hr (by omega) (by omega) (by omega) (by omega)) (fun u hu => ?_)
 obtain ⟨es, rfl, hes⟩ := hu
 have hes : IQ 49 es (smoothS xs ys i) := by
  unfold smoothS
  rw [if_neg (by omega), if_neg (by omega), hn]
  exact hes
 obtain ⟨_, _, _, _, _, _, rfl⟩ := id hes.six
 refine go9 ?_
 rw [addI1 i (by omega)]
 exact l_n (by rfl) (by omega) ⟨i + 1, _, rfl, rfl, rfl, by omega, fin hes⟩
theorem table_keep {cx cy : C} {xs ys : List Rat} (hx : Ls (elQ 2) cx xs) (hy : Ls (elQ 2) cy ys) (hr : Rises xs) (hlen : ys.length = xs.length) (hl : xs.length ≤ 1024) : semC Tryz.prog n_table_hold_keep [.agg [cx, cy]] (LsK (elQ 49) ((List.range xs.length).map (keepS xs ys))) := by
 refine semC_of_awpF ok_table_hold_keep rfl (show HFVs [.agg [cx, cy]] from ⟨⟨hx.hf, hy.hf, trivial⟩, trivial⟩) ?_
 have hsl : (slopes xs ys).length = xs.length - 1 := slopes_len
 have hbd := fun i hi => bd_keep (i := i) hx.bdQ hy.bdQ hr hlen hi
 generalize hn : xs.length = n at *
 refine go9 ?_
 first | refine call_C (table_hold_lines hx hy hr (by omega) (by omega) (by decide)) (fun u hu => ?_) | refine semH_of_semC (table_hold_lines hx hy hr (by omega) (by omega) (by decide)) (fun u hu => ?_)
 obtain ⟨cl, rfl, g1⟩ := hu
 refine go9 ?_
 rw [hn]
 refine x_mkSl (by rfl) (by rfl) ⟨by omega, by omega, by omega, by omega⟩ ?_
 refine go9 ?_
 simp only [spanC, zeroC, ratC, zeroE, zeroS, List.set_cons_zero, List.set_cons_succ, List.nil_append, List.cons_append, List.append_nil, List.replicate_succ, List.replicate_zero, List.length_cons, List.length_nil, splice, List.take_succ_cons, List.take_zero, List.drop_succ_cons, List.drop_zero, List.take_nil, List.drop_nil, Nat.zero_add, Nat.reduceAdd, Nat.reduceMul, Int.reduceToNat, closeB, List.getElem?_cons_succ, List.getElem?_cons_zero]
 refine f_loop (fun w vs H => ∃ (i : Nat) (cells : List C), vs = [i64 n, .c cl, .c (.sl 1 0 n (some n) 6), i64 n, i64 i] ∧ H = [.live ⟨[cx, cy], T_table_hold, .rw⟩, .live ⟨cells, T_num_Q, .rw⟩] ∧ w = n - i ∧ i ≤ n ∧ Fill (elQ 49) zeroQ n cells ((List.range i).map (keepS xs ys))) (by rfl) ⟨0, _, rfl, rfl, rfl, by omega, .zero rfl⟩ ?_
 rintro w vs H ⟨i, cells, rfl, rfl, rfl, h1, h2⟩
 have hcl : cells.length = n * 6 := h2.len
 have htl : ((List.range i).map (keepS xs ys)).length = i := by simp
 refine go9 ?_
 cases hi : compare' Cm.lss (i : Int) (n : Int)
 case false =>
  simp [compare'] at hi
  have ei : i = n := by omega
  subst ei
  have h3 := h2.done htl
  have h4 := Ls.imm h3
  rw [htl] at h4
  refine go9 ?_
  exact ⟨_, .c (fz_sl (bx := ⟨cells, T_num_Q, .rw⟩) (ds := cells) (by rfl) (by simp) (by simp) (by rw [List.drop_zero, List.take_of_length_le (by simp only; omega)]) h3.hf), _, rfl, h4⟩
 simp [compare'] at hi
 have fin : ∀ {cs : List C}, IQ 49 cs (keepS xs ys i) → Fill (elQ 49) zeroQ n (splice cells (0 + ((i : Nat) : Int).toNat * 6) cs) ((List.range (i + 1)).map (keepS xs ys)) := fun h => by
  have h3 := h2.put (by rw [htl]; omega) h
  rw [htl, ← range_map_succ] at h3
  rw [show 0 + ((i : Nat) : Int).toNat * 6 = i * 6 by omega]
  exact h3
 refine go9 ?_
 cases hn1 : compare' Cm.eql (n : Int) 1
 case true =>
  simp [compare'] at hn1
  refine go9 ?_
  first | refine call_C (q_Int (g := 0) (by decide)) (fun u hu => ?_) | refine semH_of_semC (q_Int (g := 0) (by decide)) (fun u hu => ?_)
  obtain ⟨es, rfl, hes⟩ := hu
  have hes : IQ 49 es (keepS xs ys i) := by
   unfold keepS
   rw [if_pos (by omega)]
   exact hes.up (by decide)
  obtain ⟨_, _, _, _, _, _, rfl⟩ := id hes.six
  refine go9 ?_
  rw [addI1 i (by omega)]
  exact l_n (by rfl) (by omega) ⟨i + 1, _, rfl, rfl, rfl, by omega, fin hes⟩
 simp [compare'] at hn1
 refine go9 ?_
 cases hi0 : compare' Cm.eql (i : Int) 0
 case true =>
  simp [compare'] at hi0
  refine go9 ?_
  refine ld_ls g1 (i := 0) (by omega) rfl rfl (fun es hes => ?_)
  rw [slopes_get] at hes
  have hes : IQ 49 es (keepS xs ys i) := by
   unfold keepS
   rw [if_neg (by omega), if_pos hi0]
   exact (show IQ 10 _ _ from hes).up (by decide)
  obtain ⟨_, _, _, _, _, _, rfl⟩ := id hes.six
  refine go9 ?_
  rw [addI1 i (by omega)]
  exact l_n (by rfl) (by omega) ⟨i + 1, _, rfl, rfl, rfl, by omega, fin hes⟩
 simp [compare'] at hi0
 refine go9 ?_
 rw [show arith .sub .i64 (n : Int) 1 = ((n - 1 : Nat) : Int) by rw [ar_sub, wrap_i64 (by omega) (by omega)]; omega]
 cases hi1 : compare' Cm.eql (i : Int) ((n - 1 : Nat) : Int)
 case true =>
  simp [compare'] at hi1
  refine go9 ?_
  rw [show arith .sub .i64 (n : Int) 2 = ((n - 2 : Nat) : Int) by rw [ar_sub, wrap_i64 (by omega) (by omega)]; omega]
  refine go9 ?_
  refine ld_ls g1 (i := n - 2) (by omega) (by omega) rfl (fun es hes => ?_)
  rw [slopes_get] at hes
  have hes : IQ 49 es (keepS xs ys i) := by
   unfold keepS
   rw [if_neg (by omega), if_neg hi0, if_pos (by omega), hn]
   exact (show IQ 10 _ _ from hes).up (by decide)
  obtain ⟨_, _, _, _, _, _, rfl⟩ := id hes.six
  refine go9 ?_
  rw [addI1 i (by omega)]
  exact l_n (by rfl) (by omega) ⟨i + 1, _, rfl, rfl, rfl, by omega, fin hes⟩
 simp [compare'] at hi1
 refine go9 ?_
 have e1 : arith .sub .i64 (i : Int) 1 = ((i - 1 : Nat) : Int) := by rw [ar_sub, wrap_i64 (by omega) (by omega)]; omega
 rw [e1]
 refine go9 ?_
 refine ld_ls g1 (i := i - 1) (by omega) (by omega) rfl (fun av hav => ?_)
 rw [slopes_get] at hav
 refine go9 ?_
 refine ld_ls g1 (i := i) (by omega) (by omega) rfl (fun bv hbv => ?_)
 rw [slopes_get] at hbv
 refine go9 ?_
 first | refine call_C (num_Q_Sign (show IQ 10 _ _ from hav).is) (fun u hu => ?_) | refine semH_of_semC (num_Q_Sign (show IQ 10 _ _ from hav).is) (fun u hu => ?_)
 obtain rfl := hu
 refine go9 ?_
 first | refine call_C (num_Q_Sign (show IQ 10 _ _ from hbv).is) (fun u hu => ?_) | refine semH_of_semC (num_Q_Sign (show IQ 10 _ _ from hbv).is) (fun u hu => ?_)
 obtain rfl := hu
 refine go9 ?_
 rw [sg_mul]
 cases hm : dec (slope xs ys (i - 1) * slope xs ys i ≤ 0)
 case true =>
  have hm := dec_true.1 hm
  refine go9 ?_
  first | refine call_C (q_Int (g := 0) (by decide)) (fun u hu => ?_) | refine semH_of_semC (q_Int (g := 0) (by decide)) (fun u hu => ?_)
  obtain ⟨es, rfl, hes⟩ := hu
  have hes : IQ 49 es (keepS xs ys i) := by
   unfold keepS
   rw [if_neg (by omega), if_neg hi0, if_neg (by omega), if_pos hm]
   exact hes.up (by decide)
  obtain ⟨_, _, _, _, _, _, rfl⟩ := id hes.six
  refine go9 ?_
  rw [addI1 i (by omega)]
  exact l_n (by rfl) (by omega) ⟨i + 1, _, rfl, rfl, rfl, by omega, fin hes⟩
 have hm := dec_false.1 hm
 refine go9 ?_
 rw [e1]
 refine go9 ?_
 refine ld_ls g1 (i := i - 1) (by omega) (by omega) rfl (fun av hav => ?_)
 rw [slopes_get] at hav
 refine go9 ?_
 refine ld_ls g1 (i := i) (by omega) (by omega) rfl (fun bv hbv => ?_)
 rw [slopes_get] at hbv
 refine go9 ?_
 rw [e1]
 refine go9 ?_
 refine ld_ls g1 (i := i - 1) (by omega) (by omega) rfl (fun cv hcv => ?_)
 rw [slopes_get] at hcv
 refine go9 ?_
 refine ld_ls g1 (i := i) (by omega) (by omega) rfl (fun dv hdv => ?_)
 rw [slopes_get] at hdv
 refine go9 ?_
 first | refine call_C (q_Int (g := 2) (by decide)) (fun u hu => ?_) | refine semH_of_semC (q_Int (g := 2) (by decide)) (fun u hu => ?_)
 obtain ⟨fs, rfl, h3⟩ := hu
 refine go9 ?_
 first | refine call_C (q_Mul2 h3 hav (by decide)) (fun u hu => ?_) | refine semH_of_semC (q_Mul2 h3 hav (by decide)) (fun u hu => ?_)
 obtain ⟨gs, rfl, h4⟩ := hu
 refine go9 ?_
 first | refine call_C (q_Mul2 h4 hbv (by decide)) (fun u hu => ?_) | refine semH_of_semC (q_Mul2 h4 hbv (by decide)) (fun u hu => ?_)
 obtain ⟨hs, rfl, h5⟩ := hu
 refine go9 ?_
 first | refine call_C (q_Add2 hcv hdv (by decide)) (fun u hu => ?_) | refine semH_of_semC (q_Add2 hcv hdv (by decide)) (fun u hu => ?_)
 obtain ⟨js, rfl, h6⟩ := hu
 refine go9 ?_
 first | refine call_C (q_Div2 h5 h6 (by decide) (keep_ne hm)) (fun u hu => ?_) | refine semH_of_semC (q_Div2 h5 h6 (by decide) (keep_ne hm)) (fun u hu => ?_)
 obtain ⟨es, rfl, hes⟩ := hu
 have hes : IQ 49 es (keepS xs ys i) := by
  have hb := hbd i hi
  unfold keepS at hb ⊢
  rw [if_neg (by omega), if_neg hi0, if_neg (by omega), if_neg hm] at hb ⊢
  exact hes.tight hb
 obtain ⟨_, _, _, _, _, _, rfl⟩ := id hes.six
 refine go9 ?_
 rw [addI1 i (by omega)]
 exact l_n (by rfl) (by omega) ⟨i + 1, _, rfl, rfl, rfl, by omega, fin hes⟩
end Go.Proofs.YtjncgcnofiaiaaaGreat

set_option linter.unusedVariables false
set_option linter.unusedSimpArgs false
namespace Go.Proofs.YtjncgcnofiaiaaaGreat
open Go.RowKit
set_option maxRecDepth 20000
theorem getD_map {m : Nat → Rat} {n i : Nat} (h : i < n) : ((List.range n).map m).getD i 0 = m i := by
 rw [getD_lt (by simpa using h)]
 simp
attribute [local irreducible] compare' semH semC qLen qNil qIad qSlc qIdx ldBox ldCells stBox appX appI slcX awpF awpOpsF awpDF xopF xopDF qval lval seqQ blockQ loopQ bodyF retKF cnd arith IntKind.wrap
theorem table_piece_cubic {cx cy cm : C} {xs ys : List Rat} {m : Nat → Rat} {i : Nat} (hx : Ls (elQ 2) cx xs) (hy : Ls (elQ 2) cy ys) (hm : Ls (elQ 49) cm ((List.range xs.length).map m)) (hr : Rises xs) (hlen : ys.length = xs.length) (hl : xs.length ≤ 1024) (hi : i + 1 < xs.length) : semC Tryz.prog n_table_piece [.c (.ifaceA T_table_cubic [cx, cy, cm]), i64 i] (PolyK (elQ shapeMax) (PieceIs (cubP m xs ys i))) := by
 refine semC_of_awpF ok_table_piece rfl (show HFVs [.c (.ifaceA T_table_cubic [cx, cy, cm]), i64 i] from ⟨⟨hx.hf, hy.hf, hm.hf, trivial⟩, trivial, trivial⟩) ?_
 have hml : ((List.range xs.length).map m).length = xs.length := by simp
 have hsl : (slopes xs ys).length = xs.length - 1 := slopes_len
 have hne := sub_ne (hr.get hi)
 refine go9 ?_
 first | refine call_C (table_at_cubic hx.hf hy.hf hm.hf) (fun u hu => ?_) | refine semH_of_semC (table_at_cubic hx.hf hy.hf hm.hf) (fun u hu => ?_)
 obtain rfl := hu
 refine go9 ?_
 rw [addI1 i (by omega)]
 refine go9 ?_
 refine ld_lsD hx (i := i + 1) (by omega) (by omega) rfl (fun av hav => ?_)
 refine go9 ?_
 refine ld_lsD hx (i := i) (by omega) (by omega) rfl (fun bv hbv => ?_)
 refine go9 ?_
 first | refine call_C (q_Sub2 hav hbv (by decide)) (fun u hu => ?_) | refine semH_of_semC (q_Sub2 hav hbv (by decide)) (fun u hu => ?_)
 obtain ⟨ws, rfl, hw⟩ := hu
 obtain ⟨w1, w2, w3, w4, w5, w6, rfl⟩ := id hw.six
 refine go9 ?_
 simp only [spanC, zeroC, ratC, zeroE, zeroS, List.set_cons_zero, List.set_cons_succ, List.nil_append, List.cons_append, List.append_nil, List.replicate_succ, List.replicate_zero, List.length_cons, List.length_nil, splice, List.take_succ_cons, List.take_zero, List.drop_succ_cons, List.drop_zero, List.take_nil, List.drop_nil, Nat.zero_add, Nat.reduceAdd, Nat.reduceMul, Int.reduceToNat, closeB, List.getElem?_cons_succ, List.getElem?_cons_zero]
 first | refine call_C (table_hold_lines hx hy hr hlen (by omega) (by decide)) (fun u hu => ?_) | refine semH_of_semC (table_hold_lines hx hy hr hlen (by omega) (by decide)) (fun u hu => ?_)
 obtain ⟨cl, rfl, g1⟩ := hu
 refine go9 ?_
 refine ld_ls g1 (i := i) (by omega) (by omega) rfl (fun dv hdv => ?_)
 rw [slopes_get] at hdv
 have hdv : IQ 10 dv _ := hdv
 obtain ⟨d1, d2, d3, d4, d5, d6, rfl⟩ := id hdv.six
 refine go9 ?_
 simp only [spanC, zeroC, ratC, zeroE, zeroS, List.set_cons_zero, List.set_cons_succ, List.nil_append, List.cons_append, List.append_nil, List.replicate_succ, List.replicate_zero, List.length_cons, List.length_nil, splice, List.take_succ_cons, List.take_zero, List.drop_succ_cons, List.drop_zero, List.take_nil, List.drop_nil, Nat.zero_add, Nat.reduceAdd, Nat.reduceMul, Int.reduceToNat, closeB, List.getElem?_cons_succ, List.getElem?_cons_zero]
 refine ld_lsD hm (i := i) (by omega) (by omega) rfl (fun ev hev => ?_)
 rw [getD_map (by omega)] at hev
 refine go9 ?_
 rw [addI1 i (by omega)]
 refine go9 ?_
 refine ld_lsD hm (i := i + 1) (by omega) (by omega) rfl (fun fv hfv => ?_)
 rw [getD_map (by omega)] at hfv
 refine go9 ?_
 first | refine call_C (q_Int (g := 3) (by decide)) (fun u hu => ?_) | refine semH_of_semC (q_Int (g := 3) (by decide)) (fun u hu => ?_)
 obtain ⟨k1, rfl, h1⟩ := hu
 refine go9 ?_
 first | refine call_C (q_Mul2 h1 hdv (by decide)) (fun u hu => ?_) | refine semH_of_semC (q_Mul2 h1 hdv (by decide)) (fun u hu => ?_)
 obtain ⟨k2, rfl, h2⟩ := hu
 refine go9 ?_
 first | refine call_C (q_Int (g := 2) (by decide)) (fun u hu => ?_) | refine semH_of_semC (q_Int (g := 2) (by decide)) (fun u hu => ?_)
 obtain ⟨k3, rfl, h3⟩ := hu
 refine go9 ?_
 first | refine call_C (q_Mul2 h3 hev (by decide)) (fun u hu => ?_) | refine semH_of_semC (q_Mul2 h3 hev (by decide)) (fun u hu => ?_)
 obtain ⟨k4, rfl, h4⟩ := hu
 refine go9 ?_
 first | refine call_C (q_Sub2 h2 h4 (by decide)) (fun u hu => ?_) | refine semH_of_semC (q_Sub2 h2 h4 (by decide)) (fun u hu => ?_)
 obtain ⟨k5, rfl, h5⟩ := hu
 refine go9 ?_
 first | refine call_C (q_Sub2 h5 hfv (by decide)) (fun u hu => ?_) | refine semH_of_semC (q_Sub2 h5 hfv (by decide)) (fun u hu => ?_)
 obtain ⟨k6, rfl, h6⟩ := hu
 refine go9 ?_
 first | refine call_C (q_Div2 h6 hw (by decide) hne) (fun u hu => ?_) | refine semH_of_semC (q_Div2 h6 hw (by decide) hne) (fun u hu => ?_)
 obtain ⟨cs, rfl, hc2⟩ := hu
 have hc2 : IQ 121 cs (cubA xs ys m i) := hc2.up (by decide)
 obtain ⟨c1, c2, c3, c4, c5, c6, rfl⟩ := id hc2.six
 refine go9 ?_
 simp only [spanC, zeroC, ratC, zeroE, zeroS, List.set_cons_zero, List.set_cons_succ, List.nil_append, List.cons_append, List.append_nil, List.replicate_succ, List.replicate_zero, List.length_cons, List.length_nil, splice, List.take_succ_cons, List.take_zero, List.drop_succ_cons, List.drop_zero, List.take_nil, List.drop_nil, Nat.zero_add, Nat.reduceAdd, Nat.reduceMul, Int.reduceToNat, closeB, List.getElem?_cons_succ, List.getElem?_cons_zero]
 refine ld_lsD hm (i := i) (by omega) (by omega) rfl (fun ev hev => ?_)
 rw [getD_map (by omega)] at hev
 refine go9 ?_
 rw [addI1 i (by omega)]
 refine go9 ?_
 refine ld_lsD hm (i := i + 1) (by omega) (by omega) rfl (fun fv hfv => ?_)
 rw [getD_map (by omega)] at hfv
 refine go9 ?_
 first | refine call_C (q_Add2 hev hfv (by decide)) (fun u hu => ?_) | refine semH_of_semC (q_Add2 hev hfv (by decide)) (fun u hu => ?_)
 obtain ⟨l1, rfl, j1⟩ := hu
 refine go9 ?_
 first | refine call_C (q_Int (g := 2) (by decide)) (fun u hu => ?_) | refine semH_of_semC (q_Int (g := 2) (by decide)) (fun u hu => ?_)
 obtain ⟨l2, rfl, j2⟩ := hu
 refine go9 ?_
 first | refine call_C (q_Mul2 j2 hdv (by decide)) (fun u hu => ?_) | refine semH_of_semC (q_Mul2 j2 hdv (by decide)) (fun u hu => ?_)
 obtain ⟨l3, rfl, j3⟩ := hu
 refine go9 ?_
 first | refine call_C (q_Sub2 j1 j3 (by decide)) (fun u hu => ?_) | refine semH_of_semC (q_Sub2 j1 j3 (by decide)) (fun u hu => ?_)
 obtain ⟨l4, rfl, j4⟩ := hu
 refine go9 ?_
 first | refine call_C (q_Mul2 hw hw (by decide)) (fun u hu => ?_) | refine semH_of_semC (q_Mul2 hw hw (by decide)) (fun u hu => ?_)
 obtain ⟨l5, rfl, j5⟩ := hu
 refine go9 ?_
 first | refine call_C (q_Div2 j4 j5 (by decide) (fun e => by rcases Rat.mul_eq_zero.1 e with e | e <;> exact hne e)) (fun u hu => ?_) | refine semH_of_semC (q_Div2 j4 j5 (by decide) (fun e => by rcases Rat.mul_eq_zero.1 e with e | e <;> exact hne e)) (fun u hu => ?_)
 obtain ⟨es, rfl, hc3⟩ := hu
 have hc3 : IQ 121 es (cubB xs ys m i) := hc3.up (by decide)
 obtain ⟨e1, e2, e3, e4, e5, e6, rfl⟩ := id hc3.six
 refine go9 ?_
 simp only [spanC, zeroC, ratC, zeroE, zeroS, List.set_cons_zero, List.set_cons_succ, List.nil_append, List.cons_append, List.append_nil, List.replicate_succ, List.replicate_zero, List.length_cons, List.length_nil, splice, List.take_succ_cons, List.take_zero, List.drop_succ_cons, List.drop_zero, List.take_nil, List.drop_nil, Nat.zero_add, Nat.reduceAdd, Nat.reduceMul, Int.reduceToNat, closeB, List.getElem?_cons_succ, List.getElem?_cons_zero]
 refine ld_lsD hy (i := i) (by omega) (by omega) rfl (fun gv hgv => ?_)
 obtain ⟨g1, g2, g3, g4, g5, g6, rfl⟩ := id (show IQ 2 _ _ from hgv).six
 refine go9 ?_
 refine ld_lsD hm (i := i) (by omega) (by omega) rfl (fun iv hiv => ?_)
 rw [getD_map (by omega)] at hiv
 obtain ⟨i1, i2, i3, i4, i5, i6, rfl⟩ := id (show IQ 49 _ _ from hiv).six
 refine go9 ?_
 simp only [spanC, zeroC, ratC, zeroE, zeroS, List.set_cons_zero, List.set_cons_succ, List.nil_append, List.cons_append, List.append_nil, List.replicate_succ, List.replicate_zero, List.length_cons, List.length_nil, splice, List.take_succ_cons, List.take_zero, List.drop_succ_cons, List.drop_zero, List.take_nil, List.drop_nil, Nat.zero_add, Nat.reduceAdd, Nat.reduceMul, Int.reduceToNat, closeB, List.getElem?_cons_succ, List.getElem?_cons_zero]
 have hp : Ls (elQ 121) (.imm 4 [g1, g2, g3, g4, g5, g6, i1, i2, i3, i4, i5, i6, c1, c2, c3, c4, c5, c6, e1, e2, e3, e4, e5, e6]) [ys.getD i 0, m i, cubA xs ys m i, cubB xs ys m i] :=
  .imm (.cons (show (elQ 121).p _ _ from (show IQ 2 _ _ from hgv).up (by decide)) (.cons (show (elQ 121).p _ _ from (show IQ 49 _ _ from hiv).up (by decide)) (.cons (show (elQ 121).p _ _ from hc2) (.one (show (elQ 121).p _ _ from hc3)))))
 first | refine call_C (qp_Trim hp (by simp)) (fun u hu => ?_) | refine semH_of_semC (qp_Trim hp (by simp)) (fun u hu => ?_)
 obtain ⟨cp, mp, rfl, g3, g4⟩ := hu
 refine go9 ?_
 refine ld_lsD hx (i := i) (by omega) (by omega) rfl (fun cs hcs => ?_)
 refine go9 ?_
 first | refine call_C (q_Neg hcs (by decide)) (fun u hu => ?_) | refine semH_of_semC (q_Neg hcs (by decide)) (fun u hu => ?_)
 obtain ⟨ds, rfl, g5⟩ := hu
 obtain ⟨d1, d2, d3, d4, d5, d6, rfl⟩ := id g5.six
 refine go9 ?_
 first | refine call_C (q_Int (g := 1) (by decide)) (fun u hu => ?_) | refine semH_of_semC (q_Int (g := 1) (by decide)) (fun u hu => ?_)
 obtain ⟨es, rfl, g6⟩ := hu
 obtain ⟨e1, e2, e3, e4, e5, e6, rfl⟩ := id g6.six
 refine go9 ?_
 simp only [spanC, zeroC, ratC, zeroE, zeroS, List.set_cons_zero, List.set_cons_succ, List.nil_append, List.cons_append, List.append_nil, List.replicate_succ, List.replicate_zero, List.length_cons, List.length_nil, splice, List.take_succ_cons, List.take_zero, List.drop_succ_cons, List.drop_zero, List.take_nil, List.drop_nil, Nat.zero_add, Nat.reduceAdd, Nat.reduceMul, Int.reduceToNat, closeB, List.getElem?_cons_succ, List.getElem?_cons_zero]
 have g7 := top_two g5 (g6.up (show 1 ≤ 2 by decide))
 have l1 := g4.len
 simp only [List.length_cons, List.length_nil] at l1
 have hco : coK 121 2 mp.length ≤ shapeMax := Nat.le_trans (coK_mono l1) (by decide)
 have hsm : shapeMax ≤ 134217728 := by decide
 first | refine call_C (qp_Compose g3 (.imm g7) (by omega) (by simp) (by omega)) (fun u hu => ?_) | refine semH_of_semC (qp_Compose g3 (.imm g7) (by omega) (by simp) (by omega)) (fun u hu => ?_)
 obtain ⟨cr, mr, rfl, g8, g9⟩ := hu
 refine go9 ?_
 refine PolyK.fz (g8.up hco) ⟨fun x => ?_, by have := g9.len; omega, g9.top⟩
 rw [g9.ev, g4.ev, ev_two]
 unfold cubP
 simp only [Go.Proofs.YtjncgcnofiaiaaaGreat.ev]
 generalize cubA xs ys m i = A
 generalize cubB xs ys m i = B
 generalize xs.getD i 0 = a
 rw [show (((1 : Int) : Rat)) = 1 from rfl]
 grind
def MadeC (kind : Int) (xs ys : List Rat) : Nat → Rat → Rat := if kind = 0 then holdP xs ys else if kind = 1 then lineP xs ys else if kind = 2 then cubP (smoothS xs ys) xs ys else cubP (keepS xs ys) xs ys
theorem hold_shape {cx cy : C} {xs ys : List Rat} (hx : Ls (elQ 2) cx xs) (hy : Ls (elQ 2) cy ys) (hlen : ys.length = xs.length) (hpos : 0 < xs.length) (hl : xs.length ≤ 1024) : Shape (.ifaceA T_table_hold [cx, cy]) cx cy xs ys 42 (holdP xs ys) :=
 ⟨⟨hx.hf, hy.hf, trivial⟩, hx, hy, hlen, hpos, hl, table_at_hold hx.hf hy.hf, fun i hi => table_piece_hold hx hy hlen hl hi⟩
theorem cubic_shape {cx cy cm : C} {xs ys : List Rat} {m : Nat → Rat} (hx : Ls (elQ 2) cx xs) (hy : Ls (elQ 2) cy ys) (hm : Ls (elQ 49) cm ((List.range xs.length).map m)) (hr : Rises xs) (hlen : ys.length = xs.length) (hpos : 0 < xs.length) (hl : xs.length ≤ 1024) : Shape (.ifaceA T_table_cubic [cx, cy, cm]) cx cy xs ys shapeMax (cubP m xs ys) :=
 ⟨⟨hx.hf, hy.hf, hm.hf, trivial⟩, hx, hy, hlen, hpos, hl, table_at_cubic hx.hf hy.hf hm.hf, fun i hi => table_piece_cubic hx hy hm hr hlen hl hi⟩
theorem table_made {cx cy : C} {X Y : List R2} {kind : Int} (hx : Ls elP cx X) (hy : Ls elP cy Y) (h : valE kind X Y = 0) : semC Tryz.prog n_table_made [.agg [iC kind, cx, cy]] (MadeK (X.map rt) (Y.map rt) (MadeC kind (X.map rt) (Y.map rt))) := by
 obtain ⟨h1, h2⟩ := val_zero h
 refine semC_of_awpF ok_table_made rfl (show HFVs [.agg [iC kind, cx, cy]] from ⟨⟨trivial, hx.hf, hy.hf, trivial⟩, trivial⟩) ?_
 have hpos := List.length_pos_iff.2 h2.2.2.1
 have hlen := h2.2.2.2.1
 have hr := h2.2.2.2.2.2.2
 have k0 := h2.1
 have k3 := h2.2.1
 unfold MadeC
 refine go9 ?_
 first | refine call_C (num_In hx h2.2.2.2.2.1 (by omega)) (fun u hu => ?_) | refine semH_of_semC (num_In hx h2.2.2.2.2.1 (by omega)) (fun u hu => ?_)
 obtain ⟨dx, rfl, g1⟩ := hu
 refine go9 ?_
 first | refine call_C (num_In hy h2.2.2.2.2.2.1 (by omega)) (fun u hu => ?_) | refine semH_of_semC (num_In hy h2.2.2.2.2.2.1 (by omega)) (fun u hu => ?_)
 obtain ⟨dy, rfl, g2⟩ := hu
 refine go9 ?_
 simp only [spanC, zeroC, ratC, zeroE, zeroS, List.set_cons_zero, List.set_cons_succ, List.nil_append, List.cons_append, List.append_nil, List.replicate_succ, List.replicate_zero, List.length_cons, List.length_nil, splice, List.take_succ_cons, List.take_zero, List.drop_succ_cons, List.drop_zero, List.take_nil, List.drop_nil, Nat.zero_add, Nat.reduceAdd, Nat.reduceMul, Int.reduceToNat, closeB, List.getElem?_cons_succ, List.getElem?_cons_zero]
 cases q1 : compare' Cm.eql kind 1
 case true =>
  simp [compare'] at q1
  rw [if_neg (by omega), if_pos q1]
  refine go9 ?_
  exact MadeK.fz (line_shape g1 g2 hr (by simp; omega) (by simpa using hpos) (by simp; omega)) (by decide)
 simp [compare'] at q1
 refine go9 ?_
 cases q2 : compare' Cm.eql kind 2
 case true =>
  simp [compare'] at q2
  rw [if_neg (by omega), if_neg (by omega), if_pos q2]
  refine go9 ?_
  first | refine call_C (table_smooth g1 g2 hr (by simp; omega) (by simp; omega)) (fun u hu => ?_) | refine semH_of_semC (table_smooth g1 g2 hr (by simp; omega) (by simp; omega)) (fun u hu => ?_)
  obtain ⟨cm, rfl, g3⟩ := hu
  refine go9 ?_
  exact MadeK.fz (cubic_shape g1 g2 g3 hr (by simp; omega) (by simpa using hpos) (by simp; omega)) (by decide)
 simp [compare'] at q2
 refine go9 ?_
 cases q3 : compare' Cm.eql kind 3
 case true =>
  simp [compare'] at q3
  rw [if_neg (by omega), if_neg (by omega), if_neg (by omega)]
  refine go9 ?_
  first | refine call_C (table_keep g1 g2 hr (by simp; omega) (by simp; omega)) (fun u hu => ?_) | refine semH_of_semC (table_keep g1 g2 hr (by simp; omega) (by simp; omega)) (fun u hu => ?_)
  obtain ⟨cm, rfl, g3⟩ := hu
  refine go9 ?_
  exact MadeK.fz (cubic_shape g1 g2 g3 hr (by simp; omega) (by simpa using hpos) (by simp; omega)) (by decide)
 simp [compare'] at q3
 rw [if_pos (by omega)]
 refine go9 ?_
 exact MadeK.fz (hold_shape g1 g2 (by simp; omega) (by simpa using hpos) (by simp; omega)) (by decide)
end Go.Proofs.YtjncgcnofiaiaaaGreat

set_option linter.unusedVariables false
set_option linter.unusedSimpArgs false
namespace Go.Proofs.YtjncgcnofiaiaaaGreat
open Go.RowKit
set_option maxRecDepth 20000
def areaTo (F : Nat → Rat → Rat) (xs : List Rat) (x : Rat) : Nat → Rat
 | 0 => 0
 | i + 1 => areaTo F xs x i + (if xs.getD i 0 < x then F i (mnQ (xs.getD (i + 1) 0) x) - F i (xs.getD i 0) else 0)
noncomputable def areaR (pc : Nat → Rat → Rat) (xs ys : List Rat) (x : Rat) : Rat := if x ≤ xs.getD 0 0 then (x - xs.getD 0 0) * ys.getD 0 0 else areaTo (fun i => prim (pc i)) xs x (xs.length - 1) + (if xs.getD (xs.length - 1) 0 < x then (x - xs.getD (xs.length - 1) 0) * ys.getD (xs.length - 1) 0 else 0)
theorem areaTo_stop {F : Nat → Rat → Rat} {xs : List Rat} {x : Rat} {i : Nat} (hr : Rises xs) (hi : i < xs.length) (h : x ≤ xs.getD i 0) : ∀ {j}, i ≤ j → j ≤ xs.length → areaTo F xs x j = areaTo F xs x i := by
 intro j hij hj
 induction j with
 | zero =>
  have : i = 0 := by omega
  subst this
  rfl
 | succ j ih =>
  rcases Nat.lt_or_ge i (j + 1) with h1 | h1
  ·have h2 : xs.getD i 0 ≤ xs.getD j 0 := by
    rcases Nat.lt_or_ge i j with h3 | h3
    ·exact Rat.le_of_lt (hr.lt h3 (by omega))
    ·have : i = j := by omega
     subst this
     exact Rat.le_refl
   simp only [areaTo]
   rw [ih (by omega) (by omega), if_neg (by grind)]
   grind
  ·have : i = j + 1 := by omega
   subst this
   rfl
theorem areaTo_low {F : Nat → Rat → Rat} {xs : List Rat} {x : Rat} (hr : Rises xs) (hp : 0 < xs.length) (h : x ≤ xs.getD 0 0) : areaTo F xs x (xs.length - 1) = 0 := areaTo_stop hr hp h (Nat.zero_le _) (by omega)
def lowL (a q x : Rat) : Rat := if x ≤ a then (x - a) * q else 0
def upL (a q x : Rat) : Rat := if a < x then (x - a) * q else 0
theorem areaR_eq {pc : Nat → Rat → Rat} {xs ys : List Rat} {x : Rat} (hr : Rises xs) (hp : 0 < xs.length) : areaR pc xs ys x = lowL (xs.getD 0 0) (ys.getD 0 0) x + areaTo (fun i => prim (pc i)) xs x (xs.length - 1) + upL (xs.getD (xs.length - 1) 0) (ys.getD (xs.length - 1) 0) x := by
 unfold areaR lowL upL
 by_cases h : x ≤ xs.getD 0 0
 ·have h2 : ¬ xs.getD (xs.length - 1) 0 < x := by
   rcases Nat.lt_or_ge 1 xs.length with h3 | h3
   ·have := hr.lt (show 0 < xs.length - 1 by omega) (by omega)
    grind
   ·rw [show xs.length - 1 = 0 by omega]
    grind
  rw [if_pos h, if_pos h, if_neg h2, areaTo_low hr hp h]
  grind
 ·rw [if_neg h, if_neg h]
  grind
theorem areaL_append : ∀ (l m : List Part), areaL (l ++ m) = areaL l + areaL m
 | [], m => by
  simp only [List.nil_append, areaL]
  grind
 | p :: l, m => by
  simp only [List.cons_append, areaL, areaL_append l m]
  grind
theorem areaL_clip (f : Rat → Rat) (a b lo hi : Rat) : areaL (clip f a b lo hi) = if mxQ a lo < mnQ b hi then prim f (mnQ b hi) - prim f (mxQ a lo) else 0 := by
 unfold clip
 split
 ·simp only [areaL, termP]
  grind
 ·rfl
theorem clip_area (F : Rat → Rat) {a b lo hi : Rat} (hab : a < b) (h : lo ≤ hi) : (if mxQ a lo < mnQ b hi then F (mnQ b hi) - F (mxQ a lo) else 0) = (if a < hi then F (mnQ b hi) - F a else 0) - (if a < lo then F (mnQ b lo) - F a else 0) := by
 rcases Rat.le_iff_lt_or_eq.1 h with h1 | rfl
 ·unfold mxQ mnQ
  by_cases c1 : a < lo <;> by_cases c2 : a < hi <;> by_cases c3 : hi < b <;> by_cases c4 : lo < b <;> simp only [c1, c2, c3, c4, if_true, if_false] <;> grind
 ·have : ¬ mxQ a lo < mnQ b lo := by
   unfold mxQ mnQ
   split <;> split <;> grind
  rw [if_neg this]
  grind
theorem partsTo_area {pc : Nat → Rat → Rat} {xs : List Rat} {lo hi : Rat} (hr : Rises xs) (h : lo ≤ hi) : ∀ i, i + 1 ≤ xs.length → areaL (partsTo pc xs lo hi i) = areaTo (fun i => prim (pc i)) xs hi i - areaTo (fun i => prim (pc i)) xs lo i
 | 0, _ => by
  simp only [partsTo, areaL, areaTo]
  grind
 | i + 1, hi' => by
  simp only [partsTo, areaTo]
  rw [areaL_append, partsTo_area hr h i (by omega), areaL_clip, clip_area _ (hr.get (by omega)) h]
  grind
theorem prim_const (q x : Rat) : prim (fun _ => q) x = q * x := by
 rw [← prim_eq (f := fun _ => q) (m := [q]) (fun x => ev_one q x)]
 simp [integ, ev, List.range_succ]
 grind
theorem low_area {a q lo hi : Rat} (h : lo ≤ hi) : areaL (clip (fun _ => q) lo a lo hi) = lowL a q hi - lowL a q lo := by
 rw [areaL_clip, prim_const, prim_const]
 unfold lowL mxQ mnQ
 by_cases c1 : hi ≤ a <;> by_cases c2 : lo ≤ a <;> by_cases c3 : hi < a <;> by_cases c4 : lo < hi <;> simp only [c1, c2, c3, c4, Rat.lt_irrefl, if_true, if_false] <;> grind
theorem up_area {a q lo hi : Rat} (h : lo ≤ hi) : areaL (clip (fun _ => q) a hi lo hi) = upL a q hi - upL a q lo := by
 rw [areaL_clip, prim_const, prim_const]
 unfold upL mxQ mnQ
 by_cases c1 : a < hi <;> by_cases c2 : a < lo <;> by_cases c4 : lo < hi <;> simp only [c1, c2, c4, Rat.lt_irrefl, if_true, if_false] <;> grind
theorem parts_area {pc : Nat → Rat → Rat} {xs ys : List Rat} {lo hi : Rat} (hr : Rises xs) (hp : 0 < xs.length) (h : lo ≤ hi) : areaL (partsR pc xs ys lo hi) = areaR pc xs ys hi - areaR pc xs ys lo := by
 unfold partsR
 rw [areaL_append, areaL_append, low_area h, up_area h, partsTo_area hr h _ (by omega), areaR_eq hr hp, areaR_eq hr hp]
 grind
theorem sum_area {pc : Nat → Rat → Rat} {xs ys : List Rat} {x y : Rat} (hr : Rises xs) (hp : 0 < xs.length) : sumR pc xs ys x y = areaR pc xs ys y - areaR pc xs ys x := by
 unfold sumR
 by_cases h : y < x
 ·rw [if_pos h]
  unfold mnQ mxQ
  rw [if_pos h, if_neg (by grind), parts_area hr hp (Rat.le_of_lt h)]
  grind
 ·rw [if_neg h]
  unfold mnQ mxQ
  rw [if_neg h]
  split
  ·rename_i h2
   exact parts_area hr hp (Rat.le_of_lt h2)
  ·have : x = y := by grind
   subst this
   rw [parts_area hr hp Rat.le_refl]
def inT (p : List Rat) (a b : Rat) : Nat → Rat
 | 0 => 0
 | k + 1 => inT p a b k + p.getD k 0 * (b ^ (k + 1) - a ^ (k + 1)) / (((k + 1 : Nat) : Int) : Rat)
theorem inT_eq (p : List Rat) (a b : Rat) : inT p a b p.length = ev (integ p) b - ev (integ p) a := by
 have key : ∀ n, inT p a b n = b * ev ((List.range n).map fun i => p.getD i 0 / (((i + 1 : Nat) : Int) : Rat)) b - a * ev ((List.range n).map fun i => p.getD i 0 / (((i + 1 : Nat) : Int) : Rat)) a := by
  intro n
  induction n with
  | zero =>
   simp only [inT, List.range_zero, List.map_nil, ev]
   grind
  | succ n ih =>
   rw [List.range_succ, List.map_append, ev_append, ev_append]
   simp only [inT, ih, List.map_cons, List.map_nil, ev_one, List.length_map, List.length_range]
   rw [Rat.pow_succ, Rat.pow_succ, Rat.div_def, Rat.div_def]
   grind
 rw [key]
 unfold integ
 rw [show ∀ (l : List Rat) (x : Rat), ev (0 :: l) x = 0 + x * ev l x from fun _ _ => rfl, show ∀ (l : List Rat) (x : Rat), ev (0 :: l) x = 0 + x * ev l x from fun _ _ => rfl]
 grind
end Go.Proofs.YtjncgcnofiaiaaaGreat

set_option linter.unusedVariables false
set_option linter.unusedSimpArgs false
namespace Go.Proofs.YtjncgcnofiaiaaaGreat
open Go.RowKit
set_option maxRecDepth 20000
def OfK (kind : Int) (xs ys : List Rat) (u : V) : Prop := ∃ dx dy K, u = .agg [iC kind, dx, dy] ∧ (2 ≤ K ∧ K ≤ 12629) ∧ RTab kind dx dy xs ys K (MadeC kind xs ys)
def aK (K i : Nat) : Nat := i * (4 * (K + 21)) + 1
theorem aK_succ (K n : Nat) : aK K (n + 1) = aK K n + 4 * (K + 21) := by
 unfold aK
 rw [Nat.succ_mul]
 omega
theorem aK_mono {K i n : Nat} (h : i ≤ n) : aK K i ≤ aK K n := by
 unfold aK
 have := Nat.mul_le_mul_right (4 * (K + 21)) h
 omega
theorem aK_cap {K i : Nat} (h : K ≤ 12629) (hi : i ≤ 24) : aK K i ≤ 1214401 := by
 have h1 := aK_mono (K := K) hi
 unfold aK at *
 omega
structure Und (H : Hp) (T To Res : Slot) (es : List C) : Prop where
 t : H[0]? = some T
 to : H[1]? = some To
 res : H[2]? = some Res
 out : H[3]? = some (.live ⟨es, T_isoclineref01_Q, .rw⟩)
theorem Und.grow {H X : Hp} {T To Res : Slot} {es : List C} (h : Und H T To Res es) : Und (H ++ X) T To Res es := ⟨get_grow h.t, get_grow h.to, get_grow h.res, get_grow h.out⟩
theorem Und.put {H : Hp} {T To Res : Slot} {es fs : List C} (h : Und H T To Res es) : Und (H.set 3 (.live ⟨fs, T_isoclineref01_Q, .rw⟩)) T To Res fs :=
 ⟨by rw [List.getElem?_set_ne (by decide)]; exact h.t, by rw [List.getElem?_set_ne (by decide)]; exact h.to, by rw [List.getElem?_set_ne (by decide)]; exact h.res, List.getElem?_set_self (lt_of_getElem? h.out)⟩
attribute [local irreducible] compare' semH semC qLen qNil qIad qSlc qIdx ldBox ldCells stBox appX appI slcX awpF awpOpsF awpDF xopF xopDF qval lval seqQ blockQ loopQ bodyF retKF cnd arith IntKind.wrap
theorem rtab_of {cx cy : C} {kind : Int} {xs ys : List Rat} (hx : Ls (elR 2) cx xs) (hy : Ls (elR 2) cy ys) (hr : Rises xs) (hlen : ys.length = xs.length) (hpos : 0 < xs.length) (hl : xs.length ≤ 1024) (h0 : 0 ≤ kind) (h3 : kind ≤ 3) : ∃ K, (2 ≤ K ∧ K ≤ 12629) ∧ RTab kind cx cy xs ys K (MadeC kind xs ys) := by
 unfold MadeC
 have hk : kind = 0 ∨ kind = 1 ∨ kind = 2 ∨ kind = 3 := by omega
 rcases hk with rfl | rfl | rfl | rfl
 ·exact ⟨40, by decide, hx, hy, hlen, hpos, hl, fun i hi => ref24_piece_hold hx hy hlen hl hi⟩
 ·exact ⟨_, by decide, line_rtab hx hy hr hlen hpos hl⟩
 ·exact ⟨12629, by decide, hx, hy, hlen, hpos, hl, fun i hi => ref24_piece_cubic (.inl rfl) hx hy hr hlen hl hi (fun j hj => ref24_slope_smooth hx hy hr hlen hl (by omega) hj)⟩
 ·exact ⟨12629, by decide, hx, hy, hlen, hpos, hl, fun i hi => ref24_piece_cubic (.inr rfl) hx hy hr hlen hl hi (fun j hj => ref24_slope_keep hx hy hr hlen hl (by omega) hj)⟩
theorem ref24_of {cx cy : C} {X Y : List R2} {kind : Int} (hx : Ls elP cx X) (hy : Ls elP cy Y) (h : valE kind X Y = 0) : semC Tryz.prog n_ref24_of [.agg [iC kind, cx, cy]] (OfK kind (X.map rt) (Y.map rt)) := by
 obtain ⟨h1, h2⟩ := val_zero h
 refine semC_of_awpF ok_ref24_of rfl (show HFVs [.agg [iC kind, cx, cy]] from ⟨⟨trivial, hx.hf, hy.hf, trivial⟩, trivial⟩) ?_
 have hpos := List.length_pos_iff.2 h2.2.2.1
 have hlen := h2.2.2.2.1
 refine go9 ?_
 first | refine call_C (ref01_List hx h2.2.2.2.2.1 (by omega)) (fun u hu => ?_) | refine semH_of_semC (ref01_List hx h2.2.2.2.2.1 (by omega)) (fun u hu => ?_)
 obtain ⟨dx, rfl, g1⟩ := hu
 refine go9 ?_
 first | refine call_C (ref01_List hy h2.2.2.2.2.2.1 (by omega)) (fun u hu => ?_) | refine semH_of_semC (ref01_List hy h2.2.2.2.2.2.1 (by omega)) (fun u hu => ?_)
 obtain ⟨dy, rfl, g2⟩ := hu
 refine go9 ?_
 obtain ⟨K, hK, hR⟩ := rtab_of (kind := kind) g1 g2 h2.2.2.2.2.2.2 (by simp; omega) (by simpa using hpos) (by simp; omega) h2.1 h2.2.1
 exact ⟨_, .agg (.hf ⟨trivial, g1.hf, g2.hf, trivial⟩), dx, dy, K, rfl, hK, hR⟩
theorem ref24_area {kind : Int} {cx cy : C} {xs ys : List Rat} {K : Nat} {pc : Nat → Rat → Rat} {cs : List C} {x : Rat} (h : RTab kind cx cy xs ys K pc) (hr : Rises xs) (hc : IR 2 cs x) (hK : 2 ≤ K ∧ K ≤ 12629) (hn : xs.length ≤ 24) : semC Tryz.prog n_ref24_table_area [.agg [iC kind, cx, cy], .agg cs] (RQV 1300000 (areaR pc xs ys x)) := by
 have hx := h.x
 have hy := h.y
 have hlen := h.len
 have hpos := h.pos
 refine semC_of_awpF ok_ref24_table_area rfl (show HFVs [.agg [iC kind, cx, cy], .agg cs] from ⟨⟨trivial, hx.hf, hy.hf, trivial⟩, hc.hf, trivial⟩) ?_
 obtain ⟨a, b, c1, d, rfl⟩ := id hc.four
 unfold areaR
 refine go9 ?_
 refine ld_lsD hx (i := 0) hpos rfl rfl (fun av hav => ?_)
 refine go9 ?_
 first | refine call_C (r_Cmp2 hc hav (by decide)) (fun u hu => ?_) | refine semH_of_semC (r_Cmp2 hc hav (by decide)) (fun u hu => ?_)
 obtain rfl := hu
 refine go9 ?_
 rw [cq_leq]
 cases h1 : dec (x ≤ xs.getD 0 0)
 case true =>
  rw [if_pos (dec_true.1 h1)]
  refine go9 ?_
  refine ld_lsD hx (i := 0) hpos rfl rfl (fun bv hbv => ?_)
  refine go9 ?_
  refine ld_lsD hy (i := 0) (by omega) rfl rfl (fun dv hdv => ?_)
  refine go9 ?_
  first | refine call_C (r_Sub2 hc hbv (by decide)) (fun u hu => ?_) | refine semH_of_semC (r_Sub2 hc hbv (by decide)) (fun u hu => ?_)
  obtain ⟨es, rfl, g1⟩ := hu
  refine go9 ?_
  first | refine call_C (r_Mul2 g1 hdv (by decide)) (fun u hu => ?_) | refine semH_of_semC (r_Mul2 g1 hdv (by decide)) (fun u hu => ?_)
  obtain ⟨fs, rfl, g2⟩ := hu
  obtain ⟨_, _, _, _, rfl⟩ := id g2.four
  refine go9 ?_
  exact RQV.fz (g2.up (by decide))
 rw [if_neg (dec_false.1 h1)]
 refine go9 ?_
 simp only [spanC, zeroC, ratC, zeroE, zeroS, List.set_cons_zero, List.set_cons_succ, List.nil_append, List.cons_append, List.append_nil, List.replicate_succ, List.replicate_zero, List.length_cons, List.length_nil, splice, List.take_succ_cons, List.take_zero, List.drop_succ_cons, List.drop_zero, List.take_nil, List.drop_nil, Nat.zero_add, Nat.reduceAdd, Nat.reduceMul, Int.reduceToNat, closeB, List.getElem?_cons_succ, List.getElem?_cons_zero]
 refine f_loop (fun w vs H => ∃ (i : Nat) (es : List C), vs = [.c (.ptr 0 0), .c (.ptr 1 0), .c (.ptr 2 0), .c (.ptr 3 0), i64 i] ∧ Und H (.live ⟨[iC kind, cx, cy], T_isoclineref24_table, .rw⟩) (.live ⟨[a, .bool b, c1, .bool d], T_isoclineref01_Q, .rw⟩) (.live ⟨zeroRQ, T_isoclineref01_Q, .rw⟩) es ∧ w = xs.length - i ∧ i ≤ xs.length - 1 ∧ IR (aK K i) es (areaTo (fun i => prim (pc i)) xs x i)) (by rfl) ⟨0, _, rfl, ⟨rfl, rfl, rfl, rfl⟩, rfl, by omega, zeroRQ_is.up (by unfold aK; omega)⟩ ?_
 rintro w vs H ⟨i, es, rfl, g0, rfl, i1, i2⟩
 obtain ⟨e1, e2, e3, e4, rfl⟩ := id i2.four
 refine go9 ?_
 refine ld_boxA g0.t (by rfl) ?_
 refine go9 ?_
 first | refine call_C (ref24_last hx hy.hf (by omega) hpos) (fun u hu => ?_) | refine semH_of_semC (ref24_last hx hy.hf (by omega) hpos) (fun u hu => ?_)
 obtain rfl := hu
 refine go9 ?_
 cases hi : compare' Cm.lss (i : Int) ((xs.length - 1 : Nat) : Int)
 case false =>
  simp [compare'] at hi
  have ei : i = xs.length - 1 := by omega
  have i3 : IR (aK K i) [e1, .bool e2, e3, .bool e4] (areaTo (fun i => prim (pc i)) xs x (xs.length - 1)) := by
   rw [← ei]
   exact i2
  refine go9 ?_
  refine ld_boxA g0.t (by rfl) ?_
  refine go9 ?_
  first | refine call_C (ref24_last hx hy.hf (by omega) hpos) (fun u hu => ?_) | refine semH_of_semC (ref24_last hx hy.hf (by omega) hpos) (fun u hu => ?_)
  obtain rfl := hu
  refine go9 ?_
  refine ld_boxA g0.to (by rfl) ?_
  refine go9 ?_
  refine ld_box g0.t (by rfl) ?_
  refine go9 ?_
  refine ld_lsD hx (i := xs.length - 1) (by omega) (by omega) rfl (fun lv hlv => ?_)
  refine go9 ?_
  first | refine call_C (r_Cmp2 hc hlv (by decide)) (fun u hu => ?_) | refine semH_of_semC (r_Cmp2 hc hlv (by decide)) (fun u hu => ?_)
  obtain rfl := hu
  refine go9 ?_
  rw [cq_gtr]
  have hcap := aK_cap hK.2 (show i ≤ 24 by omega)
  cases h7 : dec (xs.getD (xs.length - 1) 0 < x)
  case false =>
   rw [if_neg (dec_false.1 h7)]
   refine go9 ?_
   refine ld_boxA g0.out (by rfl) ?_
   refine go9 ?_
   refine st_box g0.res (by rfl) (by rfl) (Nat.le_of_ble_eq_true (by rfl)) ?_
   refine go9 ?_
   refine ld_boxA (List.getElem?_set_self (lt_of_getElem? g0.res)) (by rfl) ?_
   refine go9 ?_
   refine RQV.fz ?_
   rw [show areaTo (fun i => prim (pc i)) xs x (xs.length - 1) + 0 = areaTo (fun i => prim (pc i)) xs x (xs.length - 1) by grind]
   exact i3.up (by omega)
  rw [if_pos (dec_true.1 h7)]
  refine go9 ?_
  refine ld_boxA g0.out (by rfl) ?_
  refine go9 ?_
  refine ld_boxA g0.to (by rfl) ?_
  refine go9 ?_
  refine ld_box g0.t (by rfl) ?_
  refine go9 ?_
  refine ld_lsD hx (i := xs.length - 1) (by omega) (by omega) rfl (fun nv hnv => ?_)
  refine go9 ?_
  refine ld_box g0.t (by rfl) ?_
  refine go9 ?_
  refine ld_lsD hy (i := xs.length - 1) (by omega) (by omega) rfl (fun mv hmv => ?_)
  refine go9 ?_
  first | refine call_C (r_Sub2 hc hnv (by decide)) (fun u hu => ?_) | refine semH_of_semC (r_Sub2 hc hnv (by decide)) (fun u hu => ?_)
  obtain ⟨j1, rfl, k1⟩ := hu
  refine go9 ?_
  first | refine call_C (r_Mul2 k1 hmv (by decide)) (fun u hu => ?_) | refine semH_of_semC (r_Mul2 k1 hmv (by decide)) (fun u hu => ?_)
  obtain ⟨j2, rfl, k2⟩ := hu
  refine go9 ?_
  first | refine call_C (r_Add2 i3 k2 (by omega)) (fun u hu => ?_) | refine semH_of_semC (r_Add2 i3 k2 (by omega)) (fun u hu => ?_)
  obtain ⟨j3, rfl, k3⟩ := hu
  obtain ⟨p1, p2, p3, p4, rfl⟩ := id k3.four
  refine go9 ?_
  refine st_box g0.out (by rfl) (by rfl) (Nat.le_of_ble_eq_true (by rfl)) ?_
  refine go9 ?_
  refine ld_boxA (List.getElem?_set_self (lt_of_getElem? g0.out)) (by rfl) ?_
  refine go9 ?_
  refine st_box (by rw [List.getElem?_set_ne (by decide)]; exact g0.res) (by rfl) (by rfl) (Nat.le_of_ble_eq_true (by rfl)) ?_
  refine go9 ?_
  refine ld_boxA (List.getElem?_set_self (by rw [List.length_set]; exact lt_of_getElem? g0.res)) (by rfl) ?_
  refine go9 ?_
  exact RQV.fz (k3.up (by omega))
 simp [compare'] at hi
 refine go9 ?_
 refine ld_box g0.t (by rfl) ?_
 refine go9 ?_
 refine ld_lsD hx (i := i) (by omega) (by omega) rfl (fun bv hbv => ?_)
 refine go9 ?_
 refine ld_boxA g0.to (by rfl) ?_
 refine go9 ?_
 first | refine call_C (r_Cmp2 hbv hc (by decide)) (fun u hu => ?_) | refine semH_of_semC (r_Cmp2 hbv hc (by decide)) (fun u hu => ?_)
 obtain rfl := hu
 refine go9 ?_
 rw [cq_lss]
 cases h2 : dec (xs.getD i 0 < x)
 case false =>
  have i3 : IR (aK K i) [e1, .bool e2, e3, .bool e4] (areaTo (fun i => prim (pc i)) xs x (xs.length - 1)) := by
   rw [areaTo_stop hr (by omega) (Rat.not_lt.1 (dec_false.1 h2)) i1 (by omega)]
   exact i2
  refine go9 ?_
  refine ld_boxA g0.t (by rfl) ?_
  refine go9 ?_
  first | refine call_C (ref24_last hx hy.hf (by omega) hpos) (fun u hu => ?_) | refine semH_of_semC (ref24_last hx hy.hf (by omega) hpos) (fun u hu => ?_)
  obtain rfl := hu
  refine go9 ?_
  refine ld_boxA g0.to (by rfl) ?_
  refine go9 ?_
  refine ld_box g0.t (by rfl) ?_
  refine go9 ?_
  refine ld_lsD hx (i := xs.length - 1) (by omega) (by omega) rfl (fun lv hlv => ?_)
  refine go9 ?_
  first | refine call_C (r_Cmp2 hc hlv (by decide)) (fun u hu => ?_) | refine semH_of_semC (r_Cmp2 hc hlv (by decide)) (fun u hu => ?_)
  obtain rfl := hu
  refine go9 ?_
  rw [cq_gtr]
  have hcap := aK_cap hK.2 (show i ≤ 24 by omega)
  cases h7 : dec (xs.getD (xs.length - 1) 0 < x)
  case false =>
   rw [if_neg (dec_false.1 h7)]
   refine go9 ?_
   refine ld_boxA g0.out (by rfl) ?_
   refine go9 ?_
   refine st_box g0.res (by rfl) (by rfl) (Nat.le_of_ble_eq_true (by rfl)) ?_
   refine go9 ?_
   refine ld_boxA (List.getElem?_set_self (lt_of_getElem? g0.res)) (by rfl) ?_
   refine go9 ?_
   refine RQV.fz ?_
   rw [show areaTo (fun i => prim (pc i)) xs x (xs.length - 1) + 0 = areaTo (fun i => prim (pc i)) xs x (xs.length - 1) by grind]
   exact i3.up (by omega)
  rw [if_pos (dec_true.1 h7)]
  refine go9 ?_
  refine ld_boxA g0.out (by rfl) ?_
  refine go9 ?_
  refine ld_boxA g0.to (by rfl) ?_
  refine go9 ?_
  refine ld_box g0.t (by rfl) ?_
  refine go9 ?_
  refine ld_lsD hx (i := xs.length - 1) (by omega) (by omega) rfl (fun nv hnv => ?_)
  refine go9 ?_
  refine ld_box g0.t (by rfl) ?_
  refine go9 ?_
  refine ld_lsD hy (i := xs.length - 1) (by omega) (by omega) rfl (fun mv hmv => ?_)
  refine go9 ?_
  first | refine call_C (r_Sub2 hc hnv (by decide)) (fun u hu => ?_) | refine semH_of_semC (r_Sub2 hc hnv (by decide)) (fun u hu => ?_)
  obtain ⟨j1, rfl, k1⟩ := hu
  refine go9 ?_
  first | refine call_C (r_Mul2 k1 hmv (by decide)) (fun u hu => ?_) | refine semH_of_semC (r_Mul2 k1 hmv (by decide)) (fun u hu => ?_)
  obtain ⟨j2, rfl, k2⟩ := hu
  refine go9 ?_
  first | refine call_C (r_Add2 i3 k2 (by omega)) (fun u hu => ?_) | refine semH_of_semC (r_Add2 i3 k2 (by omega)) (fun u hu => ?_)
  obtain ⟨j3, rfl, k3⟩ := hu
  obtain ⟨p1, p2, p3, p4, rfl⟩ := id k3.four
  refine go9 ?_
  refine st_box g0.out (by rfl) (by rfl) (Nat.le_of_ble_eq_true (by rfl)) ?_
  refine go9 ?_
  refine ld_boxA (List.getElem?_set_self (lt_of_getElem? g0.out)) (by rfl) ?_
  refine go9 ?_
  refine st_box (by rw [List.getElem?_set_ne (by decide)]; exact g0.res) (by rfl) (by rfl) (Nat.le_of_ble_eq_true (by rfl)) ?_
  refine go9 ?_
  refine ld_boxA (List.getElem?_set_self (by rw [List.length_set]; exact lt_of_getElem? g0.res)) (by rfl) ?_
  refine go9 ?_
  exact RQV.fz (k3.up (by omega))
 have h2 := dec_true.1 h2
 refine go9 ?_
 refine ld_box g0.t (by rfl) ?_
 refine go9 ?_
 rw [addI1 i (by omega)]
 refine go9 ?_
 refine ld_lsD hx (i := i + 1) (by omega) (by omega) rfl (fun dv hdv => ?_)
 obtain ⟨d1, d2, d3, d4, rfl⟩ := id (show IR 2 _ _ from hdv).four
 refine go9 ?_
 refine ld_boxA (get_grow g0.to) (by rfl) ?_
 refine go9 ?_
 first | refine call_C (r_Cmp2 hdv hc (by decide)) (fun u hu => ?_) | refine semH_of_semC (r_Cmp2 hdv hc (by decide)) (fun u hu => ?_)
 obtain rfl := hu
 refine go9 ?_
 rw [cq_gtr]
 cases h6 : dec (x < xs.getD (i + 1) 0)
 case true =>
  have hne : IR 2 [a, .bool b, c1, .bool d] (mnQ (xs.getD (i + 1) 0) x) := by
   unfold mnQ
   rw [if_pos (dec_true.1 h6)]
   exact hc
  refine go9 ?_
  refine ld_boxA (get_grow g0.to) (by rfl) ?_
  refine go9 ?_
  refine ld_boxA (get_grow g0.t) (by rfl) ?_
  refine go9 ?_
  first | refine call_C (h.piece i (by omega)) (fun u hu => ?_) | refine semH_of_semC (h.piece i (by omega)) (fun u hu => ?_)
  obtain ⟨cp, m, rfl, m1, m2⟩ := hu
  have m3 := m2.len
  have hcap := aK_cap hK.2 (show i + 1 ≤ 24 by omega)
  rw [aK_succ] at hcap
  have h4 := lt_of_getElem? g0.out
  refine go9 ?_
  refine f_loop (fun w vs H' => ∃ (k : Nat) (es : List C), vs = [.c (.ptr 0 0), .c (.ptr 1 0), .c (.ptr 2 0), .c (.ptr 3 0), i64 i, .c (.ptr H.length 0), .c cp, i64 k] ∧ Und H' (.live ⟨[iC kind, cx, cy], T_isoclineref24_table, .rw⟩) (.live ⟨[a, .bool b, c1, .bool d], T_isoclineref01_Q, .rw⟩) (.live ⟨zeroRQ, T_isoclineref01_Q, .rw⟩) es ∧ H'[H.length]? = some (.live ⟨[a, .bool b, c1, .bool d], T_isoclineref01_Q, .rw⟩) ∧ w = m.length - k ∧ k ≤ m.length ∧ IR (aK K i + k * (K + 21)) es (areaTo (fun i => prim (pc i)) xs x i + inT m (xs.getD i 0) (mnQ (xs.getD (i + 1) 0) x) k)) (by rfl) ⟨0, _, rfl, g0.grow, last_live _ _, rfl, by omega, by rw [show areaTo (fun i => prim (pc i)) xs x i + inT m (xs.getD i 0) (mnQ (xs.getD (i + 1) 0) x) 0 = areaTo (fun i => prim (pc i)) xs x i by simp only [inT]; grind]; exact i2.up (by omega)⟩ ?_
  rintro w vs H1 ⟨k, es, rfl, g5, g6, rfl, j1, j2⟩
  obtain ⟨f1, f2, f3, f4, rfl⟩ := id j2.four
  refine go9 ?_
  cases hk : compare' Cm.lss (k : Int) (m.length : Int)
  case false =>
   simp [compare'] at hk
   have ek : k = m.length := by omega
   subst ek
   refine go9 ?_
   rw [addI1 i (by omega)]
   refine l_n (by rfl) (n' := xs.length - (i + 1)) (by omega) ⟨i + 1, _, rfl, g5, rfl, by omega, ?_⟩
   simp only [areaTo]
   rw [if_pos h2, aK_succ, ← prim_eq m2.ev, ← prim_eq m2.ev, ← inT_eq]
   exact j2.up (by have := Nat.mul_le_mul_right (K + 21) m3; omega)
  simp [compare'] at hk
  have hkb := Nat.mul_le_mul_right (K + 21) (show k + 1 ≤ 4 by omega)
  rw [Nat.succ_mul] at hkb
  refine go9 ?_
  refine ld_boxA g5.out (by rfl) ?_
  refine go9 ?_
  refine ld_lsD m1 (i := k) hk (by omega) rfl (fun av hav => ?_)
  refine go9 ?_
  refine ld_boxA g6 (by rfl) ?_
  refine go9 ?_
  rw [addI1 k (by omega)]
  refine go9 ?_
  refine ld_box g5.t (by rfl) ?_
  refine go9 ?_
  refine ld_lsD hx (i := i) (by omega) (by omega) rfl (fun bv hbv => ?_)
  refine go9 ?_
  rw [addI1 k (by omega)]
  refine go9 ?_
  first | refine call_C (r_Pow (k + 1) hne (by omega) (by omega)) (fun u hu => ?_) | refine semH_of_semC (r_Pow (k + 1) hne (by omega) (by omega)) (fun u hu => ?_)
  obtain ⟨q1, rfl, r1⟩ := hu
  refine go9 ?_
  first | refine call_C (r_Pow (k + 1) hbv (by omega) (by omega)) (fun u hu => ?_) | refine semH_of_semC (r_Pow (k + 1) hbv (by omega) (by omega)) (fun u hu => ?_)
  obtain ⟨q2, rfl, r2⟩ := hu
  refine go9 ?_
  first | refine call_C (r_Sub2 (r1.up (show _ ≤ 9 by omega)) (r2.up (show _ ≤ 9 by omega)) (by decide)) (fun u hu => ?_) | refine semH_of_semC (r_Sub2 (r1.up (show _ ≤ 9 by omega)) (r2.up (show _ ≤ 9 by omega)) (by decide)) (fun u hu => ?_)
  obtain ⟨q3, rfl, r3⟩ := hu
  refine go9 ?_
  first | refine call_C (r_Mul2 hav r3 (by omega)) (fun u hu => ?_) | refine semH_of_semC (r_Mul2 hav r3 (by omega)) (fun u hu => ?_)
  obtain ⟨q4, rfl, r4⟩ := hu
  refine go9 ?_
  first | refine call_C (r_Int (g := ((k + 1 : Nat) : Int)) (by omega)) (fun u hu => ?_) | refine semH_of_semC (r_Int (g := ((k + 1 : Nat) : Int)) (by omega)) (fun u hu => ?_)
  obtain ⟨q5, rfl, r5⟩ := hu
  refine go9 ?_
  first | refine call_C (r_Div2 r4 r5 (by omega) (fun e => by have := Rat.intCast_inj.1 (show (((k + 1 : Nat) : Int) : Rat) = ((0 : Int) : Rat) from e); omega)) (fun u hu => ?_) | refine semH_of_semC (r_Div2 r4 r5 (by omega) (fun e => by have := Rat.intCast_inj.1 (show (((k + 1 : Nat) : Int) : Rat) = ((0 : Int) : Rat) from e); omega)) (fun u hu => ?_)
  obtain ⟨q6, rfl, r6⟩ := hu
  refine go9 ?_
  first | refine call_C (r_Add2 j2 r6 (by omega)) (fun u hu => ?_) | refine semH_of_semC (r_Add2 j2 r6 (by omega)) (fun u hu => ?_)
  obtain ⟨q7, rfl, r7⟩ := hu
  obtain ⟨s1, s2, s3, s4, rfl⟩ := id r7.four
  refine go9 ?_
  refine st_box g5.out (by rfl) (by rfl) (Nat.le_of_ble_eq_true (by rfl)) ?_
  refine go9 ?_
  rw [addI1 k (by omega)]
  refine l_n (by rfl) (n' := m.length - (k + 1)) (by omega) ⟨k + 1, _, rfl, g5.put, by rw [List.getElem?_set_ne (by omega)]; exact g6, rfl, by omega, ?_⟩
  simp only [inT]
  rw [Nat.succ_mul, ← Rat.add_assoc]
  exact r7.up (by omega)
 have hne : IR 2 [d1, .bool d2, d3, .bool d4] (mnQ (xs.getD (i + 1) 0) x) := by
  unfold mnQ
  rw [if_neg (dec_false.1 h6)]
  exact hdv
 refine go9 ?_
 refine ld_boxA (get_grow g0.t) (by rfl) ?_
 refine go9 ?_
 first | refine call_C (h.piece i (by omega)) (fun u hu => ?_) | refine semH_of_semC (h.piece i (by omega)) (fun u hu => ?_)
 obtain ⟨cp, m, rfl, m1, m2⟩ := hu
 have m3 := m2.len
 have hcap := aK_cap hK.2 (show i + 1 ≤ 24 by omega)
 rw [aK_succ] at hcap
 have h4 := lt_of_getElem? g0.out
 refine go9 ?_
 refine f_loop (fun w vs H' => ∃ (k : Nat) (es : List C), vs = [.c (.ptr 0 0), .c (.ptr 1 0), .c (.ptr 2 0), .c (.ptr 3 0), i64 i, .c (.ptr H.length 0), .c cp, i64 k] ∧ Und H' (.live ⟨[iC kind, cx, cy], T_isoclineref24_table, .rw⟩) (.live ⟨[a, .bool b, c1, .bool d], T_isoclineref01_Q, .rw⟩) (.live ⟨zeroRQ, T_isoclineref01_Q, .rw⟩) es ∧ H'[H.length]? = some (.live ⟨[d1, .bool d2, d3, .bool d4], T_isoclineref01_Q, .rw⟩) ∧ w = m.length - k ∧ k ≤ m.length ∧ IR (aK K i + k * (K + 21)) es (areaTo (fun i => prim (pc i)) xs x i + inT m (xs.getD i 0) (mnQ (xs.getD (i + 1) 0) x) k)) (by rfl) ⟨0, _, rfl, g0.grow, last_live _ _, rfl, by omega, by rw [show areaTo (fun i => prim (pc i)) xs x i + inT m (xs.getD i 0) (mnQ (xs.getD (i + 1) 0) x) 0 = areaTo (fun i => prim (pc i)) xs x i by simp only [inT]; grind]; exact i2.up (by omega)⟩ ?_
 rintro w vs H1 ⟨k, es, rfl, g5, g6, rfl, j1, j2⟩
 obtain ⟨f1, f2, f3, f4, rfl⟩ := id j2.four
 refine go9 ?_
 cases hk : compare' Cm.lss (k : Int) (m.length : Int)
 case false =>
  simp [compare'] at hk
  have ek : k = m.length := by omega
  subst ek
  refine go9 ?_
  rw [addI1 i (by omega)]
  refine l_n (by rfl) (n' := xs.length - (i + 1)) (by omega) ⟨i + 1, _, rfl, g5, rfl, by omega, ?_⟩
  simp only [areaTo]
  rw [if_pos h2, aK_succ, ← prim_eq m2.ev, ← prim_eq m2.ev, ← inT_eq]
  exact j2.up (by have := Nat.mul_le_mul_right (K + 21) m3; omega)
 simp [compare'] at hk
 have hkb := Nat.mul_le_mul_right (K + 21) (show k + 1 ≤ 4 by omega)
 rw [Nat.succ_mul] at hkb
 refine go9 ?_
 refine ld_boxA g5.out (by rfl) ?_
 refine go9 ?_
 refine ld_lsD m1 (i := k) hk (by omega) rfl (fun av hav => ?_)
 refine go9 ?_
 refine ld_boxA g6 (by rfl) ?_
 refine go9 ?_
 rw [addI1 k (by omega)]
 refine go9 ?_
 refine ld_box g5.t (by rfl) ?_
 refine go9 ?_
 refine ld_lsD hx (i := i) (by omega) (by omega) rfl (fun bv hbv => ?_)
 refine go9 ?_
 rw [addI1 k (by omega)]
 refine go9 ?_
 first | refine call_C (r_Pow (k + 1) hne (by omega) (by omega)) (fun u hu => ?_) | refine semH_of_semC (r_Pow (k + 1) hne (by omega) (by omega)) (fun u hu => ?_)
 obtain ⟨q1, rfl, r1⟩ := hu
 refine go9 ?_
 first | refine call_C (r_Pow (k + 1) hbv (by omega) (by omega)) (fun u hu => ?_) | refine semH_of_semC (r_Pow (k + 1) hbv (by omega) (by omega)) (fun u hu => ?_)
 obtain ⟨q2, rfl, r2⟩ := hu
 refine go9 ?_
 first | refine call_C (r_Sub2 (r1.up (show _ ≤ 9 by omega)) (r2.up (show _ ≤ 9 by omega)) (by decide)) (fun u hu => ?_) | refine semH_of_semC (r_Sub2 (r1.up (show _ ≤ 9 by omega)) (r2.up (show _ ≤ 9 by omega)) (by decide)) (fun u hu => ?_)
 obtain ⟨q3, rfl, r3⟩ := hu
 refine go9 ?_
 first | refine call_C (r_Mul2 hav r3 (by omega)) (fun u hu => ?_) | refine semH_of_semC (r_Mul2 hav r3 (by omega)) (fun u hu => ?_)
 obtain ⟨q4, rfl, r4⟩ := hu
 refine go9 ?_
 first | refine call_C (r_Int (g := ((k + 1 : Nat) : Int)) (by omega)) (fun u hu => ?_) | refine semH_of_semC (r_Int (g := ((k + 1 : Nat) : Int)) (by omega)) (fun u hu => ?_)
 obtain ⟨q5, rfl, r5⟩ := hu
 refine go9 ?_
 first | refine call_C (r_Div2 r4 r5 (by omega) (fun e => by have := Rat.intCast_inj.1 (show (((k + 1 : Nat) : Int) : Rat) = ((0 : Int) : Rat) from e); omega)) (fun u hu => ?_) | refine semH_of_semC (r_Div2 r4 r5 (by omega) (fun e => by have := Rat.intCast_inj.1 (show (((k + 1 : Nat) : Int) : Rat) = ((0 : Int) : Rat) from e); omega)) (fun u hu => ?_)
 obtain ⟨q6, rfl, r6⟩ := hu
 refine go9 ?_
 first | refine call_C (r_Add2 j2 r6 (by omega)) (fun u hu => ?_) | refine semH_of_semC (r_Add2 j2 r6 (by omega)) (fun u hu => ?_)
 obtain ⟨q7, rfl, r7⟩ := hu
 obtain ⟨s1, s2, s3, s4, rfl⟩ := id r7.four
 refine go9 ?_
 refine st_box g5.out (by rfl) (by rfl) (Nat.le_of_ble_eq_true (by rfl)) ?_
 refine go9 ?_
 rw [addI1 k (by omega)]
 refine l_n (by rfl) (n' := m.length - (k + 1)) (by omega) ⟨k + 1, _, rfl, g5.put, by rw [List.getElem?_set_ne (by omega)]; exact g6, rfl, by omega, ?_⟩
 simp only [inT]
 rw [Nat.succ_mul, ← Rat.add_assoc]
 exact r7.up (by omega)
theorem ref24_Sum (x y s : R2) (hx : IsRat x.1 x.2) (hy : IsRat y.1 y.2) (hs : IsRat s.1 s.2) : semC Tryz.prog n_ref24_Sum [.agg (ratC x), .agg (ratC y), .agg (ratC s)] (EqK (.c (.bool (dec (rt x + rt y = rt s))))) := by
 refine semC_of_awpF ok_ref24_Sum rfl (show HFVs [.agg (ratC x), .agg (ratC y), .agg (ratC s)] from ⟨HFL_rat _, HFL_rat _, HFL_rat _, trivial⟩) ?_
 refine go9 ?_
 first | refine call_C (r_Of hx) (fun u hu => ?_) | refine semH_of_semC (r_Of hx) (fun u hu => ?_)
 obtain ⟨es, rfl, h1⟩ := hu
 refine go9 ?_
 first | refine call_C (r_Of hy) (fun u hu => ?_) | refine semH_of_semC (r_Of hy) (fun u hu => ?_)
 obtain ⟨fs, rfl, h2⟩ := hu
 refine go9 ?_
 first | refine call_C (r_Add2 h1 h2 (by decide)) (fun u hu => ?_) | refine semH_of_semC (r_Add2 h1 h2 (by decide)) (fun u hu => ?_)
 obtain ⟨gs, rfl, h3⟩ := hu
 refine go9 ?_
 first | refine call_C (r_Of hs) (fun u hu => ?_) | refine semH_of_semC (r_Of hs) (fun u hu => ?_)
 obtain ⟨ks, rfl, h4⟩ := hu
 refine go9 ?_
 first | refine call_C (r_Cmp2 h3 h4 (by decide)) (fun u hu => ?_) | refine semH_of_semC (r_Cmp2 h3 h4 (by decide)) (fun u hu => ?_)
 obtain rfl := hu
 refine go9 ?_
 rw [cq_eql]
 exact ⟨_, .c (.hf trivial), rfl⟩
end Go.Proofs.YtjncgcnofiaiaaaGreat

set_option linter.unusedVariables false
set_option linter.unusedSimpArgs false
namespace Go.Proofs.YtjncgcnofiaiaaaGreat
open Go.RowKit
set_option maxRecDepth 20000
theorem num_zero {q : Rat} (h : (numR q).2 = 0) : IsRat (numR q).1.1 (numR q).1.2 ∧ rt (numR q).1 = q := by
 unfold numR at h ⊢
 cases hf : fitR (rp q)
 ·rw [hf] at h
  cases h
 ·have h2 := dec_true.1 (show dec _ = true from hf)
  have hp := rp_pos q
  exact ⟨⟨hp, h2.2.2, h2.1, h2.2.1, (rp_good q).2⟩, rt_rp q⟩
theorem integ_ok {pc : Nat → Rat → Rat} {kind : Int} {X Y : List R2} {x y : R2} (h : (integR pc kind X Y x y).2 = 0) : withE kind X Y [x, y] = 0 ∧ IsRat (integR pc kind X Y x y).1.1 (integR pc kind X Y x y).1.2 ∧ rt (integR pc kind X Y x y).1 = areaR pc (X.map rt) (Y.map rt) (rt y) - areaR pc (X.map rt) (Y.map rt) (rt x) := by
 unfold integR at h ⊢
 cases h1 : dec (withE kind X Y [x, y] = 0)
 ·rw [h1] at h
  exact absurd h (dec_false.1 h1)
 ·rw [h1] at h
  have hw := with_zero (dec_true.1 h1)
  have hv := val_zero hw.1
  obtain ⟨k1, k2⟩ := num_zero h
  refine ⟨dec_true.1 h1, k1, ?_⟩
  show rt (numR _).1 = _
  rw [k2]
  exact sum_area hv.2.2.2.2.2.2.2 (by simpa using List.length_pos_iff.2 hv.2.2.2.1)
attribute [local irreducible] compare' semH semC qLen qNil qIad qSlc qIdx ldBox ldCells stBox appX appI slcX awpF awpOpsF awpDF xopF xopDF qval lval seqQ blockQ loopQ bodyF retKF cnd arith IntKind.wrap
theorem ref24_Integral {cx cy : C} {X Y : List R2} (kind : Int) (x y : R2) (hx : Ls elP cx X) (hy : Ls elP cy Y) : semC Tryz.prog n_ref24_Integral [.agg [iC kind, cx, cy], .agg (ratC x), .agg (ratC y)] (PairK (integR (MadeC kind (X.map rt) (Y.map rt)) kind X Y x y)) := by
 refine semC_of_awpF ok_ref24_Integral rfl (show HFVs [.agg [iC kind, cx, cy], .agg (ratC x), .agg (ratC y)] from ⟨⟨trivial, hx.hf, hy.hf, trivial⟩, HFL_rat _, HFL_rat _, trivial⟩) ?_
 refine go9 ?_
 first | refine call_C (ref24_Validate kind hx hy) (fun u hu => ?_) | refine semH_of_semC (ref24_Validate kind hx hy) (fun u hu => ?_)
 obtain rfl := hu
 refine go9 ?_
 rw [neq_dec]
 cases h1 : dec (valE kind X Y ≠ 0)
 case true =>
  have h1 := dec_true.1 h1
  refine go9 ?_
  refine PairK.bad ?_
  unfold integR
  rw [dec_false.2 (by rw [with_val h1]; exact h1), with_val h1]
  rfl
 have h1 : valE kind X Y = 0 := Classical.byContradiction (dec_false.1 h1)
 have hv := val_zero h1
 refine go9 ?_
 first | refine call_C (ref01_Is x.1 x.2) (fun u hu => ?_) | refine semH_of_semC (ref01_Is x.1 x.2) (fun u hu => ?_)
 obtain ⟨z1, rfl, k1⟩ := hu
 cases z1
 case false =>
  have hb : ¬ Valid [x, y] := fun h => absurd (k1.2 (h x (by simp))) (by decide)
  refine go9 ?_
  refine PairK.bad ?_
  unfold integR
  rw [with_bad h1 hb, dec_false.2 (by decide)]
  rfl
 refine go9 ?_
 first | refine call_C (ref01_Is y.1 y.2) (fun u hu => ?_) | refine semH_of_semC (ref01_Is y.1 y.2) (fun u hu => ?_)
 obtain ⟨z2, rfl, k2⟩ := hu
 cases z2
 case false =>
  have hb : ¬ Valid [x, y] := fun h => absurd (k2.2 (h y (by simp))) (by decide)
  refine go9 ?_
  refine PairK.bad ?_
  unfold integR
  rw [with_bad h1 hb, dec_false.2 (by decide)]
  rfl
 have k1 := k1.1 rfl
 have k2 := k2.1 rfl
 have hvl : Valid [x, y] := by
  intro p hp
  simp at hp
  rcases hp with rfl | rfl
  ·exact k1
  ·exact k2
 refine go9 ?_
 first | refine call_C (ref24_of hx hy h1) (fun u hu => ?_) | refine semH_of_semC (ref24_of hx hy h1) (fun u hu => ?_)
 obtain ⟨dx, dy, K, rfl, hK, hR⟩ := hu
 have hr := hv.2.2.2.2.2.2.2
 have hn : (X.map rt).length ≤ 24 := by have := hv.1; simp; omega
 refine go9 ?_
 first | refine call_C (r_Of k2) (fun u hu => ?_) | refine semH_of_semC (r_Of k2) (fun u hu => ?_)
 obtain ⟨es, rfl, g1⟩ := hu
 refine go9 ?_
 first | refine call_C (ref24_area hR hr g1 hK hn) (fun u hu => ?_) | refine semH_of_semC (ref24_area hR hr g1 hK hn) (fun u hu => ?_)
 obtain ⟨fs, rfl, g2⟩ := hu
 refine go9 ?_
 first | refine call_C (r_Of k1) (fun u hu => ?_) | refine semH_of_semC (r_Of k1) (fun u hu => ?_)
 obtain ⟨gs, rfl, g3⟩ := hu
 refine go9 ?_
 first | refine call_C (ref24_area hR hr g3 hK hn) (fun u hu => ?_) | refine semH_of_semC (ref24_area hR hr g3 hK hn) (fun u hu => ?_)
 obtain ⟨ks, rfl, g4⟩ := hu
 refine go9 ?_
 first | refine call_C (r_Sub2 g2 g4 (by decide)) (fun u hu => ?_) | refine semH_of_semC (r_Sub2 g2 g4 (by decide)) (fun u hu => ?_)
 obtain ⟨ls, rfl, g5⟩ := hu
 refine go9 ?_
 first | refine call_C (ref24_number g5) (fun u hu => ?_) | refine semH_of_semC (ref24_number g5) (fun u hu => ?_)
 obtain rfl := hu
 refine go9 ?_
 refine PairK.of ?_
 unfold integR
 rw [dec_true.2 (with_ok h1 hvl), ← sum_area hr (by simpa using List.length_pos_iff.2 hv.2.2.2.1)]
 rfl
theorem law24_TableAreas {cx cy : C} {X Y : List R2} (kind : Int) (x y z : R2) (hx : Ls elP cx X) (hy : Ls elP cy Y) : semC Tryz.prog n_law24_TableAreas [.agg [iC kind, cx, cy], .agg (ratC x), .agg (ratC y), .agg (ratC z)] TrueK := by
 refine semC_of_awpF ok_law24_TableAreas rfl (show HFVs [.agg [iC kind, cx, cy], .agg (ratC x), .agg (ratC y), .agg (ratC z)] from ⟨⟨trivial, hx.hf, hy.hf, trivial⟩, HFL_rat _, HFL_rat _, HFL_rat _, trivial⟩) ?_
 have hm := fun h => table_made (kind := kind) hx hy h
 refine go9 ?_
 first | refine call_C (table_Integral kind x y hx hy hm) (fun u hu => ?_) | refine semH_of_semC (table_Integral kind x y hx hy hm) (fun u hu => ?_)
 obtain rfl := hu
 refine go9 ?_
 first | refine call_C (ref24_Integral kind x y hx hy) (fun u hu => ?_) | refine semH_of_semC (ref24_Integral kind x y hx hy) (fun u hu => ?_)
 obtain rfl := hu
 have i1 := @integ_ok (MadeC kind (X.map rt) (Y.map rt)) kind X Y x y
 have i2 := @integ_ok (MadeC kind (X.map rt) (Y.map rt)) kind X Y y z
 have i3 := @integ_ok (MadeC kind (X.map rt) (Y.map rt)) kind X Y x z
 generalize integR (MadeC kind (X.map rt) (Y.map rt)) kind X Y x y = r at i1
 obtain ⟨r1, r2⟩ := r
 refine go9 ?_
 rw [show (bif true then !(r1.1 == r1.1 && (r1.2 == r1.2 && true)) else (r1.1 == r1.1 && (r1.2 == r1.2 && true))) = false by simp]
 refine go9 ?_
 rw [show compare' Cm.neq ((r1, r2) : R2 × Int).snd ((r1, r2) : R2 × Int).snd = false by simp [compare']]
 refine go9 ?_
 first | refine call_C (table_Integral kind y z hx hy hm) (fun u hu => ?_) | refine semH_of_semC (table_Integral kind y z hx hy hm) (fun u hu => ?_)
 obtain rfl := hu
 refine go9 ?_
 first | refine call_C (table_Integral kind x z hx hy hm) (fun u hu => ?_) | refine semH_of_semC (table_Integral kind x z hx hy hm) (fun u hu => ?_)
 obtain rfl := hu
 generalize integR (MadeC kind (X.map rt) (Y.map rt)) kind X Y y z = s at i2
 generalize integR (MadeC kind (X.map rt) (Y.map rt)) kind X Y x z = t at i3
 obtain ⟨s1, s2⟩ := s
 obtain ⟨t1, t2⟩ := t
 refine go9 ?_
 cases c1 : compare' Cm.neq ((r1, r2) : R2 × Int).snd 0
 case true =>
  refine go9 ?_
  first | refine call_C law24_known (fun u hu => ?_) | refine semH_of_semC law24_known (fun u hu => ?_)
  obtain rfl := hu
  refine go9 ?_
  exact TrueK.fz
 refine go9 ?_
 cases c2 : compare' Cm.neq ((s1, s2) : R2 × Int).snd 0
 case true =>
  refine go9 ?_
  first | refine call_C law24_known (fun u hu => ?_) | refine semH_of_semC law24_known (fun u hu => ?_)
  obtain rfl := hu
  refine go9 ?_
  exact TrueK.fz
 refine go9 ?_
 cases c3 : compare' Cm.neq ((t1, t2) : R2 × Int).snd 0
 case true =>
  refine go9 ?_
  first | refine call_C law24_known (fun u hu => ?_) | refine semH_of_semC law24_known (fun u hu => ?_)
  obtain rfl := hu
  refine go9 ?_
  exact TrueK.fz
 simp [compare'] at c1 c2 c3
 obtain ⟨_, j1, j2⟩ := i1 c1
 obtain ⟨_, j3, j4⟩ := i2 c2
 obtain ⟨_, j5, j6⟩ := i3 c3
 refine go9 ?_
 first | refine call_C (ref24_Sum r1 s1 t1 j1 j3 j5) (fun u hu => ?_) | refine semH_of_semC (ref24_Sum r1 s1 t1 j1 j3 j5) (fun u hu => ?_)
 obtain rfl := hu
 simp only at j2 j4 j6
 rw [dec_true.2 (by rw [j2, j4, j6]; grind)]
 refine go9 ?_
 first | refine call_C law24_known (fun u hu => ?_) | refine semH_of_semC law24_known (fun u hu => ?_)
 obtain rfl := hu
 refine go9 ?_
 exact TrueK.fz
end Go.Proofs.YtjncgcnofiaiaaaGreat
