/-
  ref01.Of, Q.Cmp, Rat; num.Of, Q.Cmp, Q.Out, Max, Min.
-/
import Derived.Test.YtjncgcnofiaiaaaVhW
set_option linter.unusedVariables false
set_option linter.unusedSimpArgs false
namespace Go.Proofs.Ytjncgcnofiaiaaa
open Go.RowKit
set_option maxRecDepth 20000

abbrev R2 := Int × Int
def iC (n : Int) : C := .int .i64 n
def lessR (p q : R2) : Prop := p.1 * q.2 < q.1 * p.2
noncomputable def mxR (p q : R2) : R2 := bif dec (lessR p q) then q else p
noncomputable def mnR (p q : R2) : R2 := bif dec (lessR q p) then q else p
def cmpR (p q : R2) : Int := sgn (p.1 * q.2 - q.1 * p.2)
/-- Numerator and denominator of at most k words, the latter above 0. -/
structure Bd (k : Nat) (p : R2) : Prop where
  n : Sz k p.1
  d : Sz k p.2
  pos : 0 < p.2
theorem Sz.mul {k : Nat} {a b : Int} (h1 : Sz k a) (h2 : Sz k b) : Sz (k + k) (a * b) := by
  unfold Sz at *
  rw [Int.natAbs_mul, Nat.pow_add]
  exact Nat.mul_lt_mul'' h1 h2
theorem IsRat.bd {p : R2} (h : IsRat p.1 p.2) : Bd 2 p := by
  obtain ⟨h1, h2, h3, h4, h5⟩ := h
  refine ⟨?_, ?_, by omega⟩
  · unfold Sz
    omega
  · unfold Sz
    omega
theorem Bd.mx {k : Nat} {p q : R2} (h1 : Bd k p) (h2 : Bd k q) : Bd k (mxR p q) := by
  unfold mxR
  cases dec (lessR p q)
  · exact h1
  · exact h2
theorem Bd.mn {k : Nat} {p q : R2} (h1 : Bd k p) (h2 : Bd k q) : Bd k (mnR p q) := by
  unfold mnR
  cases dec (lessR q p)
  · exact h1
  · exact h2
theorem cmp_lss (p q : R2) : compare' Cm.lss (cmpR p q) 0 = dec (lessR p q) := by
  have : cmpR p q < 0 ↔ lessR p q := by
    unfold cmpR lessR sgn
    split
    · omega
    · split <;> omega
  show dec _ = _
  rw [propext this]
theorem cmp_gtr (p q : R2) : compare' Cm.gtr (cmpR p q) 0 = dec (lessR q p) := by
  have : cmpR p q > 0 ↔ lessR q p := by
    unfold cmpR lessR sgn
    split
    · omega
    · split <;> omega
  show dec _ = _
  rw [propext this]
theorem cmp_leq (p q : R2) : compare' Cm.leq (cmpR p q) 0 = dec (¬ lessR q p) := by
  have : cmpR p q ≤ 0 ↔ ¬ lessR q p := by
    unfold cmpR lessR sgn
    split
    · omega
    · split <;> omega
  show dec _ = _
  rw [propext this]
theorem cmp_geq (p q : R2) : compare' Cm.geq (cmpR p q) 0 = dec (¬ lessR p q) := by
  have : cmpR p q ≥ 0 ↔ ¬ lessR p q := by
    unfold cmpR lessR sgn
    split
    · omega
    · split <;> omega
  show dec _ = _
  rw [propext this]
noncomputable def fitR (p : R2) : Bool := dec (-1000000000000 ≤ p.1 ∧ p.1 ≤ 1000000000000 ∧ p.2 ≤ 1000000000000)
noncomputable def outV (p : R2) : V := bif fitR p then .tup [.agg [iC p.1, iC p.2], .c (.bool true)] else .tup [.agg [iC 0, iC 0], .c (.bool false)]
def RQK (p : R2) (u : V) : Prop := ∃ cs, u = .agg cs ∧ IsRQ cs p.1 p.2
theorem RQK.fz {p : R2} {cs : List C} {H : Hp} (h : IsRQ cs p.1 p.2) : ∃ e, FzV H (.agg cs) e ∧ RQK p e := ⟨_, .agg (.hf h.hf), cs, rfl, h⟩
/-- The cells of a num.Q. -/
inductive IsQ : List C → R2 → Prop
  | mk {ns ds : List C} {p : R2} (hn : IsZ ns p.1) (hd : IsZ ds p.2) : IsQ (ns ++ ds) p
def QK (p : R2) (u : V) : Prop := ∃ cs, u = .agg cs ∧ IsQ cs p
theorem IsQ.six {cs : List C} {p : R2} (h : IsQ cs p) : ∃ a b c d e f, cs = [a, b, c, d, e, f] ∧ IsZ [a, b, c] p.1 ∧ IsZ [d, e, f] p.2 := by
  cases h with
  | mk hn hd =>
    obtain ⟨a, b, c, rfl⟩ := hn.three
    obtain ⟨d, e, f, rfl⟩ := hd.three
    exact ⟨_, _, _, _, _, _, rfl, hn, hd⟩
theorem IsQ.of {a b c d e f : C} {p : R2} (hn : IsZ [a, b, c] p.1) (hd : IsZ [d, e, f] p.2) : IsQ [a, b, c, d, e, f] p := .mk (ns := [a, b, c]) (ds := [d, e, f]) hn hd
theorem IsQ.hf {cs : List C} {p : R2} (h : IsQ cs p) : HFL cs := by
  obtain ⟨a, b, c, d, e, f, rfl, h1, h2⟩ := h.six
  obtain ⟨x1, x2, x3, _⟩ := h1.hf
  obtain ⟨y1, y2, y3, _⟩ := h2.hf
  exact ⟨x1, x2, x3, y1, y2, y3, trivial⟩
theorem QK.fz {p : R2} {cs : List C} {H : Hp} (h : IsQ cs p) : ∃ e, FzV H (.agg cs) e ∧ QK p e := ⟨_, .agg (.hf h.hf), cs, rfl, h⟩
theorem eq_fz {u : V} {H : Hp} (h : FzV H u u) {K : V → Prop} (k : K u) : ∃ e, FzV H u e ∧ K e := ⟨_, h, k⟩
attribute [local irreducible] compare' semH semC qLen qNil qIad qSlc qIdx ldBox ldCells stBox appX awpF awpOpsF awpDF xopF xopDF qval lval seqQ blockQ loopQ bodyF retKF cnd arith IntKind.wrap

theorem ref01_Of {p : R2} (h : IsRat p.1 p.2) : semC Try.prog n_ref01_Of [.agg [iC p.1, iC p.2]] (RQK p) := by
  refine semC_of_awpF ok_ref01_Of rfl (show HFVs [.agg [iC p.1, iC p.2]] from ⟨⟨trivial, trivial, trivial⟩, trivial⟩) ?_
  have hb := h.bd
  obtain ⟨h1, h2, h3, h4, h5⟩ := h
  refine go2 ?_
  refine call_C (ref01_ofInt (v := p.1) (by omega) (by omega)) (fun u hu => ?_)
  obtain ⟨cs, rfl, hn⟩ := hu
  refine go2 ?_
  refine call_C (ref01_ofInt (v := p.2) (by omega) (by omega)) (fun u hu => ?_)
  obtain ⟨ds, rfl, hd⟩ := hu
  refine go2 ?_
  refine call_C (ref01_ratio hn hd hb.n hb.d (by decide) (by omega)) (fun u hu => ?_)
  obtain ⟨es, a, b, rfl, hr, r1, r2, r3, r4, r5⟩ := hu
  obtain ⟨rfl, rfl⟩ := red_uniq r2 h5 r1 (by omega) r3
  have hr' := hr
  obtain ⟨c1, m1, c2, m2, d, rfl, _⟩ := hr'.four
  refine go2 ?_
  exact RQK.fz hr

theorem ref01_Q_Cmp {cs ds : List C} {p q : R2} {k : Nat} (hx : IsRQ cs p.1 p.2) (hy : IsRQ ds q.1 q.2) (bp : Bd k p) (bq : Bd k q) (hk : k ≤ 268435456) : semC Try.prog n_ref01_Q_Cmp [.agg cs, .agg ds] (IntK (cmpR p q)) := by
  refine semC_of_awpF ok_ref01_Q_Cmp rfl (show HFVs [.agg cs, .agg ds] from ⟨hx.hf, hy.hf, trivial⟩) ?_
  obtain ⟨c1, m1, c2, m2, x, rfl, hn, hd, ex⟩ := hx.four
  obtain ⟨c3, m3, c4, m4, y, rfl, hm, he, ey⟩ := hy.four
  refine go2 ?_
  refine call_C (ref01_den hm he) (fun u hu => ?_)
  obtain ⟨es, rfl, h1⟩ := hu
  rw [← ey] at h1
  refine go2 ?_
  refine call_C (ref01_whole_mul hn h1 bp.n bq.d (by omega)) (fun u hu => ?_)
  obtain ⟨fs, rfl, h2⟩ := hu
  refine go2 ?_
  refine call_C (ref01_den hn hd) (fun u hu => ?_)
  obtain ⟨gs, rfl, h3⟩ := hu
  rw [← ex] at h3
  refine go2 ?_
  refine call_C (ref01_whole_mul hm h3 bq.n bp.d (by omega)) (fun u hu => ?_)
  obtain ⟨hs, rfl, h4⟩ := hu
  refine go2 ?_
  refine call_C (ref01_whole_cmp h2 h4 (bp.n.mul bq.d) (bq.n.mul bp.d) (by omega)) (fun u hu => ?_)
  obtain rfl := hu
  refine go2 ?_
  exact IntK.fz

def OutK (p : R2) (u : V) : Prop := u = outV p
theorem OutK.yes {p : R2} {H : Hp} (h : -1000000000000 ≤ p.1 ∧ p.1 ≤ 1000000000000 ∧ p.2 ≤ 1000000000000) : ∃ e, FzV H (.tup [.agg [iC p.1, iC p.2], .c (.bool true)]) e ∧ OutK p e := by
  refine ⟨_, .tup (.cons (.agg (.hf ⟨trivial, trivial, trivial⟩)) (.cons (.c (.hf trivial)) .nil)), ?_⟩
  unfold OutK outV fitR
  rw [dec_true.2 h]
  rfl
theorem OutK.no {p : R2} {H : Hp} (h : ¬ (-1000000000000 ≤ p.1 ∧ p.1 ≤ 1000000000000 ∧ p.2 ≤ 1000000000000)) : ∃ e, FzV H (.tup [.agg [iC 0, iC 0], .c (.bool false)]) e ∧ OutK p e := by
  refine ⟨_, .tup (.cons (.agg (.hf ⟨trivial, trivial, trivial⟩)) (.cons (.c (.hf trivial)) .nil)), ?_⟩
  unfold OutK outV fitR
  rw [dec_false.2 h]
  rfl
theorem ref01_Rat {cs : List C} {p : R2} (hx : IsRQ cs p.1 p.2) (hp : 0 < p.2) : semC Try.prog n_ref01_Rat [.agg cs] (OutK p) := by
  refine semC_of_awpF ok_ref01_Rat rfl (show HFVs [.agg cs] from ⟨hx.hf, trivial⟩) ?_
  obtain ⟨c1, m1, c2, m2, x, rfl, hn, hd, ex⟩ := hx.four
  refine go2 ?_
  refine semH_of_semC (ref01_small hn) (fun u hu => ?_)
  obtain ⟨r, b, rfl, hb, hr⟩ := hu
  refine go2 ?_
  refine semH_of_semC (ref01_den hn hd) (fun u hu => ?_)
  obtain ⟨es, rfl, h1⟩ := hu
  rw [← ex] at h1
  refine go2 ?_
  refine semH_of_semC (ref01_small h1) (fun u hu => ?_)
  obtain ⟨r', b', rfl, hb', hr'⟩ := hu
  refine go2 ?_
  cases b
  case false =>
    refine go2 ?_
    exact OutK.no (fun h => by
      have := hb.2 (by omega)
      cases this)
  have e1 := hr rfl
  subst e1
  refine go2 ?_
  cases b'
  case false =>
    refine go2 ?_
    exact OutK.no (fun h => by
      have := hb'.2 (by omega)
      cases this)
  have e2 := hr' rfl
  subst e2
  refine go2 ?_
  cases q1 : compare' Cm.lss p.1 (-1000000000000)
  case true =>
    simp only [compare', dec_true] at q1
    refine go2 ?_
    exact OutK.no (by omega)
  simp only [compare', dec_false] at q1
  refine go2 ?_
  cases q2 : compare' Cm.gtr p.1 1000000000000
  case true =>
    simp only [compare', dec_true] at q2
    refine go2 ?_
    exact OutK.no (by omega)
  simp only [compare', dec_false] at q2
  refine go2 ?_
  cases q3 : compare' Cm.gtr p.2 1000000000000
  case true =>
    simp only [compare', dec_true] at q3
    refine go2 ?_
    exact OutK.no (by omega)
  simp only [compare', dec_false] at q3
  refine go2 ?_
  exact OutK.yes (by omega)


theorem num_Of {p : R2} (h : IsRat p.1 p.2) : semC Try.prog n_num_Of [.agg [iC p.1, iC p.2]] (QK p) := by
  refine semC_of_awpF ok_num_Of rfl (show HFVs [.agg [iC p.1, iC p.2]] from ⟨⟨trivial, trivial, trivial⟩, trivial⟩) ?_
  obtain ⟨h1, h2, h3, h4, h5⟩ := h
  refine go2 ?_
  refine call_C (num_I p.1 (by omega) (by omega)) (fun u hu => ?_)
  obtain ⟨cs, rfl, hn⟩ := hu
  refine go2 ?_
  refine call_C (num_I p.2 (by omega) (by omega)) (fun u hu => ?_)
  obtain ⟨ds, rfl, hd⟩ := hu
  obtain ⟨a, b, c, rfl⟩ := hn.three
  obtain ⟨d, e, f, rfl⟩ := hd.three
  refine go2 ?_
  exact QK.fz (.of hn hd)

theorem num_Q_Cmp {cs ds : List C} {p q : R2} {k : Nat} (hx : IsQ cs p) (hy : IsQ ds q) (bp : Bd k p) (bq : Bd k q) (hk : k ≤ 268435456) : semC Try.prog n_num_Q_Cmp [.agg cs, .agg ds] (IntK (cmpR p q)) := by
  refine semC_of_awpF ok_num_Q_Cmp rfl (show HFVs [.agg cs, .agg ds] from ⟨hx.hf, hy.hf, trivial⟩) ?_
  obtain ⟨a, b, c, d, e, f, rfl, h1, h2⟩ := hx.six
  obtain ⟨a', b', c', d', e', f', rfl, h3, h4⟩ := hy.six
  refine go2 ?_
  refine call_C (num_Z_Mul h1 h4 bp.n bq.d (by omega)) (fun u hu => ?_)
  obtain ⟨es, rfl, h5⟩ := hu
  refine go2 ?_
  refine call_C (num_Z_Mul h3 h2 bq.n bp.d (by omega)) (fun u hu => ?_)
  obtain ⟨fs, rfl, h6⟩ := hu
  refine go2 ?_
  refine call_C (num_Z_Cmp h5 h6 (bp.n.mul bq.d) (bq.n.mul bp.d) (by omega)) (fun u hu => ?_)
  obtain rfl := hu
  refine go2 ?_
  exact IntK.fz

theorem num_Max {cs ds : List C} {p q : R2} {k : Nat} (hx : IsQ cs p) (hy : IsQ ds q) (bp : Bd k p) (bq : Bd k q) (hk : k ≤ 268435456) : semC Try.prog n_num_Max [.agg cs, .agg ds] (QK (mxR p q)) := by
  refine semC_of_awpF ok_num_Max rfl (show HFVs [.agg cs, .agg ds] from ⟨hx.hf, hy.hf, trivial⟩) ?_
  obtain ⟨a, b, c, d, e, f, rfl, h1, h2⟩ := hx.six
  obtain ⟨a', b', c', d', e', f', rfl, h3, h4⟩ := hy.six
  refine go2 ?_
  refine semH_of_semC (num_Q_Cmp hx hy bp bq hk) (fun u hu => ?_)
  obtain rfl := hu
  refine go2 ?_
  rw [cmp_lss]
  unfold mxR
  cases hq : dec (lessR p q)
  · refine go2 ?_
    exact QK.fz hx
  · refine go2 ?_
    exact QK.fz hy
theorem num_Min {cs ds : List C} {p q : R2} {k : Nat} (hx : IsQ cs p) (hy : IsQ ds q) (bp : Bd k p) (bq : Bd k q) (hk : k ≤ 268435456) : semC Try.prog n_num_Min [.agg cs, .agg ds] (QK (mnR p q)) := by
  refine semC_of_awpF ok_num_Min rfl (show HFVs [.agg cs, .agg ds] from ⟨hx.hf, hy.hf, trivial⟩) ?_
  obtain ⟨a, b, c, d, e, f, rfl, h1, h2⟩ := hx.six
  obtain ⟨a', b', c', d', e', f', rfl, h3, h4⟩ := hy.six
  refine go2 ?_
  refine semH_of_semC (num_Q_Cmp hy hx bq bp hk) (fun u hu => ?_)
  obtain rfl := hu
  refine go2 ?_
  rw [cmp_lss]
  unfold mnR
  cases hq : dec (lessR q p)
  · refine go2 ?_
    exact QK.fz hx
  · refine go2 ?_
    exact QK.fz hy

theorem num_Q_Out {cs : List C} {p : R2} (hx : IsQ cs p) (hp : 0 < p.2) : semC Try.prog n_num_Q_Out [.agg cs] (OutK p) := by
  refine semC_of_awpF ok_num_Q_Out rfl (show HFVs [.agg cs] from ⟨hx.hf, trivial⟩) ?_
  obtain ⟨a, b, c, d, e, f, rfl, h1, h2⟩ := hx.six
  refine go2 ?_
  refine semH_of_semC (num_Z_Int (most := 1000000000000) h1 (by omega) (by omega)) (fun u hu => ?_)
  obtain ⟨r, b1, rfl, hb, hr⟩ := hu
  refine go2 ?_
  refine semH_of_semC (num_Z_Int (most := 1000000000000) h2 (by omega) (by omega)) (fun u hu => ?_)
  obtain ⟨r', b2, rfl, hb', hr'⟩ := hu
  refine go2 ?_
  cases b1
  case false =>
    refine go2 ?_
    exact OutK.no (fun h => by
      have := hb.2 (by omega)
      cases this)
  have e1 := hr rfl
  subst e1
  refine go2 ?_
  cases b2
  case false =>
    refine go2 ?_
    exact OutK.no (fun h => by
      have := hb'.2 (by omega)
      cases this)
  have e2 := hr' rfl
  subst e2
  refine go2 ?_
  have e3 := hb.1 rfl
  have e4 := hb'.1 rfl
  exact OutK.yes (by omega)
end Go.Proofs.Ytjncgcnofiaiaaa
