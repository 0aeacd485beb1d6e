/-
  Spans: least, common, Holds; Meet, Hull, In of both.
-/
import Derived.Test.YtjncgcnofiaiaaaVhZ
set_option linter.unusedVariables false
set_option linter.unusedSimpArgs false
namespace Go.Proofs.Ytjncgcnofiaiaaa
open Go.RowKit
set_option maxRecDepth 20000

def zeroS : List C := [.nilSl, .bool false, .nilSl, .bool false, .nilSl, .bool false, .nilSl, .bool false]
/-- Cells and what they stand for. -/
abbrev Cv := List C × R2
def OkRQ (k : Nat) (e : Cv) : Prop := IsRQ e.1 e.2.1 e.2.2 ∧ Bd k e.2
theorem OkRQ.len {k : Nat} {e : Cv} (h : OkRQ k e) : e.1.length = 4 := by
  obtain ⟨a, b, c, d, _, h1, _⟩ := h.1.four
  rw [h1]
  rfl
noncomputable def foldV (l : List Cv) (a : SP) : SP := l.foldl (fun a e => wider a e.2) a
theorem foldV_bd {k : Nat} : ∀ {l : List Cv} {a : SP}, BdS k a → (∀ e ∈ l, Bd k e.2) → BdS k (foldV l a)
  | [], _, h, _ => h
  | e :: t, _, h, hl => foldV_bd (l := t) (h.wider (hl e (by simp))) (fun q hq => hl q (by simp [hq]))
theorem foldV_map : ∀ {l : List Cv} {a : SP}, foldV l a = (l.map (·.2)).foldl wider a
  | [], _ => rfl
  | e :: t, a => by
    show foldV t (wider a e.2) = _
    rw [foldV_map]
    rfl
theorem IsRat.mx {p q : R2} (h1 : IsRat p.1 p.2) (h2 : IsRat q.1 q.2) : IsRat (mxR p q).1 (mxR p q).2 := by
  unfold mxR
  cases dec (lessR p q)
  · exact h1
  · exact h2
theorem IsRat.mn {p q : R2} (h1 : IsRat p.1 p.2) (h2 : IsRat q.1 q.2) : IsRat (mnR p q).1 (mnR p q).2 := by
  unfold mnR
  cases dec (lessR q p)
  · exact h1
  · exact h2
theorem IsRat.fit {p : R2} (h : IsRat p.1 p.2) : fitR p = true := by
  obtain ⟨h1, h2, h3, h4, h5⟩ := h
  unfold fitR
  exact dec_true.2 ⟨h3, h4, h2⟩
attribute [local irreducible] compare' semH semC qLen qNil qIad qSlc qIdx ldBox ldCells stBox appX awpF awpOpsF awpDF xopF xopDF qval lval seqQ blockQ loopQ bodyF retKF cnd arith IntKind.wrap

theorem ref05_least {k : Nat} {l : List Cv} (hl : l.length < 1073741824) (h0 : 0 < l.length) (hr : ∀ e ∈ l, OkRQ k e) (hk : k ≤ 268435456) : semC Try.prog n_ref05_least [.c (.imm l.length (l.flatMap (·.1)))] (SK (foldV l (l[0].2, l[0].2))) := by
  refine semC_of_awpF ok_ref05_least rfl (show HFVs [.c (.imm l.length (l.flatMap (·.1)))] from ⟨HFL_flat (fun e he => (hr e he).1.hf), trivial⟩) ?_
  have hr0 := hr _ (getL_mem h0)
  refine go2 ?_
  refine idx_imm (by rfl) (by rfl) (by omega) (by omega) ?_
  refine go2 ?_
  refine ld_elem (i := 0) (fun e he => (hr e he).len) h0 (by omega) ?_
  refine go2 ?_
  refine idx_imm (by rfl) (by rfl) (by omega) (by omega) ?_
  refine go2 ?_
  refine ld_elem (i := 0) (fun e he => (hr e he).len) h0 (by omega) ?_
  obtain ⟨a, b, c, d, _, he0, _⟩ := hr0.1.four
  rw [he0]
  have hq0 := hr0.1
  rw [he0] at hq0
  refine go2 ?_
  refine f_loop (fun n vs H => ∃ (i : Nat) (es : List C), vs = [.c (.imm l.length (l.flatMap (·.1))), .c (.ptr 0 0), .c (.ptr 1 0), i64 i] ∧ H = [.live ⟨zeroS, T_isoclineref05_S, .rw⟩, .live ⟨es, T_isoclineref05_S, .rw⟩] ∧ n = l.length - i ∧ 1 ≤ i ∧ i ≤ l.length ∧ IsS es (foldV (l.take i) (l[0].2, l[0].2))) (by rfl) ⟨1, _, rfl, rfl, rfl, by omega, by omega, ?_⟩ ?_
  · have e : foldV (l.take 1) (l[0].2, l[0].2) = (l[0].2, l[0].2) := by
      rw [show (1 : Nat) = 0 + 1 from rfl, foldV, foldl_take h0]
      exact wider_self _
    rw [e]
    exact .of hq0 hq0
  clear hq0 he0
  rintro n vs H ⟨i, es, rfl, rfl, rfl, h1, h2, h3⟩
  obtain ⟨a, b, c, d, a', b', c', d', rfl, q1, q2⟩ := h3.parts
  refine go2 ?_
  cases hq : compare' Cm.lss (i : Int) (l.length : Int)
  · simp [compare'] at hq
    have ei : i = l.length := by omega
    subst ei
    rw [List.take_length] at h3
    refine go2 ?_
    exact SK.fz h3
  · simp [compare'] at hq
    have hri := hr _ (getL_mem hq)
    have hb : BdS k (foldV (l.take i) (l[0].2, l[0].2)) := foldV_bd ⟨hr0.2, hr0.2⟩ (fun p hp => (hr p (List.mem_of_mem_take hp)).2)
    have hf : foldV (l.take (i + 1)) (l[0].2, l[0].2) = wider (foldV (l.take i) (l[0].2, l[0].2)) l[i].2 := foldl_take hq
    have hci : l[i].1.length = 4 := hri.len
    have hget : ∀ {K : V → Prop} {m : Nat}, m = i → K (.agg l[i].1) → ldCells ((l.flatMap (·.1)).drop (m * 4)) true 4 K := fun hm kk => ld_elem (f := (·.1)) (fun e he => (hr e he).len) hq hm kk
    obtain ⟨w1, w2, w3, w4, _, he, _⟩ := hri.1.four
    have hvi := hri.1
    have hbi := hri.2
    rw [he] at hvi hget
    generalize l[i].2 = vi at hvi hbi hf
    generalize foldV (l.take i) (l[0].2, l[0].2) = F at hf hb q1 q2 h3
    clear hci he hri
    refine go2 ?_
    refine idx_imm (by rfl) (by rfl) (by omega) (by omega) ?_
    refine go2 ?_
    refine hget (by omega) ?_
    refine go2 ?_
    refine call_C (ref01_Q_Cmp hvi q1 hbi hb.lo hk) (fun u hu => ?_)
    obtain rfl := hu
    refine go2 ?_
    rw [cmp_lss]
    cases d1 : dec (lessR vi F.1)
    case false =>
      have m1 : mnR F.1 vi = F.1 := by unfold mnR; rw [d1]; rfl
      refine go2 ?_
      refine idx_imm (by rfl) (by rfl) (by omega) (by omega) ?_
      refine go2 ?_
      refine hget (by omega) ?_
      refine go2 ?_
      refine call_C (ref01_Q_Cmp hvi q2 hbi hb.hi hk) (fun u hu => ?_)
      obtain rfl := hu
      refine go2 ?_
      rw [cmp_gtr]
      cases d2 : dec (lessR F.2 vi)
      case false =>
        have m2 : mxR F.2 vi = F.2 := by unfold mxR; rw [d2]; rfl
        refine go2 ?_
        rw [addI1 i (by omega)]
        refine l_n (by rfl) (by omega) ⟨i + 1, _, rfl, rfl, rfl, by omega, by omega, ?_⟩
        rw [hf]
        unfold wider
        rw [m1, m2]
        first | exact .of q1 q2 | exact .of hvi q2
      case true =>
        have m2 : mxR F.2 vi = vi := by unfold mxR; rw [d2]; rfl
        refine go2 ?_
        refine idx_imm (by rfl) (by rfl) (by omega) (by omega) ?_
        refine go2 ?_
        refine hget (by omega) ?_
        refine go2 ?_
        rw [addI1 i (by omega)]
        refine l_n (by rfl) (by omega) ⟨i + 1, _, rfl, rfl, rfl, by omega, by omega, ?_⟩
        rw [hf]
        unfold wider
        rw [m1, m2]
        first | exact .of q1 hvi | exact .of hvi hvi
    case true =>
      have m1 : mnR F.1 vi = vi := by unfold mnR; rw [d1]; rfl
      refine go2 ?_
      refine idx_imm (by rfl) (by rfl) (by omega) (by omega) ?_
      refine go2 ?_
      refine hget (by omega) ?_
      refine go2 ?_
      refine idx_imm (by rfl) (by rfl) (by omega) (by omega) ?_
      refine go2 ?_
      refine hget (by omega) ?_
      refine go2 ?_
      refine call_C (ref01_Q_Cmp hvi q2 hbi hb.hi hk) (fun u hu => ?_)
      obtain rfl := hu
      refine go2 ?_
      rw [cmp_gtr]
      cases d2 : dec (lessR F.2 vi)
      case false =>
        have m2 : mxR F.2 vi = F.2 := by unfold mxR; rw [d2]; rfl
        refine go2 ?_
        rw [addI1 i (by omega)]
        refine l_n (by rfl) (by omega) ⟨i + 1, _, rfl, rfl, rfl, by omega, by omega, ?_⟩
        rw [hf]
        unfold wider
        rw [m1, m2]
        first | exact .of q1 q2 | exact .of hvi q2
      case true =>
        have m2 : mxR F.2 vi = vi := by unfold mxR; rw [d2]; rfl
        refine go2 ?_
        refine idx_imm (by rfl) (by rfl) (by omega) (by omega) ?_
        refine go2 ?_
        refine hget (by omega) ?_
        refine go2 ?_
        rw [addI1 i (by omega)]
        refine l_n (by rfl) (by omega) ⟨i + 1, _, rfl, rfl, rfl, by omega, by omega, ?_⟩
        rw [hf]
        unfold wider
        rw [m1, m2]
        first | exact .of q1 hvi | exact .of hvi hvi

theorem ref05_common {k : Nat} {cs ds : List C} {x y : SP} (hx : IsS cs x) (hy : IsS ds y) (bx : BdS k x) (by' : BdS k y) (hk : k ≤ 268435456) : semC Try.prog n_ref05_common [.agg cs, .agg ds] (fun u => ∃ es b, u = .tup [.agg es, .c (.bool b)] ∧ IsS es (mxR x.1 y.1, mnR x.2 y.2) ∧ b = dec (¬ lessR (mnR x.2 y.2) (mxR x.1 y.1))) := by
  refine semC_of_awpF ok_ref05_common rfl (show HFVs [.agg cs, .agg ds] from ⟨hx.hf, hy.hf, trivial⟩) ?_
  obtain ⟨a, b, c, d, a', b', c', d', rfl, q1, q2⟩ := hx.parts
  obtain ⟨e, f, g, h, e', f', g', h', rfl, q3, q4⟩ := hy.parts
  have blo := bx.lo.mx by'.lo
  have bhi := bx.hi.mn by'.hi
  have fin : ∀ {H : Hp} {es : List C}, IsS es (mxR x.1 y.1, mnR x.2 y.2) → ∃ e, FzV H (.tup [.agg es, .c (.bool (dec (¬ lessR (mnR x.2 y.2) (mxR x.1 y.1))))]) e ∧ (fun u => ∃ es b, u = .tup [.agg es, .c (.bool b)] ∧ IsS es (mxR x.1 y.1, mnR x.2 y.2) ∧ b = dec (¬ lessR (mnR x.2 y.2) (mxR x.1 y.1))) e := fun h => ⟨_, .tup (.cons (.agg (.hf h.hf)) (.cons (.c (.hf trivial)) .nil)), _, _, rfl, h, rfl⟩
  refine go2 ?_
  refine semH_of_semC (ref01_Q_Cmp q3 q1 by'.lo bx.lo hk) (fun u hu => ?_)
  obtain rfl := hu
  refine go2 ?_
  rw [cmp_gtr]
  cases d1 : dec (lessR x.1 y.1)
  case false =>
    have m1 : mxR x.1 y.1 = x.1 := by unfold mxR; rw [d1]; rfl
    have r1 := q1
    rw [← m1] at r1
    refine go2 ?_
    refine semH_of_semC (ref01_Q_Cmp q4 q2 by'.hi bx.hi hk) (fun u hu => ?_)
    obtain rfl := hu
    refine go2 ?_
    rw [cmp_lss]
    cases d2 : dec (lessR y.2 x.2)
    case false =>
      have m2 : mnR x.2 y.2 = x.2 := by unfold mnR; rw [d2]; rfl
      have r2 := q2
      rw [← m2] at r2
      refine go2 ?_
      refine call_C (ref01_Q_Cmp r1 r2 blo bhi hk) (fun u hu => ?_)
      obtain rfl := hu
      refine go2 ?_
      rw [cmp_leq]
      exact fin (.of r1 r2)
    case true =>
      have m2 : mnR x.2 y.2 = y.2 := by unfold mnR; rw [d2]; rfl
      have r2 := q4
      rw [← m2] at r2
      refine go2 ?_
      refine call_C (ref01_Q_Cmp r1 r2 blo bhi hk) (fun u hu => ?_)
      obtain rfl := hu
      refine go2 ?_
      rw [cmp_leq]
      exact fin (.of r1 r2)
  case true =>
    have m1 : mxR x.1 y.1 = y.1 := by unfold mxR; rw [d1]; rfl
    have r1 := q3
    rw [← m1] at r1
    refine go2 ?_
    refine semH_of_semC (ref01_Q_Cmp q4 q2 by'.hi bx.hi hk) (fun u hu => ?_)
    obtain rfl := hu
    refine go2 ?_
    rw [cmp_lss]
    cases d2 : dec (lessR y.2 x.2)
    case false =>
      have m2 : mnR x.2 y.2 = x.2 := by unfold mnR; rw [d2]; rfl
      have r2 := q2
      rw [← m2] at r2
      refine go2 ?_
      refine call_C (ref01_Q_Cmp r1 r2 blo bhi hk) (fun u hu => ?_)
      obtain rfl := hu
      refine go2 ?_
      rw [cmp_leq]
      exact fin (.of r1 r2)
    case true =>
      have m2 : mnR x.2 y.2 = y.2 := by unfold mnR; rw [d2]; rfl
      have r2 := q4
      rw [← m2] at r2
      refine go2 ?_
      refine call_C (ref01_Q_Cmp r1 r2 blo bhi hk) (fun u hu => ?_)
      obtain rfl := hu
      refine go2 ?_
      rw [cmp_leq]
      exact fin (.of r1 r2)

noncomputable def holdsB (x : SP) (p : R2) : Bool := dec (¬ lessR p x.1) && dec (¬ lessR x.2 p)
theorem ref05_Holds {k : Nat} {cs ds : List C} {x : SP} {p : R2} (hx : IsS cs x) (hy : IsRQ ds p.1 p.2) (bx : BdS k x) (bp : Bd k p) (hk : k ≤ 268435456) : semC Try.prog n_ref05_S_Holds [.agg cs, .agg ds] (EqK (.c (.bool (holdsB x p)))) := by
  refine semC_of_awpF ok_ref05_S_Holds rfl (show HFVs [.agg cs, .agg ds] from ⟨hx.hf, hy.hf, trivial⟩) ?_
  obtain ⟨a, b, c, d, a', b', c', d', rfl, q1, q2⟩ := hx.parts
  obtain ⟨e, f, g, h, _, rfl, _⟩ := hy.four
  unfold holdsB
  refine go2 ?_
  refine semH_of_semC (ref01_Q_Cmp q1 hy bx.lo bp hk) (fun u hu => ?_)
  obtain rfl := hu
  refine go2 ?_
  rw [cmp_leq]
  cases d1 : dec (¬ lessR p x.1)
  · refine go2 ?_
    exact ⟨_, .c (.hf trivial), rfl⟩
  · refine go2 ?_
    refine semH_of_semC (ref01_Q_Cmp q2 hy bx.hi bp hk) (fun u hu => ?_)
    obtain rfl := hu
    refine go2 ?_
    rw [cmp_geq]
    exact ⟨_, .c (.hf trivial), rfl⟩
end Go.Proofs.Ytjncgcnofiaiaaa
