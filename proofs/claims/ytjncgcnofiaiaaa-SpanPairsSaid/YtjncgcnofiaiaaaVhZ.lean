/-
  Spans: check, hull, least, common, Holds.
-/
import Derived.Test.YtjncgcnofiaiaaaVhY
set_option linter.unusedVariables false
set_option linter.unusedSimpArgs false
namespace Go.Proofs.Ytjncgcnofiaiaaa
open Go.RowKit
set_option maxRecDepth 20000

theorem fz_sl {p : BK → Prop} {H : Hp} {b n es : Nat} {co : Option Nat} {bx : Box} {ds : List C} (h : H[b]? = some (.live bx)) (hk : p bx.kind) (hk' : bx.kind ≠ .bor) (hd : (bx.cells.drop 0).take (n * es) = ds) (hf : HFL ds) : Fz p H (.sl b 0 n co es) (.imm n ds) :=
  .sl h hk hk' (by rw [hd]; exact FzL.hf hf)
def zeroE : List C := [.int .i64 0, .nilSl, .bool false, .int .i64 0, .nilSl, .bool false, .int .i64 0, .nilSl, .bool false, .int .i64 0, .nilSl, .bool false]
noncomputable def checkB (g : Int) (l : List SP) : Bool := dec (∀ x ∈ l, SpanOk x) && dec (1 ≤ g ∧ g ≤ 1000000)
noncomputable def checkV (g : Int) (l : List SP) : V := bif checkB g l then i64 0 else i64 1
theorem getL_mem {α : Type} {l : List α} {i : Nat} (h : i < l.length) : l[i] ∈ l := List.getElem_mem h
theorem HFL_spans (l : List SP) : HFL (l.flatMap spanC) := HFL_flat (fun x _ => HFL_span x)
theorem HFL_rat (p : R2) : HFL (ratC p) := ⟨trivial, trivial, trivial⟩
theorem HFL_rats (l : List R2) : HFL (l.flatMap ratC) := HFL_flat (fun x _ => HFL_rat x)
/-- The least span of some numbers. -/
noncomputable def wider (a : SP) (p : R2) : SP := (mnR a.1 p, mxR a.2 p)
theorem BdS.wider {k : Nat} {a : SP} {p : R2} (h : BdS k a) (hp : Bd k p) : BdS k (wider a p) := ⟨h.lo.mn hp, h.hi.mx hp⟩
theorem BdS.fold {k : Nat} : ∀ {l : List R2} {a : SP}, BdS k a → (∀ p ∈ l, Bd k p) → BdS k (l.foldl Proofs.Ytjncgcnofiaiaaa.wider a)
  | [], _, h, _ => h
  | p :: t, _, h, hl => BdS.fold (l := t) (h.wider (hl p (by simp))) (fun q hq => hl q (by simp [hq]))
theorem lessR_irr (p : R2) : ¬ lessR p p := by unfold lessR; omega
theorem wider_self (p : R2) : wider (p, p) p = (p, p) := by
  unfold wider mnR mxR
  rw [dec_false.2 (lessR_irr p)]
  rfl
attribute [local irreducible] compare' semH semC qLen qNil qIad qSlc qIdx ldBox ldCells stBox appX awpF awpOpsF awpDF xopF xopDF qval lval seqQ blockQ loopQ bodyF retKF cnd arith IntKind.wrap

theorem span_check (g : Int) (l : List SP) (hl : l.length < 1073741824) : semC Try.prog n_span_check [i64 g, .c (.imm l.length (l.flatMap spanC))] (EqK (checkV g l)) := by
  refine semC_of_awpF ok_span_check rfl (show HFVs [i64 g, .c (.imm l.length (l.flatMap spanC))] from ⟨trivial, HFL_spans l, trivial⟩) ?_
  refine go2 ?_
  refine f_loop (fun n vs H => ∃ i : Nat, vs = [i64 g, .c (.imm l.length (l.flatMap spanC)), i64 l.length, i64 i] ∧ n = l.length - i ∧ i ≤ l.length ∧ ∀ x ∈ l.take i, SpanOk x) (by rfl) ⟨0, rfl, rfl, by omega, by simp⟩ ?_
  rintro n vs H ⟨i, rfl, rfl, h1, h2⟩
  refine go2 ?_
  cases hq : compare' Cm.lss (i : Int) (l.length : Int)
  · simp [compare'] at hq
    have ei : i = l.length := by omega
    subst ei
    rw [List.take_length] at h2
    refine go2 ?_
    have good : ∀ {H : Hp}, (1 ≤ g ∧ g ≤ 1000000) → ∃ e, FzV H (i64 0) e ∧ EqK (checkV g l) e := fun h => ⟨_, .c (.hf trivial), by unfold EqK checkV checkB; rw [dec_true.2 h, dec_true.2 h2]; rfl⟩
    have bad : ∀ {H : Hp}, ¬ (1 ≤ g ∧ g ≤ 1000000) → ∃ e, FzV H (i64 1) e ∧ EqK (checkV g l) e := fun h => ⟨_, .c (.hf trivial), by unfold EqK checkV checkB; rw [dec_false.2 h, Bool.and_false]; rfl⟩
    cases hq2 : compare' Cm.lss g 1
    · simp only [compare', dec_false] at hq2
      refine go2 ?_
      cases hq3 : compare' Cm.gtr g 1000000
      · simp only [compare', dec_false] at hq3
        refine go2 ?_
        exact good (by omega)
      · simp only [compare', dec_true] at hq3
        refine go2 ?_
        exact bad (by omega)
    · simp only [compare', dec_true] at hq2
      refine go2 ?_
      exact bad (by omega)
  · simp [compare'] at hq
    refine go2 ?_
    refine idx_imm (by rfl) (by rfl) (by omega) (by omega) ?_
    refine go2 ?_
    refine ld_elem (i := i) (fun x _ => rfl) hq (by omega) ?_
    refine go2 ?_
    refine semH_of_semC (span_Validate l[i]) (fun u hu => ?_)
    obtain rfl := hu
    unfold errV
    cases ho : dec (SpanOk l[i])
    · refine go2 ?_
      refine c_t (by simp [compare']) ?_
      refine go2 ?_
      refine ⟨_, .c (.hf trivial), ?_⟩
      unfold EqK checkV checkB
      rw [dec_false.2 (fun h => dec_false.1 ho (h _ (getL_mem hq)))]
      rfl
    · refine go2 ?_
      refine c_f (by simp [compare']) ?_
      refine go2 ?_
      rw [addI1 i (by omega)]
      refine l_n (by rfl) (by omega) ⟨i + 1, rfl, rfl, by omega, fun x hx => ?_⟩
      rw [List.take_succ_eq_append_getElem hq] at hx
      rcases List.mem_append.1 hx with h | h
      · exact h2 x h
      · simp at h
        subst h
        exact dec_true.1 ho

theorem span_hull_rat {l : List R2} (hl : l.length < 1073741824) (h0 : 0 < l.length) (hr : ∀ p ∈ l, IsRat p.1 p.2) : semC Try.prog n_span_hull_api_Rat [.c (.imm l.length (l.flatMap ratC)), .c (.fn n_num_Of [])] (EK (l.foldl wider (l[0], l[0]))) := by
  refine semC_of_awpF ok_span_hull_api_Rat rfl (show HFVs [.c (.imm l.length (l.flatMap ratC)), .c (.fn n_num_Of [])] from ⟨HFL_rats l, trivial, trivial⟩) ?_
  have hr0 := hr _ (getL_mem h0)
  refine go2 ?_
  refine idx_imm (by rfl) (by rfl) (by omega) (by omega) ?_
  refine go2 ?_
  refine ld_elem (i := 0) (fun x _ => rfl) h0 (by omega) ?_
  refine go2 ?_
  refine idx_imm (by rfl) (by rfl) (by omega) (by omega) ?_
  refine go2 ?_
  refine ld_elem (i := 0) (fun x _ => rfl) h0 (by omega) ?_
  refine go2 ?_
  refine call_C (num_Of hr0) (fun u hu => ?_)
  obtain ⟨cs, rfl, hp⟩ := hu
  refine go2 ?_
  refine call_C (num_Of hr0) (fun u hu => ?_)
  obtain ⟨ds, rfl, hq⟩ := hu
  obtain ⟨a, b, c, d, e, f, rfl, _⟩ := hp.six
  obtain ⟨a', b', c', d', e', f', rfl, _⟩ := hq.six
  refine go2 ?_
  refine f_loop (fun n vs H => ∃ (i : Nat) (es : List C) (junk : Hp), vs = [.c (.fn n_num_Of []), .c (.ptr 0 0), .c (.ptr 1 0), .c (.imm l.length (l.flatMap ratC)), i64 l.length, i64 i] ∧ H = .live ⟨zeroE, T_span_ends, .rw⟩ :: .live ⟨es, T_span_ends, .rw⟩ :: junk ∧ n = l.length - i ∧ i ≤ l.length ∧ IsE es ((l.take i).foldl wider (l[0], l[0]))) (by rfl) ⟨0, _, [], rfl, rfl, rfl, by omega, .of hp hq⟩ ?_
  clear hp hq
  rintro n vs H ⟨i, es, junk, rfl, rfl, rfl, h1, h2⟩
  obtain ⟨a, b, c, d, e, f, a', b', c', d', e', f', rfl, q1, q2⟩ := h2.parts
  refine go2 ?_
  cases hq : compare' Cm.lss (i : Int) (l.length : Int)
  · simp [compare'] at hq
    have ei : i = l.length := by omega
    subst ei
    rw [List.take_length] at h2
    refine go2 ?_
    exact EK.fz h2
  · simp [compare'] at hq
    have hri := hr _ (getL_mem hq)
    have hb : BdS 2 ((l.take i).foldl wider (l[0], l[0])) := BdS.fold ⟨hr0.bd, hr0.bd⟩ (fun p hp => (hr p (List.mem_of_mem_take hp)).bd)
    refine go2 ?_
    refine idx_imm (by rfl) (by rfl) (by omega) (by omega) ?_
    refine go2 ?_
    refine ld_elem (i := i) (fun x _ => rfl) hq (by omega) ?_
    refine go2 ?_
    refine call_C (num_Of hri) (fun u hu => ?_)
    obtain ⟨fs, rfl, hf1⟩ := hu
    refine go2 ?_
    refine call_C (num_Min q1 hf1 hb.lo hri.bd (by decide)) (fun u hu => ?_)
    obtain ⟨gs, rfl, hg⟩ := hu
    refine go2 ?_
    refine call_C (num_Of hri) (fun u hu => ?_)
    obtain ⟨fs2, rfl, hf2⟩ := hu
    refine go2 ?_
    refine call_C (num_Max q2 hf2 hb.hi hri.bd (by decide)) (fun u hu => ?_)
    obtain ⟨ks, rfl, hk⟩ := hu
    obtain ⟨a1, b1, c1, d1, e1, f1, rfl, _⟩ := hg.six
    obtain ⟨a2, b2, c2, d2, e2, f2, rfl, _⟩ := hk.six
    refine go2 ?_
    rw [addI1 i (by omega)]
    refine l_n (by rfl) (by omega) ⟨i + 1, [a1, b1, c1, d1, e1, f1, a2, b2, c2, d2, e2, f2], _, rfl, rfl, rfl, by omega, ?_⟩
    rw [foldl_take hq]
    exact .of hg hk
end Go.Proofs.Ytjncgcnofiaiaaa
