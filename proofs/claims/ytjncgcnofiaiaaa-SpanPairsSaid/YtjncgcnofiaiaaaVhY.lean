/-
  Spans: span.of, Validate, check, told, hull; ref05.Is, Of, Told, common, least, Holds.
-/
import Derived.Test.YtjncgcnofiaiaaaVhX
set_option linter.unusedVariables false
set_option linter.unusedSimpArgs false
namespace Go.Proofs.Ytjncgcnofiaiaaa
open Go.RowKit
set_option maxRecDepth 20000

/-! ### Lists of structs -/
theorem flat_at {α : Type} {f : α → List C} {k : Nat} : ∀ {l : List α} {i : Nat}, (∀ a ∈ l, (f a).length = k) → (hi : i < l.length) → ∃ r, (l.flatMap f).drop (i * k) = f l[i] ++ r
  | a :: t, 0, h, hi => ⟨t.flatMap f, by simp⟩
  | a :: t, i + 1, h, hi => by
    obtain ⟨r, hr⟩ := flat_at (l := t) (i := i) (fun b hb => h b (by simp [hb])) (by simpa using hi)
    refine ⟨r, ?_⟩
    have e := h a (by simp)
    have e2 : (f a ++ t.flatMap f).drop k = t.flatMap f := by
      rw [← e]
      simp
    rw [List.flatMap_cons, Nat.succ_mul, Nat.add_comm, ← List.drop_drop, e2]
    exact hr
theorem ld_elem {α : Type} {f : α → List C} {k n : Nat} {l : List α} {i : Nat} {K : V → Prop} (h : ∀ a ∈ l, (f a).length = k) (hi : i < l.length) (hn : n = i) (kk : K (.agg (f l[i]))) : ldCells ((l.flatMap f).drop (n * k)) true k K := by
  subst hn
  obtain ⟨r, hr⟩ := flat_at h hi
  have hk := h l[n] (List.getElem_mem hi)
  rw [hr]
  refine ld_cellsA (by simp; omega) ?_
  rw [List.take_append_of_le_length (by omega), List.take_of_length_le (by omega)]
  exact kk
theorem foldl_take {α β : Type} {f : β → α → β} {b : β} {l : List α} {i : Nat} (hi : i < l.length) : (l.take (i + 1)).foldl f b = f ((l.take i).foldl f b) l[i] := by
  rw [List.take_succ_eq_append_getElem hi, List.foldl_append]
  rfl
theorem HFL_flat {α : Type} {f : α → List C} : ∀ {l : List α}, (∀ a ∈ l, HFL (f a)) → HFL (l.flatMap f)
  | [], _ => trivial
  | a :: t, h => by
    rw [List.flatMap_cons]
    have h1 := h a (by simp)
    have h2 := HFL_flat (l := t) (fun b hb => h b (by simp [hb]))
    generalize t.flatMap f = r at h2
    generalize f a = x at h1
    induction x with
    | nil => exact h2
    | cons c x ih =>
      simp only [HFL] at h1
      simp only [List.cons_append, HFL]
      exact ⟨h1.1, ih h1.2⟩

/-! ### Spans -/
abbrev SP := R2 × R2
def ratC (p : R2) : List C := [iC p.1, iC p.2]
def spanC (x : SP) : List C := [iC x.1.1, iC x.1.2, iC x.2.1, iC x.2.2]
def zeroC : List C := [iC 0, iC 0, iC 0, iC 0]
def SpanOk (x : SP) : Prop := IsRat x.1.1 x.1.2 ∧ IsRat x.2.1 x.2.2 ∧ ¬ lessR x.2 x.1
/-- What is wrong with a span. -/
noncomputable def errV (x : SP) : V := bif dec (SpanOk x) then i64 0 else i64 1
structure BdS (k : Nat) (x : SP) : Prop where
  lo : Bd k x.1
  hi : Bd k x.2
theorem SpanOk.bd {x : SP} (h : SpanOk x) : BdS 2 x := ⟨h.1.bd, h.2.1.bd⟩
inductive IsE : List C → SP → Prop
  | mk {a b : List C} {x : SP} (h1 : IsQ a x.1) (h2 : IsQ b x.2) : IsE (a ++ b) x
inductive IsS : List C → SP → Prop
  | mk {a b : List C} {x : SP} (h1 : IsRQ a x.1.1 x.1.2) (h2 : IsRQ b x.2.1 x.2.2) : IsS (a ++ b) x
def EK (x : SP) (u : V) : Prop := ∃ cs, u = .agg cs ∧ IsE cs x
def SK (x : SP) (u : V) : Prop := ∃ cs, u = .agg cs ∧ IsS cs x
theorem HFL_app : ∀ {x y : List C}, HFL x → HFL y → HFL (x ++ y)
  | [], _, _, h => h
  | c :: x, y, h1, h2 => by
    simp only [HFL] at h1
    simp only [List.cons_append, HFL]
    exact ⟨h1.1, HFL_app h1.2 h2⟩
theorem IsE.hf {cs : List C} {x : SP} (h : IsE cs x) : HFL cs := by
  cases h with
  | mk h1 h2 => exact HFL_app h1.hf h2.hf
theorem IsS.hf {cs : List C} {x : SP} (h : IsS cs x) : HFL cs := by
  cases h with
  | mk h1 h2 => exact HFL_app h1.hf h2.hf
theorem EK.fz {x : SP} {cs : List C} {H : Hp} (h : IsE cs x) : ∃ e, FzV H (.agg cs) e ∧ EK x e := ⟨_, .agg (.hf h.hf), cs, rfl, h⟩
theorem SK.fz {x : SP} {cs : List C} {H : Hp} (h : IsS cs x) : ∃ e, FzV H (.agg cs) e ∧ SK x e := ⟨_, .agg (.hf h.hf), cs, rfl, h⟩
theorem IsE.parts {cs : List C} {x : SP} (h : IsE cs x) : ∃ a b c d e f a' b' c' d' e' f', cs = [a, b, c, d, e, f, a', b', c', d', e', f'] ∧ IsQ [a, b, c, d, e, f] x.1 ∧ IsQ [a', b', c', d', e', f'] x.2 := by
  cases h with
  | mk h1 h2 =>
    obtain ⟨a, b, c, d, e, f, rfl, _⟩ := h1.six
    obtain ⟨a', b', c', d', e', f', rfl, _⟩ := h2.six
    exact ⟨_, _, _, _, _, _, _, _, _, _, _, _, rfl, h1, h2⟩
theorem IsE.of {a b c d e f a' b' c' d' e' f' : C} {x : SP} (h1 : IsQ [a, b, c, d, e, f] x.1) (h2 : IsQ [a', b', c', d', e', f'] x.2) : IsE [a, b, c, d, e, f, a', b', c', d', e', f'] x := .mk (a := [a, b, c, d, e, f]) h1 h2
theorem IsS.parts {cs : List C} {x : SP} (h : IsS cs x) : ∃ a b c d a' b' c' d', cs = [a, b, c, d, a', b', c', d'] ∧ IsRQ [a, b, c, d] x.1.1 x.1.2 ∧ IsRQ [a', b', c', d'] x.2.1 x.2.2 := by
  cases h with
  | mk h1 h2 =>
    obtain ⟨a, b, c, d, _, rfl, _⟩ := h1.four
    obtain ⟨a', b', c', d', _, rfl, _⟩ := h2.four
    exact ⟨_, _, _, _, _, _, _, _, rfl, h1, h2⟩
theorem IsS.of {a b c d a' b' c' d' : C} {x : SP} (h1 : IsRQ [a, b, c, d] x.1.1 x.1.2) (h2 : IsRQ [a', b', c', d'] x.2.1 x.2.2) : IsS [a, b, c, d, a', b', c', d'] x := .mk (a := [a, b, c, d]) h1 h2
/-- A span for package api, or ErrLarge. -/
noncomputable def toldV (x : SP) : V := bif fitR x.1 && fitR x.2 then .tup [.agg (spanC x), i64 0] else .tup [.agg zeroC, i64 3]
def EqK (v u : V) : Prop := u = v
theorem HFL_span (x : SP) : HFL (spanC x) := ⟨trivial, trivial, trivial, trivial, trivial⟩
theorem HFL_zero : HFL zeroC := ⟨trivial, trivial, trivial, trivial, trivial⟩
attribute [local irreducible] compare' semH semC qLen qNil qIad qSlc qIdx ldBox ldCells stBox appX awpF awpOpsF awpDF xopF xopDF qval lval seqQ blockQ loopQ bodyF retKF cnd arith IntKind.wrap

theorem span_of {x : SP} (h1 : IsRat x.1.1 x.1.2) (h2 : IsRat x.2.1 x.2.2) : semC Try.prog n_span_of [.agg (spanC x)] (EK x) := by
  refine semC_of_awpF ok_span_of rfl (show HFVs [.agg (spanC x)] from ⟨HFL_span x, trivial⟩) ?_
  refine go2 ?_
  refine call_C (num_Of h1) (fun u hu => ?_)
  obtain ⟨cs, rfl, hp⟩ := hu
  refine go2 ?_
  refine call_C (num_Of h2) (fun u hu => ?_)
  obtain ⟨ds, rfl, hq⟩ := hu
  obtain ⟨a, b, c, d, e, f, rfl, _⟩ := hp.six
  obtain ⟨a', b', c', d', e', f', rfl, _⟩ := hq.six
  refine go2 ?_
  exact EK.fz (.of hp hq)
theorem ref05_Of {x : SP} (h1 : IsRat x.1.1 x.1.2) (h2 : IsRat x.2.1 x.2.2) : semC Try.prog n_ref05_Of [.agg (spanC x)] (SK x) := by
  refine semC_of_awpF ok_ref05_Of rfl (show HFVs [.agg (spanC x)] from ⟨HFL_span x, trivial⟩) ?_
  refine go2 ?_
  refine call_C (ref01_Of h1) (fun u hu => ?_)
  obtain ⟨cs, rfl, hp⟩ := hu
  refine go2 ?_
  refine call_C (ref01_Of h2) (fun u hu => ?_)
  obtain ⟨ds, rfl, hq⟩ := hu
  obtain ⟨a, b, c, d, _, rfl, _⟩ := hp.four
  obtain ⟨a', b', c', d', _, rfl, _⟩ := hq.four
  refine go2 ?_
  exact SK.fz (.of hp hq)

theorem span_Validate (x : SP) : semC Try.prog n_span_Validate [.agg (spanC x)] (EqK (errV x)) := by
  refine semC_of_awpF ok_span_Validate rfl (show HFVs [.agg (spanC x)] from ⟨HFL_span x, trivial⟩) ?_
  have bad : ∀ {H : Hp}, ¬ SpanOk x → ∃ e, FzV H (i64 1) e ∧ EqK (errV x) e := fun h => ⟨_, .c (.hf trivial), by unfold EqK errV; rw [dec_false.2 h]; rfl⟩
  have good : ∀ {H : Hp}, SpanOk x → ∃ e, FzV H (i64 0) e ∧ EqK (errV x) e := fun h => ⟨_, .c (.hf trivial), by unfold EqK errV; rw [dec_true.2 h]; rfl⟩
  refine go2 ?_
  refine call_C (num_Valid x.1.1 x.1.2) (fun u hu => ?_)
  obtain ⟨z1, rfl, h1⟩ := hu
  refine go2 ?_
  cases z1
  case false =>
    refine go2 ?_
    exact bad (fun h => absurd (h1.2 h.1) (by decide))
  have r1 := h1.1 rfl
  refine go2 ?_
  refine call_C (num_Valid x.2.1 x.2.2) (fun u hu => ?_)
  obtain ⟨z2, rfl, h2⟩ := hu
  refine go2 ?_
  cases z2
  case false =>
    refine go2 ?_
    exact bad (fun h => absurd (h2.2 h.2.1) (by decide))
  have r2 := h2.1 rfl
  refine go2 ?_
  refine call_C (num_Of r1) (fun u hu => ?_)
  obtain ⟨cs, rfl, hp⟩ := hu
  refine go2 ?_
  refine call_C (num_Of r2) (fun u hu => ?_)
  obtain ⟨ds, rfl, hq⟩ := hu
  refine go2 ?_
  refine call_C (num_Q_Cmp hp hq r1.bd r2.bd (by decide)) (fun u hu => ?_)
  obtain rfl := hu
  refine go2 ?_
  rw [cmp_gtr]
  cases hd : dec (lessR x.2 x.1)
  · refine go2 ?_
    exact good ⟨r1, r2, dec_false.1 hd⟩
  · refine go2 ?_
    exact bad (fun h => h.2.2 (dec_true.1 hd))
theorem ref05_Is (x : SP) : semC Try.prog n_ref05_Is [.agg (spanC x)] (BoolK (SpanOk x)) := by
  refine semC_of_awpF ok_ref05_Is rfl (show HFVs [.agg (spanC x)] from ⟨HFL_span x, trivial⟩) ?_
  refine go2 ?_
  refine call_C (ref01_Is x.1.1 x.1.2) (fun u hu => ?_)
  obtain ⟨z1, rfl, h1⟩ := hu
  refine go2 ?_
  cases z1
  case false =>
    refine go2 ?_
    exact BoolK.fz ⟨fun h => (by cases h), fun h => absurd (h1.2 h.1) (by decide)⟩
  have r1 := h1.1 rfl
  refine go2 ?_
  refine call_C (ref01_Is x.2.1 x.2.2) (fun u hu => ?_)
  obtain ⟨z2, rfl, h2⟩ := hu
  refine go2 ?_
  cases z2
  case false =>
    refine go2 ?_
    exact BoolK.fz ⟨fun h => (by cases h), fun h => absurd (h2.2 h.2.1) (by decide)⟩
  have r2 := h2.1 rfl
  refine go2 ?_
  refine call_C (ref01_Of r1) (fun u hu => ?_)
  obtain ⟨cs, rfl, hp⟩ := hu
  refine go2 ?_
  refine call_C (ref01_Of r2) (fun u hu => ?_)
  obtain ⟨ds, rfl, hq⟩ := hu
  refine go2 ?_
  refine call_C (ref01_Q_Cmp hp hq r1.bd r2.bd (by decide)) (fun u hu => ?_)
  obtain rfl := hu
  refine go2 ?_
  rw [cmp_leq]
  exact BoolK.fz ⟨fun h => ⟨r1, r2, dec_true.1 h⟩, fun h => dec_true.2 h.2.2⟩

theorem span_told {cs : List C} {x : SP} (hx : IsE cs x) (h1 : 0 < x.1.2) (h2 : 0 < x.2.2) : semC Try.prog n_span_told [.agg cs] (EqK (toldV x)) := by
  refine semC_of_awpF ok_span_told rfl (show HFVs [.agg cs] from ⟨hx.hf, trivial⟩) ?_
  obtain ⟨a, b, c, d, e, f, a', b', c', d', e', f', rfl, q1, q2⟩ := hx.parts
  have bad : ∀ {H : Hp}, (fitR x.1 && fitR x.2) = false → ∃ e, FzV H (.tup [.agg zeroC, i64 3]) e ∧ EqK (toldV x) e := fun h => ⟨_, .tup (.cons (.agg (.hf HFL_zero)) (.cons (.c (.hf trivial)) .nil)), by unfold EqK toldV; rw [h]; rfl⟩
  have good : ∀ {H : Hp}, (fitR x.1 && fitR x.2) = true → ∃ e, FzV H (.tup [.agg (spanC x), i64 0]) e ∧ EqK (toldV x) e := fun h => ⟨_, .tup (.cons (.agg (.hf (HFL_span x))) (.cons (.c (.hf trivial)) .nil)), by unfold EqK toldV; rw [h]; rfl⟩
  refine go2 ?_
  refine semH_of_semC (num_Q_Out q1 h1) (fun u hu => ?_)
  obtain rfl := hu
  unfold outV
  cases f1 : fitR x.1
  case false =>
    refine go2 ?_
    refine semH_of_semC (num_Q_Out q2 h2) (fun u hu => ?_)
    obtain rfl := hu
    unfold outV
    cases f2 : fitR x.2
    · refine go2 ?_
      exact bad (by rw [f1]; rfl)
    · refine go2 ?_
      exact bad (by rw [f1]; rfl)
  case true =>
    refine go2 ?_
    refine semH_of_semC (num_Q_Out q2 h2) (fun u hu => ?_)
    obtain rfl := hu
    unfold outV
    cases f2 : fitR x.2
    · refine go2 ?_
      exact bad (by rw [f2, f1]; rfl)
    · refine go2 ?_
      exact good (by rw [f1, f2]; rfl)
theorem ref05_Told {cs : List C} {x : SP} (hx : IsS cs x) (h1 : 0 < x.1.2) (h2 : 0 < x.2.2) : semC Try.prog n_ref05_Told [.agg cs] (EqK (toldV x)) := by
  refine semC_of_awpF ok_ref05_Told rfl (show HFVs [.agg cs] from ⟨hx.hf, trivial⟩) ?_
  obtain ⟨a, b, c, d, a', b', c', d', rfl, q1, q2⟩ := hx.parts
  have bad : ∀ {H : Hp}, (fitR x.1 && fitR x.2) = false → ∃ e, FzV H (.tup [.agg zeroC, i64 3]) e ∧ EqK (toldV x) e := fun h => ⟨_, .tup (.cons (.agg (.hf HFL_zero)) (.cons (.c (.hf trivial)) .nil)), by unfold EqK toldV; rw [h]; rfl⟩
  have good : ∀ {H : Hp}, (fitR x.1 && fitR x.2) = true → ∃ e, FzV H (.tup [.agg (spanC x), i64 0]) e ∧ EqK (toldV x) e := fun h => ⟨_, .tup (.cons (.agg (.hf (HFL_span x))) (.cons (.c (.hf trivial)) .nil)), by unfold EqK toldV; rw [h]; rfl⟩
  refine go2 ?_
  refine semH_of_semC (ref01_Rat q1 h1) (fun u hu => ?_)
  obtain rfl := hu
  unfold outV
  cases f1 : fitR x.1
  case false =>
    refine go2 ?_
    refine semH_of_semC (ref01_Rat q2 h2) (fun u hu => ?_)
    obtain rfl := hu
    unfold outV
    cases f2 : fitR x.2
    · refine go2 ?_
      exact bad (by rw [f1]; rfl)
    · refine go2 ?_
      exact bad (by rw [f1]; rfl)
  case true =>
    refine go2 ?_
    refine semH_of_semC (ref01_Rat q2 h2) (fun u hu => ?_)
    obtain rfl := hu
    unfold outV
    cases f2 : fitR x.2
    · refine go2 ?_
      exact bad (by rw [f2, f1]; rfl)
    · refine go2 ?_
      exact good (by rw [f1, f2]; rfl)
end Go.Proofs.Ytjncgcnofiaiaaa
