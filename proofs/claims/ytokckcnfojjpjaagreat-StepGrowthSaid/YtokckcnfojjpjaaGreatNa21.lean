/-
  Parts of the proof: What is wrong with a system of polynomials: step.Check.
-/
import Derived.Test.YtokckcnfojjpjaaGreatNa20
set_option linter.unusedVariables false
set_option linter.unusedSimpArgs false
namespace Go.Proofs.YtokckcnfojjpjaaGreat
open Go.RowKit
set_option maxRecDepth 20000
def sumP : List Int → Int
 | [] => 0
 | x :: r => (if 0 < x then x else 0) + sumP r
def cut13 (x : Int) : Int := if (if (13 : Int) < x then 13 else x) > 0 then (if (13 : Int) < x then 13 else x) else 0
def sA : List Int → Int
 | [] => 0
 | x :: r => cut13 x + sA r
theorem cut_bd (x : Int) : 0 ≤ cut13 x ∧ cut13 x ≤ 13 := by unfold cut13; split <;> split <;> omega
theorem sum13_append : ∀ (l m : List Int), sA (l ++ m) = sA l + sA m
 | [], m => by simp [sA]
 | x :: l, m => by simp only [List.cons_append, sA, sum13_append l m]; omega
theorem sum13_bd : ∀ (l : List Int), 0 ≤ sA l ∧ sA l ≤ 13 * l.length
 | [] => by simp [sA]
 | x :: l => by
  have := sum13_bd l
  have := cut_bd x
  simp only [sA, List.length_cons]
  omega
theorem sumP_nn : ∀ (l : List Int), 0 ≤ sumP l
 | [] => by simp [sumP]
 | x :: l => by
  have := sumP_nn l
  simp only [sumP]
  split <;> omega
theorem sum13_le : ∀ (l : List Int), sA l ≤ sumP l ∧ (sA l ≤ 12 → sA l = sumP l)
 | [] => by simp [sA, sumP]
 | x :: l => by
  have h := sum13_le l
  have h0 := (sum13_bd l).1
  have h1 := sumP_nn l
  have h2 := cut_bd x
  have h3 : cut13 x ≤ (if 0 < x then x else 0) ∧ (cut13 x ≤ 12 → cut13 x = if 0 < x then x else 0) := by
   unfold cut13
   (repeat' split) <;> omega
  simp only [sA, sumP]
  refine ⟨by omega, fun h4 => ?_⟩
  have := h.2 (by omega)
  have := h3.2 (by omega)
  omega
theorem sum13_gt {l : List Int} {m : Int} (hm : m ≤ 12) : m < sA l ↔ m < sumP l := by
 have h := sum13_le l
 constructor
 ·intro; omega
 ·intro h1
  by_cases h2 : sA l ≤ 12
  ·have := h.2 h2; omega
  ·omega
theorem sum13_take {l : List Int} {i : Nat} (h : i < l.length) : sA (l.take (i + 1)) = sA (l.take i) + cut13 l[i] := by
 rw [wW h, sum13_append]
 simp [sA]
def WideT (cubic : Bool) (t : Tm) : Prop := 12 < sumP t.2 ∨ (cubic = true ∧ 3 < sumP (t.2.take (t.2.length - 1)))
def WideP (cubic : Bool) (p : Pl) : Prop := 60 < p.length ∨ ∃ t ∈ p, WideT cubic t
def BadT (u : Int) (t : Tm) : Prop := (t.2.length : Int) ≠ u ∨ ¬ vI t.1.1 t.1.2 ∨ t.1.1 = 0 ∨ ∃ k ∈ t.2, k < 0
def BadAt (u : Int) (p : Pl) (i : Nat) : Prop := ∃ h : i < p.length, BadT u p[i] ∨ (0 < i ∧ lexI (p[i - 1]'(by omega)).2 p[i].2 ≤ 0)
def BadP (u : Int) (p : Pl) : Prop := ∃ i, BadAt u p i
noncomputable def sysE (least u : Int) (cubic : Bool) (f : List Pl) : Int :=
 bif dec ((f.length : Int) < least ∨ 3 < f.length) then 1 else bif dec (∃ p ∈ f, WideP cubic p) then 3 else bif dec (∃ p ∈ f, BadP u p) then 1 else 0
def jQ (f : List Pl) : Prop := ∀ p ∈ f, ∀ t ∈ p, t.2.length < 1099511627776
def pV (least u : Int) (cubic : Bool) (f : List Pl) (v : V) : Prop := ∃ e : Int, v = i64 e ∧ (jQ f → e = sysE least u cubic f) ∧ (e = 0 → jQ f) ∧ 0 ≤ e ∧ e ≤ 3
section
variable {least u : Int} {cubic : Bool} {f : List Pl}
theorem bE (h : (f.length : Int) < least ∨ 3 < f.length) : sysE least u cubic f = 1 := by
 unfold sysE
 rw [yG.2 h]
 rfl
theorem sys_wide (h : ¬ ((f.length : Int) < least ∨ 3 < f.length)) (h2 : ∃ p ∈ f, WideP cubic p) : sysE least u cubic f = 3 := by
 unfold sysE
 rw [yI.2 h, yG.2 h2]
 rfl
theorem sys_bad (h : ¬ ((f.length : Int) < least ∨ 3 < f.length)) (h2 : ¬ ∃ p ∈ f, WideP cubic p) (h3 : ∃ p ∈ f, BadP u p) : sysE least u cubic f = 1 := by
 unfold sysE
 rw [yI.2 h, yI.2 h2, yG.2 h3]
 rfl
theorem sys_ok (h : ¬ ((f.length : Int) < least ∨ 3 < f.length)) (h2 : ¬ ∃ p ∈ f, WideP cubic p) (h3 : ¬ ∃ p ∈ f, BadP u p) : sysE least u cubic f = 0 := by
 unfold sysE
 rw [yI.2 h, yI.2 h2, yI.2 h3]
 rfl
theorem sys_zero (h : sysE least u cubic f = 0) : ¬ ((f.length : Int) < least ∨ 3 < f.length) ∧ (¬ ∃ p ∈ f, WideP cubic p) ∧ ¬ ∃ p ∈ f, BadP u p := by
 by_cases h1 : (f.length : Int) < least ∨ 3 < f.length
 ·rw [bE h1] at h; cases h
 by_cases h2 : ∃ p ∈ f, WideP cubic p
 ·rw [sys_wide h1 h2] at h; cases h
 by_cases h3 : ∃ p ∈ f, BadP u p
 ·rw [sys_bad h1 h2 h3] at h; cases h
 exact ⟨h1, h2, h3⟩
theorem pV.of {e : Int} {H : Hp} (h1 : jQ f → e = sysE least u cubic f) (h2 : e = 0 → jQ f) (h3 : 0 ≤ e ∧ e ≤ 3) : ∃ d, FzV H (i64 e) d ∧ pV least u cubic f d := ⟨_, .c (.hf trivial), e, rfl, h1, h2, h3⟩
end
theorem ld_tx {c : C} {l : List Tm} {n i : Nat} {K : V → Prop} (hc : Ls elT c l) (hi : i < l.length) (hn : n = i) (k : ∀ d, Ls elI d l[i].2 → l[i].2.length < tN → K (.c d)) : yM ((c.ds.drop (n * 3)).drop 2) false 1 K := by
 subst hn
 obtain ⟨cs, r, ⟨d, rfl, h1, h2⟩, h⟩ := hc.els.get hi
 have h : c.ds.drop (n * 3) = (ratC l[n].1 ++ [d]) ++ r := h
 rw [h]
 exact k d h1 h2
theorem add13 {X : List Int} {s : Int} {k : Nat} (hk : k < X.length) (h : X.length < 1099511627776 → s = sA (X.take k)) : X.length < 1099511627776 → arith .add .i64 s (cut13 X[k]) = sA (X.take (k + 1)) := fun hl => by
 rw [sum13_take hk, h hl, yT]
 have := sum13_bd (X.take k)
 have := cut_bd X[k]
 have : (X.take k).length ≤ X.length := by rw [List.length_take]; omega
 exact yF (by omega) (by omega)
theorem subI1' {n : Nat} (h : n < 9223372036854775808) : arith .sub .i64 (n : Int) 1 = (n : Int) - 1 := by
 rw [vC]
 exact yF (by omega) (by omega)
attribute [local irreducible] yA semH semC qLen qNil qIad qSlc qIdx yZ yM xC appX appI slcX awpF yP xK xopF xX qval lval seqQ xN wT wP wB cnd arith IntKind.wrap
theorem step_Check {c : C} {f : List Pl} (least u : Int) (cubic : Bool) (hc : Ls elM c f) (hf : f.length < tN) (hu : f.length ≤ 3 → u < 1099511627776) : semC Tryz.prog n_step_Check [.c c, i64 least, i64 u, .c (.bool cubic)] (pV least u cubic f) := by
 unfold tN at hf
 refine yC ok_step_Check rfl (show HFVs [.c c, i64 least, i64 u, .c (.bool cubic)] from ⟨hc.hf, trivial, trivial, trivial, trivial⟩) ?_
 refine go11 ?_
 cases h1 : yA Cm.lss (f.length : Int) least
 case true =>
  simp [yA] at h1
  refine go11 ?_
  exact pV.of (fun _ => (bE (.inl h1)).symm) (fun h => absurd h (by decide)) (by decide)
 simp [yA] at h1
 refine go11 ?_
 cases h2 : yA Cm.gtr (f.length : Int) 3
 case true =>
  simp [yA] at h2
  refine go11 ?_
  exact pV.of (fun _ => (bE (.inr (by omega))).symm) (fun h => absurd h (by decide)) (by decide)
 simp [yA] at h2
 have hcount : ¬ ((f.length : Int) < least ∨ 3 < f.length) := by omega
 have hu := hu (by omega)
 refine go11 ?_
 refine yV (fun w vs H => ∃ (i : Nat), vs = [.c c, i64 u, .c (.bool cubic), .c c, i64 f.length, i64 i] ∧ w = f.length - i ∧ i ≤ f.length ∧ (jQ f → ∀ p ∈ f.take i, ¬ WideP cubic p)) (by rfl) ⟨0, rfl, rfl, by omega, fun _ => by simp⟩ ?_
 rintro w vs H ⟨i, rfl, rfl, i1, i2⟩
 refine go11 ?_
 cases hi : yA Cm.lss (i : Int) (f.length : Int)
 case false =>
  simp [yA] at hi
  rw [List.take_of_length_le (by omega)] at i2
  clear i1
  refine go11 ?_
  have hnw : jQ f → ¬ ∃ p ∈ f, WideP cubic p := fun hS ⟨p, hp, h⟩ => i2 hS p hp h
  refine yV (fun w vs H => ∃ (i : Nat), vs = [i64 u, .c c, i64 f.length, i64 i] ∧ w = f.length - i ∧ i ≤ f.length ∧ ∀ p ∈ f.take i, ¬ BadP u p) (by rfl) ⟨0, rfl, rfl, by omega, by simp⟩ ?_
  clear hi i2
  rintro w vs H ⟨i, rfl, rfl, i1, i2⟩
  refine go11 ?_
  cases hi : yA Cm.lss (i : Int) (f.length : Int)
  case false =>
   simp [yA] at hi
   rw [List.take_of_length_le (by omega)] at i2
   have hS : jQ f := fun p hp t ht => by
    obtain ⟨j, hj, rfl⟩ := List.getElem_of_mem ht
    have h : ¬ BadT u p[j] := fun h => i2 p hp ⟨j, hj, .inl h⟩
    have : (p[j].2.length : Int) = u := Classical.byContradiction fun h2 => h (.inl h2)
    omega
   refine go11 ?_
   exact pV.of (fun hS => (sys_ok hcount (hnw hS) (fun ⟨p, hp, h⟩ => i2 p hp h)).symm) (fun _ => hS) (by decide)
  simp [yA] at hi
  have bad : ∀ {j : Nat}, BadAt u f[i] j → jQ f → (1 : Int) = sysE least u cubic f := fun h hS => (sys_bad hcount (hnw hS) ⟨f[i], vJ hi, _, h⟩).symm
  refine go11 ?_
  refine qT hc (i := i) hi (by omega) rfl (fun cs hcs => ?_)
  obtain ⟨d, rfl, hd, hdl⟩ := hcs
  unfold tN at hdl
  refine go11 ?_
  simp only [qA, sS, ratC, qY, qX, List.set_cons_zero, List.set_cons_succ, List.nil_append, List.cons_append, List.append_nil, List.replicate_succ, List.replicate_zero, List.length_cons, List.length_nil, splice, List.take_succ_cons, List.take_zero, List.drop_succ_cons, List.drop_zero, List.take_nil, List.drop_nil, Nat.zero_add, Nat.reduceAdd, Nat.reduceMul, Int.reduceToNat, vB, List.getElem?_cons_succ, List.getElem?_cons_zero]
  refine yV (fun w vs H' => ∃ (j : Nat) (S : Hp), vs = [i64 u, .c (.ptr H.length 0), .c c, i64 f.length, i64 i, .c d, i64 f[i].length, i64 j] ∧ H' = H ++ .live ⟨[d], T_api_Many, .rw⟩ :: S ∧ w = f[i].length - j ∧ j ≤ f[i].length ∧ ∀ a, a < j → ¬ BadAt u f[i] a) (by rfl) ⟨0, [], rfl, rfl, rfl, by omega, fun a h => by omega⟩ ?_
  rintro w vs H' ⟨j, S, rfl, rfl, rfl, j1, j2⟩
  refine go11 ?_
  cases hj : yA Cm.lss (j : Int) (f[i].length : Int)
  case false =>
   simp [yA] at hj
   refine go11 ?_
   rw [wF i (by omega)]
   refine l_n (by rfl) (n' := f.length - (i + 1)) (by omega) ⟨i + 1, rfl, rfl, by omega, fun p hp => ?_⟩
   rw [wW hi] at hp
   rcases List.mem_append.1 hp with hp | hp
   ·exact i2 p hp
   ·simp at hp
    subst hp
    rintro ⟨a, ha⟩
    obtain ⟨hl, _⟩ := id ha
    exact j2 a (by omega) ha
  simp [yA] at hj
  refine go11 ?_
  refine qT hd (i := j) hj (by omega) rfl (fun cs hcs => ?_)
  obtain ⟨e, rfl, he, hel⟩ := hcs
  refine go11 ?_
  cases c1 : yA Cm.neq (f[i][j].2.length : Int) u
  case true =>
   simp [yA] at c1
   refine go11 ?_
   exact pV.of (bad ⟨hj, .inl (.inl c1)⟩) (fun h => absurd h (by decide)) (by decide)
  simp [yA] at c1
  refine go11 ?_
  first | refine yE (qP f[i][j].1.1 f[i][j].1.2) (fun u hu => ?_) | refine yB (qP f[i][j].1.1 f[i][j].1.2) (fun u hu => ?_)
  obtain ⟨z1, rfl, hz1⟩ := hu
  cases z1
  case false =>
   refine go11 ?_
   exact pV.of (bad ⟨hj, .inl (.inr (.inl fun h => by cases hz1.2 h))⟩) (fun h => absurd h (by decide)) (by decide)
  have hz1 := hz1.1 rfl
  refine go11 ?_
  cases c2 : yA Cm.eql f[i][j].1.1 0
  case true =>
   simp [yA] at c2
   refine go11 ?_
   exact pV.of (bad ⟨hj, .inl (.inr (.inr (.inl c2)))⟩) (fun h => absurd h (by decide)) (by decide)
  simp [yA] at c2
  refine go11 ?_
  first | refine yE (slices_Contains he hel) (fun u hu => ?_) | refine yB (slices_Contains he hel) (fun u hu => ?_)
  obtain ⟨z2, rfl, hz2⟩ := hu
  cases z2
  case true =>
   refine go11 ?_
   exact pV.of (bad ⟨hj, .inl (.inr (.inr (.inr (hz2.1 rfl))))⟩) (fun h => absurd h (by decide)) (by decide)
  have hgood : ¬ BadT u f[i][j] := by
   rintro (h | h | h | h)
   ·exact h c1
   ·exact h hz1
   ·exact c2 h
   ·cases hz2.2 h
  refine go11 ?_
  cases c3 : yA Cm.gtr (j : Int) 0
  case false =>
   simp [yA] at c3
   refine go11 ?_
   rw [wF j (by omega)]
   refine l_n (by rfl) (n' := f[i].length - (j + 1)) (by omega) ⟨j + 1, _, rfl, by rw [List.append_assoc]; rfl, rfl, by omega, fun a ha => ?_⟩
   rcases Nat.lt_or_ge a j with h | h
   ·exact j2 a h
   ·have : a = j := by omega
    subst this
    rintro ⟨_, h | ⟨h, _⟩⟩
    ·exact hgood h
    ·omega
  simp [yA] at c3
  refine go11 ?_
  rw [pW j (by omega) (by omega)]
  refine go11 ?_
  refine ld_tx hd (i := j - 1) (by omega) (by omega) (fun g hg hgl => ?_)
  refine go11 ?_
  first | refine yE (slices_Compare hg he hgl hel) (fun u hu => ?_) | refine yB (slices_Compare hg he hgl hel) (fun u hu => ?_)
  obtain rfl := hu
  refine go11 ?_
  cases c4 : yA Cm.leq (lexI f[i][j - 1].2 f[i][j].2) 0
  case true =>
   simp [yA] at c4
   refine go11 ?_
   exact pV.of (bad ⟨hj, .inr ⟨by omega, c4⟩⟩) (fun h => absurd h (by decide)) (by decide)
  simp [yA] at c4
  refine go11 ?_
  rw [wF j (by omega)]
  refine l_n (by rfl) (n' := f[i].length - (j + 1)) (by omega) ⟨j + 1, _, rfl, by rw [List.append_assoc]; rfl, rfl, by omega, fun a ha => ?_⟩
  rcases Nat.lt_or_ge a j with h | h
  ·exact j2 a h
  ·have : a = j := by omega
   subst this
   rintro ⟨_, h | ⟨_, h⟩⟩
   ·exact hgood h
   ·omega
 simp [yA] at hi
 refine go11 ?_
 refine qT hc (i := i) hi (by omega) rfl (fun cs hcs => ?_)
 obtain ⟨d, rfl, hd, hdl⟩ := hcs
 unfold tN at hdl
 refine go11 ?_
 cases h3 : yA Cm.gtr (f[i].length : Int) 60
 case true =>
  simp [yA] at h3
  refine go11 ?_
  exact pV.of (fun _ => (sys_wide hcount ⟨f[i], vJ hi, .inl (by omega)⟩).symm) (fun h => absurd h (by decide)) (by decide)
 simp [yA] at h3
 refine go11 ?_
 refine yV (fun w vs H => ∃ (j : Nat), vs = [.c c, i64 u, .c (.bool cubic), .c c, i64 f.length, i64 i, .c d, i64 f[i].length, i64 j] ∧ w = f[i].length - j ∧ j ≤ f[i].length ∧ (jQ f → ∀ t ∈ f[i].take j, ¬ WideT cubic t)) (by rfl) ⟨0, rfl, rfl, by omega, fun _ => by simp⟩ ?_
 rintro w vs H ⟨j, rfl, rfl, j1, j2⟩
 refine go11 ?_
 cases hj : yA Cm.lss (j : Int) (f[i].length : Int)
 case false =>
  simp [yA] at hj
  rw [List.take_of_length_le (by omega)] at j2
  refine go11 ?_
  rw [wF i (by omega)]
  refine l_n (by rfl) (n' := f.length - (i + 1)) (by omega) ⟨i + 1, rfl, rfl, by omega, fun hS p hp => ?_⟩
  rw [wW hi] at hp
  rcases List.mem_append.1 hp with hp | hp
  ·exact i2 hS p hp
  ·simp at hp
   subst hp
   rintro (h | ⟨t, ht, h⟩)
   ·omega
   ·exact j2 hS t ht h
 simp [yA] at hj
 refine go11 ?_
 refine qT hd (i := j) hj (by omega) rfl (fun cs hcs => ?_)
 obtain ⟨e, rfl, he, hel⟩ := hcs
 unfold tN at hel
 refine go11 ?_
 simp only [qA, sS, ratC, qY, qX, List.set_cons_zero, List.set_cons_succ, List.nil_append, List.cons_append, List.append_nil, List.replicate_succ, List.replicate_zero, List.length_cons, List.length_nil, splice, List.take_succ_cons, List.take_zero, List.drop_succ_cons, List.drop_zero, List.take_nil, List.drop_nil, Nat.zero_add, Nat.reduceAdd, Nat.reduceMul, Int.reduceToNat, vB, List.getElem?_cons_succ, List.getElem?_cons_zero]
 refine yV (fun w vs H' => ∃ (k : Nat) (s o : Int), vs = [.c c, i64 u, .c (.bool cubic), .c (.ptr H.length 0), i64 s, i64 o, .c c, i64 f.length, i64 i, .c d, i64 f[i].length, i64 j, .c e, i64 f[i][j].2.length, i64 k] ∧ H' = H ++ [.live ⟨[iC f[i][j].1.1, iC f[i][j].1.2, e], T_api_Term, .rw⟩] ∧ w = f[i][j].2.length - k ∧ k ≤ f[i][j].2.length ∧ (f[i][j].2.length < 1099511627776 → s = sA (f[i][j].2.take k)) ∧ (f[i][j].2.length < 1099511627776 → o = sA (f[i][j].2.take (min k (f[i][j].2.length - 1))))) (by rfl) ⟨0, 0, 0, rfl, rfl, rfl, by omega, fun _ => by simp [sA], fun _ => by simp [sA]⟩ ?_
 rintro w vs H' ⟨k, s, o, rfl, rfl, rfl, k1, k2, k3⟩
 refine go11 ?_
 cases hk : yA Cm.lss (k : Int) (f[i][j].2.length : Int)
 case false =>
  simp [yA] at hk
  have ek : k = f[i][j].2.length := by omega
  rw [List.take_of_length_le (by omega)] at k2
  rw [show min k (f[i][j].2.length - 1) = f[i][j].2.length - 1 by omega] at k3
  have hsm : jQ f → s = sA f[i][j].2 ∧ o = sA (f[i][j].2.take (f[i][j].2.length - 1)) := fun hS => by
   have := hS f[i] (vJ hi) f[i][j] (vJ hj)
   exact ⟨k2 this, k3 this⟩
  refine go11 ?_
  cases h4 : yA Cm.gtr s 12
  case true =>
   simp [yA] at h4
   refine go11 ?_
   refine pV.of (fun hS => (sys_wide hcount ⟨f[i], vJ hi, .inr ⟨f[i][j], vJ hj, .inl ?_⟩⟩).symm) (fun h => absurd h (by decide)) (by decide)
   rw [(hsm hS).1] at h4
   exact (sum13_gt (by decide)).1 h4
  simp [yA] at h4
  refine go11 ?_
  cases cubic
  case false =>
   refine go11 ?_
   rw [wF j (by omega)]
   refine l_n (by rfl) (n' := f[i].length - (j + 1)) (by omega) ⟨j + 1, rfl, rfl, by omega, fun hS t ht => ?_⟩
   rw [wW hj] at ht
   rcases List.mem_append.1 ht with ht | ht
   ·exact j2 hS t ht
   ·simp at ht
    subst ht
    rintro (h | ⟨h, _⟩)
    ·have := (sum13_gt (m := 12) (by decide)).2 h
     rw [← (hsm hS).1] at this
     omega
    ·cases h
  refine go11 ?_
  cases h5 : yA Cm.gtr o 3
  case true =>
   simp [yA] at h5
   refine go11 ?_
   refine pV.of (fun hS => (sys_wide hcount ⟨f[i], vJ hi, .inr ⟨f[i][j], vJ hj, .inr ⟨rfl, ?_⟩⟩⟩).symm) (fun h => absurd h (by decide)) (by decide)
   rw [(hsm hS).2] at h5
   exact (sum13_gt (by decide)).1 h5
  simp [yA] at h5
  refine go11 ?_
  rw [wF j (by omega)]
  refine l_n (by rfl) (n' := f[i].length - (j + 1)) (by omega) ⟨j + 1, rfl, rfl, by omega, fun hS t ht => ?_⟩
  rw [wW hj] at ht
  rcases List.mem_append.1 ht with ht | ht
  ·exact j2 hS t ht
  ·simp at ht
   subst ht
   rintro (h | ⟨_, h⟩)
   ·have := (sum13_gt (m := 12) (by decide)).2 h
    rw [← (hsm hS).1] at this
    omega
   ·have := (sum13_gt (m := 3) (by decide)).2 h
    rw [← (hsm hS).2] at this
    omega
 simp [yA] at hk
 have ka := add13 hk k2
 refine go11 ?_
 rw [subI1' (by omega)]
 cases hq : yA Cm.lss (k : Int) ((f[i][j].2.length : Int) - 1)
 case true =>
  simp [yA] at hq
  refine go11 ?_
  rw [wF k (by omega)]
  refine l_n (by rfl) (n' := f[i][j].2.length - (k + 1)) (by omega) ⟨k + 1, _, _, rfl, rfl, rfl, by omega, ka, ?_⟩
  rw [show min (k + 1) (f[i][j].2.length - 1) = k + 1 by omega]
  exact ka
 simp [yA] at hq
 refine go11 ?_
 rw [wF k (by omega)]
 refine l_n (by rfl) (n' := f[i][j].2.length - (k + 1)) (by omega) ⟨k + 1, _, _, rfl, rfl, rfl, by omega, ka, ?_⟩
 rw [show min (k + 1) (f[i][j].2.length - 1) = min k (f[i][j].2.length - 1) by omega]
 exact k3
end Go.Proofs.YtokckcnfojjpjaaGreat

set_option linter.unusedVariables false
set_option linter.unusedSimpArgs false
namespace Go.Proofs.YtokckcnfojjpjaaGreat
open Go.RowKit
set_option maxRecDepth 20000
def Cap (D B : Nat) (q : Rat) : Prop := ∃ n : Int, q * (D : Rat) = (n : Rat) ∧ n.natAbs ≤ B * D
theorem Cap.mul {D E B C : Nat} {q r : Rat} (h1 : Cap D B q) (h2 : Cap E C r) : Cap (D * E) (B * C) (q * r) := by
 obtain ⟨n, h1, h3⟩ := h1
 obtain ⟨m, h2, h4⟩ := h2
 refine ⟨n * m, ?_, ?_⟩
 ·push_cast
  rw [← h1, ← h2]
  grind
 ·rw [Int.natAbs_mul]
  calc n.natAbs * m.natAbs ≤ (B * D) * (C * E) := Nat.mul_le_mul h3 h4
   _ = B * C * (D * E) := by rw [Nat.mul_mul_mul_comm]
theorem Cap.add {D B C : Nat} {q r : Rat} (h1 : Cap D B q) (h2 : Cap D C r) : Cap D (B + C) (q + r) := by
 obtain ⟨n, h1, h3⟩ := h1
 obtain ⟨m, h2, h4⟩ := h2
 refine ⟨n + m, ?_, ?_⟩
 ·push_cast
  rw [← h1, ← h2]
  grind
 ·rw [Nat.add_mul]
  omega
theorem Cap.neg {D B : Nat} {q : Rat} (h : Cap D B q) : Cap D B (-q) := by
 obtain ⟨n, h1, h3⟩ := h
 refine ⟨-n, ?_, by rwa [Int.natAbs_neg]⟩
 push_cast
 rw [← h1]
 grind
theorem Cap.sub {D B C : Nat} {q r : Rat} (h1 : Cap D B q) (h2 : Cap D C r) : Cap D (B + C) (q - r) := by
 have := h1.add h2.neg
 rwa [← Rat.sub_eq_add_neg] at this
theorem Cap.dvd {D E B : Nat} {q : Rat} (h : Cap D B q) (hd : D ∣ E) : Cap E B q := by
 obtain ⟨n, h1, h3⟩ := h
 obtain ⟨k, rfl⟩ := hd
 refine ⟨n * k, ?_, ?_⟩
 ·push_cast
  rw [← h1]
  grind
 ·rw [Int.natAbs_mul, Int.natAbs_natCast, ← Nat.mul_assoc]
  exact Nat.mul_le_mul_right k h3
theorem Cap.mono {D B C : Nat} {q : Rat} (h : Cap D B q) (hb : B ≤ C) : Cap D C q := by
 obtain ⟨n, h1, h3⟩ := h
 exact ⟨n, h1, Nat.le_trans h3 (Nat.mul_le_mul_right D hb)⟩
theorem Cap.int {D : Nat} (z : Int) : Cap D z.natAbs (z : Rat) := ⟨z * D, by push_cast; rfl, by rw [Int.natAbs_mul, Int.natAbs_natCast]; exact Nat.le_refl _⟩
theorem Cap.one {D : Nat} : Cap D 1 1 := Cap.int 1
theorem Cap.zero {D B : Nat} : Cap D B 0 := ⟨0, by simp, by simp⟩
theorem Cap.pow {D B : Nat} {q : Rat} (h : Cap D B q) : ∀ n : Nat, Cap (D ^ n) (B ^ n) (q ^ n)
 | 0 => by
  rw [Nat.pow_zero, Nat.pow_zero, Rat.pow_zero]
  exact Cap.one
 | n + 1 => by
  rw [Nat.pow_succ, Nat.pow_succ, Rat.pow_succ]
  exact (Cap.pow h n).mul h
theorem Cap.rat {p : R2} (h : vI p.1 p.2) : Cap p.2.natAbs 1000000000000 (rt p) := by
 obtain ⟨h1, h2, h3, h4, h5⟩ := h
 have e : ((p.2.natAbs : Nat) : Int) = p.2 := by omega
 have e2 : ((p.2.natAbs : Nat) : Rat) = (p.2 : Rat) := by
  rw [← Rat.intCast_natCast, e]
 refine ⟨p.1, ?_, ?_⟩
 ·rw [e2]
  unfold rt
  rw [Rat.divInt_eq_div]
  have : (p.2 : Rat) ≠ 0 := by
   intro h
   have : p.2 = 0 := by exact_mod_cast h
   omega
  rw [Rat.div_mul_cancel this]
 ·have : 1 ≤ p.2.natAbs := by omega
  calc p.1.natAbs ≤ 1000000000000 * 1 := by omega
   _ ≤ 1000000000000 * p.2.natAbs := Nat.mul_le_mul_left _ this
theorem sz_lt {n : Int} {k e : Nat} (h : n.natAbs ≤ 2 ^ e) (he : e < 32 * k) : Sz k n := by
 unfold Sz
 calc n.natAbs ≤ 2 ^ e := h
  _ < 2 ^ (32 * k) := Nat.pow_lt_pow_right (by decide) he
  _ = 4294967296 ^ k := by rw [Nat.pow_mul]
theorem bd_divS {n d : Int} {q : Rat} {k : Nat} (hd : d ≠ 0) (e : Rat.divInt n d = q) (h1 : Sz k n) (h2 : Sz k d) : Bd k (rp q) := by
 have hdq : ((q.den : Nat) : Int) ≠ 0 := by exact_mod_cast q.den_nz
 have e2 : q.num * d = n * (q.den : Int) := by
  have : Rat.divInt q.num q.den = Rat.divInt n d := by rw [e]; exact Rat.num_divInt_den q
  exact (Rat.divInt_eq_divInt_iff hdq hd).1 this
 have e3 : q.num.natAbs * d.natAbs = n.natAbs * q.den := by
  have := congrArg Int.natAbs e2
  rwa [Int.natAbs_mul, Int.natAbs_mul, Int.natAbs_natCast] at this
 have c := q.reduced
 have hd' : 0 < d.natAbs := Int.natAbs_pos.2 hd
 have l1 : q.num.natAbs ≤ n.natAbs := by
  rcases Nat.eq_zero_or_pos n.natAbs with h0 | h0
  ·rw [h0, Nat.zero_mul] at e3
   rcases Nat.mul_eq_zero.1 e3 with h | h
   ·omega
   ·omega
  ·exact Nat.le_of_dvd h0 (c.dvd_of_dvd_mul_right ⟨d.natAbs, e3.symm⟩)
 have l2 : q.den ≤ d.natAbs := Nat.le_of_dvd hd' (c.symm.dvd_of_dvd_mul_left ⟨n.natAbs, by rw [e3, Nat.mul_comm]⟩)
 exact ⟨Nat.lt_of_le_of_lt l1 h1, Nat.lt_of_le_of_lt (by simpa [rp] using l2) h2, pM q⟩
theorem Cap.bd {D d b k : Nat} {q : Rat} (h : Cap D (2 ^ b) q) (h0 : 0 < D) (h1 : D ≤ 2 ^ d) (h2 : b + d < 32 * k) : Bd k (rp q) := by
 obtain ⟨n, h3, h4⟩ := h
 have hD : (D : Rat) ≠ 0 := by
  intro h
  have : D = 0 := by exact_mod_cast h
  omega
 refine bd_divS (n := n) (d := (D : Int)) (by omega) ?_ (sz_lt (e := b + d) ?_ h2) (sz_lt (e := b + d) ?_ h2)
 ·rw [Rat.divInt_eq_div, ← h3]
  rw [Rat.intCast_natCast, Rat.mul_div_cancel hD]
 ·rw [Nat.pow_add]
  exact Nat.le_trans h4 (Nat.mul_le_mul_left _ h1)
 ·rw [Int.natAbs_natCast]
  exact Nat.le_trans h1 (Nat.pow_le_pow_right (by decide) (by omega))
def CpL (n : Nat) (l : List Rat) : Prop := ∃ D, 0 < D ∧ D ≤ 2 ^ n ∧ ∀ q ∈ l, Cap D (2 ^ n) q
theorem CpL.bd {n k : Nat} {l : List Rat} (h : CpL n l) (hk : n + n < 32 * k) {q : Rat} (hq : q ∈ l) : Bd k (rp q) := by
 obtain ⟨D, h1, h2, h3⟩ := h
 exact (h3 q hq).bd h1 h2 hk
theorem CpL.mono {n m : Nat} {l : List Rat} (h : CpL n l) (hm : n ≤ m) : CpL m l := by
 obtain ⟨D, h1, h2, h3⟩ := h
 have := Nat.pow_le_pow_right (show 0 < 2 by decide) hm
 exact ⟨D, h1, Nat.le_trans h2 this, fun q hq => (h3 q hq).mono this⟩
theorem CpL.sub {n : Nat} {l m : List Rat} (h : CpL n l) (hm : ∀ q ∈ m, q ∈ l) : CpL n m := by
 obtain ⟨D, h1, h2, h3⟩ := h
 exact ⟨D, h1, h2, fun q hq => h3 q (hm q hq)⟩
theorem CpL.append {n k : Nat} {l m : List Rat} (h : CpL n l) (h' : CpL k m) : CpL (n + k) (l ++ m) := by
 obtain ⟨D, h1, h2, h3⟩ := h
 obtain ⟨E, g1, g2, g3⟩ := h'
 refine ⟨D * E, Nat.mul_pos h1 g1, by rw [Nat.pow_add]; exact Nat.mul_le_mul h2 g2, fun q hq => ?_⟩
 rcases List.mem_append.1 hq with hq | hq
 ·exact ((h3 q hq).dvd ⟨E, rfl⟩).mono (Nat.pow_le_pow_right (by decide) (by omega))
 ·exact ((g3 q hq).dvd ⟨D, Nat.mul_comm _ _⟩).mono (Nat.pow_le_pow_right (by decide) (by omega))
theorem CpL.none : CpL 0 [] := ⟨1, by decide, by decide, by simp⟩
theorem CpL.one {p : R2} (h : vI p.1 p.2) : CpL 40 [rt p] := by
 refine ⟨p.2.natAbs, by have := h.1; omega, by have := h.1; have := h.2.1; omega, fun q hq => ?_⟩
 simp at hq
 subst hq
 exact (Cap.rat h).mono (by decide)
theorem CpL.rats : ∀ {X : List R2}, pY X → CpL (40 * X.length) (X.map rt)
 | [], _ => CpL.none
 | p :: X, h => by
  have h1 := CpL.one (h p (by simp))
  have h2 := CpL.rats (X := X) (fun q hq => h q (by simp [hq]))
  have := h1.append h2
  rw [List.map_cons, List.length_cons, show 40 * (X.length + 1) = 40 + 40 * X.length by omega]
  exact this
def monV : List Rat → List Int → Rat
 | x :: xs, n :: X => x ^ n.toNat * monV xs X
 | _, _ => 1
def polV (xs : List Rat) : Pl → Rat
 | [] => 0
 | t :: p => rt t.1 * monV xs t.2 + polV xs p
def jT (f : List Pl) (xs : List Rat) : List Rat := f.map (polV xs)
theorem monV_append : ∀ {xs ys : List Rat} {X Y : List Int}, xs.length = X.length → monV (xs ++ ys) (X ++ Y) = monV xs X * monV ys Y
 | [], ys, [], Y, _ => by simp [monV]
 | x :: xs, ys, n :: X, Y, h => by
  simp only [List.cons_append, monV]
  rw [monV_append (by simpa using h), Rat.mul_assoc]
 | [], _, _ :: _, _, h => by simp at h
 | _ :: _, _, [], _, h => by simp at h
theorem monV_take {xs : List Rat} {X : List Int} {k : Nat} (h : xs.length = X.length) (hk : k < X.length) : monV (xs.take (k + 1)) (X.take (k + 1)) = monV (xs.take k) (X.take k) * (xs[k]'(by omega)) ^ X[k].toNat := by
 rw [wW (l := xs) (by omega), wW hk, monV_append (by simp; omega)]
 simp [monV]
theorem polV_append (xs : List Rat) : ∀ (p q : Pl), polV xs (p ++ q) = polV xs p + polV xs q
 | [], q => by simp [polV, Rat.zero_add]
 | t :: p, q => by
  simp only [List.cons_append, polV]
  rw [polV_append xs p q, Rat.add_assoc]
theorem polV_take {xs : List Rat} {p : Pl} {j : Nat} (h : j < p.length) : polV xs (p.take (j + 1)) = polV xs (p.take j) + rt p[j].1 * monV xs p[j].2 := by
 rw [wW h, polV_append]
 simp [polV, Rat.add_zero]
structure TermOk (m : Nat) (t : Tm) : Prop where
 len : t.2.length = m
 rat : vI t.1.1 t.1.2
 nn : ∀ k ∈ t.2, 0 ≤ k
 deg : sumP t.2 ≤ 12
structure PolyOk (m : Nat) (p : Pl) : Prop where
 len : p.length ≤ 60
 term : ∀ t ∈ p, TermOk m t
structure SysOk (m : Nat) (f : List Pl) : Prop where
 len : f.length ≤ 3
 poly : ∀ p ∈ f, PolyOk m p
theorem cap_mon {D B : Nat} : ∀ {xs : List Rat} {X : List Int}, (∀ q ∈ xs, Cap D B q) → (∀ k ∈ X, 0 ≤ k) → 0 < D → 0 < B → Cap (D ^ (sumP X).toNat) (B ^ (sumP X).toNat) (monV xs X)
 | [], X, _, _, h3, h4 => by
  rw [show monV [] X = 1 by cases X <;> rfl]
  exact (Cap.one).mono (Nat.pow_pos h4)
 | x :: xs, [], _, _, h3, h4 => by
  exact (Cap.one).mono (Nat.pow_pos h4)
 | x :: xs, n :: X, h1, h2, h3, h4 => by
  have hn := h2 n (by simp)
  have ih := cap_mon (xs := xs) (X := X) (fun q hq => h1 q (by simp [hq])) (fun k hk => h2 k (by simp [hk])) h3 h4
  have e : (sumP (n :: X)).toNat = n.toNat + (sumP X).toNat := by
   have := sumP_nn X
   simp only [sumP]
   split <;> omega
  rw [e, Nat.pow_add, Nat.pow_add]
  exact ((h1 x (by simp)).pow n.toNat).mul ih
theorem sumP_take : ∀ (X : List Int) (k : Nat), sumP (X.take k) ≤ sumP X
 | [], k => by simp
 | x :: X, 0 => by have := sumP_nn (x :: X); simpa [sumP] using this
 | x :: X, k + 1 => by
  have := sumP_take X k
  simp only [List.take_succ_cons, sumP]
  omega
def dens : Pl → Nat
 | [] => 1
 | t :: p => t.1.2.natAbs * dens p
def densS : List Pl → Nat
 | [] => 1
 | p :: f => dens p * densS f
theorem dens_dvd : ∀ {p : Pl} {t : Tm}, t ∈ p → t.1.2.natAbs ∣ dens p
 | t :: p, u, h => by
  rcases List.mem_cons.1 h with rfl | h
  ·exact ⟨dens p, rfl⟩
  ·exact Nat.dvd_trans (dens_dvd h) ⟨t.1.2.natAbs, Nat.mul_comm _ _⟩
theorem densS_dvd : ∀ {f : List Pl} {p : Pl}, p ∈ f → dens p ∣ densS f
 | p :: f, q, h => by
  rcases List.mem_cons.1 h with rfl | h
  ·exact ⟨densS f, rfl⟩
  ·exact Nat.dvd_trans (densS_dvd h) ⟨dens p, Nat.mul_comm _ _⟩
theorem dens_le : ∀ {p : Pl}, (∀ t ∈ p, vI t.1.1 t.1.2) → 0 < dens p ∧ dens p ≤ 2 ^ (40 * p.length)
 | [], _ => by decide
 | t :: p, h => by
  have ih := dens_le (p := p) (fun u hu => h u (by simp [hu]))
  have h1 := h t (by simp)
  have h2 := h1.1
  have h3 := h1.2.1
  refine ⟨Nat.mul_pos (by omega) ih.1, ?_⟩
  rw [List.length_cons, show 40 * (p.length + 1) = 40 + 40 * p.length by omega, Nat.pow_add]
  exact Nat.mul_le_mul (by omega) ih.2
theorem two_mul {a b c d e : Nat} (h : e = c + d) (h1 : a ≤ 2 ^ c) (h2 : b ≤ 2 ^ d) : a * b ≤ 2 ^ e := by
 subst h
 rw [Nat.pow_add]
 exact Nat.mul_le_mul h1 h2
theorem two_up {a c d : Nat} (h : a ≤ 2 ^ c) (h2 : c ≤ d) : a ≤ 2 ^ d := Nat.le_trans h (Nat.pow_le_pow_right (by decide) h2)
theorem densS_le {m : Nat} : ∀ {f : List Pl}, (∀ p ∈ f, PolyOk m p) → 0 < densS f ∧ densS f ≤ 2 ^ (2400 * f.length)
 | [], _ => by decide
 | p :: f, h => by
  have ih := densS_le (f := f) (fun u hu => h u (by simp [hu]))
  have h1 := h p (by simp)
  have h2 := dens_le (p := p) (fun t ht => (h1.term t ht).rat)
  have h3 := h1.len
  refine ⟨Nat.mul_pos h2.1 ih.1, ?_⟩
  exact two_mul (c := 40 * p.length + (2400 - 40 * p.length)) (d := 2400 * f.length) (by rw [List.length_cons]; omega) (two_up h2.2 (by omega)) ih.2
theorem cap_term {D B m k : Nat} {xs : List Rat} {t : Tm} (ht : TermOk m t) (hx : ∀ q ∈ xs, Cap D B q) (hD : 0 < D) (hB : 0 < B) : Cap (t.1.2.natAbs * D ^ 12) (1000000000000 * B ^ 12) (rt t.1 * monV (xs.take k) (t.2.take k)) := by
 have h1 := cap_mon (xs := xs.take k) (X := t.2.take k) (fun q hq => hx q (List.mem_of_mem_take hq)) (fun j hj => ht.nn j (List.mem_of_mem_take hj)) hD hB
 have h2 := sumP_take t.2 k
 have h3 := ht.deg
 have h4 : (sumP (t.2.take k)).toNat ≤ 12 := by omega
 have h5 := (h1.dvd (Nat.pow_dvd_pow D h4)).mono (Nat.pow_le_pow_right hB h4)
 exact (Cap.rat ht.rat).mul h5
theorem tV {α : Type} {l : List α} {n : Nat} (h : l.length ≤ n) : l.take n = l := List.take_of_length_le h
theorem cap_term' {D B m : Nat} {xs : List Rat} {t : Tm} (ht : TermOk m t) (hx : ∀ q ∈ xs, Cap D B q) (hD : 0 < D) (hB : 0 < B) : Cap (t.1.2.natAbs * D ^ 12) (1000000000000 * B ^ 12) (rt t.1 * monV xs t.2) := by
 have h := cap_term (k := max xs.length t.2.length) ht hx hD hB
 rwa [tV (by omega), tV (by omega)] at h
theorem cap_pol {D B m : Nat} {xs : List Rat} (hx : ∀ q ∈ xs, Cap D B q) (hD : 0 < D) (hB : 0 < B) : ∀ {E : Nat} {p : Pl}, (∀ t ∈ p, TermOk m t) → (∀ t ∈ p, t.1.2.natAbs ∣ E) → Cap (E * D ^ 12) (p.length * (1000000000000 * B ^ 12)) (polV xs p)
 | E, [], _, _ => Cap.zero
 | E, t :: p, h1, h2 => by
  have ih := cap_pol hx hD hB (E := E) (p := p) (fun u hu => h1 u (by simp [hu])) (fun u hu => h2 u (by simp [hu]))
  have h3 := (cap_term' (h1 t (by simp)) hx hD hB).dvd (Nat.mul_dvd_mul_right (h2 t (by simp)) _)
  rw [List.length_cons, Nat.add_mul, Nat.add_comm, Nat.one_mul]
  exact h3.add ih
theorem pow12 {n : Nat} : (2 ^ n) ^ 12 = 2 ^ (12 * n) := by rw [← Nat.pow_mul, Nat.mul_comm]
theorem bnd_pol {c n : Nat} (h : c ≤ 64) : c * (1000000000000 * (2 ^ n) ^ 12) ≤ 2 ^ (46 + 12 * n) := by
 rw [pow12, Nat.pow_add, ← Nat.mul_assoc]
 exact Nat.mul_le_mul_right _ (by omega)
theorem field_cpl {n m : Nat} {f : List Pl} {xs : List Rat} (hf : SysOk m f) (hx : CpL n xs) : CpL (7200 + 12 * n) (jT f xs) := by
 obtain ⟨D, h1, h2, h3⟩ := hx
 have hd := densS_le hf.poly
 have hl := hf.len
 refine ⟨densS f * D ^ 12, Nat.mul_pos hd.1 (Nat.pow_pos h1), ?_, fun q hq => ?_⟩
 ·exact two_mul (c := 2400 * f.length + (7200 - 2400 * f.length)) (d := 12 * n) (by omega) (two_up hd.2 (by omega)) (by rw [← pow12]; exact Nat.pow_le_pow_left h2 12)
 ·obtain ⟨p, hp, rfl⟩ := List.mem_map.1 hq
  have hpo := hf.poly p hp
  have := cap_pol h3 h1 (Nat.pow_pos (by decide)) (E := densS f) (p := p) hpo.term (fun t ht => Nat.dvd_trans (dens_dvd ht) (densS_dvd hp))
  refine this.mono (Nat.le_trans (bnd_pol (by have := hpo.len; omega)) (Nat.pow_le_pow_right (by decide) (by omega)))
theorem term_bd {n m k K : Nat} {xs : List Rat} {t : Tm} (ht : TermOk m t) (hx : CpL n xs) (hn : 80 + 24 * n < 32 * K) : Bd K (rp (rt t.1 * monV (xs.take k) (t.2.take k))) := by
 obtain ⟨D, h1, h2, h3⟩ := hx
 have h4 := cap_term (k := k) ht h3 h1 (Nat.pow_pos (by decide))
 have hr := ht.rat
 have r1 := hr.1
 have r2 := hr.2.1
 refine Cap.bd (b := 40 + 12 * n) (d := 40 + 12 * n) (h4.mono ?_) (Nat.mul_pos (by omega) (Nat.pow_pos h1)) ?_ (by omega)
 ·rw [pow12, Nat.pow_add]
  exact Nat.mul_le_mul_right _ (by decide)
 ·rw [Nat.pow_add, ← pow12]
  exact Nat.mul_le_mul (by omega) (Nat.pow_le_pow_left h2 12)
theorem pol_bd {n m j K : Nat} {xs : List Rat} {p : Pl} (hp : PolyOk m p) (hx : CpL n xs) (hn : 2446 + 24 * n < 32 * K) : Bd K (rp (polV xs (p.take j))) := by
 obtain ⟨D, h1, h2, h3⟩ := hx
 have hl := hp.len
 have hl2 : (p.take j).length ≤ 60 := by rw [List.length_take]; omega
 have hd := dens_le (p := p.take j) (fun t ht => (hp.term t (List.mem_of_mem_take ht)).rat)
 have h4 := cap_pol (m := m) h3 h1 (Nat.pow_pos (by decide)) (E := dens (p.take j)) (p := p.take j) (fun t ht => hp.term t (List.mem_of_mem_take ht)) (fun t ht => dens_dvd ht)
 refine Cap.bd (b := 46 + 12 * n) (d := 2400 + 12 * n) (h4.mono (bnd_pol (by omega))) (Nat.mul_pos hd.1 (Nat.pow_pos h1)) ?_ (by omega)
 exact two_mul (c := 40 * (p.take j).length + (2400 - 40 * (p.take j).length)) (d := 12 * n) (by omega) (two_up hd.2 (by omega)) (by rw [← pow12]; exact Nat.pow_le_pow_left h2 12)
end Go.Proofs.YtokckcnfojjpjaaGreat

set_option linter.unusedVariables false
set_option linter.unusedSimpArgs false
namespace Go.Proofs.YtokckcnfojjpjaaGreat
open Go.RowKit
set_option maxRecDepth 20000
theorem closeB_getS : ∀ {bs : List Nat} {H : Hp} {b : Nat} {cells : List C} {el : TypeId}, b ∈ bs → H[b]? = some (.live ⟨cells, el, .rw⟩) → (vB H bs)[b]? = some (.live ⟨cells, el, .ro⟩) := by
 have keep : ∀ {bs : List Nat} {H : Hp} {b : Nat} {cells : List C} {el : TypeId} {kd : BK}, H[b]? = some (.live ⟨cells, el, kd⟩) → (vB H bs)[b]? = some (.live ⟨cells, el, kd⟩) ∨ (vB H bs)[b]? = some (.live ⟨cells, el, .ro⟩) := by
  intro bs
  induction bs with
  | nil => intro H b cells el kd h; exact .inl h
  | cons a r ih =>
   intro H b cells el kd h
   have h2 := ih h
   unfold vB
   split
   ·rename_i bx hbx
    split
    ·rename_i hk
     by_cases e : a = b
     ·subst e
      rw [List.getElem?_set_self (lt_of_getElem? hbx)]
      rcases h2 with h2 | h2
      ·rw [h2] at hbx
       cases hbx
       exact .inr rfl
      ·rw [h2] at hbx
       cases hbx
       exact .inr rfl
     ·rw [List.getElem?_set_ne e]
      exact h2
    ·exact h2
   ·exact h2
 intro bs
 induction bs with
 | nil => intro H b cells el hm; cases hm
 | cons a r ih =>
  intro H b cells el hm h
  by_cases e : a = b
  ·subst e
   have h2 := keep (bs := r) h
   unfold vB
   rcases h2 with h2 | h2
   ·rw [h2]
    simp only
    rw [List.getElem?_set_self (lt_of_getElem? h2)]
   ·rw [h2]
    exact h2
  ·have hm : b ∈ r := by
    rcases List.mem_cons.1 hm with h3 | h3
    ·exact absurd h3.symm e
    ·exact h3
   have h2 := ih hm h
   unfold vB
   split
   ·split
    ·rw [List.getElem?_set_ne e]
     exact h2
    ·exact h2
   ·exact h2
theorem Out.closeS {α : Type} {E : El α} {el : TypeId} {m : Nat} {H : Hp} {c : C} {l : List α} (h : Out E el m H c l) : ∃ bs d, Fz (· = .ro) (vB H bs) c d ∧ Ls E d l := by
 cases h with
 | nil => exact ⟨[], _, .hf trivial, .nil⟩
 | sl hm hb hn hc h =>
  rename_i b n co cells ds
  subst hn
  refine ⟨[b], _, .sl (closeB_getS (List.mem_cons_self) hb) rfl (by simp) ?_, .imm h⟩
  simp only [List.drop_zero]
  rw [hc]
  exact .hf h.hf
theorem IQ.tightS {k m : Nat} {cs : List C} {q : Rat} (h : IQ k cs q) (hb : Bd m (rp q)) : IQ m cs q := ⟨h.is, hb⟩
theorem IR.tightS {k m : Nat} {cs : List C} {q : Rat} (h : IR k cs q) (hb : Bd m (rp q)) : IR m cs q := ⟨h.is, hb⟩
theorem ld_splice {s : Option Slot} {cells cs : List C} {el : TypeId} {kd : BK} {size off off' : Nat} {K : V → Prop} (h : s = some (.live ⟨splice cells off cs, el, kd⟩)) (hl : cs.length = size) (hf : off' = off) (ho : off + size ≤ cells.length) (k : K (.agg cs)) : yZ s true size off' K := by
 subst hf
 refine yJ h (Nat.ble_eq_true_of_le (by simp only; rw [splice_len (by omega)]; exact ho)) ?_
 simp only
 rw [get_splice (by omega) hl]
 exact k
theorem sumP_mem {x : Int} : ∀ {X : List Int}, x ∈ X → x ≤ sumP X
 | y :: X, h => by
  have h0 := sumP_nn X
  simp only [sumP]
  rcases List.mem_cons.1 h with rfl | h
  ·split <;> omega
  ·have := sumP_mem h
   split <;> omega
def xI (x : List Rat) (c : Rat) (k : List Rat) : List Rat := List.zipWith (fun a b => a + c * b) x k
attribute [local irreducible] yA semH semC qLen qNil qIad qSlc qIdx yZ yM xC appX appI slcX awpF yP xK xopF xX qval lval seqQ xN wT wP wB cnd arith IntKind.wrap
theorem step_At {cf cx : C} {f : List Pl} {xs : List Rat} {n : Nat} (hc : Ls elM cf f) (hf : SysOk xs.length f) (hx : Ls (elQ 4194304) cx xs) (hb : CpL n xs) (hn : 2446 + 24 * n < 134217728) : semC Tryz.prog n_step_At [.c cf, .c cx] (LsK (elQ 4194304) (jT f xs)) := by
 refine yC ok_step_At rfl (show HFVs [.c cf, .c cx] from ⟨hc.hf, hx.hf, trivial⟩) ?_
 have hlen := hf.len
 refine go11 ?_
 refine uR (by rfl) (by rfl) ⟨by omega, by omega, by omega, by omega⟩ ?_
 refine go11 ?_
 simp only [qA, sS, ratC, qY, qX, List.set_cons_zero, List.set_cons_succ, List.nil_append, List.cons_append, List.append_nil, List.replicate_succ, List.replicate_zero, List.length_cons, List.length_nil, splice, List.take_succ_cons, List.take_zero, List.drop_succ_cons, List.drop_zero, List.take_nil, List.drop_nil, Nat.zero_add, Nat.reduceAdd, Nat.reduceMul, Int.reduceToNat, vB, List.getElem?_cons_succ, List.getElem?_cons_zero]
 refine yV (fun w vs H => ∃ (i : Nat) (cells : List C) (R : Hp), vs = [.c cx, .c (.sl 0 0 f.length (some f.length) 6), .c cf, i64 f.length, i64 i] ∧ H = .live ⟨cells, vN, .rw⟩ :: R ∧ w = f.length - i ∧ i ≤ f.length ∧ Fill (elQ 4194304) zeroQ f.length cells ((jT f xs).take i)) (by rfl) ⟨0, _, [], rfl, rfl, rfl, by omega, .zero rfl⟩ ?_
 rintro w vs H ⟨i, cells, R, rfl, rfl, rfl, i1, i2⟩
 have hcl : cells.length = f.length * 6 := i2.len
 have hfl : (jT f xs).length = f.length := by simp [jT]
 have htl : ((jT f xs).take i).length = i := by rw [List.length_take]; omega
 refine go11 ?_
 cases hi : yA Cm.lss (i : Int) (f.length : Int)
 case false =>
  simp [yA] at hi
  have ei : i = f.length := by omega
  subst ei
  rw [tV (by omega)] at i2
  have h4 := i2.done (by omega)
  have h5 := Ls.imm h4
  rw [hfl] at h5
  refine go11 ?_
  exact ⟨_, .c (fz_sl (bx := ⟨cells, vN, .rw⟩) (ds := cells) (by rfl) (by simp) (by simp) (by rw [List.drop_zero, List.take_of_length_le (by simp only; omega)]) h4.hf), _, rfl, h5⟩
 simp [yA] at hi
 refine go11 ?_
 refine qT hc (i := i) hi (by omega) rfl (fun cs hcs => ?_)
 obtain ⟨d, rfl, hd, hdl⟩ := hcs
 unfold tN at hdl
 have hp := hf.poly f[i] (vJ hi)
 have hpl := hp.len
 refine go11 ?_
 first | refine yE (vP (g := 0) (by decide)) (fun u hu => ?_) | refine yB (vP (g := 0) (by decide)) (fun u hu => ?_)
 obtain ⟨es, rfl, g0⟩ := hu
 obtain ⟨_, _, _, _, _, _, rfl⟩ := id g0.six
 refine go11 ?_
 refine yV (fun w vs H => ∃ (j : Nat) (acc : List C) (R : Hp), vs = [.c cx, .c (.sl 0 0 f.length (some f.length) 6), i64 i, .c cf, i64 f.length, i64 i, .c d, i64 f[i].length, i64 j] ∧ H = .live ⟨splice cells (i * 6) acc, vN, .rw⟩ :: R ∧ w = f[i].length - j ∧ j ≤ f[i].length ∧ IQ 4194304 acc (polV xs (f[i].take j))) (by rfl) ⟨0, _, _, rfl, by rw [Nat.zero_add]; rfl, rfl, by omega, g0.up (by decide)⟩ ?_
 clear g0
 rintro w vs H ⟨j, acc, R, rfl, rfl, rfl, j1, j2⟩
 obtain ⟨a0, a1, a2, a3, a4, a5, rfl⟩ := id j2.six
 refine go11 ?_
 cases hj : yA Cm.lss (j : Int) (f[i].length : Int)
 case false =>
  simp [yA] at hj
  rw [tV (by omega)] at j2
  refine go11 ?_
  rw [wF i (by omega)]
  have h4 := i2.put (cs := [a0, a1, a2, a3, a4, a5]) (a := polV xs f[i]) (by rw [htl]; exact hi) j2
  rw [htl] at h4
  refine l_n (by rfl) (n' := f.length - (i + 1)) (by omega) ⟨i + 1, _, _, rfl, rfl, rfl, by omega, ?_⟩
  rw [wW (show i < (jT f xs).length by omega), show (jT f xs)[i]'(by omega) = polV xs f[i] by simp [jT]]
  exact h4
 simp [yA] at hj
 refine go11 ?_
 refine qT hd (i := j) hj (by omega) rfl (fun cs hcs => ?_)
 obtain ⟨e, rfl, he, hel⟩ := hcs
 unfold tN at hel
 have ht := hp.term f[i][j] (vJ hj)
 have hxl := ht.len
 refine go11 ?_
 first | refine yE (q_Of ht.rat) (fun u hu => ?_) | refine yB (q_Of ht.rat) (fun u hu => ?_)
 obtain ⟨es, rfl, g1⟩ := hu
 obtain ⟨_, _, _, _, _, _, rfl⟩ := id g1.six
 refine go11 ?_
 refine yV (fun w vs H => ∃ (k : Nat) (ac : List C), vs = [.c cx, .c (.sl 0 0 f.length (some f.length) 6), i64 i, .c (.ptr (((.live ⟨splice cells (i * 6) [a0, a1, a2, a3, a4, a5], vN, .rw⟩ :: R) ++ [.live ⟨[iC f[i][j].1.1, iC f[i][j].1.2, e], T_api_Term, .rw⟩]) : Hp).length 0), .c cf, i64 f.length, i64 i, .c d, i64 f[i].length, i64 j, .c e, i64 f[i][j].2.length, i64 k] ∧ H = ((.live ⟨splice cells (i * 6) [a0, a1, a2, a3, a4, a5], vN, .rw⟩ :: R) ++ [.live ⟨[iC f[i][j].1.1, iC f[i][j].1.2, e], T_api_Term, .rw⟩]) ++ [.live ⟨ac, vN, .rw⟩] ∧ w = f[i][j].2.length - k ∧ k ≤ f[i][j].2.length ∧ IQ 4194304 ac (rt f[i][j].1 * monV (xs.take k) (f[i][j].2.take k))) (by rfl) ⟨0, _, rfl, rfl, rfl, by omega, by rw [List.take_zero, List.take_zero]; simp only [monV]; rw [Rat.mul_one]; exact g1.up (by decide)⟩ ?_
 clear g1
 rintro w vs H ⟨k, ac, rfl, rfl, rfl, k1, k2⟩
 obtain ⟨b0, b1, b2, b3, b4, b5, rfl⟩ := id k2.six
 refine go11 ?_
 cases hk : yA Cm.lss (k : Int) (f[i][j].2.length : Int)
 case false =>
  simp [yA] at hk
  rw [tV (by omega), tV (by omega)] at k2
  refine go11 ?_
  refine ld_splice (cells := cells) (off := i * 6) (cs := [a0, a1, a2, a3, a4, a5]) (by rfl) (by rfl) (by omega) (by omega) ?_
  refine go11 ?_
  first | refine yE (sR j2 k2 (by decide)) (fun u hu => ?_) | refine yB (sR j2 k2 (by decide)) (fun u hu => ?_)
  obtain ⟨gs, rfl, g2⟩ := hu
  have hs : polV xs (f[i].take j) + rt f[i][j].1 * monV xs f[i][j].2 = polV xs (f[i].take (j + 1)) := (polV_take hj).symm
  rw [hs] at g2
  have g2 := g2.tightS (pol_bd (j := j + 1) (K := 4194304) hp hb (by omega))
  obtain ⟨_, _, _, _, _, _, rfl⟩ := id g2.six
  refine go11 ?_
  refine yR (cs := splice cells (i * 6) [a0, a1, a2, a3, a4, a5]) (by rfl) (by rfl) (by rfl) (by rw [splice_len (by simp only [List.length_cons, List.length_nil]; omega)]; omega) ?_
  refine go11 ?_
  rw [wF j (by omega)]
  refine l_n (by rfl) (n' := f[i].length - (j + 1)) (by omega) ⟨j + 1, _, _, rfl, by rw [Nat.zero_add, Int.toNat_natCast, splice_twice (by omega) (by rfl)]; rfl, rfl, by omega, g2⟩
 simp [yA] at hk
 have hnn := ht.nn _ (vJ hk)
 have hmt := monV_take (xs := xs) (X := f[i][j].2) (k := k) hxl.symm hk
 refine go11 ?_
 cases hz : yA Cm.gtr f[i][j].2[k] 0
 case false =>
  simp [yA] at hz
  have e0 : f[i][j].2[k].toNat = 0 := by omega
  rw [e0, Rat.pow_zero, Rat.mul_one] at hmt
  refine go11 ?_
  rw [wF k (by omega)]
  refine l_n (by rfl) (n' := f[i][j].2.length - (k + 1)) (by omega) ⟨k + 1, _, rfl, rfl, rfl, by omega, ?_⟩
  rw [hmt]
  exact k2
 refine go11 ?_
 refine qT hx (i := k) (by omega) (by omega) rfl (fun cs hcs => ?_)
 refine go11 ?_
 obtain ⟨m, hm⟩ := Int.eq_ofNat_of_zero_le hnn
 have hm2 : f[i][j].2[k].toNat = m := by omega
 have hle : m ≤ 12 := by
  have h1 := ht.deg
  have h2 := sumP_mem (vJ hk) (X := f[i][j].2)
  omega
 rw [hm]
 first | refine yE (q_Pow m hcs (by omega) (by omega)) (fun u hu => ?_) | refine yB (q_Pow m hcs (by omega) (by omega)) (fun u hu => ?_)
 obtain ⟨gs, rfl, g2⟩ := hu
 refine go11 ?_
 first | refine yE (tZ k2 g2 (by omega)) (fun u hu => ?_) | refine yB (tZ k2 g2 (by omega)) (fun u hu => ?_)
 obtain ⟨ms, rfl, g3⟩ := hu
 rw [hm2] at hmt
 have hs : rt f[i][j].1 * monV (xs.take k) (f[i][j].2.take k) * (xs[k]'(by omega)) ^ m = rt f[i][j].1 * monV (xs.take (k + 1)) (f[i][j].2.take (k + 1)) := by rw [hmt, Rat.mul_assoc]
 rw [hs] at g3
 have g3 := g3.tightS (term_bd (k := k + 1) (K := 4194304) ht hb (by omega))
 obtain ⟨_, _, _, _, _, _, rfl⟩ := id g3.six
 refine go11 ?_
 rw [wF k (by omega)]
 exact l_n (by rfl) (n' := f[i][j].2.length - (k + 1)) (by omega) ⟨k + 1, _, rfl, rfl, rfl, by omega, g3⟩
end Go.Proofs.YtokckcnfojjpjaaGreat

set_option linter.unusedVariables false
set_option linter.unusedSimpArgs false
namespace Go.Proofs.YtokckcnfojjpjaaGreat
open Go.RowKit
set_option maxRecDepth 20000
section
variable {P : Program} {e : Env} {H : Hp} {K : Env → Hp → Prop} {rd : List DOp} {log : List (Nat × Option Nat)} {n0 i aid : Nat} {inc : List Nat} {T : Option Nat}
theorem d_keepA2 {d : Nat} {el : TypeId} {es bytes : Nat} {s x : AO} (hl : pI (.app el es bytes s x) inc = true) (hT : tch e (n0 + aid) (.app el es bytes s x) = T) (h : qS inc T log = true) (k : appX H el es bytes (s.ev e) (x.ev e) fun v H' => jO inc log H H' ∧ xK P n0 rd ((i, T) :: log) (put e d v) H' K) : xK P n0 (⟨i, aid, ⟨some d, .app el es bytes s x, none⟩, inc⟩ :: rd) log e H K := d_keep hl hT h (gE k)
theorem d_keepC {d : Nat} {f : AO} {args : List AO} {g : FuncId} {us : List V} (hl : pI (.call f args) inc = true) (hT : tch e (n0 + aid) (.call f args) = T) (h : qS inc T log = true) (h1 : f.ev e = some (.c (.fn g []))) (h2 : evs e args = some us) (k : semH P g us H fun v H' => jO inc log H H' ∧ xK P n0 rd ((i, T) :: log) (put e d v) H' K) : xK P n0 (⟨i, aid, ⟨some d, .call f args, none⟩, inc⟩ :: rd) log e H K := d_keep hl hT h (qU h1 h2 k)
end
def lowLog2 (n : Nat) (log : List (Nat × Option Nat)) : Bool := log.all fun p => match p.2 with
 | none => true
 | some b => Nat.ble (b + 1) n
theorem keep_low4 {F R R' : Hp} {inc : List Nat} {log : List (Nat × Option Nat)} (h : lowLog2 F.length log = true) : jO inc log (F ++ R) (F ++ R') := fun p hp _ b hb => by
 have h2 := List.all_eq_true.1 h p hp
 rw [hb] at h2
 have h3 : b < F.length := Nat.le_of_ble_eq_true h2
 rw [List.getElem?_append_left h3, List.getElem?_append_left h3]
theorem keep_low5 {F R' : Hp} {inc : List Nat} {log : List (Nat × Option Nat)} (h : lowLog2 F.length log = true) : jO inc log F (F ++ R') := by
 have := keep_low4 (F := F) (R := []) (R' := R') (inc := inc) h
 rwa [List.append_nil] at this
theorem go12 {A B : Prop} (k : B) (h : Held B → A := by
 intro hgo
 repeat (first | (refine g_o ?_; first | (refine o_some ?_; try (first | (refine x_q (by rfl) ?_; try (first | refine q_mv (by rfl) ?_ | refine wH (by rfl) ?_ | (refine uE ?_; try (first | refine vQ (by rfl) (by assumption) ?_ | refine wQ (by rfl) (by assumption) ?_ | refine wR (by rfl) ?_ | refine xP (by rfl) ?_ | refine xO (by rfl) ?_)) | (refine uG ?_; try (first | refine vR (by rfl) (by rfl) (by assumption) (by omega) (by omega) ?_ | refine wM (by rfl) (by rfl) (by assumption) (by omega) (by omega) ?_ | refine wL (by rfl) (by rfl) (by decide) (by decide) ?_ | refine yH (by rfl) (by rfl) (by decide) (by decide) ?_ | refine wC (by rfl) (by rfl) (by decide) (by decide) ?_ | refine yH (by rfl) (by rfl) (by omega) (by omega) ?_)) | refine q_cm (by rfl) (by rfl) ?_ | refine q_ar (by rfl) (by rfl) (by rfl) ?_ | refine vF (by rfl) ?_ | (refine uK ?_; try (first | refine xY (by rfl) ?_ | refine xZ (by rfl) ?_ | refine wS (by rfl) ?_)) | refine uJ (by rfl) (by rfl) ?_ | refine wG (by rfl) ?_ | refine wI (by rfl) ?_ | refine vW (by rfl) (by rfl) (by first | decide | omega) ?_ | refine uA (by rfl) (by rfl) (by first | decide | omega) ?_ | refine uL (by rfl) (by rfl) ?_ | refine uM (by rfl) (by rfl) (by rfl) ?_ | refine uC (by rfl) ?_ | refine uB (by rfl) ?_ | refine xR (by rfl) (by rfl) ?_ | refine xS (by rfl) (by rfl) ?_ | refine vZ ?_ | refine uF ?_ | refine uI (by rfl) (by rfl) ?_ | refine vE (by rfl) (by rfl) ?_ | refine xU (by rfl) ?_ | refine q_mx (by rfl) (by rfl) ?_ | refine q_mn (by rfl) (by rfl) ?_ | refine uD (by rfl) (by rfl) (by rfl) ?_ | refine uH (by rfl) ?_ | refine vG (by rfl) ?_ | refine vH (by rfl) ?_ | refine xT (by rfl) ?_ | refine wJ (by rfl) (by rfl) ?_ | refine wK (by rfl) (by rfl) ?_)) | (refine pL ?_; try (first | (refine uN (by rfl) ?_; try (first | refine yN (by rfl) (by rfl) ?_ | refine yJ (by rfl) (by rfl) ?_ | refine yN (yK _ _) (by rfl) ?_ | refine yJ (yK _ _) (by rfl) ?_ | refine yN (xW _ _ _ _) (by rfl) ?_ | refine yJ (xW _ _ _ _) (by rfl) ?_ | refine yN (xV _ _ _) (by rfl) ?_ | refine yJ (xV _ _ _) (by rfl) ?_)) | (refine uO (by rfl) ?_; try (first | refine tB (by assumption) (by omega) (by omega) (fun _ _ => ?_) | refine vM (by omega) (by omega) ?_ | refine xE (Nat.le_of_ble_eq_true (by rfl)) ?_ | refine yR (by rfl) (by rfl) (by rfl) (by omega) ?_)))) | refine vX (by rfl) (by rfl) (by rfl) (by rfl) (Nat.le_of_ble_eq_true (by rfl)) ?_ | (refine sJ (by rfl) (by rfl) ?_; try (first | refine yR (by rfl) (by rfl) (by rfl) (Nat.le_of_ble_eq_true (by rfl)) ?_ | refine yR (by rfl) (by rfl) (by rfl) (by omega) ?_)) | refine qU (by rfl) (by rfl) ?_ | refine gO (by rfl) (by rfl) ?_ | refine sV ?_ | refine gN (by rfl) ?_ | refine gE ?_ | refine pK ?_ | refine sT ?_ | refine sU (by rfl) (by rfl) (by rfl) (by rfl) ?_ | refine tU (by rfl) (by rfl) (by rfl) ?_)) | (refine o_nil ?_; try (first | refine s_n ?_ | refine s_r ?_ | refine s_e ?_ | refine k_n ?_ | refine k_r ?_ | refine k_e (by rfl) ?_ | refine k_o (by rfl) ?_ | refine l_r ?_ | refine l_e ?_ | refine b_r ?_ | refine b_n ?_)) | refine bU (by rfl) ?_ | refine gH (by rfl) ?_ | refine o_none ?_ | refine gI (by rfl) ?_) | (refine g_f ?_; first | refine f_seq ?_ | refine f_reg ?_ | (refine f_cond (by rfl) ?_; try (first | refine c_t (by rfl) ?_ | refine c_f (by rfl) ?_)) | refine f_block ?_ | refine f_skip ?_ | refine f_ret ?_ | refine f_exit ?_ | refine f_regD0 ?_ | refine f_regD ?_) | (refine g_s ?_; first | refine s_n ?_ | refine s_r ?_ | refine s_e ?_) | (refine g_d ?_; first | refine d_keepA2 (T := none) (by rfl) (by rfl) (by rfl) ?_ | refine d_late (T := none) (by rfl) (by rfl) (by rfl) (by rfl) ?_ | refine d_keepC (T := none) (by rfl) (by rfl) (by rfl) (by rfl) (by rfl) ?_ | (refine pP (T := none) (by rfl) (by rfl) ?_; try (first | (refine xd_q (by rfl) ?_; try (first | refine q_mv (by rfl) ?_ | refine wH (by rfl) ?_ | (refine uE ?_; try (first | refine vQ (by rfl) (by assumption) ?_ | refine wQ (by rfl) (by assumption) ?_ | refine wR (by rfl) ?_ | refine xP (by rfl) ?_ | refine xO (by rfl) ?_)) | (refine uG ?_; try (first | refine vR (by rfl) (by rfl) (by assumption) (by omega) (by omega) ?_ | refine wM (by rfl) (by rfl) (by assumption) (by omega) (by omega) ?_ | refine wL (by rfl) (by rfl) (by decide) (by decide) ?_ | refine yH (by rfl) (by rfl) (by decide) (by decide) ?_ | refine wC (by rfl) (by rfl) (by decide) (by decide) ?_ | refine yH (by rfl) (by rfl) (by omega) (by omega) ?_)) | refine q_cm (by rfl) (by rfl) ?_ | refine q_ar (by rfl) (by rfl) (by rfl) ?_ | refine vF (by rfl) ?_ | (refine uK ?_; try (first | refine xY (by rfl) ?_ | refine xZ (by rfl) ?_ | refine wS (by rfl) ?_)) | refine uJ (by rfl) (by rfl) ?_ | refine wG (by rfl) ?_ | refine wI (by rfl) ?_ | refine vW (by rfl) (by rfl) (by first | decide | omega) ?_ | refine uA (by rfl) (by rfl) (by first | decide | omega) ?_ | refine uL (by rfl) (by rfl) ?_ | refine uM (by rfl) (by rfl) (by rfl) ?_ | refine uC (by rfl) ?_ | refine uB (by rfl) ?_ | refine xR (by rfl) (by rfl) ?_ | refine xS (by rfl) (by rfl) ?_ | refine vZ ?_ | refine uF ?_ | refine uI (by rfl) (by rfl) ?_ | refine vE (by rfl) (by rfl) ?_ | refine xU (by rfl) ?_ | refine q_mx (by rfl) (by rfl) ?_ | refine q_mn (by rfl) (by rfl) ?_ | refine uD (by rfl) (by rfl) (by rfl) ?_ | refine uH (by rfl) ?_ | refine vG (by rfl) ?_ | refine vH (by rfl) ?_ | refine xT (by rfl) ?_ | refine wJ (by rfl) (by rfl) ?_ | refine wK (by rfl) (by rfl) ?_)) | (refine uY ?_; try (first | (refine uN (by rfl) ?_; try (first | refine yN (by rfl) (by rfl) ?_ | refine yJ (by rfl) (by rfl) ?_ | refine yN (yK _ _) (by rfl) ?_ | refine yJ (yK _ _) (by rfl) ?_ | refine yN (xW _ _ _ _) (by rfl) ?_ | refine yJ (xW _ _ _ _) (by rfl) ?_ | refine yN (xV _ _ _) (by rfl) ?_ | refine yJ (xV _ _ _) (by rfl) ?_)) | (refine uO (by rfl) ?_; try (first | refine tB (by assumption) (by omega) (by omega) (fun _ _ => ?_) | refine vM (by omega) (by omega) ?_ | refine xE (Nat.le_of_ble_eq_true (by rfl)) ?_ | refine yR (by rfl) (by rfl) (by rfl) (by omega) ?_)))) | refine wN (by rfl) (by rfl) (by rfl) (by rfl) (Nat.le_of_ble_eq_true (by rfl)) ?_ | (refine vS (by rfl) (by rfl) ?_; try (first | refine yR (by rfl) (by rfl) (by rfl) (Nat.le_of_ble_eq_true (by rfl)) ?_ | refine yR (by rfl) (by rfl) (by rfl) (by omega) ?_)) | refine uZ (by rfl) (by rfl) ?_ | refine tY (by rfl) (by rfl) (by rfl) ?_ | refine vT (by rfl) ?_ | refine sM (by rfl) ?_)) | (refine pP (by rfl) (by rfl) ?_; try (first | (refine xd_q (by rfl) ?_; try (first | refine q_mv (by rfl) ?_ | refine wH (by rfl) ?_ | (refine uE ?_; try (first | refine vQ (by rfl) (by assumption) ?_ | refine wQ (by rfl) (by assumption) ?_ | refine wR (by rfl) ?_ | refine xP (by rfl) ?_ | refine xO (by rfl) ?_)) | (refine uG ?_; try (first | refine vR (by rfl) (by rfl) (by assumption) (by omega) (by omega) ?_ | refine wM (by rfl) (by rfl) (by assumption) (by omega) (by omega) ?_ | refine wL (by rfl) (by rfl) (by decide) (by decide) ?_ | refine yH (by rfl) (by rfl) (by decide) (by decide) ?_ | refine wC (by rfl) (by rfl) (by decide) (by decide) ?_ | refine yH (by rfl) (by rfl) (by omega) (by omega) ?_)) | refine q_cm (by rfl) (by rfl) ?_ | refine q_ar (by rfl) (by rfl) (by rfl) ?_ | refine vF (by rfl) ?_ | (refine uK ?_; try (first | refine xY (by rfl) ?_ | refine xZ (by rfl) ?_ | refine wS (by rfl) ?_)) | refine uJ (by rfl) (by rfl) ?_ | refine wG (by rfl) ?_ | refine wI (by rfl) ?_ | refine vW (by rfl) (by rfl) (by first | decide | omega) ?_ | refine uA (by rfl) (by rfl) (by first | decide | omega) ?_ | refine uL (by rfl) (by rfl) ?_ | refine uM (by rfl) (by rfl) (by rfl) ?_ | refine uC (by rfl) ?_ | refine uB (by rfl) ?_ | refine xR (by rfl) (by rfl) ?_ | refine xS (by rfl) (by rfl) ?_ | refine vZ ?_ | refine uF ?_ | refine uI (by rfl) (by rfl) ?_ | refine vE (by rfl) (by rfl) ?_ | refine xU (by rfl) ?_ | refine q_mx (by rfl) (by rfl) ?_ | refine q_mn (by rfl) (by rfl) ?_ | refine uD (by rfl) (by rfl) (by rfl) ?_ | refine uH (by rfl) ?_ | refine vG (by rfl) ?_ | refine vH (by rfl) ?_ | refine xT (by rfl) ?_ | refine wJ (by rfl) (by rfl) ?_ | refine wK (by rfl) (by rfl) ?_)) | (refine uY ?_; try (first | (refine uN (by rfl) ?_; try (first | refine yN (by rfl) (by rfl) ?_ | refine yJ (by rfl) (by rfl) ?_ | refine yN (yK _ _) (by rfl) ?_ | refine yJ (yK _ _) (by rfl) ?_ | refine yN (xW _ _ _ _) (by rfl) ?_ | refine yJ (xW _ _ _ _) (by rfl) ?_ | refine yN (xV _ _ _) (by rfl) ?_ | refine yJ (xV _ _ _) (by rfl) ?_)) | (refine uO (by rfl) ?_; try (first | refine tB (by assumption) (by omega) (by omega) (fun _ _ => ?_) | refine vM (by omega) (by omega) ?_ | refine xE (Nat.le_of_ble_eq_true (by rfl)) ?_ | refine yR (by rfl) (by rfl) (by rfl) (by omega) ?_)))) | refine wN (by rfl) (by rfl) (by rfl) (by rfl) (Nat.le_of_ble_eq_true (by rfl)) ?_ | (refine vS (by rfl) (by rfl) ?_; try (first | refine yR (by rfl) (by rfl) (by rfl) (Nat.le_of_ble_eq_true (by rfl)) ?_ | refine yR (by rfl) (by rfl) (by rfl) (by omega) ?_)) | refine uZ (by rfl) (by rfl) ?_ | refine tY (by rfl) (by rfl) (by rfl) ?_ | refine vT (by rfl) ?_ | refine sM (by rfl) ?_)) | (refine d_nil ?_; try (first | refine s_n ?_ | refine s_r ?_ | refine s_e ?_ | refine k_n ?_ | refine k_r ?_ | refine k_e (by rfl) ?_ | refine k_o (by rfl) ?_ | refine l_r ?_ | refine l_e ?_ | refine b_r ?_ | refine b_n ?_)) | refine d_none (by rfl) (by rfl) ?_ | refine d_guard (by rfl) (by rfl) (by rfl) ?_) | (refine g_x ?_; first | (refine x_q (by rfl) ?_; try (first | refine q_mv (by rfl) ?_ | refine wH (by rfl) ?_ | (refine uE ?_; try (first | refine vQ (by rfl) (by assumption) ?_ | refine wQ (by rfl) (by assumption) ?_ | refine wR (by rfl) ?_ | refine xP (by rfl) ?_ | refine xO (by rfl) ?_)) | (refine uG ?_; try (first | refine vR (by rfl) (by rfl) (by assumption) (by omega) (by omega) ?_ | refine wM (by rfl) (by rfl) (by assumption) (by omega) (by omega) ?_ | refine wL (by rfl) (by rfl) (by decide) (by decide) ?_ | refine yH (by rfl) (by rfl) (by decide) (by decide) ?_ | refine wC (by rfl) (by rfl) (by decide) (by decide) ?_ | refine yH (by rfl) (by rfl) (by omega) (by omega) ?_)) | refine q_cm (by rfl) (by rfl) ?_ | refine q_ar (by rfl) (by rfl) (by rfl) ?_ | refine vF (by rfl) ?_ | (refine uK ?_; try (first | refine xY (by rfl) ?_ | refine xZ (by rfl) ?_ | refine wS (by rfl) ?_)) | refine uJ (by rfl) (by rfl) ?_ | refine wG (by rfl) ?_ | refine wI (by rfl) ?_ | refine vW (by rfl) (by rfl) (by first | decide | omega) ?_ | refine uA (by rfl) (by rfl) (by first | decide | omega) ?_ | refine uL (by rfl) (by rfl) ?_ | refine uM (by rfl) (by rfl) (by rfl) ?_ | refine uC (by rfl) ?_ | refine uB (by rfl) ?_ | refine xR (by rfl) (by rfl) ?_ | refine xS (by rfl) (by rfl) ?_ | refine vZ ?_ | refine uF ?_ | refine uI (by rfl) (by rfl) ?_ | refine vE (by rfl) (by rfl) ?_ | refine xU (by rfl) ?_ | refine q_mx (by rfl) (by rfl) ?_ | refine q_mn (by rfl) (by rfl) ?_ | refine uD (by rfl) (by rfl) (by rfl) ?_ | refine uH (by rfl) ?_ | refine vG (by rfl) ?_ | refine vH (by rfl) ?_ | refine xT (by rfl) ?_ | refine wJ (by rfl) (by rfl) ?_ | refine wK (by rfl) (by rfl) ?_)) | (refine pL ?_; try (first | (refine uN (by rfl) ?_; try (first | refine yN (by rfl) (by rfl) ?_ | refine yJ (by rfl) (by rfl) ?_ | refine yN (yK _ _) (by rfl) ?_ | refine yJ (yK _ _) (by rfl) ?_ | refine yN (xW _ _ _ _) (by rfl) ?_ | refine yJ (xW _ _ _ _) (by rfl) ?_ | refine yN (xV _ _ _) (by rfl) ?_ | refine yJ (xV _ _ _) (by rfl) ?_)) | (refine uO (by rfl) ?_; try (first | refine tB (by assumption) (by omega) (by omega) (fun _ _ => ?_) | refine vM (by omega) (by omega) ?_ | refine xE (Nat.le_of_ble_eq_true (by rfl)) ?_ | refine yR (by rfl) (by rfl) (by rfl) (by omega) ?_)))) | refine vX (by rfl) (by rfl) (by rfl) (by rfl) (Nat.le_of_ble_eq_true (by rfl)) ?_ | (refine sJ (by rfl) (by rfl) ?_; try (first | refine yR (by rfl) (by rfl) (by rfl) (Nat.le_of_ble_eq_true (by rfl)) ?_ | refine yR (by rfl) (by rfl) (by rfl) (by omega) ?_)) | refine qU (by rfl) (by rfl) ?_ | refine gO (by rfl) (by rfl) ?_ | refine sV ?_ | refine gN (by rfl) ?_ | refine gE ?_ | refine pK ?_ | refine sT ?_ | refine sU (by rfl) (by rfl) (by rfl) (by rfl) ?_ | refine tU (by rfl) (by rfl) (by rfl) ?_) | (refine g_q ?_; first | refine q_mv (by rfl) ?_ | refine wH (by rfl) ?_ | (refine uE ?_; try (first | refine vQ (by rfl) (by assumption) ?_ | refine wQ (by rfl) (by assumption) ?_ | refine wR (by rfl) ?_ | refine xP (by rfl) ?_ | refine xO (by rfl) ?_)) | (refine uG ?_; try (first | refine vR (by rfl) (by rfl) (by assumption) (by omega) (by omega) ?_ | refine wM (by rfl) (by rfl) (by assumption) (by omega) (by omega) ?_ | refine wL (by rfl) (by rfl) (by decide) (by decide) ?_ | refine yH (by rfl) (by rfl) (by decide) (by decide) ?_ | refine wC (by rfl) (by rfl) (by decide) (by decide) ?_ | refine yH (by rfl) (by rfl) (by omega) (by omega) ?_)) | refine q_cm (by rfl) (by rfl) ?_ | refine q_ar (by rfl) (by rfl) (by rfl) ?_ | refine vF (by rfl) ?_ | (refine uK ?_; try (first | refine xY (by rfl) ?_ | refine xZ (by rfl) ?_ | refine wS (by rfl) ?_)) | refine uJ (by rfl) (by rfl) ?_ | refine wG (by rfl) ?_ | refine wI (by rfl) ?_ | refine vW (by rfl) (by rfl) (by first | decide | omega) ?_ | refine uA (by rfl) (by rfl) (by first | decide | omega) ?_ | refine uL (by rfl) (by rfl) ?_ | refine uM (by rfl) (by rfl) (by rfl) ?_ | refine uC (by rfl) ?_ | refine uB (by rfl) ?_ | refine xR (by rfl) (by rfl) ?_ | refine xS (by rfl) (by rfl) ?_ | refine vZ ?_ | refine uF ?_ | refine uI (by rfl) (by rfl) ?_ | refine vE (by rfl) (by rfl) ?_ | refine xU (by rfl) ?_ | refine q_mx (by rfl) (by rfl) ?_ | refine q_mn (by rfl) (by rfl) ?_ | refine uD (by rfl) (by rfl) (by rfl) ?_ | refine uH (by rfl) ?_ | refine vG (by rfl) ?_ | refine vH (by rfl) ?_ | refine xT (by rfl) ?_ | refine wJ (by rfl) (by rfl) ?_ | refine wK (by rfl) (by rfl) ?_) | (refine g_c ?_; first | refine c_t (by rfl) ?_ | refine c_f (by rfl) ?_) | (refine g_k ?_; first | refine k_n ?_ | refine k_r ?_ | refine k_e (by rfl) ?_ | refine k_o (by rfl) ?_) | (refine g_lo ?_; first | refine l_r ?_ | refine l_e ?_) | (refine g_xd ?_; first | (refine xd_q (by rfl) ?_; try (first | refine q_mv (by rfl) ?_ | refine wH (by rfl) ?_ | (refine uE ?_; try (first | refine vQ (by rfl) (by assumption) ?_ | refine wQ (by rfl) (by assumption) ?_ | refine wR (by rfl) ?_ | refine xP (by rfl) ?_ | refine xO (by rfl) ?_)) | (refine uG ?_; try (first | refine vR (by rfl) (by rfl) (by assumption) (by omega) (by omega) ?_ | refine wM (by rfl) (by rfl) (by assumption) (by omega) (by omega) ?_ | refine wL (by rfl) (by rfl) (by decide) (by decide) ?_ | refine yH (by rfl) (by rfl) (by decide) (by decide) ?_ | refine wC (by rfl) (by rfl) (by decide) (by decide) ?_ | refine yH (by rfl) (by rfl) (by omega) (by omega) ?_)) | refine q_cm (by rfl) (by rfl) ?_ | refine q_ar (by rfl) (by rfl) (by rfl) ?_ | refine vF (by rfl) ?_ | (refine uK ?_; try (first | refine xY (by rfl) ?_ | refine xZ (by rfl) ?_ | refine wS (by rfl) ?_)) | refine uJ (by rfl) (by rfl) ?_ | refine wG (by rfl) ?_ | refine wI (by rfl) ?_ | refine vW (by rfl) (by rfl) (by first | decide | omega) ?_ | refine uA (by rfl) (by rfl) (by first | decide | omega) ?_ | refine uL (by rfl) (by rfl) ?_ | refine uM (by rfl) (by rfl) (by rfl) ?_ | refine uC (by rfl) ?_ | refine uB (by rfl) ?_ | refine xR (by rfl) (by rfl) ?_ | refine xS (by rfl) (by rfl) ?_ | refine vZ ?_ | refine uF ?_ | refine uI (by rfl) (by rfl) ?_ | refine vE (by rfl) (by rfl) ?_ | refine xU (by rfl) ?_ | refine q_mx (by rfl) (by rfl) ?_ | refine q_mn (by rfl) (by rfl) ?_ | refine uD (by rfl) (by rfl) (by rfl) ?_ | refine uH (by rfl) ?_ | refine vG (by rfl) ?_ | refine vH (by rfl) ?_ | refine xT (by rfl) ?_ | refine wJ (by rfl) (by rfl) ?_ | refine wK (by rfl) (by rfl) ?_)) | (refine uY ?_; try (first | (refine uN (by rfl) ?_; try (first | refine yN (by rfl) (by rfl) ?_ | refine yJ (by rfl) (by rfl) ?_ | refine yN (yK _ _) (by rfl) ?_ | refine yJ (yK _ _) (by rfl) ?_ | refine yN (xW _ _ _ _) (by rfl) ?_ | refine yJ (xW _ _ _ _) (by rfl) ?_ | refine yN (xV _ _ _) (by rfl) ?_ | refine yJ (xV _ _ _) (by rfl) ?_)) | (refine uO (by rfl) ?_; try (first | refine tB (by assumption) (by omega) (by omega) (fun _ _ => ?_) | refine vM (by omega) (by omega) ?_ | refine xE (Nat.le_of_ble_eq_true (by rfl)) ?_ | refine yR (by rfl) (by rfl) (by rfl) (by omega) ?_)))) | refine wN (by rfl) (by rfl) (by rfl) (by rfl) (Nat.le_of_ble_eq_true (by rfl)) ?_ | (refine vS (by rfl) (by rfl) ?_; try (first | refine yR (by rfl) (by rfl) (by rfl) (Nat.le_of_ble_eq_true (by rfl)) ?_ | refine yR (by rfl) (by rfl) (by rfl) (by omega) ?_)) | refine uZ (by rfl) (by rfl) ?_ | refine tY (by rfl) (by rfl) (by rfl) ?_ | refine vT (by rfl) ?_ | refine sM (by rfl) ?_) | (refine g_l ?_; first | (refine uN (by rfl) ?_; try (first | refine yN (by rfl) (by rfl) ?_ | refine yJ (by rfl) (by rfl) ?_ | refine yN (yK _ _) (by rfl) ?_ | refine yJ (yK _ _) (by rfl) ?_ | refine yN (xW _ _ _ _) (by rfl) ?_ | refine yJ (xW _ _ _ _) (by rfl) ?_ | refine yN (xV _ _ _) (by rfl) ?_ | refine yJ (xV _ _ _) (by rfl) ?_)) | (refine uO (by rfl) ?_; try (first | refine tB (by assumption) (by omega) (by omega) (fun _ _ => ?_) | refine vM (by omega) (by omega) ?_ | refine xE (Nat.le_of_ble_eq_true (by rfl)) ?_ | refine yR (by rfl) (by rfl) (by rfl) (by omega) ?_))) | (refine g_len ?_; first | refine vQ (by rfl) (by assumption) ?_ | refine wQ (by rfl) (by assumption) ?_ | refine wR (by rfl) ?_ | refine xP (by rfl) ?_ | refine xO (by rfl) ?_) | (refine g_nil ?_; first | refine xY (by rfl) ?_ | refine xZ (by rfl) ?_ | refine wS (by rfl) ?_) | (refine g_iad ?_; first | refine vR (by rfl) (by rfl) (by assumption) (by omega) (by omega) ?_ | refine wM (by rfl) (by rfl) (by assumption) (by omega) (by omega) ?_ | refine wL (by rfl) (by rfl) (by decide) (by decide) ?_ | refine yH (by rfl) (by rfl) (by decide) (by decide) ?_ | refine wC (by rfl) (by rfl) (by decide) (by decide) ?_ | refine yH (by rfl) (by rfl) (by omega) (by omega) ?_) | (refine g_box ?_; first | refine yN (by rfl) (by rfl) ?_ | refine yJ (by rfl) (by rfl) ?_ | refine yN (yK _ _) (by rfl) ?_ | refine yJ (yK _ _) (by rfl) ?_ | refine yN (xW _ _ _ _) (by rfl) ?_ | refine yJ (xW _ _ _ _) (by rfl) ?_ | refine yN (xV _ _ _) (by rfl) ?_ | refine yJ (xV _ _ _) (by rfl) ?_) | (refine bZ ?_; first | refine tB (by assumption) (by omega) (by omega) (fun _ _ => ?_) | refine vM (by omega) (by omega) ?_ | refine xE (Nat.le_of_ble_eq_true (by rfl)) ?_) | (refine g_st ?_; first | refine yR (by rfl) (by rfl) (by rfl) (Nat.le_of_ble_eq_true (by rfl)) ?_) | (refine g_b ?_; first | refine b_r ?_ | refine b_n ?_) | (refine g_r ?_; first | refine r_tmp (by rfl) ?_ | refine r_cell ?_ | refine r_nil ?_))
 exact hgo.out) : A := h ⟨k⟩
theorem along_get {x k : List Rat} {c : Rat} {i : Nat} (h : k.length = x.length) (hi : i < x.length) : (xI x c k)[i]'(by simp [xI]; omega) = x[i] + c * k[i]'(by omega) := by simp [xI]
theorem vD {x k : List Rat} {c : Rat} (h : k.length = x.length) : (xI x c k).length = x.length := by simp [xI]; omega
theorem sH {a b d : Nat} {x k : List Rat} {c : Rat} (hx : CpL a x) (hc : CpL b [c]) (hk : CpL d k) : CpL (a + b + d + 1) (xI x c k) := by
 obtain ⟨D, h1, h2, h3⟩ := hx
 obtain ⟨E, g1, g2, g3⟩ := hc
 obtain ⟨F, f1, f2, f3⟩ := hk
 refine ⟨D * (E * F), Nat.mul_pos h1 (Nat.mul_pos g1 f1), ?_, fun q hq => ?_⟩
 ·refine Nat.le_trans (two_mul (e := a + (b + d)) rfl h2 (two_mul (e := b + d) rfl g2 f2)) (Nat.pow_le_pow_right (by decide) (by omega))
 ·unfold xI at hq
  obtain ⟨i, hi, rfl⟩ := List.getElem_of_mem hq
  rw [List.getElem_zipWith]
  simp only [List.length_zipWith] at hi
  have c1 := (h3 _ (List.getElem_mem (show i < x.length by omega))).dvd (E := D * (E * F)) ⟨E * F, rfl⟩
  have c2 := ((g3 c (by simp)).mul (f3 _ (List.getElem_mem (show i < k.length by omega)))).dvd (E := D * (E * F)) ⟨D, Nat.mul_comm _ _⟩
  refine (c1.add c2).mono ?_
  rw [← Nat.pow_add, Nat.pow_succ]
  have e1 := Nat.pow_le_pow_right (show 0 < 2 by decide) (show a ≤ a + b + d by omega)
  have e2 := Nat.pow_le_pow_right (show 0 < 2 by decide) (show b + d ≤ a + b + d by omega)
  omega
attribute [local irreducible] yA semH semC qLen qNil qIad qSlc qIdx yZ yM xC appX appI slcX awpF yP xK xopF xX qval lval seqQ xN wT wP wB cnd arith IntKind.wrap
theorem step_along {cx ck : C} {cc : List C} {x k : List Rat} {c : Rat} {n : Nat} (hx : Ls (elQ 4194304) cx x) (hc : IQ 4194304 cc c) (hk : Ls (elQ 4194304) ck k) (hl : k.length = x.length) (hlen : x.length < 1048576) (hb : CpL n (xI x c k)) (hn : n + n < 134217728) : semC Tryz.prog n_step_along [.c cx, .agg cc, .c ck] (LsK (elQ 4194304) (xI x c k)) := by
 refine yC ok_step_along rfl (show HFVs [.c cx, .agg cc, .c ck] from ⟨hx.hf, hc.hf, hk.hf, trivial⟩) ?_
 obtain ⟨a0, a1, a2, a3, a4, a5, rfl⟩ := id hc.six
 refine go11 ?_
 refine uR (by rfl) (by rfl) ⟨by omega, by omega, by omega, by omega⟩ ?_
 refine go11 ?_
 simp only [qA, sS, ratC, qY, qX, List.set_cons_zero, List.set_cons_succ, List.nil_append, List.cons_append, List.append_nil, List.replicate_succ, List.replicate_zero, List.length_cons, List.length_nil, splice, List.take_succ_cons, List.take_zero, List.drop_succ_cons, List.drop_zero, List.take_nil, List.drop_nil, Nat.zero_add, Nat.reduceAdd, Nat.reduceMul, Int.reduceToNat, vB, List.getElem?_cons_succ, List.getElem?_cons_zero]
 have hal := vD (c := c) hl
 refine yV (fun w vs H => ∃ (i : Nat) (cells : List C), vs = [.c cx, .c ck, .c (.ptr 0 0), .c (.sl 1 0 x.length (some x.length) 6), i64 x.length, i64 i] ∧ H = [.live ⟨[a0, a1, a2, a3, a4, a5], vN, .rw⟩, .live ⟨cells, vN, .rw⟩] ∧ w = x.length - i ∧ i ≤ x.length ∧ Fill (elQ 4194304) zeroQ x.length cells ((xI x c k).take i)) (by rfl) ⟨0, _, rfl, rfl, rfl, by omega, .zero rfl⟩ ?_
 rintro w vs H ⟨i, cells, rfl, rfl, rfl, i1, i2⟩
 have hcl : cells.length = x.length * 6 := i2.len
 have htl : ((xI x c k).take i).length = i := by rw [List.length_take]; omega
 refine go11 ?_
 cases hi : yA Cm.lss (i : Int) (x.length : Int)
 case false =>
  simp [yA] at hi
  have ei : i = x.length := by omega
  subst ei
  rw [tV (by omega)] at i2
  have h4 := i2.done (by omega)
  have h5 := Ls.imm h4
  rw [hal] at h5
  refine go11 ?_
  exact ⟨_, .c (fz_sl (bx := ⟨cells, vN, .rw⟩) (ds := cells) (by rfl) (by simp) (by simp) (by rw [List.drop_zero, List.take_of_length_le (by simp only; omega)]) h4.hf), _, rfl, h5⟩
 simp [yA] at hi
 refine go11 ?_
 refine qT hx (i := i) hi (by omega) rfl (fun cs hcs => ?_)
 refine go11 ?_
 refine qT hk (i := i) (by omega) (by omega) rfl (fun ds hds => ?_)
 refine go11 ?_
 first | refine yE (tZ hc hds (by decide)) (fun u hu => ?_) | refine yB (tZ hc hds (by decide)) (fun u hu => ?_)
 obtain ⟨es, rfl, g1⟩ := hu
 refine go11 ?_
 first | refine yE (sR hcs g1 (by decide)) (fun u hu => ?_) | refine yB (sR hcs g1 (by decide)) (fun u hu => ?_)
 obtain ⟨gs, rfl, g2⟩ := hu
 rw [← along_get hl hi] at g2
 have g2 := g2.tightS (hb.bd (k := 4194304) (by omega) (List.getElem_mem (by omega)))
 obtain ⟨_, _, _, _, _, _, rfl⟩ := id g2.six
 refine go11 ?_
 rw [wF i (by omega)]
 have h4 := i2.put (cs := _) (a := _) (by rw [htl]; exact hi) g2
 rw [htl] at h4
 refine l_n (by rfl) (n' := x.length - (i + 1)) (by omega) ⟨i + 1, _, rfl, by rw [Nat.zero_add, Int.toNat_natCast]; rfl, rfl, by omega, ?_⟩
 rw [wW (show i < (xI x c k).length by omega)]
 exact h4
theorem slices_CloneH {k : Nat} {c : C} {l : List Rat} {H : Hp} {K : V → Hp → Prop} (hc : Ls (elQ k) c l) (hl : l.length < 1048576) (h : ∀ R' c', Out (elQ k) vN H.length (H ++ R') c' l → K (.c c') (H ++ R')) : semH Tryz.prog n_slices_Clone_sl_num_Q_num_Q [.c c] H K := by
 refine jY ok_slices_Clone_sl_num_Q_num_Q rfl ?_
 cases hc with
 | nil =>
  refine go11 ?_
  have := h [] .nilSl .nil
  rw [List.append_nil] at this
  exact this
 | @imm ds l h' =>
  refine go2 ?_
  refine app_lsS (F := H) (R := [.live ⟨[], vN, .rw⟩]) (c := .sl H.length 0 0 (some 0) 6) (out := []) (E := elQ k) rfl (.sl (cells := []) (ds := []) (Nat.le_refl _) (yK _ _) rfl rfl .nil) (by rfl) (by rfl) (.imm h') rfl (by simp; omega) (fun R' c' q => ?_)
  refine go2 ?_
  exact h R' c' q
theorem step_rate {cf cx : C} {ch ct : List C} {f : List Pl} {x : List Rat} {h t : Rat} {n : Nat} (hc : Ls elM cf f) (hf : SysOk (x.length + 1) f) (hh : IQ 4194304 ch h) (hx : Ls (elQ 4194304) cx x) (ht : IQ 4194304 ct t) (hl : x.length < 1048575) (hb : CpL n (x ++ [t])) (hn : 2446 + 24 * n < 134217728) : semC Tryz.prog n_step_system_rate [.agg (cf :: ch), .c cx, .agg ct] (LsK (elQ 4194304) (jT f (x ++ [t]))) := by
 refine yC ok_step_system_rate rfl (show HFVs [.agg (cf :: ch), .c cx, .agg ct] from ⟨⟨hc.hf, hh.hf⟩, hx.hf, ht.hf, trivial⟩) ?_
 obtain ⟨a0, a1, a2, a3, a4, a5, rfl⟩ := id hh.six
 obtain ⟨b0, b1, b2, b3, b4, b5, rfl⟩ := id ht.six
 refine go12 ?_
 refine slices_CloneH hx (by omega) (fun R c q => ⟨keep_low5 (F := [.live ⟨[cf, a0, a1, a2, a3, a4, a5], tL, .rw⟩, .live ⟨[b0, b1, b2, b3, b4, b5], vN, .rw⟩]) (by rfl), ?_⟩)
 refine go12 ?_
 refine app_imm (bytes := 80) (F := [.live ⟨[cf, a0, a1, a2, a3, a4, a5], tL, .rw⟩, .live ⟨[b0, b1, b2, b3, b4, b5], vN, .rw⟩]) (R := R) (a := t) rfl q (by rfl) (by rfl) rfl ht (by omega) (fun R2 o2 q2 => ?_)
 refine ⟨keep_low4 (F := [.live ⟨[cf, a0, a1, a2, a3, a4, a5], tL, .rw⟩, .live ⟨[b0, b1, b2, b3, b4, b5], vN, .rw⟩]) (by rfl), ?_⟩
 refine go12 ?_
 obtain ⟨bs, d, f1, l1⟩ := q2.closeS
 refine xA bs (.cons (.c (.hf hc.hf)) (.cons (.c f1) .nil)) (step_At hc (by rw [List.length_append]; exact hf) l1 hb hn) (fun u hu => ?_)
 obtain ⟨c3, rfl, h3⟩ := hu
 refine go12 ?_
 exact LsK.fz h3
end Go.Proofs.YtokckcnfojjpjaaGreat

set_option linter.unusedVariables false
set_option linter.unusedSimpArgs false
namespace Go.Proofs.YtokckcnfojjpjaaGreat
open Go.RowKit
set_option maxRecDepth 20000
def flQ (q : Rat) : Int := (rp q).1 / (rp q).2
noncomputable def bQ (q : Rat) (g : Int) : Int := bif dec ((1 : Rat) / 2 < q * g - flQ (q * g) ∨ (q * g - flQ (q * g) = (1 : Rat) / 2 ∧ flQ (q * g) % 2 = 1)) then flQ (q * g) + 1 else flQ (q * g)
noncomputable def gG (q : Rat) (g : Int) : Rat := (bQ q g : Rat) / (g : Rat)
noncomputable def rdV (g : Int) (q : Rat) : Rat := bif dec (0 < g) then gG q g else q
theorem and_u32 {n : Nat} (h : n < 4294967296) : arith .and .u32 (n : Int) 1 = ((n % 2 : Nat) : Int) := by
 show IntKind.u32.wrap (((BitVec.ofInt 32 (n : Int) &&& BitVec.ofInt 32 1).toNat : Nat) : Int) = _
 rw [yY]
 have e : (BitVec.ofInt 32 (n : Int) &&& BitVec.ofInt 32 1).toNat = n % 2 := by
  rw [BitVec.toNat_and]
  have e1 : (BitVec.ofInt 32 (n : Int)).toNat = n := by
   rw [BitVec.toNat_ofInt]
   omega
  rw [e1, show (BitVec.ofInt 32 1).toNat = 1 by decide, Nat.and_one_is_mod]
 rw [e]
 omega
theorem and_i64 {v : Int} : arith .and .i64 v 1 = v % 2 := by
 show IntKind.i64.wrap (((BitVec.ofInt 64 v &&& BitVec.ofInt 64 1).toNat : Nat) : Int) = _
 have e : (BitVec.ofInt 64 v &&& BitVec.ofInt 64 1).toNat = (v % 2).toNat := by
  rw [BitVec.toNat_and, show (BitVec.ofInt 64 1).toNat = 1 by decide, Nat.and_one_is_mod, BitVec.toNat_ofInt]
  omega
 rw [e, yF (by omega) (by omega)]
 omega
theorem val_odd {l : List Nat} (h : 0 < l.length) : val l % 2 = l[0] % 2 := by
 cases l with
 | nil => cases h
 | cons a l =>
  simp only [List.getElem_cons_zero, val]
  omega
theorem amt_odd (neg : Bool) (n : Nat) : (amt neg n % 2 = 1) ↔ n % 2 = 1 := by
 cases neg <;> simp only [amt, cond_false, cond_true] <;> omega
theorem fl_bd {k : Nat} {q : Rat} (h : Bd k (rp q)) : Sz k (flQ q) := by
 unfold flQ
 have h1 := h.n
 have h2 := h.pos
 unfold Sz at *
 exact Nat.lt_of_le_of_lt (ediv_le h2) h1
attribute [local irreducible] yA semH semC qLen qNil qIad qSlc qIdx yZ yM xC appX appI slcX awpF yP xK xopF xX qval lval seqQ xN wT wP wB cnd arith IntKind.wrap
theorem tQ {a b : Int} (h1 : a.natAbs < 4294967296) (h2 : b.natAbs < 4294967296) (h0 : b ≠ 0) : semC Tryz.prog n_num_Frac [i64 a, i64 b] (QV 1 ((a : Rat) / (b : Rat))) := by
 refine yC ok_num_Frac rfl (show HFVs [i64 a, i64 b] from ⟨trivial, trivial, trivial⟩) ?_
 have s1 : Sz 1 a := by unfold Sz; simpa using h1
 have s2 : Sz 1 b := by unfold Sz; simpa using h2
 refine go11 ?_
 first | refine yE (sY a (by omega) (by omega)) (fun u hu => ?_) | refine yB (sY a (by omega) (by omega)) (fun u hu => ?_)
 obtain ⟨es, rfl, g1⟩ := hu
 obtain ⟨_, _, _, rfl⟩ := g1.three
 refine go11 ?_
 first | refine yE (sY b (by omega) (by omega)) (fun u hu => ?_) | refine yB (sY b (by omega) (by omega)) (fun u hu => ?_)
 obtain ⟨fs, rfl, g2⟩ := hu
 obtain ⟨_, _, _, rfl⟩ := g2.three
 refine go11 ?_
 refine yB (vK (fun u hu => sC.rat hu h0 (Rat.divInt_eq_div a b) s1 s2) (pA (Sz.cl (n := 1) (by decide)) (quoOk (by decide)) g1 g2 s1 s2 h0)) (fun u hu => ?_)
 obtain ⟨gs, rfl, g3⟩ := hu
 obtain ⟨_, _, _, _, _, _, rfl⟩ := id g3.six
 refine go11 ?_
 exact QV.fz g3
theorem num_Z_Odd {cs : List C} {x : Int} (hx : IsZ cs x) : semC Tryz.prog n_num_Z_Odd [.agg cs] (uX (x % 2 = 1)) := by
 refine yC ok_num_Z_Odd rfl (show HFVs [.agg cs] from ⟨hx.hf, trivial⟩) ?_
 rcases hx.look with ⟨rfl, x1, x2⟩ | ⟨lx, nx, rfl, xn, xv, xe⟩
 ·refine go11 ?_
  rw [and_i64]
  cases hq : yA Cm.eql (x % 2) 1
  ·simp [yA] at hq
   exact ⟨_, .c (.hf trivial), false, rfl, ⟨fun h => (by cases h), fun h => absurd h hq⟩⟩
  ·simp [yA] at hq
   exact ⟨_, .c (.hf trivial), true, rfl, ⟨fun _ => hq, fun _ => rfl⟩⟩
 ·have hl : 0 < lx.length := by
   rcases Nat.eq_zero_or_pos lx.length with h | h
   ·have := List.eq_nil_of_length_eq_zero h
    subst this
    simp [val] at xv
   ·exact h
  have hw : Wd (.imm lx.length (lx.map W)) lx := .imm lx
  have ha : at0 lx 0 = lx[0] := by simp [at0, hl]
  have hlt : at0 lx 0 < 4294967296 := by rw [ha]; exact xn.1 _ (List.getElem_mem hl)
  have ho : (x % 2 = 1) ↔ at0 lx 0 % 2 = 1 := by rw [xe, amt_odd, val_odd hl, ha]
  refine go11 ?_
  rw [show ((0 : Int).toNat) = 0 from rfl, and_u32 hlt]
  cases hq : yA Cm.eql ((at0 lx 0 % 2 : Nat) : Int) 1
  ·simp [yA] at hq
   refine go11 ?_
   exact ⟨_, .c (.hf trivial), false, rfl, ⟨fun h => (by cases h), fun h => absurd (ho.1 h) (by omega)⟩⟩
  ·simp [yA] at hq
   refine go11 ?_
   exact ⟨_, .c (.hf trivial), true, rfl, ⟨fun _ => ho.2 (by omega), fun _ => rfl⟩⟩
theorem num_Q_Round {k : Nat} {cs : List C} {q : Rat} {g : Int} (hx : IQ k cs q) (hg : 0 < g) (hg2 : g < 4294967296) (hk : 3 * k + 8 ≤ 134217728) : semC Tryz.prog n_num_Q_Round [.agg cs, i64 g] (QV (k + 3) (gG q g)) := by
 refine yC ok_num_Q_Round rfl (show HFVs [.agg cs, i64 g] from ⟨hx.hf, trivial, trivial⟩) ?_
 obtain ⟨a0, a1, a2, a3, a4, a5, rfl⟩ := id hx.six
 refine go11 ?_
 first | refine yE (vP (g := g) (by omega)) (fun u hu => ?_) | refine yB (vP (g := g) (by omega)) (fun u hu => ?_)
 obtain ⟨es, rfl, g1⟩ := hu
 refine go11 ?_
 first | refine yE (tZ hx g1 (by omega)) (fun u hu => ?_) | refine yB (tZ hx g1 (by omega)) (fun u hu => ?_)
 obtain ⟨fs, rfl, g2⟩ := hu
 have e : (q * ((g : Int) : Rat)) = q * (g : Rat) := rfl
 obtain ⟨f0, f1, f2, f3, f4, f5, rfl⟩ := id g2.six
 refine go11 ?_
 simp only [qA, sS, ratC, qY, qX, List.set_cons_zero, List.set_cons_succ, List.nil_append, List.cons_append, List.append_nil, List.replicate_succ, List.replicate_zero, List.length_cons, List.length_nil, splice, List.take_succ_cons, List.take_zero, List.drop_succ_cons, List.drop_zero, List.take_nil, List.drop_nil, Nat.zero_add, Nat.reduceAdd, Nat.reduceMul, Int.reduceToNat, vB, List.getElem?_cons_succ, List.getElem?_cons_zero]
 first | refine yE (num_Q_Floor (Sz.cl (n := k + 1) (by omega)) (quoOk (by omega)) g2.is g2.bd.n g2.bd.d g2.bd.pos) (fun u hu => ?_) | refine yB (num_Q_Floor (Sz.cl (n := k + 1) (by omega)) (quoOk (by omega)) g2.is g2.bd.n g2.bd.d g2.bd.pos) (fun u hu => ?_)
 obtain ⟨ks, rfl, g3⟩ := hu
 obtain ⟨k0, k1, k2, rfl⟩ := g3.three
 have sk : Sz (k + 1) (flQ (q * g)) := fl_bd g2.bd
 refine go11 ?_
 simp only [qA, sS, ratC, qY, qX, List.set_cons_zero, List.set_cons_succ, List.nil_append, List.cons_append, List.append_nil, List.replicate_succ, List.replicate_zero, List.length_cons, List.length_nil, splice, List.take_succ_cons, List.take_zero, List.drop_succ_cons, List.drop_zero, List.take_nil, List.drop_nil, Nat.zero_add, Nat.reduceAdd, Nat.reduceMul, Int.reduceToNat, vB, List.getElem?_cons_succ, List.getElem?_cons_zero]
 first | refine yE (sY 1 (by decide) (by decide)) (fun u hu => ?_) | refine yB (sY 1 (by decide) (by decide)) (fun u hu => ?_)
 obtain ⟨os, rfl, go⟩ := hu
 obtain ⟨o0, o1, o2, rfl⟩ := go.three
 have hI : IQ (k + 1) [k0, k1, k2, o0, o1, o2] ((flQ (q * g) : Int) : Rat) := ⟨by rw [rp_int]; exact .mk (p := (flQ (q * g), 1)) g3 go, by rw [rp_int]; exact ⟨sk, (Sz.one (n := 0)).up (by omega), by simp⟩⟩
 refine go11 ?_
 first | refine yE (q_Sub2 g2 hI (by omega)) (fun u hu => ?_) | refine yB (q_Sub2 g2 hI (by omega)) (fun u hu => ?_)
 obtain ⟨ds, rfl, g4⟩ := hu
 refine go11 ?_
 first | refine yE (tQ (a := 1) (b := 2) (by decide) (by decide) (by decide)) (fun u hu => ?_) | refine yB (tQ (a := 1) (b := 2) (by decide) (by decide) (by decide)) (fun u hu => ?_)
 obtain ⟨hs, rfl, g5⟩ := hu
 refine go11 ?_
 first | refine yE (q_Cmp2 g4 g5 (by omega)) (fun u hu => ?_) | refine yB (q_Cmp2 g4 g5 (by omega)) (fun u hu => ?_)
 obtain rfl := hu
 have e12 : ((1 : Int) : Rat) / ((2 : Int) : Rat) = (1 : Rat) / 2 := by simp
 refine go11 ?_
 rw [cq_gtr, e12]
 have sg : Sz (k + 3) g := (show Sz 1 g by unfold Sz; simp; omega).up (by omega)
 cases c1 : dec ((1 : Rat) / 2 < q * g - flQ (q * g))
 case true =>
  have c1 := yG.1 c1
  have hr : bQ q g = flQ (q * g) + 1 := by
   unfold bQ
   rw [yG.2 (by first | exact .inl c1 | exact .inr ⟨c2, hz⟩)]
   rfl
  refine go11 ?_
  first | refine yE (sY 1 (by decide) (by decide)) (fun u hu => ?_) | refine yB (sY 1 (by decide) (by decide)) (fun u hu => ?_)
  obtain ⟨us, rfl, gu⟩ := hu
  obtain ⟨_, _, _, rfl⟩ := gu.three
  refine go11 ?_
  first | refine yE (pH (n := k + 1) g3 gu sk ((Sz.one (n := 0)).up (by omega)) (by omega)) (fun u hu => ?_) | refine yB (pH (n := k + 1) g3 gu sk ((Sz.one (n := 0)).up (by omega)) (by omega)) (fun u hu => ?_)
  obtain ⟨ws, rfl, gw⟩ := hu
  obtain ⟨_, _, _, rfl⟩ := gw.three
  have sN : Sz (k + 3) (flQ (q * g) + 1) := sk.add2 ((Sz.one (n := 0)).up (show 1 ≤ k + 1 by omega)) (by omega)
  refine go11 ?_
  first | refine yE (sY g (by omega) (by omega)) (fun u hu => ?_) | refine yB (sY g (by omega) (by omega)) (fun u hu => ?_)
  obtain ⟨ps, rfl, g7⟩ := hu
  refine go11 ?_
  refine yB (vK (fun u hu => sC.rat hu (Int.ne_of_gt hg) (Rat.divInt_eq_div _ _) sN sg) (pA (Sz.cl (n := k + 3) (by omega)) (quoOk (by omega)) gw g7 sN sg (Int.ne_of_gt hg))) (fun u hu => ?_)
  obtain ⟨gs, rfl, g8⟩ := hu
  obtain ⟨_, _, _, _, _, _, rfl⟩ := id g8.six
  refine go11 ?_
  rw [show gG q g = ((flQ (q * g) + 1 : Int) : Rat) / ((g : Int) : Rat) by unfold gG; rw [hr]]
  exact QV.fz g8
 have c1 := yI.1 c1
 refine go11 ?_
 rw [cq_eql]
 cases c2 : dec (q * g - flQ (q * g) = (1 : Rat) / 2)
 case false =>
  have c2 := yI.1 c2
  have hr : bQ q g = flQ (q * g) := by
   unfold bQ
   rw [yI.2 (by rintro (h | ⟨h, _⟩) <;> contradiction)]
   rfl
  have sN : Sz (k + 3) (flQ (q * g)) := sk.up (by omega)
  refine go11 ?_
  first | refine yE (sY g (by omega) (by omega)) (fun u hu => ?_) | refine yB (sY g (by omega) (by omega)) (fun u hu => ?_)
  obtain ⟨ps, rfl, g7⟩ := hu
  refine go11 ?_
  refine yB (vK (fun u hu => sC.rat hu (Int.ne_of_gt hg) (Rat.divInt_eq_div _ _) sN sg) (pA (Sz.cl (n := k + 3) (by omega)) (quoOk (by omega)) g3 g7 sN sg (Int.ne_of_gt hg))) (fun u hu => ?_)
  obtain ⟨gs, rfl, g8⟩ := hu
  obtain ⟨_, _, _, _, _, _, rfl⟩ := id g8.six
  refine go11 ?_
  rw [show gG q g = ((flQ (q * g) : Int) : Rat) / ((g : Int) : Rat) by unfold gG; rw [hr]]
  exact QV.fz g8
 have c2 := yG.1 c2
 refine go11 ?_
 first | refine yE (num_Z_Odd g3) (fun u hu => ?_) | refine yB (num_Z_Odd g3) (fun u hu => ?_)
 obtain ⟨z, rfl, hz⟩ := hu
 cases z
 case false =>
  have hr : bQ q g = flQ (q * g) := by
   unfold bQ
   rw [yI.2 (by
    rintro (h | ⟨_, h⟩)
    ·exact c1 h
    ·cases hz.2 h)]
   rfl
  have sN : Sz (k + 3) (flQ (q * g)) := sk.up (by omega)
  refine go11 ?_
  first | refine yE (sY g (by omega) (by omega)) (fun u hu => ?_) | refine yB (sY g (by omega) (by omega)) (fun u hu => ?_)
  obtain ⟨ps, rfl, g7⟩ := hu
  refine go11 ?_
  refine yB (vK (fun u hu => sC.rat hu (Int.ne_of_gt hg) (Rat.divInt_eq_div _ _) sN sg) (pA (Sz.cl (n := k + 3) (by omega)) (quoOk (by omega)) g3 g7 sN sg (Int.ne_of_gt hg))) (fun u hu => ?_)
  obtain ⟨gs, rfl, g8⟩ := hu
  obtain ⟨_, _, _, _, _, _, rfl⟩ := id g8.six
  refine go11 ?_
  rw [show gG q g = ((flQ (q * g) : Int) : Rat) / ((g : Int) : Rat) by unfold gG; rw [hr]]
  exact QV.fz g8
 have hz := hz.1 rfl
 have hr : bQ q g = flQ (q * g) + 1 := by
  unfold bQ
  rw [yG.2 (by first | exact .inl c1 | exact .inr ⟨c2, hz⟩)]
  rfl
 refine go11 ?_
 first | refine yE (sY 1 (by decide) (by decide)) (fun u hu => ?_) | refine yB (sY 1 (by decide) (by decide)) (fun u hu => ?_)
 obtain ⟨us, rfl, gu⟩ := hu
 obtain ⟨_, _, _, rfl⟩ := gu.three
 refine go11 ?_
 first | refine yE (pH (n := k + 1) g3 gu sk ((Sz.one (n := 0)).up (by omega)) (by omega)) (fun u hu => ?_) | refine yB (pH (n := k + 1) g3 gu sk ((Sz.one (n := 0)).up (by omega)) (by omega)) (fun u hu => ?_)
 obtain ⟨ws, rfl, gw⟩ := hu
 obtain ⟨_, _, _, rfl⟩ := gw.three
 have sN : Sz (k + 3) (flQ (q * g) + 1) := sk.add2 ((Sz.one (n := 0)).up (show 1 ≤ k + 1 by omega)) (by omega)
 refine go11 ?_
 first | refine yE (sY g (by omega) (by omega)) (fun u hu => ?_) | refine yB (sY g (by omega) (by omega)) (fun u hu => ?_)
 obtain ⟨ps, rfl, g7⟩ := hu
 refine go11 ?_
 refine yB (vK (fun u hu => sC.rat hu (Int.ne_of_gt hg) (Rat.divInt_eq_div _ _) sN sg) (pA (Sz.cl (n := k + 3) (by omega)) (quoOk (by omega)) gw g7 sN sg (Int.ne_of_gt hg))) (fun u hu => ?_)
 obtain ⟨gs, rfl, g8⟩ := hu
 obtain ⟨_, _, _, _, _, _, rfl⟩ := id g8.six
 refine go11 ?_
 rw [show gG q g = ((flQ (q * g) + 1 : Int) : Rat) / ((g : Int) : Rat) by unfold gG; rw [hr]]
 exact QV.fz g8
end Go.Proofs.YtokckcnfojjpjaaGreat

set_option linter.unusedVariables false
set_option linter.unusedSimpArgs false
namespace Go.Proofs.YtokckcnfojjpjaaGreat
open Go.RowKit
set_option maxRecDepth 20000
theorem fit_ratS {q : Rat} (h : fitR (rp q) = true) : vI (rp q).1 (rp q).2 := by
 unfold fitR at h
 have h1 := yG.1 h
 have h2 := rp_good q
 exact ⟨by have := h2.1; omega, h1.2.2, h1.1, h1.2.1, h2.2⟩
def gM (m : List Rat) : Prop := ∀ q ∈ m, fitR (rp q) = true
def RdK (m : List Rat) (u : V) : Prop := (gM m ∧ ∃ c, u = .tup [.c c, .c (.bool true)] ∧ Ls (elQ 2) c m) ∨ (¬ gM m ∧ u = .tup [.c .nilSl, .c (.bool false)])
theorem rd_pos {g : Int} {q : Rat} (h : 0 < g) : rdV g q = gG q g := by
 unfold rdV
 rw [yG.2 h]
 rfl
theorem rd_none {g : Int} {q : Rat} (h : ¬ 0 < g) : rdV g q = q := by
 unfold rdV
 rw [yI.2 h]
 rfl
attribute [local irreducible] yA semH semC qLen qNil qIad qSlc qIdx yZ yM xC appX appI slcX awpF yP xK xopF xX qval lval seqQ xN wT wP wB cnd arith IntKind.wrap
theorem qL {cx : C} {x : List Rat} {g : Int} (hx : Ls (elQ 4194304) cx x) (hl : x.length < 1048576) (hg : g < 4294967296) : semC Tryz.prog n_step_rounded [.c cx, i64 g] (RdK (x.map (rdV g))) := by
 refine yC ok_step_rounded rfl (show HFVs [.c cx, i64 g] from ⟨hx.hf, trivial, trivial⟩) ?_
 refine go11 ?_
 refine uR (by rfl) (by rfl) ⟨by omega, by omega, by omega, by omega⟩ ?_
 refine go11 ?_
 simp only [qA, sS, ratC, qY, qX, List.set_cons_zero, List.set_cons_succ, List.nil_append, List.cons_append, List.append_nil, List.replicate_succ, List.replicate_zero, List.length_cons, List.length_nil, splice, List.take_succ_cons, List.take_zero, List.drop_succ_cons, List.drop_zero, List.take_nil, List.drop_nil, Nat.zero_add, Nat.reduceAdd, Nat.reduceMul, Int.reduceToNat, vB, List.getElem?_cons_succ, List.getElem?_cons_zero]
 refine yV (fun w vs H => ∃ (i : Nat) (cells : List C) (R : Hp), vs = [.c cx, i64 g, .c (.sl 0 0 x.length (some x.length) 6), i64 x.length, i64 i] ∧ H = .live ⟨cells, vN, .rw⟩ :: R ∧ w = x.length - i ∧ i ≤ x.length ∧ Fill (elQ 2) zeroQ x.length cells ((x.map (rdV g)).take i) ∧ ∀ q ∈ (x.map (rdV g)).take i, fitR (rp q) = true) (by rfl) ⟨0, _, [], rfl, rfl, rfl, by omega, .zero rfl, by simp⟩ ?_
 rintro w vs H ⟨i, cells, R, rfl, rfl, rfl, i1, i2, i3⟩
 have hcl : cells.length = x.length * 6 := i2.len
 have hfl : (x.map (rdV g)).length = x.length := by simp
 have htl : ((x.map (rdV g)).take i).length = i := by rw [List.length_take]; omega
 refine go11 ?_
 cases hi : yA Cm.lss (i : Int) (x.length : Int)
 case false =>
  simp [yA] at hi
  have ei : i = x.length := by omega
  subst ei
  rw [tV (by omega)] at i2 i3
  have h4 := i2.done (by omega)
  have h5 := Ls.imm h4
  rw [hfl] at h5
  refine go11 ?_
  exact ⟨_, .tup (.cons (.c (fz_sl (bx := ⟨cells, vN, .rw⟩) (ds := cells) (by rfl) (by simp) (by simp) (by rw [List.drop_zero, List.take_of_length_le (by simp only; omega)]) h4.hf)) (.cons (.c (.hf trivial)) .nil)), .inl ⟨i3, _, rfl, h5⟩⟩
 simp [yA] at hi
 refine go11 ?_
 refine qT hx (i := i) hi (by omega) rfl (fun cs hcs => ?_)
 obtain ⟨e0, e1, e2, e3, e4, e5, rfl⟩ := id (show IQ 4194304 _ _ from hcs).six
 refine go11 ?_
 rw [show 0 + (i : Int).toNat * 6 = i * 6 by omega]
 cases hg0 : yA Cm.gtr g 0
 case false =>
  simp [yA] at hg0
  have g1 : IQ 4194307 [e0, e1, e2, e3, e4, e5] (rdV g x[i]) := by
   rw [rd_none (by omega)]
   exact (show IQ 4194304 _ _ from hcs).up (by decide)
  refine go11 ?_
  refine ld_splice (cells := cells) (off := i * 6) (cs := [e0, e1, e2, e3, e4, e5]) (by rfl) (by rfl) (by omega) (by omega) ?_
  refine go11 ?_
  first | refine yE (gA g1.is (pM _)) (fun u hu => ?_) | refine yB (gA g1.is (pM _)) (fun u hu => ?_)
  obtain rfl := hu
  unfold outV
  cases hf : fitR (rp (rdV g x[i]))
  case false =>
   have hno : ¬ gM (x.map (rdV g)) := fun h => by
    have := h (rdV g x[i]) (List.mem_map_of_mem (vJ hi))
    rw [hf] at this
    cases this
   refine go11 ?_
   exact ⟨_, .tup (.cons (.c (.hf trivial)) (.cons (.c (.hf trivial)) .nil)), .inr ⟨hno, rfl⟩⟩
  refine go11 ?_
  rw [wF i (by omega)]
  have g2 := g1.tightS (fit_ratS hf).bd
  have h4 := i2.put (cs := [e0, e1, e2, e3, e4, e5]) (a := rdV g x[i]) (by rw [htl]; exact hi) g2
  rw [htl] at h4
  refine l_n (by rfl) (n' := x.length - (i + 1)) (by omega) ⟨i + 1, _, _, rfl, rfl, rfl, by omega, ?_, fun q hq => ?_⟩
  ·rw [wW (show i < (x.map (rdV g)).length by simpa using hi), List.getElem_map]
   exact h4
  ·rw [wW (show i < (x.map (rdV g)).length by simpa using hi), List.getElem_map] at hq
   rcases List.mem_append.1 hq with hq | hq
   ·exact i3 q hq
   ·simp at hq
    subst hq
    exact hf
 simp [yA] at hg0
 refine go11 ?_
 refine qT hx (i := i) hi (by omega) rfl (fun cs hcs => ?_)
 refine go11 ?_
 first | refine yE (num_Q_Round (show IQ 4194304 _ _ from hcs) hg0 hg (by decide)) (fun u hu => ?_) | refine yB (num_Q_Round (show IQ 4194304 _ _ from hcs) hg0 hg (by decide)) (fun u hu => ?_)
 obtain ⟨es, rfl, g1⟩ := hu
 rw [← rd_pos hg0] at g1
 obtain ⟨f0, f1, f2, f3, f4, f5, rfl⟩ := id g1.six
 refine go11 ?_
 refine yR (cs := splice cells (i * 6) [e0, e1, e2, e3, e4, e5]) (by rfl) (by rfl) (by rfl) (by rw [splice_len (by simp only [List.length_cons, List.length_nil]; omega)]; omega) ?_
 rw [show 0 + (i : Int).toNat * 6 = i * 6 by omega, splice_twice (by omega) (by rfl)]
 clear hcs
 refine go11 ?_
 refine ld_splice (cells := cells) (off := i * 6) (cs := [f0, f1, f2, f3, f4, f5]) (by rfl) (by rfl) (by omega) (by omega) ?_
 refine go11 ?_
 first | refine yE (gA g1.is (pM _)) (fun u hu => ?_) | refine yB (gA g1.is (pM _)) (fun u hu => ?_)
 obtain rfl := hu
 unfold outV
 cases hf : fitR (rp (rdV g x[i]))
 case false =>
  have hno : ¬ gM (x.map (rdV g)) := fun h => by
   have := h (rdV g x[i]) (List.mem_map_of_mem (vJ hi))
   rw [hf] at this
   cases this
  refine go11 ?_
  exact ⟨_, .tup (.cons (.c (.hf trivial)) (.cons (.c (.hf trivial)) .nil)), .inr ⟨hno, rfl⟩⟩
 refine go11 ?_
 rw [wF i (by omega)]
 have g2 := g1.tightS (fit_ratS hf).bd
 have h4 := i2.put (cs := [f0, f1, f2, f3, f4, f5]) (a := rdV g x[i]) (by rw [htl]; exact hi) g2
 rw [htl] at h4
 refine l_n (by rfl) (n' := x.length - (i + 1)) (by omega) ⟨i + 1, _, _, rfl, rfl, rfl, by omega, ?_, fun q hq => ?_⟩
 ·rw [wW (show i < (x.map (rdV g)).length by simpa using hi), List.getElem_map]
  exact h4
 ·rw [wW (show i < (x.map (rdV g)).length by simpa using hi), List.getElem_map] at hq
  rcases List.mem_append.1 hq with hq | hq
  ·exact i3 q hq
  ·simp at hq
   subst hq
   exact hf
end Go.Proofs.YtokckcnfojjpjaaGreat

set_option linter.unusedVariables false
set_option linter.unusedSimpArgs false
namespace Go.Proofs.YtokckcnfojjpjaaGreat
open Go.RowKit
set_option maxRecDepth 20000
noncomputable def valS (f : List Pl) : Int := sysE 1 ((f.length : Int) + 1) true f
def ValK (f : List Pl) (v : V) : Prop := ∃ e : Int, v = i64 e ∧ (jQ f → e = valS f) ∧ (e = 0 → jQ f) ∧ 0 ≤ e ∧ e ≤ 3
def AffS (f : List Pl) : Prop := ∀ p ∈ f, ∀ t ∈ p, sumP (t.2.take (t.2.length - 1)) ≤ 1
structure RunOk (m : Int) (f : List Pl) (t : R2) (x : List R2) (h : R2) (g n : Int) : Prop where
 sys : valS f = 0
 ht : vI t.1 t.2
 hx : pY x
 hh : vI h.1 h.2
 m0 : 0 ≤ m
 m6 : m ≤ 6
 hp : 0 < h.1
 g0 : 0 ≤ g
 gm : g ≤ 1000000
 n0 : 0 ≤ n
 nm : n ≤ 60
 len : x.length = f.length
 aff : m = 4 ∨ m = 5 → AffS f
theorem val_sys {f : List Pl} (h : valS f = 0) : SysOk (f.length + 1) f ∧ 1 ≤ f.length := by
 obtain ⟨h1, h2, h3⟩ := sys_zero h
 refine ⟨⟨by omega, fun p hp => ⟨?_, fun t ht => ?_⟩⟩, by omega⟩
 ·exact Classical.byContradiction fun h => h2 ⟨p, hp, .inl (by omega)⟩
 ·have hb : ¬ BadT ((f.length : Int) + 1) t := fun h => by
   obtain ⟨j, hj, rfl⟩ := List.getElem_of_mem ht
   exact h3 ⟨p, hp, j, hj, .inl h⟩
  have hw : ¬ WideT true t := fun h => h2 ⟨p, hp, .inr ⟨t, ht, h⟩⟩
  refine ⟨?_, Classical.byContradiction fun h => hb (.inr (.inl h)), fun k hk => ?_, ?_⟩
  ·have : (t.2.length : Int) = (f.length : Int) + 1 := Classical.byContradiction fun h => hb (.inl h)
   omega
  ·exact Classical.byContradiction fun h => hb (.inr (.inr (.inr ⟨k, hk, by omega⟩)))
  ·exact Classical.byContradiction fun h => hw (.inl (by omega))
noncomputable def qV (m : Int) (f : List Pl) (t : R2) (x : List R2) (h : R2) (g n : Int) : Int :=
 bif dec (valS f = 0) then bif dec (vI t.1 t.2 ∧ pY x ∧ vI h.1 h.2) then bif dec (m < 0 ∨ 6 < m ∨ h.1 ≤ 0 ∨ g < 0 ∨ 1000000 < g ∨ n < 0 ∨ 60 < n) then 1 else
  bif dec (x.length = f.length) then bif dec ((m = 4 ∨ m = 5) ∧ ¬ AffS f) then 6 else 0 else 8 else 1 else valS f
section
variable {m : Int} {f : List Pl} {t : R2} {x : List R2} {h : R2} {g n : Int}
theorem known_sys (h1 : valS f ≠ 0) : qV m f t x h g n = valS f := by
 unfold qV
 rw [yI.2 h1]
 rfl
theorem known_rat (h1 : valS f = 0) (h2 : ¬ (vI t.1 t.2 ∧ pY x ∧ vI h.1 h.2)) : qV m f t x h g n = 1 := by
 unfold qV
 rw [yG.2 h1, yI.2 h2]
 rfl
theorem jB (h1 : valS f = 0) (h3 : m < 0 ∨ 6 < m ∨ h.1 ≤ 0 ∨ g < 0 ∨ 1000000 < g ∨ n < 0 ∨ 60 < n) : qV m f t x h g n = 1 := by
 by_cases h2 : vI t.1 t.2 ∧ pY x ∧ vI h.1 h.2
 ·unfold qV
  rw [yG.2 h1, yG.2 h2, yG.2 h3]
  rfl
 ·exact known_rat h1 h2
theorem known_fit (h1 : valS f = 0) (h2 : vI t.1 t.2 ∧ pY x ∧ vI h.1 h.2) (h3 : ¬ (m < 0 ∨ 6 < m ∨ h.1 ≤ 0 ∨ g < 0 ∨ 1000000 < g ∨ n < 0 ∨ 60 < n)) (h4 : x.length ≠ f.length) : qV m f t x h g n = 8 := by
 unfold qV
 rw [yG.2 h1, yG.2 h2, yI.2 h3, yI.2 h4]
 rfl
theorem known_aff (h1 : valS f = 0) (h2 : vI t.1 t.2 ∧ pY x ∧ vI h.1 h.2) (h3 : ¬ (m < 0 ∨ 6 < m ∨ h.1 ≤ 0 ∨ g < 0 ∨ 1000000 < g ∨ n < 0 ∨ 60 < n)) (h4 : x.length = f.length) (h5 : (m = 4 ∨ m = 5) ∧ ¬ AffS f) : qV m f t x h g n = 6 := by
 unfold qV
 rw [yG.2 h1, yG.2 h2, yI.2 h3, yG.2 h4, yG.2 h5]
 rfl
theorem known_ok (h1 : valS f = 0) (h2 : vI t.1 t.2 ∧ pY x ∧ vI h.1 h.2) (h3 : ¬ (m < 0 ∨ 6 < m ∨ h.1 ≤ 0 ∨ g < 0 ∨ 1000000 < g ∨ n < 0 ∨ 60 < n)) (h4 : x.length = f.length) (h5 : ¬ ((m = 4 ∨ m = 5) ∧ ¬ AffS f)) : qV m f t x h g n = 0 ∧ RunOk m f t x h g n := by
 refine ⟨?_, h1, h2.1, h2.2.1, h2.2.2, by omega, by omega, by omega, by omega, by omega, by omega, by omega, h4, fun hm => Classical.byContradiction fun h => h5 ⟨hm, h⟩⟩
 unfold qV
 rw [yG.2 h1, yG.2 h2, yI.2 h3, yG.2 h4, yI.2 h5]
 rfl
end
def qK (m : Int) (f : List Pl) (t : R2) (x : List R2) (h : R2) (g n : Int) (v : V) : Prop := ∃ e : Int, v = i64 e ∧ (jQ f → e = qV m f t x h g n) ∧ (e = 0 → RunOk m f t x h g n)
theorem qK.of {m : Int} {f : List Pl} {t : R2} {x : List R2} {h : R2} {g n e : Int} {H : Hp} (h1 : jQ f → e = qV m f t x h g n) (h2 : e ≠ 0) : ∃ d, FzV H (i64 e) d ∧ qK m f t x h g n d := ⟨_, .c (.hf trivial), e, rfl, h1, fun h => absurd h h2⟩
theorem sumP_append : ∀ (l m : List Int), sumP (l ++ m) = sumP l + sumP m
 | [], m => by simp [sumP]
 | x :: l, m => by simp only [List.cons_append, sumP, sumP_append l m]; omega
theorem neq_decS (a b : Int) : yA Cm.neq a b = dec (a ≠ b) := rfl
attribute [local irreducible] yA semH semC qLen qNil qIad qSlc qIdx yZ yM xC appX appI slcX awpF yP xK xopF xX qval lval seqQ xN wT wP wB cnd arith IntKind.wrap
theorem step_Validate {c : C} {f : List Pl} (hc : Ls elM c f) (hf : f.length < tN) : semC Tryz.prog n_step_Validate [.c c] (ValK f) := by
 refine yC ok_step_Validate rfl (show HFVs [.c c] from ⟨hc.hf, trivial⟩) ?_
 have hw : f.length ≤ 3 → arith .add .i64 (f.length : Int) 1 = (f.length : Int) + 1 := fun h => by rw [yT]; exact yF (by omega) (by omega)
 refine go11 ?_
 generalize arith .add .i64 (f.length : Int) 1 = u at hw
 first | refine yE (step_Check 1 u true hc hf (fun h => by rw [hw h]; omega)) (fun u hu => ?_) | refine yB (step_Check 1 u true hc hf (fun h => by rw [hw h]; omega)) (fun u hu => ?_)
 obtain ⟨e, rfl, h1, h2, h3⟩ := hu
 refine go11 ?_
 refine ⟨_, .c (.hf trivial), e, rfl, fun hS => ?_, h2, h3⟩
 rw [h1 hS]
 unfold valS
 rcases Nat.lt_or_ge 3 f.length with h | h
 ·rw [bE (.inr h), bE (.inr h)]
 ·rw [hw h]
theorem jH {c : C} {f : List Pl} {m : Nat} (hc : Ls elM c f) (hf : SysOk m f) (hm : 1 ≤ m ∧ m ≤ 1024) : semC Tryz.prog n_step_isAffine [.c c] (uX (AffS f)) := by
 refine yC ok_step_isAffine rfl (show HFVs [.c c] from ⟨hc.hf, trivial⟩) ?_
 have hlen := hf.len
 refine go11 ?_
 refine yV (fun w vs H => ∃ (i : Nat), vs = [.c c, i64 f.length, i64 i] ∧ w = f.length - i ∧ i ≤ f.length ∧ ∀ p ∈ f.take i, ∀ t ∈ p, sumP (t.2.take (t.2.length - 1)) ≤ 1) (by rfl) ⟨0, rfl, rfl, by omega, by simp⟩ ?_
 rintro w vs H ⟨i, rfl, rfl, i1, i2⟩
 refine go11 ?_
 cases hi : yA Cm.lss (i : Int) (f.length : Int)
 case false =>
  simp [yA] at hi
  rw [tV (by omega)] at i2
  refine go11 ?_
  exact ⟨_, .c (.hf trivial), true, rfl, ⟨fun _ => i2, fun _ => rfl⟩⟩
 simp [yA] at hi
 refine go11 ?_
 refine qT hc (i := i) hi (by omega) rfl (fun cs hcs => ?_)
 obtain ⟨d, rfl, hd, hdl⟩ := hcs
 have hp := hf.poly f[i] (vJ hi)
 have hpl := hp.len
 refine go11 ?_
 refine yV (fun w vs H => ∃ (j : Nat), vs = [.c c, i64 f.length, i64 i, .c d, i64 f[i].length, i64 j] ∧ w = f[i].length - j ∧ j ≤ f[i].length ∧ ∀ t ∈ f[i].take j, sumP (t.2.take (t.2.length - 1)) ≤ 1) (by rfl) ⟨0, rfl, rfl, by omega, by simp⟩ ?_
 rintro w vs H ⟨j, rfl, rfl, j1, j2⟩
 refine go11 ?_
 cases hj : yA Cm.lss (j : Int) (f[i].length : Int)
 case false =>
  simp [yA] at hj
  rw [tV (by omega)] at j2
  refine go11 ?_
  rw [wF i (by omega)]
  refine l_n (by rfl) (n' := f.length - (i + 1)) (by omega) ⟨i + 1, rfl, rfl, by omega, fun p hp => ?_⟩
  rw [wW hi] at hp
  rcases List.mem_append.1 hp with hp | hp
  ·exact i2 p hp
  ·simp at hp
   subst hp
   exact j2
 simp [yA] at hj
 refine go11 ?_
 refine qT hd (i := j) hj (by omega) rfl (fun cs hcs => ?_)
 obtain ⟨e, rfl, he, hel⟩ := hcs
 have ht := hp.term f[i][j] (vJ hj)
 have hxl := ht.len
 refine go11 ?_
 rw [pW _ (by omega) (by omega)]
 refine slc_ls (l := f[i][j].2) (a := 0) (b := ((f[i][j].2.length - 1 : Nat) : Int)) (by rfl) he rfl (by rfl) (by rfl) (by omega) (by omega) (by omega) (fun a1 ha1 => ?_)
 rw [show (f[i][j].2.drop (0 : Int).toNat).take (((f[i][j].2.length - 1 : Nat) : Int).toNat - (0 : Int).toNat) = f[i][j].2.take (f[i][j].2.length - 1) by simp] at ha1
 obtain ⟨L, hL⟩ : ∃ L, L = f[i][j].2.take (f[i][j].2.length - 1) := ⟨_, rfl⟩
 rw [← hL] at ha1
 have hLl : L.length ≤ 1024 := by rw [hL, List.length_take]; omega
 have hLn : ∀ k ∈ L, 0 ≤ k := fun k hk => ht.nn k (List.mem_of_mem_take (by rw [← hL]; exact hk))
 have hLs : sumP L ≤ 12 := by rw [hL]; exact Int.le_trans (sumP_take _ _) ht.deg
 refine go11 ?_
 refine yV (fun w vs H => ∃ (k : Nat), vs = [i64 (sumP (L.take k)), .c c, i64 f.length, i64 i, .c d, i64 f[i].length, i64 j, .c a1, i64 L.length, i64 k] ∧ w = L.length - k ∧ k ≤ L.length) (by rfl) ⟨0, by simp [sumP, i64], rfl, by omega⟩ ?_
 rintro w vs H ⟨k, rfl, rfl, k1⟩
 refine go11 ?_
 cases hk : yA Cm.lss (k : Int) (L.length : Int)
 case false =>
  simp [yA] at hk
  rw [tV (by omega)]
  refine go11 ?_
  cases hg : yA Cm.gtr (sumP L) 1
  case true =>
   simp [yA] at hg
   refine go11 ?_
   refine ⟨_, .c (.hf trivial), false, rfl, ⟨fun h => (by cases h), fun h => ?_⟩⟩
   have := h f[i] (vJ hi) f[i][j] (vJ hj)
   rw [← hL] at this
   omega
  simp [yA] at hg
  refine go11 ?_
  rw [wF j (by omega)]
  refine l_n (by rfl) (n' := f[i].length - (j + 1)) (by omega) ⟨j + 1, rfl, rfl, by omega, fun t ht => ?_⟩
  rw [wW hj] at ht
  rcases List.mem_append.1 ht with ht | ht
  ·exact j2 t ht
  ·simp at ht
   subst ht
   rw [← hL]
   exact hg
 simp [yA] at hk
 have hn := hLn _ (vJ hk)
 have hs : arith .add .i64 (sumP (L.take k)) L[k] = sumP (L.take (k + 1)) := by
  have h1 := sumP_take L (k + 1)
  have h0 := sumP_nn (L.take k)
  rw [wW hk, sumP_append] at h1
  rw [wW hk, sumP_append, yT]
  have h2 : sumP [L[k]] = L[k] := by
   simp only [sumP]
   split <;> omega
  rw [h2] at h1 ⊢
  exact yF (by omega) (by omega)
 refine go11 ?_
 rw [hs, wF k (by omega)]
 exact l_n (by rfl) (n' := L.length - (k + 1)) (by omega) ⟨k + 1, rfl, rfl, by omega⟩
theorem step_known {cf cx : C} {f : List Pl} {x : List R2} (m : Int) (t h : R2) (g n : Int) (hc : Ls elM cf f) (hf : f.length < tN) (hx : Ls elP cx x) (hxl : x.length < tN) : semC Tryz.prog n_step_known [i64 m, .c cf, .agg (ratC t), .c cx, .agg (ratC h), i64 g, i64 n] (qK m f t x h g n) := by
 refine yC ok_step_known rfl (show HFVs [i64 m, .c cf, .agg (ratC t), .c cx, .agg (ratC h), i64 g, i64 n] from ⟨trivial, hc.hf, jK _, hx.hf, jK _, trivial, trivial, trivial⟩) ?_
 refine go11 ?_
 first | refine yE (step_Validate hc hf) (fun u hu => ?_) | refine yB (step_Validate hc hf) (fun u hu => ?_)
 obtain ⟨e, rfl, v1, v2, v3⟩ := hu
 refine go11 ?_
 rw [neq_decS]
 cases h1 : dec (e ≠ 0)
 case true =>
  have h1 := yG.1 h1
  refine go11 ?_
  exact qK.of (fun hS => by rw [v1 hS] at h1 ⊢; rw [known_sys h1]) h1
 have h1 : e = 0 := Classical.byContradiction (yI.1 h1)
 have hS := v2 h1
 have hv : valS f = 0 := by rw [← v1 hS, h1]
 obtain ⟨hsys, hf1⟩ := val_sys hv
 have hsl := hsys.len
 refine go11 ?_
 first | refine yE (qP t.1 t.2) (fun u hu => ?_) | refine yB (qP t.1 t.2) (fun u hu => ?_)
 obtain ⟨z1, rfl, k1⟩ := hu
 cases z1
 case false =>
  refine go11 ?_
  exact qK.of (fun _ => (known_rat hv (fun h => by cases k1.2 h.1)).symm) (by decide)
 refine go11 ?_
 first | refine yE (num_AllValidW hx hxl) (fun u hu => ?_) | refine yB (num_AllValidW hx hxl) (fun u hu => ?_)
 obtain ⟨z2, rfl, k2⟩ := hu
 cases z2
 case false =>
  refine go11 ?_
  exact qK.of (fun _ => (known_rat hv (fun h => by cases k2.2 h.2.1)).symm) (by decide)
 refine go11 ?_
 first | refine yE (qP h.1 h.2) (fun u hu => ?_) | refine yB (qP h.1 h.2) (fun u hu => ?_)
 obtain ⟨z3, rfl, k3⟩ := hu
 cases z3
 case false =>
  refine go11 ?_
  exact qK.of (fun _ => (known_rat hv (fun h => by cases k3.2 h.2.2)).symm) (by decide)
 have hr : vI t.1 t.2 ∧ pY x ∧ vI h.1 h.2 := ⟨k1.1 rfl, k2.1 rfl, k3.1 rfl⟩
 refine go11 ?_
 cases c1 : yA Cm.lss m 0
 case true =>
  simp [yA] at c1
  refine go11 ?_
  exact qK.of (fun _ => (jB hv (by omega)).symm) (by decide)
 simp [yA] at c1
 refine go11 ?_
 cases c2 : yA Cm.gtr m 6
 case true =>
  simp [yA] at c2
  refine go11 ?_
  exact qK.of (fun _ => (jB hv (by omega)).symm) (by decide)
 simp [yA] at c2
 refine go11 ?_
 cases c3 : yA Cm.leq h.1 0
 case true =>
  simp [yA] at c3
  refine go11 ?_
  exact qK.of (fun _ => (jB hv (by omega)).symm) (by decide)
 simp [yA] at c3
 refine go11 ?_
 cases c4 : yA Cm.lss g 0
 case true =>
  simp [yA] at c4
  refine go11 ?_
  exact qK.of (fun _ => (jB hv (by omega)).symm) (by decide)
 simp [yA] at c4
 refine go11 ?_
 cases c5 : yA Cm.gtr g 1000000
 case true =>
  simp [yA] at c5
  refine go11 ?_
  exact qK.of (fun _ => (jB hv (by omega)).symm) (by decide)
 simp [yA] at c5
 refine go11 ?_
 cases c6 : yA Cm.lss n 0
 case true =>
  simp [yA] at c6
  refine go11 ?_
  exact qK.of (fun _ => (jB hv (by omega)).symm) (by decide)
 simp [yA] at c6
 refine go11 ?_
 cases c7 : yA Cm.gtr n 60
 case true =>
  simp [yA] at c7
  refine go11 ?_
  exact qK.of (fun _ => (jB hv (by omega)).symm) (by decide)
 simp [yA] at c7
 have hno : ¬ (m < 0 ∨ 6 < m ∨ h.1 ≤ 0 ∨ g < 0 ∨ 1000000 < g ∨ n < 0 ∨ 60 < n) := by omega
 refine go11 ?_
 cases c8 : yA Cm.neq (x.length : Int) (f.length : Int)
 case true =>
  simp [yA] at c8
  refine go11 ?_
  exact qK.of (fun _ => (known_fit hv hr hno (by omega)).symm) (by decide)
 simp [yA] at c8
 refine go11 ?_
 cases c9 : yA Cm.eql m 4
 case true =>
  simp [yA] at c9
  refine go11 ?_
  first | refine yE (jH hc hsys (by omega)) (fun u hu => ?_) | refine yB (jH hc hsys (by omega)) (fun u hu => ?_)
  obtain ⟨za, rfl, ka⟩ := hu
  cases za
  case false =>
   refine go11 ?_
   exact qK.of (fun _ => (known_aff hv hr hno (by omega) ⟨by omega, fun h => by cases ka.2 h⟩).symm) (by decide)
  refine go11 ?_
  have hk := known_ok (x := x) hv hr hno (by omega) (fun h => h.2 (ka.1 rfl))
  exact ⟨_, .c (.hf trivial), 0, rfl, fun _ => hk.1.symm, fun _ => hk.2⟩
 simp [yA] at c9
 refine go11 ?_
 cases c10 : yA Cm.eql m 5
 case true =>
  simp [yA] at c10
  refine go11 ?_
  first | refine yE (jH hc hsys (by omega)) (fun u hu => ?_) | refine yB (jH hc hsys (by omega)) (fun u hu => ?_)
  obtain ⟨za, rfl, ka⟩ := hu
  cases za
  case false =>
   refine go11 ?_
   exact qK.of (fun _ => (known_aff hv hr hno (by omega) ⟨by omega, fun h => by cases ka.2 h⟩).symm) (by decide)
  refine go11 ?_
  have hk := known_ok (x := x) hv hr hno (by omega) (fun h => h.2 (ka.1 rfl))
  exact ⟨_, .c (.hf trivial), 0, rfl, fun _ => hk.1.symm, fun _ => hk.2⟩
 simp [yA] at c10
 refine go11 ?_
 have hk := known_ok (x := x) hv hr hno (by omega) (by omega)
 exact ⟨_, .c (.hf trivial), 0, rfl, fun _ => hk.1.symm, fun _ => hk.2⟩
end Go.Proofs.YtokckcnfojjpjaaGreat

set_option linter.unusedVariables false
set_option linter.unusedSimpArgs false
namespace Go.Proofs.YtokckcnfojjpjaaGreat
open Go.RowKit
set_option maxRecDepth 20000
theorem cp_add {a b : Nat} {p q : Rat} (h1 : CpL a [p]) (h2 : CpL b [q]) : CpL (a + b + 1) [p + q] := by
 obtain ⟨D, g1, g2, g3⟩ := h1.append h2
 have c1 := g3 p (by simp)
 have c2 := g3 q (by simp)
 refine ⟨D, g1, Nat.le_trans g2 (Nat.pow_le_pow_right (by decide) (by omega)), fun r hr => ?_⟩
 simp at hr
 subst hr
 refine (c1.add c2).mono ?_
 rw [Nat.pow_succ]
 omega
theorem jU {a b : Nat} {p q : Rat} (h1 : CpL a [p]) (h2 : CpL b [q]) : CpL (a + b) [p * q] := by
 obtain ⟨D, g1, g2, g3⟩ := h1
 obtain ⟨E, f1, f2, f3⟩ := h2
 refine ⟨D * E, Nat.mul_pos g1 f1, two_mul rfl g2 f2, fun r hr => ?_⟩
 simp at hr
 subst hr
 rw [Nat.pow_add]
 exact (g3 p (by simp)).mul (f3 q (by simp))
theorem cp_frac {a b n : Nat} (h0 : 0 < b) (h1 : a ≤ 2 ^ n) (h2 : b ≤ 2 ^ n) (s : Bool) : CpL n [(((bif s then -(a : Int) else (a : Int)) : Int) : Rat) / ((b : Int) : Rat)] := by
 refine ⟨b, h0, h2, fun r hr => ?_⟩
 simp at hr
 subst hr
 have hb : (b : Rat) ≠ 0 := by
  intro h
  have : b = 0 := by exact_mod_cast h
  omega
 refine ⟨bif s then -(a : Int) else (a : Int), ?_, ?_⟩
 ·rw [Rat.intCast_natCast, Rat.div_mul_cancel hb]
 ·refine Nat.le_trans (show _ ≤ a by cases s <;> simp) (Nat.le_trans h1 (Nat.le_mul_of_pos_right _ h0))
def wY (f : List Pl) (x : List Rat) (t : Rat) : List Rat := jT f (x ++ [t])
theorem qE {a b m : Nat} {f : List Pl} {x : List Rat} {t : Rat} (hf : SysOk m f) (hx : CpL a x) (ht : CpL b [t]) : CpL (7200 + 12 * (a + b)) (wY f x t) := field_cpl hf (hx.append ht)
theorem tM {f : List Pl} {x : List Rat} {t : Rat} : (wY f x t).length = f.length := by simp [wY, jT]
def tO : Rat := ((1 : Int) : Rat) / ((2 : Int) : Rat)
theorem half_cp : CpL 1 [tO] := cp_frac (a := 1) (b := 2) (n := 1) (by decide) (by decide) (by decide) false
theorem jC {z : Int} {n : Nat} (h : z.natAbs ≤ 2 ^ n) : CpL n [(z : Rat)] := by
 refine ⟨1, by decide, Nat.one_le_two_pow, fun r hr => ?_⟩
 simp at hr
 subst hr
 exact (Cap.int z).mono h
def eulerV (f : List Pl) (h t : Rat) (x : List Rat) : List Rat := xI x h (wY f x t)
def heunV (f : List Pl) (h t : Rat) (x : List Rat) : List Rat := xI x (h * tO) (xI (wY f x t) ((1 : Int) : Rat) (wY f (xI x h (wY f x t)) (t + h)))
def midV (f : List Pl) (h t : Rat) (x : List Rat) : List Rat := xI x h (wY f (xI x (h * tO) (wY f x t)) (t + h * tO))
def k1V (f : List Pl) (h t : Rat) (x : List Rat) : List Rat := wY f x t
def k2V (f : List Pl) (h t : Rat) (x : List Rat) : List Rat := wY f (xI x (h * tO) (k1V f h t x)) (t + h * tO)
def k3V (f : List Pl) (h t : Rat) (x : List Rat) : List Rat := wY f (xI x (h * tO) (k2V f h t x)) (t + h * tO)
def k4V (f : List Pl) (h t : Rat) (x : List Rat) : List Rat := wY f (xI x h (k3V f h t x)) (t + h)
def sumV (f : List Pl) (h t : Rat) (x : List Rat) : List Rat := xI (xI (xI (k1V f h t x) ((2 : Int) : Rat) (k2V f h t x)) ((2 : Int) : Rat) (k3V f h t x)) ((1 : Int) : Rat) (k4V f h t x)
def classicV (f : List Pl) (h t : Rat) (x : List Rat) : List Rat := xI x (h / ((6 : Int) : Rat)) (sumV f h t x)
def OneK (r : Option (List Rat)) (u : V) : Prop := (∃ y c, r = some y ∧ u = .tup [.c c, .c (.bool true)] ∧ Ls (elQ 4194304) c y) ∨ (r = none ∧ u = .tup [.c .nilSl, .c (.bool false)])
theorem OneK.fz {y : List Rat} {c : C} {H : Hp} (h : Ls (elQ 4194304) c y) : ∃ d, FzV H (.tup [.c c, .c (.bool true)]) d ∧ OneK (some y) d := ⟨_, .tup (.cons (.c (.hf h.hf)) (.cons (.c (.hf trivial)) .nil)), .inl ⟨y, c, rfl, rfl, h⟩⟩
structure pU (cf cx : C) (ch ct : List C) (f : List Pl) (x : List Rat) (h t : Rat) : Prop where
 hc : Ls elM cf f
 hf : SysOk (x.length + 1) f
 hl : f.length = x.length
 hh : IQ 4194304 ch h
 hx : Ls (elQ 4194304) cx x
 ht : IQ 4194304 ct t
 bx : CpL 120 x
 bt : CpL 90 [t]
 bh : CpL 45 [h]
section
variable {cf cx : C} {ch ct : List C} {f : List Pl} {x : List Rat} {h t : Rat}
theorem pU.x3 (hi : pU cf cx ch ct f x h t) : x.length ≤ 3 := by rw [← hi.hl]; exact hi.hf.len
theorem pU.hfv (hi : pU cf cx ch ct f x h t) : HFVs [.agg (cf :: ch), .c cx, .agg ct] := ⟨⟨hi.hc.hf, hi.hh.hf⟩, hi.hx.hf, hi.ht.hf, trivial⟩
end
theorem gQ {m n : Nat} {f : List Pl} (h : SysOk m f) (e : m = n) : SysOk n f := by rwa [← e]
attribute [local irreducible] yA semH semC qLen qNil qIad qSlc qIdx yZ yM xC appX appI slcX awpF yP xK xopF xX qval lval seqQ xN wT wP wB cnd arith IntKind.wrap
section
variable {cf cx : C} {ch ct : List C} {f : List Pl} {x : List Rat} {h t : Rat}
theorem uU (hi : pU cf cx ch ct f x h t) {cy : C} {cs : List C} {y : List Rat} {s : Rat} {a b : Nat} (ly : Ls (elQ 4194304) cy y) (hy : y.length = x.length) (gs : IQ 4194304 cs s) (bY : CpL a y) (bS : CpL b [s]) (hn : 2446 + 24 * (a + b) < 134217728) : semC Tryz.prog n_step_system_rate [.agg (cf :: ch), .c cy, .agg cs] (LsK (elQ 4194304) (wY f y s)) :=
 step_rate hi.hc (gQ hi.hf (by rw [hy])) hi.hh ly gs (by have := hi.x3; omega) (bY.append bS) hn
theorem wV {x3 : x.length ≤ 3} (hx : Ls (elQ 4194304) cx x) {cc : List C} {ck : C} {k : List Rat} {c : Rat} {a d e : Nat} (bx : CpL a x) (hc : IQ 4194304 cc c) (bc : CpL d [c]) (lk : Ls (elQ 4194304) ck k) (hk : k.length = x.length) (bk : CpL e k) (hn : (a + d + e + 1) + (a + d + e + 1) < 134217728) : semC Tryz.prog n_step_along [.c cx, .agg cc, .c ck] (LsK (elQ 4194304) (xI x c k)) :=
 step_along hx hc lk hk (by omega) (sH bx bc bk) hn
theorem pE {cs : List C} {q : Rat} {n : Nat} (h : IQ n cs q) (hn : n ≤ 4194304) : IQ 4194304 cs q := h.up hn
theorem step_euler (hi : pU cf cx ch ct f x h t) : semC Tryz.prog n_step_method_2 [.agg (cf :: ch), .c cx, .agg ct] (OneK (some (eulerV f h t x))) := by
 refine yC ok_step_method_2 rfl hi.hfv ?_
 have h3 := hi.x3
 obtain ⟨a0, a1, a2, a3, a4, a5, rfl⟩ := id hi.hh.six
 obtain ⟨b0, b1, b2, b3, b4, b5, rfl⟩ := id hi.ht.six
 have c1 : CpL 9720 (wY f x t) := (qE hi.hf hi.bx hi.bt).mono (by decide)
 have n1 : (wY f x t).length = x.length := by rw [tM, hi.hl]
 refine go11 ?_
 first | refine yE (uU hi hi.hx rfl hi.ht hi.bx hi.bt (by decide)) (fun u hu => ?_) | refine yB (uU hi hi.hx rfl hi.ht hi.bx hi.bt (by decide)) (fun u hu => ?_)
 obtain ⟨r1, rfl, l1⟩ := hu
 refine go11 ?_
 first | refine yE (wV (x3 := h3) hi.hx hi.bx hi.hh hi.bh l1 n1 c1 (by decide)) (fun u hu => ?_) | refine yB (wV (x3 := h3) hi.hx hi.bx hi.hh hi.bh l1 n1 c1 (by decide)) (fun u hu => ?_)
 obtain ⟨r2, rfl, l2⟩ := hu
 refine go11 ?_
 exact OneK.fz l2
theorem step_heun {hs : List C} (hi : pU cf cx ch ct f x h t) (hhs : IQ 1 hs tO) : semC Tryz.prog n_step_method_1 [.agg (cf :: ch), .c cx, .agg ct, .c (.ipt hs)] (OneK (some (heunV f h t x))) := by
 refine yC ok_step_method_1 rfl (show HFVs [.agg (cf :: ch), .c cx, .agg ct, .c (.ipt hs)] from ⟨⟨hi.hc.hf, hi.hh.hf⟩, hi.hx.hf, hi.ht.hf, hhs.hf, trivial⟩) ?_
 have h3 := hi.x3
 obtain ⟨a0, a1, a2, a3, a4, a5, rfl⟩ := id hi.hh.six
 obtain ⟨b0, b1, b2, b3, b4, b5, rfl⟩ := id hi.ht.six
 obtain ⟨d0, d1, d2, d3, d4, d5, rfl⟩ := id hhs.six
 have c1 : CpL 9720 (wY f x t) := (qE hi.hf hi.bx hi.bt).mono (by decide)
 have n1 : (wY f x t).length = x.length := by rw [tM, hi.hl]
 have c2 : CpL 10000 (xI x h (wY f x t)) := (sH hi.bx hi.bh c1).mono (by decide)
 have n2 : (xI x h (wY f x t)).length = x.length := vD n1
 have ct' : CpL 140 [t + h] := (cp_add hi.bt hi.bh).mono (by decide)
 have c3 : CpL 130000 (wY f (xI x h (wY f x t)) (t + h)) := (qE (gQ hi.hf (show _ = (xI x h (wY f x t)).length + 1 by rw [n2])) c2 ct').mono (by decide)
 have n3 : (wY f (xI x h (wY f x t)) (t + h)).length = x.length := by rw [tM, hi.hl]
 have c4 : CpL 140000 (xI (wY f x t) ((1 : Int) : Rat) (wY f (xI x h (wY f x t)) (t + h))) := (sH c1 (jC (n := 1) (by decide)) c3).mono (by decide)
 have n4 : (xI (wY f x t) ((1 : Int) : Rat) (wY f (xI x h (wY f x t)) (t + h))).length = x.length := by rw [vD (by rw [n1, n3]), n1]
 refine go11 ?_
 first | refine yE (uU hi hi.hx rfl hi.ht hi.bx hi.bt (by decide)) (fun u hu => ?_) | refine yB (uU hi hi.hx rfl hi.ht hi.bx hi.bt (by decide)) (fun u hu => ?_)
 obtain ⟨r1, rfl, l1⟩ := hu
 refine go11 ?_
 first | refine yE (wV (x3 := h3) hi.hx hi.bx hi.hh hi.bh l1 n1 c1 (by decide)) (fun u hu => ?_) | refine yB (wV (x3 := h3) hi.hx hi.bx hi.hh hi.bh l1 n1 c1 (by decide)) (fun u hu => ?_)
 obtain ⟨r2, rfl, l2⟩ := hu
 refine go11 ?_
 first | refine yE (sR hi.ht hi.hh (by decide)) (fun u hu => ?_) | refine yB (sR hi.ht hi.hh (by decide)) (fun u hu => ?_)
 obtain ⟨r3, rfl, g3⟩ := hu
 have g3 := g3.tightS (ct'.bd (k := 4194304) (by decide) (by simp))
 refine go11 ?_
 first | refine yE (uU hi l2 n2 g3 c2 ct' (by decide)) (fun u hu => ?_) | refine yB (uU hi l2 n2 g3 c2 ct' (by decide)) (fun u hu => ?_)
 obtain ⟨r4, rfl, l4⟩ := hu
 refine go11 ?_
 first | refine yE (tZ hi.hh hhs (by decide)) (fun u hu => ?_) | refine yB (tZ hi.hh hhs (by decide)) (fun u hu => ?_)
 obtain ⟨r5, rfl, g5⟩ := hu
 have g5 := g5.tightS ((jU hi.bh half_cp).bd (k := 4194304) (by decide) (by simp))
 refine go11 ?_
 first | refine yE (vP (g := 1) (by decide)) (fun u hu => ?_) | refine yB (vP (g := 1) (by decide)) (fun u hu => ?_)
 obtain ⟨r6, rfl, g6⟩ := hu
 refine go11 ?_
 first | refine yE (wV (x3 := by omega) l1 c1 (pE g6 (by decide)) (jC (n := 1) (by decide)) l4 (by rw [n3, n1]) c3 (by decide)) (fun u hu => ?_) | refine yB (wV (x3 := by omega) l1 c1 (pE g6 (by decide)) (jC (n := 1) (by decide)) l4 (by rw [n3, n1]) c3 (by decide)) (fun u hu => ?_)
 obtain ⟨r7, rfl, l7⟩ := hu
 refine go11 ?_
 first | refine yE (wV (x3 := h3) hi.hx hi.bx g5 (jU hi.bh half_cp) l7 n4 c4 (by decide)) (fun u hu => ?_) | refine yB (wV (x3 := h3) hi.hx hi.bx g5 (jU hi.bh half_cp) l7 n4 c4 (by decide)) (fun u hu => ?_)
 obtain ⟨r8, rfl, l8⟩ := hu
 refine go11 ?_
 exact OneK.fz l8
theorem step_mid {hs : List C} (hi : pU cf cx ch ct f x h t) (hhs : IQ 1 hs tO) : semC Tryz.prog n_step_method_3 [.agg (cf :: ch), .c cx, .agg ct, .c (.ipt hs)] (OneK (some (midV f h t x))) := by
 refine yC ok_step_method_3 rfl (show HFVs [.agg (cf :: ch), .c cx, .agg ct, .c (.ipt hs)] from ⟨⟨hi.hc.hf, hi.hh.hf⟩, hi.hx.hf, hi.ht.hf, hhs.hf, trivial⟩) ?_
 have h3 := hi.x3
 obtain ⟨a0, a1, a2, a3, a4, a5, rfl⟩ := id hi.hh.six
 obtain ⟨b0, b1, b2, b3, b4, b5, rfl⟩ := id hi.ht.six
 obtain ⟨d0, d1, d2, d3, d4, d5, rfl⟩ := id hhs.six
 have c1 : CpL 9720 (wY f x t) := (qE hi.hf hi.bx hi.bt).mono (by decide)
 have n1 : (wY f x t).length = x.length := by rw [tM, hi.hl]
 have bh2 := jU hi.bh half_cp
 have c2 : CpL 10000 (xI x (h * tO) (wY f x t)) := (sH hi.bx bh2 c1).mono (by decide)
 have n2 : (xI x (h * tO) (wY f x t)).length = x.length := vD n1
 have ct' : CpL 140 [t + h * tO] := (cp_add hi.bt bh2).mono (by decide)
 have c3 : CpL 130000 (wY f (xI x (h * tO) (wY f x t)) (t + h * tO)) := (qE (gQ hi.hf (show _ = (xI x (h * tO) (wY f x t)).length + 1 by rw [n2])) c2 ct').mono (by decide)
 have n3 : (wY f (xI x (h * tO) (wY f x t)) (t + h * tO)).length = x.length := by rw [tM, hi.hl]
 refine go11 ?_
 first | refine yE (tZ hi.hh hhs (by decide)) (fun u hu => ?_) | refine yB (tZ hi.hh hhs (by decide)) (fun u hu => ?_)
 obtain ⟨r5, rfl, g5⟩ := hu
 have g5 := g5.tightS (bh2.bd (k := 4194304) (by decide) (by simp))
 obtain ⟨e0, e1, e2, e3, e4, e5, rfl⟩ := id g5.six
 refine go11 ?_
 first | refine yE (uU hi hi.hx rfl hi.ht hi.bx hi.bt (by decide)) (fun u hu => ?_) | refine yB (uU hi hi.hx rfl hi.ht hi.bx hi.bt (by decide)) (fun u hu => ?_)
 obtain ⟨r1, rfl, l1⟩ := hu
 refine go11 ?_
 first | refine yE (wV (x3 := h3) hi.hx hi.bx g5 bh2 l1 n1 c1 (by decide)) (fun u hu => ?_) | refine yB (wV (x3 := h3) hi.hx hi.bx g5 bh2 l1 n1 c1 (by decide)) (fun u hu => ?_)
 obtain ⟨r2, rfl, l2⟩ := hu
 refine go11 ?_
 first | refine yE (sR hi.ht g5 (by decide)) (fun u hu => ?_) | refine yB (sR hi.ht g5 (by decide)) (fun u hu => ?_)
 obtain ⟨r3, rfl, g3⟩ := hu
 have g3 := g3.tightS (ct'.bd (k := 4194304) (by decide) (by simp))
 refine go11 ?_
 first | refine yE (uU hi l2 n2 g3 c2 ct' (by decide)) (fun u hu => ?_) | refine yB (uU hi l2 n2 g3 c2 ct' (by decide)) (fun u hu => ?_)
 obtain ⟨r4, rfl, l4⟩ := hu
 refine go11 ?_
 first | refine yE (wV (x3 := h3) hi.hx hi.bx hi.hh hi.bh l4 n3 c3 (by decide)) (fun u hu => ?_) | refine yB (wV (x3 := h3) hi.hx hi.bx hi.hh hi.bh l4 n3 c3 (by decide)) (fun u hu => ?_)
 obtain ⟨r8, rfl, l8⟩ := hu
 refine go11 ?_
 exact OneK.fz l8
theorem step_classic {hs : List C} (hi : pU cf cx ch ct f x h t) (hhs : IQ 1 hs tO) : semC Tryz.prog n_step_method_4 [.agg (cf :: ch), .c cx, .agg ct, .c (.ipt hs)] (OneK (some (classicV f h t x))) := by
 refine yC ok_step_method_4 rfl (show HFVs [.agg (cf :: ch), .c cx, .agg ct, .c (.ipt hs)] from ⟨⟨hi.hc.hf, hi.hh.hf⟩, hi.hx.hf, hi.ht.hf, hhs.hf, trivial⟩) ?_
 have h3 := hi.x3
 obtain ⟨a0, a1, a2, a3, a4, a5, rfl⟩ := id hi.hh.six
 obtain ⟨b0, b1, b2, b3, b4, b5, rfl⟩ := id hi.ht.six
 obtain ⟨d0, d1, d2, d3, d4, d5, rfl⟩ := id hhs.six
 have bh2 := jU hi.bh half_cp
 have ct2 : CpL 140 [t + h * tO] := (cp_add hi.bt bh2).mono (by decide)
 have ct1 : CpL 140 [t + h] := (cp_add hi.bt hi.bh).mono (by decide)
 have c1 : CpL 9720 (k1V f h t x) := (qE hi.hf hi.bx hi.bt).mono (by decide)
 have n1 : (k1V f h t x).length = x.length := by rw [k1V, tM, hi.hl]
 have p1 : CpL 10000 (xI x (h * tO) (k1V f h t x)) := (sH hi.bx bh2 c1).mono (by decide)
 have m1 : (xI x (h * tO) (k1V f h t x)).length = x.length := vD n1
 have c2 : CpL 130000 (k2V f h t x) := (qE (gQ hi.hf (show _ = (xI x (h * tO) (k1V f h t x)).length + 1 by rw [m1])) p1 ct2).mono (by decide)
 have n2 : (k2V f h t x).length = x.length := by rw [k2V, tM, hi.hl]
 have p2 : CpL 131000 (xI x (h * tO) (k2V f h t x)) := (sH hi.bx bh2 c2).mono (by decide)
 have m2 : (xI x (h * tO) (k2V f h t x)).length = x.length := vD n2
 have c3 : CpL 1600000 (k3V f h t x) := (qE (gQ hi.hf (show _ = (xI x (h * tO) (k2V f h t x)).length + 1 by rw [m2])) p2 ct2).mono (by decide)
 have n3 : (k3V f h t x).length = x.length := by rw [k3V, tM, hi.hl]
 have p3 : CpL 1610000 (xI x h (k3V f h t x)) := (sH hi.bx hi.bh c3).mono (by decide)
 have m3 : (xI x h (k3V f h t x)).length = x.length := vD n3
 have c4 : CpL 19400000 (k4V f h t x) := (qE (gQ hi.hf (show _ = (xI x h (k3V f h t x)).length + 1 by rw [m3])) p3 ct1).mono (by decide)
 have n4 : (k4V f h t x).length = x.length := by rw [k4V, tM, hi.hl]
 have s1 : CpL 140000 (xI (k1V f h t x) ((2 : Int) : Rat) (k2V f h t x)) := (sH c1 (jC (n := 1) (by decide)) c2).mono (by decide)
 have q1 : (xI (k1V f h t x) ((2 : Int) : Rat) (k2V f h t x)).length = x.length := by rw [vD (by rw [n1, n2]), n1]
 have s2 : CpL 1800000 (xI (xI (k1V f h t x) ((2 : Int) : Rat) (k2V f h t x)) ((2 : Int) : Rat) (k3V f h t x)) := (sH s1 (jC (n := 1) (by decide)) c3).mono (by decide)
 have q2 : (xI (xI (k1V f h t x) ((2 : Int) : Rat) (k2V f h t x)) ((2 : Int) : Rat) (k3V f h t x)).length = x.length := by rw [vD (by rw [q1, n3]), q1]
 have s3 : CpL 22000000 (sumV f h t x) := (sH s2 (jC (n := 1) (by decide)) c4).mono (by decide)
 have q3 : (sumV f h t x).length = x.length := by rw [sumV, vD (by rw [q2, n4]), q2]
 refine go11 ?_
 first | refine yE (tZ hi.hh hhs (by decide)) (fun u hu => ?_) | refine yB (tZ hi.hh hhs (by decide)) (fun u hu => ?_)
 obtain ⟨r5, rfl, g5⟩ := hu
 have g5 := g5.tightS (bh2.bd (k := 4194304) (by decide) (by simp))
 obtain ⟨e0, e1, e2, e3, e4, e5, rfl⟩ := id g5.six
 refine go11 ?_
 first | refine yE (uU hi hi.hx rfl hi.ht hi.bx hi.bt (by decide)) (fun u hu => ?_) | refine yB (uU hi hi.hx rfl hi.ht hi.bx hi.bt (by decide)) (fun u hu => ?_)
 obtain ⟨r1, rfl, l1⟩ := hu
 have l1 : Ls (elQ 4194304) r1 (k1V f h t x) := l1
 refine go11 ?_
 first | refine yE (wV (x3 := h3) hi.hx hi.bx g5 bh2 l1 n1 c1 (by decide)) (fun u hu => ?_) | refine yB (wV (x3 := h3) hi.hx hi.bx g5 bh2 l1 n1 c1 (by decide)) (fun u hu => ?_)
 obtain ⟨r2, rfl, l2⟩ := hu
 refine go11 ?_
 first | refine yE (sR hi.ht g5 (by decide)) (fun u hu => ?_) | refine yB (sR hi.ht g5 (by decide)) (fun u hu => ?_)
 obtain ⟨r3, rfl, g3⟩ := hu
 have g3 := g3.tightS (ct2.bd (k := 4194304) (by decide) (by simp))
 refine go11 ?_
 first | refine yE (uU hi l2 m1 g3 p1 ct2 (by decide)) (fun u hu => ?_) | refine yB (uU hi l2 m1 g3 p1 ct2 (by decide)) (fun u hu => ?_)
 obtain ⟨r4, rfl, l4⟩ := hu
 have l4 : Ls (elQ 4194304) r4 (k2V f h t x) := l4
 refine go11 ?_
 simp only [qA, sS, ratC, qY, qX, List.set_cons_zero, List.set_cons_succ, List.nil_append, List.cons_append, List.append_nil, List.replicate_succ, List.replicate_zero, List.length_cons, List.length_nil, splice, List.take_succ_cons, List.take_zero, List.drop_succ_cons, List.drop_zero, List.take_nil, List.drop_nil, Nat.zero_add, Nat.reduceAdd, Nat.reduceMul, Int.reduceToNat, vB, List.getElem?_cons_succ, List.getElem?_cons_zero]
 first | refine yE (wV (x3 := h3) hi.hx hi.bx g5 bh2 l4 n2 c2 (by decide)) (fun u hu => ?_) | refine yB (wV (x3 := h3) hi.hx hi.bx g5 bh2 l4 n2 c2 (by decide)) (fun u hu => ?_)
 obtain ⟨r6, rfl, l6⟩ := hu
 refine go11 ?_
 first | refine yE (sR hi.ht g5 (by decide)) (fun u hu => ?_) | refine yB (sR hi.ht g5 (by decide)) (fun u hu => ?_)
 obtain ⟨r7, rfl, g7⟩ := hu
 have g7 := g7.tightS (ct2.bd (k := 4194304) (by decide) (by simp))
 refine go11 ?_
 first | refine yE (uU hi l6 m2 g7 p2 ct2 (by decide)) (fun u hu => ?_) | refine yB (uU hi l6 m2 g7 p2 ct2 (by decide)) (fun u hu => ?_)
 obtain ⟨r8, rfl, l8⟩ := hu
 have l8 : Ls (elQ 4194304) r8 (k3V f h t x) := l8
 refine go11 ?_
 simp only [qA, sS, ratC, qY, qX, List.set_cons_zero, List.set_cons_succ, List.nil_append, List.cons_append, List.append_nil, List.replicate_succ, List.replicate_zero, List.length_cons, List.length_nil, splice, List.take_succ_cons, List.take_zero, List.drop_succ_cons, List.drop_zero, List.take_nil, List.drop_nil, Nat.zero_add, Nat.reduceAdd, Nat.reduceMul, Int.reduceToNat, vB, List.getElem?_cons_succ, List.getElem?_cons_zero]
 first | refine yE (wV (x3 := h3) hi.hx hi.bx hi.hh hi.bh l8 n3 c3 (by decide)) (fun u hu => ?_) | refine yB (wV (x3 := h3) hi.hx hi.bx hi.hh hi.bh l8 n3 c3 (by decide)) (fun u hu => ?_)
 obtain ⟨r9, rfl, l9⟩ := hu
 refine go11 ?_
 first | refine yE (sR hi.ht hi.hh (by decide)) (fun u hu => ?_) | refine yB (sR hi.ht hi.hh (by decide)) (fun u hu => ?_)
 obtain ⟨r10, rfl, g10⟩ := hu
 have g10 := g10.tightS (ct1.bd (k := 4194304) (by decide) (by simp))
 refine go11 ?_
 first | refine yE (uU hi l9 m3 g10 p3 ct1 (by decide)) (fun u hu => ?_) | refine yB (uU hi l9 m3 g10 p3 ct1 (by decide)) (fun u hu => ?_)
 obtain ⟨r11, rfl, l11⟩ := hu
 have l11 : Ls (elQ 4194304) r11 (k4V f h t x) := l11
 refine go11 ?_
 simp only [qA, sS, ratC, qY, qX, List.set_cons_zero, List.set_cons_succ, List.nil_append, List.cons_append, List.append_nil, List.replicate_succ, List.replicate_zero, List.length_cons, List.length_nil, splice, List.take_succ_cons, List.take_zero, List.drop_succ_cons, List.drop_zero, List.take_nil, List.drop_nil, Nat.zero_add, Nat.reduceAdd, Nat.reduceMul, Int.reduceToNat, vB, List.getElem?_cons_succ, List.getElem?_cons_zero]
 first | refine yE (vP (g := 2) (by decide)) (fun u hu => ?_) | refine yB (vP (g := 2) (by decide)) (fun u hu => ?_)
 obtain ⟨r12, rfl, g12⟩ := hu
 refine go11 ?_
 first | refine yE (wV (x3 := by omega) l1 c1 (pE g12 (by decide)) (jC (n := 1) (by decide)) l4 (by rw [n2, n1]) c2 (by decide)) (fun u hu => ?_) | refine yB (wV (x3 := by omega) l1 c1 (pE g12 (by decide)) (jC (n := 1) (by decide)) l4 (by rw [n2, n1]) c2 (by decide)) (fun u hu => ?_)
 obtain ⟨r13, rfl, l13⟩ := hu
 have l13 : Ls (elQ 4194304) r13 (xI (k1V f h t x) ((2 : Int) : Rat) (k2V f h t x)) := l13
 refine go11 ?_
 first | refine yE (vP (g := 2) (by decide)) (fun u hu => ?_) | refine yB (vP (g := 2) (by decide)) (fun u hu => ?_)
 obtain ⟨r14, rfl, g14⟩ := hu
 refine go11 ?_
 first | refine yE (wV (x3 := by omega) l13 s1 (pE g14 (by decide)) (jC (n := 1) (by decide)) l8 (by rw [q1, n3]) c3 (by decide)) (fun u hu => ?_) | refine yB (wV (x3 := by omega) l13 s1 (pE g14 (by decide)) (jC (n := 1) (by decide)) l8 (by rw [q1, n3]) c3 (by decide)) (fun u hu => ?_)
 obtain ⟨r15, rfl, l15⟩ := hu
 have l15 : Ls (elQ 4194304) r15 (xI (xI (k1V f h t x) ((2 : Int) : Rat) (k2V f h t x)) ((2 : Int) : Rat) (k3V f h t x)) := l15
 refine go11 ?_
 first | refine yE (vP (g := 1) (by decide)) (fun u hu => ?_) | refine yB (vP (g := 1) (by decide)) (fun u hu => ?_)
 obtain ⟨r16, rfl, g16⟩ := hu
 refine go11 ?_
 first | refine yE (wV (x3 := by omega) l15 s2 (pE g16 (by decide)) (jC (n := 1) (by decide)) l11 (by rw [q2, n4]) c4 (by decide)) (fun u hu => ?_) | refine yB (wV (x3 := by omega) l15 s2 (pE g16 (by decide)) (jC (n := 1) (by decide)) l11 (by rw [q2, n4]) c4 (by decide)) (fun u hu => ?_)
 obtain ⟨r17, rfl, l17⟩ := hu
 have l17 : Ls (elQ 4194304) r17 (sumV f h t x) := l17
 refine go11 ?_
 first | refine yE (vP (g := 6) (by decide)) (fun u hu => ?_) | refine yB (vP (g := 6) (by decide)) (fun u hu => ?_)
 obtain ⟨r18, rfl, g18⟩ := hu
 refine go11 ?_
 first | refine yE (q_Div2 hi.hh g18 (by decide) (by decide)) (fun u hu => ?_) | refine yB (q_Div2 hi.hh g18 (by decide) (by decide)) (fun u hu => ?_)
 obtain ⟨r19, rfl, g19⟩ := hu
 have b19 : CpL 49 [h / ((6 : Int) : Rat)] := by
  have := jU hi.bh (cp_frac (a := 1) (b := 6) (n := 3) (by decide) (by decide) (by decide) false)
  have e : h * ((((bif false then -((1 : Nat) : Int) else ((1 : Nat) : Int)) : Int) : Rat) / (((6 : Nat) : Int) : Rat)) = h / ((6 : Int) : Rat) := by
   simp only [cond_false]
   grind
  rw [e] at this
  exact this.mono (by decide)
 have g19 := g19.tightS (b19.bd (k := 4194304) (by decide) (by simp))
 refine go11 ?_
 first | refine yE (wV (x3 := h3) hi.hx hi.bx g19 b19 l17 q3 s3 (by decide)) (fun u hu => ?_) | refine yB (wV (x3 := h3) hi.hx hi.bx g19 b19 l17 q3 s3 (by decide)) (fun u hu => ?_)
 obtain ⟨r20, rfl, l20⟩ := hu
 refine go11 ?_
 exact OneK.fz l20
end
end Go.Proofs.YtokckcnfojjpjaaGreat

set_option linter.unusedVariables false
set_option linter.unusedSimpArgs false
namespace Go.Proofs.YtokckcnfojjpjaaGreat
open Go.RowKit
set_option maxRecDepth 20000
abbrev Mx := Nat → Nat → Rat
def swapV (M : Mx) (k p : Nat) : Mx := fun i => if i = k then M p else if i = p then M k else M i
noncomputable def elimV (M : Mx) (k : Nat) : Mx := fun i j => bif dec (i = k ∨ M i k = 0 ∨ j < k) then M i j else M i j - M i k / M k k * M k j
def IsPiv (M : Mx) (n k p : Nat) : Prop := k ≤ p ∧ p < n ∧ M p k ≠ 0 ∧ ∀ i, k ≤ i → i < p → M i k = 0
noncomputable def stageV (n k : Nat) (M : Mx) : Option Mx := bif dec (∃ p, IsPiv M n k p) then some (elimV (swapV M k (Classical.epsilon fun p => IsPiv M n k p)) k) else none
noncomputable def gaussV (n : Nat) (M : Mx) : Nat → Option Mx
 | 0 => some M
 | k + 1 => (gaussV n M k).bind (stageV n k)
noncomputable def solveV (n : Nat) (M : Mx) : Option (List Rat) := (gaussV n M n).map fun R => (List.range n).map fun i => R i n / R i i
def unitV (n k : Nat) : List Rat := (List.replicate n (0 : Rat)).set k 1
noncomputable def impM (f : List Pl) (x : List Rat) (a t : Rat) : Mx := fun i j =>
 if j < x.length then (if i = j then -(a * ((wY f (unitV x.length j) t).getD i 0 - (wY f (List.replicate x.length 0) t).getD i 0)) + 1 else -(a * ((wY f (unitV x.length j) t).getD i 0 - (wY f (List.replicate x.length 0) t).getD i 0)))
 else x.getD i 0 + a * (wY f (List.replicate x.length 0) t).getD i 0
noncomputable def implicitV (f : List Pl) (x : List Rat) (a t : Rat) : Option (List Rat) := solveV x.length (impM f x a t)
noncomputable def trapezeV (f : List Pl) (h t : Rat) (x : List Rat) : Option (List Rat) := implicitV f (xI x (h * tO) (wY f x t)) (h * tO) (t + h)
noncomputable def tR (m : Int) (f : List Pl) (h t : Rat) (x : List Rat) : Option (List Rat) :=
 bif dec (m = 0) then some (eulerV f h t x) else bif dec (m = 1 ∨ m = 6) then some (heunV f h t x) else bif dec (m = 2) then some (midV f h t x) else
  bif dec (m = 3) then some (classicV f h t x) else bif dec (m = 4) then implicitV f x h (t + h) else trapezeV f h t x
def DoK (m : Int) (u : V) : Prop := ∃ g caps, u = .c (.fn g caps) ∧ HFL caps ∧ ∀ {cf cx : C} {ch ct : List C} {f : List Pl} {x : List Rat} {h t : Rat}, pU cf cx ch ct f x h t → (m = 4 ∨ m = 5 → AffS f) → semC Tryz.prog g ([.agg (cf :: ch), .c cx, .agg ct] ++ caps.map .c) (OneK (tR m f h t x))
def ImpOk (m : Int) : Prop := ∀ {cf cx : C} {ch ct hs : List C} {f : List Pl} {x : List Rat} {h t : Rat}, pU cf cx ch ct f x h t → AffS f → IQ 1 hs tO → (m = 4 → semC Tryz.prog n_step_method_5 [.agg (cf :: ch), .c cx, .agg ct] (OneK (implicitV f x h (t + h)))) ∧ (m = 5 → semC Tryz.prog n_step_method_6 [.agg (cf :: ch), .c cx, .agg ct, .c (.ipt hs)] (OneK (trapezeV f h t x)))
theorem DoK.fn {m : Int} {H : Hp} {g : FuncId} (h : ∀ {cf cx : C} {ch ct : List C} {f : List Pl} {x : List Rat} {h t : Rat}, pU cf cx ch ct f x h t → (m = 4 ∨ m = 5 → AffS f) → semC Tryz.prog g [.agg (cf :: ch), .c cx, .agg ct] (OneK (tR m f h t x))) : ∃ d, FzV H (.c (.fn g [])) d ∧ DoK m d := ⟨_, .c (.fn .nil), g, [], rfl, trivial, h⟩
theorem DoK.fnP {m : Int} {H : Hp} {g : FuncId} {b : Nat} {hs : List C} {el : TypeId} (hb : H[b]? = some (.live ⟨hs, el, .rw⟩)) (hh : IQ 1 hs tO) (h : ∀ {cf cx : C} {ch ct : List C} {f : List Pl} {x : List Rat} {h t : Rat}, pU cf cx ch ct f x h t → (m = 4 ∨ m = 5 → AffS f) → semC Tryz.prog g [.agg (cf :: ch), .c cx, .agg ct, .c (.ipt hs)] (OneK (tR m f h t x))) : ∃ d, FzV H (.c (.fn g [.ptr b 0])) d ∧ DoK m d :=
 ⟨_, .c (.fn (.cons (.ptr hb (by simp) (by simp) (.hf hh.hf)) .nil)), g, [.ipt hs], rfl, ⟨hh.hf, trivial⟩, h⟩
theorem one_0 {f : List Pl} {h t : Rat} {x : List Rat} : tR 0 f h t x = some (eulerV f h t x) := by simp [tR, dec]
theorem one_1 {f : List Pl} {h t : Rat} {x : List Rat} : tR 1 f h t x = some (heunV f h t x) := by simp [tR, dec]
theorem one_6 {f : List Pl} {h t : Rat} {x : List Rat} : tR 6 f h t x = some (heunV f h t x) := by simp [tR, dec]
theorem one_2 {f : List Pl} {h t : Rat} {x : List Rat} : tR 2 f h t x = some (midV f h t x) := by simp [tR, dec]
theorem one_3 {f : List Pl} {h t : Rat} {x : List Rat} : tR 3 f h t x = some (classicV f h t x) := by simp [tR, dec]
theorem one_4 {f : List Pl} {h t : Rat} {x : List Rat} : tR 4 f h t x = implicitV f x h (t + h) := by simp [tR, dec]
theorem one_5 {f : List Pl} {h t : Rat} {x : List Rat} : tR 5 f h t x = trapezeV f h t x := by simp [tR, dec]
attribute [local irreducible] yA semH semC qLen qNil qIad qSlc qIdx yZ yM xC appX appI slcX awpF yP xK xopF xX qval lval seqQ xN wT wP wB cnd arith IntKind.wrap
theorem step_method {m : Int} (h0 : 0 ≤ m) (h6 : m ≤ 6) (hi : ImpOk m) : semC Tryz.prog n_step_method [i64 m] (DoK m) := by
 refine yC ok_step_method rfl (show HFVs [i64 m] from ⟨trivial, trivial⟩) ?_
 have hm : m = 0 ∨ m = 1 ∨ m = 2 ∨ m = 3 ∨ m = 4 ∨ m = 5 ∨ m = 6 := by omega
 refine go11 ?_
 first | refine yE (tQ (a := 1) (b := 2) (by decide) (by decide) (by decide)) (fun u hu => ?_) | refine yB (tQ (a := 1) (b := 2) (by decide) (by decide) (by decide)) (fun u hu => ?_)
 obtain ⟨hs, rfl, g1⟩ := hu
 obtain ⟨a0, a1, a2, a3, a4, a5, rfl⟩ := id g1.six
 have g1 : IQ 1 [a0, a1, a2, a3, a4, a5] tO := g1
 rcases hm with rfl | rfl | rfl | rfl | rfl | rfl | rfl
 case inl =>
  refine go11 ?_
  exact DoK.fn (fun hj _ => by rw [one_0]; exact step_euler hj)
 case inr.inl =>
  refine go11 ?_
  exact DoK.fnP (by rfl) g1 (fun hj _ => by rw [one_1]; exact step_heun hj g1)
 case inr.inr.inl =>
  refine go11 ?_
  exact DoK.fnP (by rfl) g1 (fun hj _ => by rw [one_2]; exact step_mid hj g1)
 case inr.inr.inr.inl =>
  refine go11 ?_
  exact DoK.fnP (by rfl) g1 (fun hj _ => by rw [one_3]; exact step_classic hj g1)
 case inr.inr.inr.inr.inl =>
  refine go11 ?_
  exact DoK.fn (fun hj ha => by rw [one_4]; exact (hi hj (ha (.inl rfl)) g1).1 rfl)
 case inr.inr.inr.inr.inr.inl =>
  refine go11 ?_
  exact DoK.fnP (by rfl) g1 (fun hj ha => by rw [one_5]; exact (hi hj (ha (.inr rfl)) g1).2 rfl)
 case inr.inr.inr.inr.inr.inr =>
  refine go11 ?_
  exact DoK.fnP (by rfl) g1 (fun hj _ => by rw [one_6]; exact step_heun hj g1)
end Go.Proofs.YtokckcnfojjpjaaGreat

set_option linter.unusedVariables false
set_option linter.unusedSimpArgs false
namespace Go.Proofs.YtokckcnfojjpjaaGreat
open Go.RowKit
set_option maxRecDepth 20000
theorem xd_allocL {P : Program} {e : Env} {H : Hp} {K : V → Hp → Prop} {el : TypeId} {zero : List C} (k : K (.c (.ptr H.length 0)) (H ++ [.live ⟨zero, el, .rw⟩])) : xX P e (H ++ List.replicate (0 + 1) .unb) H.length (.alloc el zero) K := by
 have e1 : H ++ List.replicate (0 + 1) .unb = H ++ [.unb] := rfl
 rw [e1]
 refine vT (yK _ _) ?_
 rw [set_last]
 exact k
theorem go13 {A B : Prop} (k : B) (h : Held B → A := by
 intro hgo
 repeat (first | (refine g_o ?_; first | (refine o_some ?_; try (first | (refine x_q (by rfl) ?_; try (first | refine q_mv (by rfl) ?_ | refine wH (by rfl) ?_ | (refine uE ?_; try (first | refine vQ (by rfl) (by assumption) ?_ | refine wQ (by rfl) (by assumption) ?_ | refine wR (by rfl) ?_ | refine xP (by rfl) ?_ | refine xO (by rfl) ?_)) | (refine uG ?_; try (first | refine vR (by rfl) (by rfl) (by assumption) (by omega) (by omega) ?_ | refine wM (by rfl) (by rfl) (by assumption) (by omega) (by omega) ?_ | refine wL (by rfl) (by rfl) (by decide) (by decide) ?_ | refine yH (by rfl) (by rfl) (by decide) (by decide) ?_ | refine wC (by rfl) (by rfl) (by decide) (by decide) ?_ | refine yH (by rfl) (by rfl) (by omega) (by omega) ?_)) | refine q_cm (by rfl) (by rfl) ?_ | refine q_ar (by rfl) (by rfl) (by rfl) ?_ | refine vF (by rfl) ?_ | (refine uK ?_; try (first | refine xY (by rfl) ?_ | refine xZ (by rfl) ?_ | refine wS (by rfl) ?_)) | refine uJ (by rfl) (by rfl) ?_ | refine wG (by rfl) ?_ | refine wI (by rfl) ?_ | refine vW (by rfl) (by rfl) (by first | decide | omega) ?_ | refine uA (by rfl) (by rfl) (by first | decide | omega) ?_ | refine uL (by rfl) (by rfl) ?_ | refine uM (by rfl) (by rfl) (by rfl) ?_ | refine uC (by rfl) ?_ | refine uB (by rfl) ?_ | refine xR (by rfl) (by rfl) ?_ | refine xS (by rfl) (by rfl) ?_ | refine vZ ?_ | refine uF ?_ | refine uI (by rfl) (by rfl) ?_ | refine vE (by rfl) (by rfl) ?_ | refine xU (by rfl) ?_ | refine q_mx (by rfl) (by rfl) ?_ | refine q_mn (by rfl) (by rfl) ?_ | refine uD (by rfl) (by rfl) (by rfl) ?_ | refine uH (by rfl) ?_ | refine vG (by rfl) ?_ | refine vH (by rfl) ?_ | refine xT (by rfl) ?_ | refine wJ (by rfl) (by rfl) ?_ | refine wK (by rfl) (by rfl) ?_)) | (refine pL ?_; try (first | (refine uN (by rfl) ?_; try (first | refine yN (by rfl) (by rfl) ?_ | refine yJ (by rfl) (by rfl) ?_ | refine yN (yK _ _) (by rfl) ?_ | refine yJ (yK _ _) (by rfl) ?_ | refine yN (xW _ _ _ _) (by rfl) ?_ | refine yJ (xW _ _ _ _) (by rfl) ?_ | refine yN (xV _ _ _) (by rfl) ?_ | refine yJ (xV _ _ _) (by rfl) ?_)) | (refine uO (by rfl) ?_; try (first | refine tB (by assumption) (by omega) (by omega) (fun _ _ => ?_) | refine vM (by omega) (by omega) ?_ | refine xE (Nat.le_of_ble_eq_true (by rfl)) ?_ | refine yR (by rfl) (by rfl) (by rfl) (by omega) ?_)))) | refine vX (by rfl) (by rfl) (by rfl) (by rfl) (Nat.le_of_ble_eq_true (by rfl)) ?_ | (refine sJ (by rfl) (by rfl) ?_; try (first | refine yR (by rfl) (by rfl) (by rfl) (Nat.le_of_ble_eq_true (by rfl)) ?_ | refine yR (by rfl) (by rfl) (by rfl) (by omega) ?_)) | refine qU (by rfl) (by rfl) ?_ | refine gO (by rfl) (by rfl) ?_ | refine sV ?_ | refine gN (by rfl) ?_ | refine gE ?_ | refine pK ?_ | refine sT ?_ | refine sU (by rfl) (by rfl) (by rfl) (by rfl) ?_ | refine tU (by rfl) (by rfl) (by rfl) ?_)) | (refine o_nil ?_; try (first | refine s_n ?_ | refine s_r ?_ | refine s_e ?_ | refine k_n ?_ | refine k_r ?_ | refine k_e (by rfl) ?_ | refine k_o (by rfl) ?_ | refine l_r ?_ | refine l_e ?_ | refine b_r ?_ | refine b_n ?_)) | refine bU (by rfl) ?_ | refine gH (by rfl) ?_ | refine o_none ?_ | refine gI (by rfl) ?_) | (refine g_f ?_; first | refine f_seq ?_ | refine f_reg ?_ | (refine f_cond (by rfl) ?_; try (first | refine c_t (by rfl) ?_ | refine c_f (by rfl) ?_)) | refine f_block ?_ | refine f_skip ?_ | refine f_ret ?_ | refine f_exit ?_ | refine f_regD0 ?_ | refine f_regD ?_) | (refine g_s ?_; first | refine s_n ?_ | refine s_r ?_ | refine s_e ?_) | (refine g_d ?_; first | refine d_late (T := none) (by rfl) (by rfl) (by rfl) (by rfl) ?_ | (refine pP (T := none) (by rfl) (by rfl) ?_; try (first | (refine xd_q (by rfl) ?_; try (first | refine q_mv (by rfl) ?_ | refine wH (by rfl) ?_ | (refine uE ?_; try (first | refine vQ (by rfl) (by assumption) ?_ | refine wQ (by rfl) (by assumption) ?_ | refine wR (by rfl) ?_ | refine xP (by rfl) ?_ | refine xO (by rfl) ?_)) | (refine uG ?_; try (first | refine vR (by rfl) (by rfl) (by assumption) (by omega) (by omega) ?_ | refine wM (by rfl) (by rfl) (by assumption) (by omega) (by omega) ?_ | refine wL (by rfl) (by rfl) (by decide) (by decide) ?_ | refine yH (by rfl) (by rfl) (by decide) (by decide) ?_ | refine wC (by rfl) (by rfl) (by decide) (by decide) ?_ | refine yH (by rfl) (by rfl) (by omega) (by omega) ?_)) | refine q_cm (by rfl) (by rfl) ?_ | refine q_ar (by rfl) (by rfl) (by rfl) ?_ | refine vF (by rfl) ?_ | (refine uK ?_; try (first | refine xY (by rfl) ?_ | refine xZ (by rfl) ?_ | refine wS (by rfl) ?_)) | refine uJ (by rfl) (by rfl) ?_ | refine wG (by rfl) ?_ | refine wI (by rfl) ?_ | refine vW (by rfl) (by rfl) (by first | decide | omega) ?_ | refine uA (by rfl) (by rfl) (by first | decide | omega) ?_ | refine uL (by rfl) (by rfl) ?_ | refine uM (by rfl) (by rfl) (by rfl) ?_ | refine uC (by rfl) ?_ | refine uB (by rfl) ?_ | refine xR (by rfl) (by rfl) ?_ | refine xS (by rfl) (by rfl) ?_ | refine vZ ?_ | refine uF ?_ | refine uI (by rfl) (by rfl) ?_ | refine vE (by rfl) (by rfl) ?_ | refine xU (by rfl) ?_ | refine q_mx (by rfl) (by rfl) ?_ | refine q_mn (by rfl) (by rfl) ?_ | refine uD (by rfl) (by rfl) (by rfl) ?_ | refine uH (by rfl) ?_ | refine vG (by rfl) ?_ | refine vH (by rfl) ?_ | refine xT (by rfl) ?_ | refine wJ (by rfl) (by rfl) ?_ | refine wK (by rfl) (by rfl) ?_)) | (refine uY ?_; try (first | (refine uN (by rfl) ?_; try (first | refine yN (by rfl) (by rfl) ?_ | refine yJ (by rfl) (by rfl) ?_ | refine yN (yK _ _) (by rfl) ?_ | refine yJ (yK _ _) (by rfl) ?_ | refine yN (xW _ _ _ _) (by rfl) ?_ | refine yJ (xW _ _ _ _) (by rfl) ?_ | refine yN (xV _ _ _) (by rfl) ?_ | refine yJ (xV _ _ _) (by rfl) ?_)) | (refine uO (by rfl) ?_; try (first | refine tB (by assumption) (by omega) (by omega) (fun _ _ => ?_) | refine vM (by omega) (by omega) ?_ | refine xE (Nat.le_of_ble_eq_true (by rfl)) ?_ | refine yR (by rfl) (by rfl) (by rfl) (by omega) ?_)))) | refine wN (by rfl) (by rfl) (by rfl) (by rfl) (Nat.le_of_ble_eq_true (by rfl)) ?_ | (refine vS (by rfl) (by rfl) ?_; try (first | refine yR (by rfl) (by rfl) (by rfl) (Nat.le_of_ble_eq_true (by rfl)) ?_ | refine yR (by rfl) (by rfl) (by rfl) (by omega) ?_)) | refine uZ (by rfl) (by rfl) ?_ | refine tY (by rfl) (by rfl) (by rfl) ?_ | refine xd_allocL ?_ | refine vT (by rfl) ?_ | refine sM (by rfl) ?_)) | (refine pP (by rfl) (by rfl) ?_; try (first | (refine xd_q (by rfl) ?_; try (first | refine q_mv (by rfl) ?_ | refine wH (by rfl) ?_ | (refine uE ?_; try (first | refine vQ (by rfl) (by assumption) ?_ | refine wQ (by rfl) (by assumption) ?_ | refine wR (by rfl) ?_ | refine xP (by rfl) ?_ | refine xO (by rfl) ?_)) | (refine uG ?_; try (first | refine vR (by rfl) (by rfl) (by assumption) (by omega) (by omega) ?_ | refine wM (by rfl) (by rfl) (by assumption) (by omega) (by omega) ?_ | refine wL (by rfl) (by rfl) (by decide) (by decide) ?_ | refine yH (by rfl) (by rfl) (by decide) (by decide) ?_ | refine wC (by rfl) (by rfl) (by decide) (by decide) ?_ | refine yH (by rfl) (by rfl) (by omega) (by omega) ?_)) | refine q_cm (by rfl) (by rfl) ?_ | refine q_ar (by rfl) (by rfl) (by rfl) ?_ | refine vF (by rfl) ?_ | (refine uK ?_; try (first | refine xY (by rfl) ?_ | refine xZ (by rfl) ?_ | refine wS (by rfl) ?_)) | refine uJ (by rfl) (by rfl) ?_ | refine wG (by rfl) ?_ | refine wI (by rfl) ?_ | refine vW (by rfl) (by rfl) (by first | decide | omega) ?_ | refine uA (by rfl) (by rfl) (by first | decide | omega) ?_ | refine uL (by rfl) (by rfl) ?_ | refine uM (by rfl) (by rfl) (by rfl) ?_ | refine uC (by rfl) ?_ | refine uB (by rfl) ?_ | refine xR (by rfl) (by rfl) ?_ | refine xS (by rfl) (by rfl) ?_ | refine vZ ?_ | refine uF ?_ | refine uI (by rfl) (by rfl) ?_ | refine vE (by rfl) (by rfl) ?_ | refine xU (by rfl) ?_ | refine q_mx (by rfl) (by rfl) ?_ | refine q_mn (by rfl) (by rfl) ?_ | refine uD (by rfl) (by rfl) (by rfl) ?_ | refine uH (by rfl) ?_ | refine vG (by rfl) ?_ | refine vH (by rfl) ?_ | refine xT (by rfl) ?_ | refine wJ (by rfl) (by rfl) ?_ | refine wK (by rfl) (by rfl) ?_)) | (refine uY ?_; try (first | (refine uN (by rfl) ?_; try (first | refine yN (by rfl) (by rfl) ?_ | refine yJ (by rfl) (by rfl) ?_ | refine yN (yK _ _) (by rfl) ?_ | refine yJ (yK _ _) (by rfl) ?_ | refine yN (xW _ _ _ _) (by rfl) ?_ | refine yJ (xW _ _ _ _) (by rfl) ?_ | refine yN (xV _ _ _) (by rfl) ?_ | refine yJ (xV _ _ _) (by rfl) ?_)) | (refine uO (by rfl) ?_; try (first | refine tB (by assumption) (by omega) (by omega) (fun _ _ => ?_) | refine vM (by omega) (by omega) ?_ | refine xE (Nat.le_of_ble_eq_true (by rfl)) ?_ | refine yR (by rfl) (by rfl) (by rfl) (by omega) ?_)))) | refine wN (by rfl) (by rfl) (by rfl) (by rfl) (Nat.le_of_ble_eq_true (by rfl)) ?_ | (refine vS (by rfl) (by rfl) ?_; try (first | refine yR (by rfl) (by rfl) (by rfl) (Nat.le_of_ble_eq_true (by rfl)) ?_ | refine yR (by rfl) (by rfl) (by rfl) (by omega) ?_)) | refine uZ (by rfl) (by rfl) ?_ | refine tY (by rfl) (by rfl) (by rfl) ?_ | refine xd_allocL ?_ | refine vT (by rfl) ?_ | refine sM (by rfl) ?_)) | (refine d_nil ?_; try (first | refine s_n ?_ | refine s_r ?_ | refine s_e ?_ | refine k_n ?_ | refine k_r ?_ | refine k_e (by rfl) ?_ | refine k_o (by rfl) ?_ | refine l_r ?_ | refine l_e ?_ | refine b_r ?_ | refine b_n ?_)) | refine d_none (by rfl) (by rfl) ?_ | refine d_guard (by rfl) (by rfl) (by rfl) ?_) | (refine g_x ?_; first | (refine x_q (by rfl) ?_; try (first | refine q_mv (by rfl) ?_ | refine wH (by rfl) ?_ | (refine uE ?_; try (first | refine vQ (by rfl) (by assumption) ?_ | refine wQ (by rfl) (by assumption) ?_ | refine wR (by rfl) ?_ | refine xP (by rfl) ?_ | refine xO (by rfl) ?_)) | (refine uG ?_; try (first | refine vR (by rfl) (by rfl) (by assumption) (by omega) (by omega) ?_ | refine wM (by rfl) (by rfl) (by assumption) (by omega) (by omega) ?_ | refine wL (by rfl) (by rfl) (by decide) (by decide) ?_ | refine yH (by rfl) (by rfl) (by decide) (by decide) ?_ | refine wC (by rfl) (by rfl) (by decide) (by decide) ?_ | refine yH (by rfl) (by rfl) (by omega) (by omega) ?_)) | refine q_cm (by rfl) (by rfl) ?_ | refine q_ar (by rfl) (by rfl) (by rfl) ?_ | refine vF (by rfl) ?_ | (refine uK ?_; try (first | refine xY (by rfl) ?_ | refine xZ (by rfl) ?_ | refine wS (by rfl) ?_)) | refine uJ (by rfl) (by rfl) ?_ | refine wG (by rfl) ?_ | refine wI (by rfl) ?_ | refine vW (by rfl) (by rfl) (by first | decide | omega) ?_ | refine uA (by rfl) (by rfl) (by first | decide | omega) ?_ | refine uL (by rfl) (by rfl) ?_ | refine uM (by rfl) (by rfl) (by rfl) ?_ | refine uC (by rfl) ?_ | refine uB (by rfl) ?_ | refine xR (by rfl) (by rfl) ?_ | refine xS (by rfl) (by rfl) ?_ | refine vZ ?_ | refine uF ?_ | refine uI (by rfl) (by rfl) ?_ | refine vE (by rfl) (by rfl) ?_ | refine xU (by rfl) ?_ | refine q_mx (by rfl) (by rfl) ?_ | refine q_mn (by rfl) (by rfl) ?_ | refine uD (by rfl) (by rfl) (by rfl) ?_ | refine uH (by rfl) ?_ | refine vG (by rfl) ?_ | refine vH (by rfl) ?_ | refine xT (by rfl) ?_ | refine wJ (by rfl) (by rfl) ?_ | refine wK (by rfl) (by rfl) ?_)) | (refine pL ?_; try (first | (refine uN (by rfl) ?_; try (first | refine yN (by rfl) (by rfl) ?_ | refine yJ (by rfl) (by rfl) ?_ | refine yN (yK _ _) (by rfl) ?_ | refine yJ (yK _ _) (by rfl) ?_ | refine yN (xW _ _ _ _) (by rfl) ?_ | refine yJ (xW _ _ _ _) (by rfl) ?_ | refine yN (xV _ _ _) (by rfl) ?_ | refine yJ (xV _ _ _) (by rfl) ?_)) | (refine uO (by rfl) ?_; try (first | refine tB (by assumption) (by omega) (by omega) (fun _ _ => ?_) | refine vM (by omega) (by omega) ?_ | refine xE (Nat.le_of_ble_eq_true (by rfl)) ?_ | refine yR (by rfl) (by rfl) (by rfl) (by omega) ?_)))) | refine vX (by rfl) (by rfl) (by rfl) (by rfl) (Nat.le_of_ble_eq_true (by rfl)) ?_ | (refine sJ (by rfl) (by rfl) ?_; try (first | refine yR (by rfl) (by rfl) (by rfl) (Nat.le_of_ble_eq_true (by rfl)) ?_ | refine yR (by rfl) (by rfl) (by rfl) (by omega) ?_)) | refine qU (by rfl) (by rfl) ?_ | refine gO (by rfl) (by rfl) ?_ | refine sV ?_ | refine gN (by rfl) ?_ | refine gE ?_ | refine pK ?_ | refine sT ?_ | refine sU (by rfl) (by rfl) (by rfl) (by rfl) ?_ | refine tU (by rfl) (by rfl) (by rfl) ?_) | (refine g_q ?_; first | refine q_mv (by rfl) ?_ | refine wH (by rfl) ?_ | (refine uE ?_; try (first | refine vQ (by rfl) (by assumption) ?_ | refine wQ (by rfl) (by assumption) ?_ | refine wR (by rfl) ?_ | refine xP (by rfl) ?_ | refine xO (by rfl) ?_)) | (refine uG ?_; try (first | refine vR (by rfl) (by rfl) (by assumption) (by omega) (by omega) ?_ | refine wM (by rfl) (by rfl) (by assumption) (by omega) (by omega) ?_ | refine wL (by rfl) (by rfl) (by decide) (by decide) ?_ | refine yH (by rfl) (by rfl) (by decide) (by decide) ?_ | refine wC (by rfl) (by rfl) (by decide) (by decide) ?_ | refine yH (by rfl) (by rfl) (by omega) (by omega) ?_)) | refine q_cm (by rfl) (by rfl) ?_ | refine q_ar (by rfl) (by rfl) (by rfl) ?_ | refine vF (by rfl) ?_ | (refine uK ?_; try (first | refine xY (by rfl) ?_ | refine xZ (by rfl) ?_ | refine wS (by rfl) ?_)) | refine uJ (by rfl) (by rfl) ?_ | refine wG (by rfl) ?_ | refine wI (by rfl) ?_ | refine vW (by rfl) (by rfl) (by first | decide | omega) ?_ | refine uA (by rfl) (by rfl) (by first | decide | omega) ?_ | refine uL (by rfl) (by rfl) ?_ | refine uM (by rfl) (by rfl) (by rfl) ?_ | refine uC (by rfl) ?_ | refine uB (by rfl) ?_ | refine xR (by rfl) (by rfl) ?_ | refine xS (by rfl) (by rfl) ?_ | refine vZ ?_ | refine uF ?_ | refine uI (by rfl) (by rfl) ?_ | refine vE (by rfl) (by rfl) ?_ | refine xU (by rfl) ?_ | refine q_mx (by rfl) (by rfl) ?_ | refine q_mn (by rfl) (by rfl) ?_ | refine uD (by rfl) (by rfl) (by rfl) ?_ | refine uH (by rfl) ?_ | refine vG (by rfl) ?_ | refine vH (by rfl) ?_ | refine xT (by rfl) ?_ | refine wJ (by rfl) (by rfl) ?_ | refine wK (by rfl) (by rfl) ?_) | (refine g_c ?_; first | refine c_t (by rfl) ?_ | refine c_f (by rfl) ?_) | (refine g_k ?_; first | refine k_n ?_ | refine k_r ?_ | refine k_e (by rfl) ?_ | refine k_o (by rfl) ?_) | (refine g_lo ?_; first | refine l_r ?_ | refine l_e ?_) | (refine g_xd ?_; first | (refine xd_q (by rfl) ?_; try (first | refine q_mv (by rfl) ?_ | refine wH (by rfl) ?_ | (refine uE ?_; try (first | refine vQ (by rfl) (by assumption) ?_ | refine wQ (by rfl) (by assumption) ?_ | refine wR (by rfl) ?_ | refine xP (by rfl) ?_ | refine xO (by rfl) ?_)) | (refine uG ?_; try (first | refine vR (by rfl) (by rfl) (by assumption) (by omega) (by omega) ?_ | refine wM (by rfl) (by rfl) (by assumption) (by omega) (by omega) ?_ | refine wL (by rfl) (by rfl) (by decide) (by decide) ?_ | refine yH (by rfl) (by rfl) (by decide) (by decide) ?_ | refine wC (by rfl) (by rfl) (by decide) (by decide) ?_ | refine yH (by rfl) (by rfl) (by omega) (by omega) ?_)) | refine q_cm (by rfl) (by rfl) ?_ | refine q_ar (by rfl) (by rfl) (by rfl) ?_ | refine vF (by rfl) ?_ | (refine uK ?_; try (first | refine xY (by rfl) ?_ | refine xZ (by rfl) ?_ | refine wS (by rfl) ?_)) | refine uJ (by rfl) (by rfl) ?_ | refine wG (by rfl) ?_ | refine wI (by rfl) ?_ | refine vW (by rfl) (by rfl) (by first | decide | omega) ?_ | refine uA (by rfl) (by rfl) (by first | decide | omega) ?_ | refine uL (by rfl) (by rfl) ?_ | refine uM (by rfl) (by rfl) (by rfl) ?_ | refine uC (by rfl) ?_ | refine uB (by rfl) ?_ | refine xR (by rfl) (by rfl) ?_ | refine xS (by rfl) (by rfl) ?_ | refine vZ ?_ | refine uF ?_ | refine uI (by rfl) (by rfl) ?_ | refine vE (by rfl) (by rfl) ?_ | refine xU (by rfl) ?_ | refine q_mx (by rfl) (by rfl) ?_ | refine q_mn (by rfl) (by rfl) ?_ | refine uD (by rfl) (by rfl) (by rfl) ?_ | refine uH (by rfl) ?_ | refine vG (by rfl) ?_ | refine vH (by rfl) ?_ | refine xT (by rfl) ?_ | refine wJ (by rfl) (by rfl) ?_ | refine wK (by rfl) (by rfl) ?_)) | (refine uY ?_; try (first | (refine uN (by rfl) ?_; try (first | refine yN (by rfl) (by rfl) ?_ | refine yJ (by rfl) (by rfl) ?_ | refine yN (yK _ _) (by rfl) ?_ | refine yJ (yK _ _) (by rfl) ?_ | refine yN (xW _ _ _ _) (by rfl) ?_ | refine yJ (xW _ _ _ _) (by rfl) ?_ | refine yN (xV _ _ _) (by rfl) ?_ | refine yJ (xV _ _ _) (by rfl) ?_)) | (refine uO (by rfl) ?_; try (first | refine tB (by assumption) (by omega) (by omega) (fun _ _ => ?_) | refine vM (by omega) (by omega) ?_ | refine xE (Nat.le_of_ble_eq_true (by rfl)) ?_ | refine yR (by rfl) (by rfl) (by rfl) (by omega) ?_)))) | refine wN (by rfl) (by rfl) (by rfl) (by rfl) (Nat.le_of_ble_eq_true (by rfl)) ?_ | (refine vS (by rfl) (by rfl) ?_; try (first | refine yR (by rfl) (by rfl) (by rfl) (Nat.le_of_ble_eq_true (by rfl)) ?_ | refine yR (by rfl) (by rfl) (by rfl) (by omega) ?_)) | refine uZ (by rfl) (by rfl) ?_ | refine tY (by rfl) (by rfl) (by rfl) ?_ | refine xd_allocL ?_ | refine vT (by rfl) ?_ | refine sM (by rfl) ?_) | (refine g_l ?_; first | (refine uN (by rfl) ?_; try (first | refine yN (by rfl) (by rfl) ?_ | refine yJ (by rfl) (by rfl) ?_ | refine yN (yK _ _) (by rfl) ?_ | refine yJ (yK _ _) (by rfl) ?_ | refine yN (xW _ _ _ _) (by rfl) ?_ | refine yJ (xW _ _ _ _) (by rfl) ?_ | refine yN (xV _ _ _) (by rfl) ?_ | refine yJ (xV _ _ _) (by rfl) ?_)) | (refine uO (by rfl) ?_; try (first | refine tB (by assumption) (by omega) (by omega) (fun _ _ => ?_) | refine vM (by omega) (by omega) ?_ | refine xE (Nat.le_of_ble_eq_true (by rfl)) ?_ | refine yR (by rfl) (by rfl) (by rfl) (by omega) ?_))) | (refine g_len ?_; first | refine vQ (by rfl) (by assumption) ?_ | refine wQ (by rfl) (by assumption) ?_ | refine wR (by rfl) ?_ | refine xP (by rfl) ?_ | refine xO (by rfl) ?_) | (refine g_nil ?_; first | refine xY (by rfl) ?_ | refine xZ (by rfl) ?_ | refine wS (by rfl) ?_) | (refine g_iad ?_; first | refine vR (by rfl) (by rfl) (by assumption) (by omega) (by omega) ?_ | refine wM (by rfl) (by rfl) (by assumption) (by omega) (by omega) ?_ | refine wL (by rfl) (by rfl) (by decide) (by decide) ?_ | refine yH (by rfl) (by rfl) (by decide) (by decide) ?_ | refine wC (by rfl) (by rfl) (by decide) (by decide) ?_ | refine yH (by rfl) (by rfl) (by omega) (by omega) ?_) | (refine g_box ?_; first | refine yN (by rfl) (by rfl) ?_ | refine yJ (by rfl) (by rfl) ?_ | refine yN (yK _ _) (by rfl) ?_ | refine yJ (yK _ _) (by rfl) ?_ | refine yN (xW _ _ _ _) (by rfl) ?_ | refine yJ (xW _ _ _ _) (by rfl) ?_ | refine yN (xV _ _ _) (by rfl) ?_ | refine yJ (xV _ _ _) (by rfl) ?_) | (refine bZ ?_; first | refine tB (by assumption) (by omega) (by omega) (fun _ _ => ?_) | refine vM (by omega) (by omega) ?_ | refine xE (Nat.le_of_ble_eq_true (by rfl)) ?_) | (refine g_st ?_; first | refine yR (by rfl) (by rfl) (by rfl) (Nat.le_of_ble_eq_true (by rfl)) ?_) | (refine g_b ?_; first | refine b_r ?_ | refine b_n ?_) | (refine g_r ?_; first | refine r_tmp (by rfl) ?_ | refine r_cell ?_ | refine r_nil ?_))
 exact hgo.out) : A := h ⟨k⟩
def elL (k : Nat) : El (List Rat) := ⟨fun cs l => ∃ c, cs = [c] ∧ Ls (elQ k) c l, 1, fun h => by obtain ⟨c, rfl, _⟩ := h; rfl, fun h => by obtain ⟨c, rfl, h⟩ := h; exact ⟨h.hf, trivial⟩⟩
noncomputable def nextV (m : Int) (f : List Pl) (h a : Rat) (i : Nat) (last prev : List Rat) : Option (List Rat) :=
 bif dec (m = 6 ∧ 0 < i) then some (xI (xI last (h * (((3 : Int) : Rat) / ((2 : Int) : Rat))) (wY f last a)) (h * (((-1 : Int) : Rat) / ((2 : Int) : Rat))) (wY f prev (a - h))) else tR m f h a last
noncomputable def qN (m : Int) (f : List Pl) (h t : Rat) (g : Int) (i : Nat) (out : List (List Rat)) : Except Int (List (List Rat)) :=
 match nextV m f h (t + h * ((i : Int) : Rat)) i (out.getD i []) (out.getD (i - 1) []) with
 | none => .error 4
 | some y => bif dec (gM (y.map (rdV g))) then .ok (out ++ [y.map (rdV g)]) else .error 3
noncomputable def runV (m : Int) (f : List Pl) (h t : Rat) (g : Int) (x : List Rat) : Nat → Except Int (List (List Rat))
 | 0 => .ok [x]
 | i + 1 => match runV m f h t g x i with
  | .error e => .error e
  | .ok out => qN m f h t g i out
theorem run_err {m : Int} {f : List Pl} {h t : Rat} {g : Int} {x : List Rat} {i n : Nat} {e : Int} (h1 : runV m f h t g x i = .error e) (hn : i ≤ n) : runV m f h t g x n = .error e := by
 induction n with
 | zero =>
  have : i = 0 := by omega
  subst this
  exact h1
 | succ n ih =>
  rcases Nat.lt_or_ge i (n + 1) with h | h
  ·simp only [runV, ih (by omega)]
  ·have : i = n + 1 := by omega
   subst this
   exact h1
def RunK (r : Except Int (List (List Rat))) (u : V) : Prop := (∃ e, r = .error e ∧ e ≠ 0 ∧ u = .tup [.c .nilSl, i64 e]) ∨ (∃ out c, r = .ok out ∧ u = .tup [.c c, i64 0] ∧ Ls (elL 2) c out)
def Told (f : List Pl) (l : List Rat) : Prop := l.length = f.length ∧ gM l
theorem told_cpl {f : List Pl} {l : List Rat} (hf : f.length ≤ 3) (h : Told f l) : CpL 120 l := by
 have h1 : pY (l.map rp) := fun p hp => by
  obtain ⟨q, hq, rfl⟩ := List.mem_map.1 hp
  exact fit_ratS (h.2 q hq)
 have h2 := CpL.rats h1
 have h3 : (l.map rp).map rt = l := by
  rw [List.map_map]
  conv => rhs; rw [← List.map_id l]
  exact List.map_congr_left fun q _ => rt_rp q
 rw [h3, List.length_map] at h2
 exact h2.mono (by have := h.1; omega)
theorem cp_neg {a : Nat} {p : Rat} (h : CpL a [p]) : CpL a [-p] := by
 obtain ⟨D, g1, g2, g3⟩ := h
 refine ⟨D, g1, g2, fun r hr => ?_⟩
 simp at hr
 subst hr
 exact (g3 p (by simp)).neg
theorem cp_sub {a b : Nat} {p q : Rat} (h1 : CpL a [p]) (h2 : CpL b [q]) : CpL (a + b + 1) [p - q] := by
 rw [Rat.sub_eq_add_neg]
 exact cp_add h1 (cp_neg h2)
theorem c32 : CpL 2 [((3 : Int) : Rat) / ((2 : Int) : Rat)] := cp_frac (a := 3) (b := 2) (n := 2) (by decide) (by decide) (by decide) false
theorem c12 : CpL 2 [((-1 : Int) : Rat) / ((2 : Int) : Rat)] := cp_frac (a := 1) (b := 2) (n := 2) (by decide) (by decide) (by decide) true
theorem ld_L {k : Nat} {c : C} {l : List (List Rat)} {n i : Nat} {K : V → Prop} (hc : Ls (elL k) c l) (hi : i < l.length) (hn : n = i) (h : ∀ d, Ls (elQ k) d l[i] → K (.c d)) : yM (c.ds.drop (n * 1)) false 1 K := by
 subst hn
 obtain ⟨cs, r, ⟨d, rfl, h1⟩, h2⟩ := hc.els.get hi
 have h2 : c.ds.drop (n * 1) = [d] ++ r := h2
 rw [h2]
 exact h d h1
theorem Out.isSl {α : Type} {E : El α} {el : TypeId} {m : Nat} {H : Hp} {c : C} {l : List α} (h : Out E el m H c l) (h0 : 0 < l.length) : ∃ b co, c = .sl b 0 l.length co E.s := by
 cases h with
 | nil => simp at h0
 | @sl b n co cells ds _ hm hb hn hc hE =>
  subst hn
  exact ⟨b, co, rfl⟩
theorem Out.extS {α : Type} {E : El α} {el : TypeId} {m : Nat} {H S : Hp} {c : C} {l : List α} (h : Out E el m H c l) : Out E el m (H ++ S) c l := by
 cases h with
 | nil => exact .nil
 | sl hm hb hn hc h => exact .sl hm (by rw [List.getElem?_append_left (lt_of_getElem? hb)]; exact hb) hn hc h
theorem ld_outL {k : Nat} {el : TypeId} {m n i b off : Nat} {co : Option Nat} {H : Hp} {l : List (List Rat)} {K : V → Prop} (ho : Out (elL k) el m H (.sl b off n co 1) l) (hi : i < l.length) {o : Nat} (hof : o = off + i * 1) (h : ∀ d, Ls (elQ k) d l[i] → K (.c d)) : yZ H[b]? false 1 o K := by
 subst hof
 cases ho with
 | @sl _ _ _ cells ds _ hm hb hn hc hE =>
  obtain ⟨cs, r, ⟨d, rfl, h1⟩, h2⟩ := hE.get hi
  refine yN (c := d) hb ?_ (h d h1)
  simp only
  have e : ds[i * 1]? = some d := by
   have := congrArg (·[0]?) h2
   simpa [List.getElem?_drop, elL] using this
  rw [← hc, List.getElem?_take] at e
  split at e
  ·simpa using e
  ·cases e
theorem x_callG {P : Program} {e : Env} {H : Hp} {K : V → Hp → Prop} {f : AO} {args : List AO} {g : FuncId} {us : List V} {cs : List C} (h : f.ev e = some (.c (.fn g cs))) (h2 : evs e args = some us) (k : semH P g (us ++ cs.map .c) H K) : xopF P e H (.call f args) K := by
 cases cs with
 | nil =>
  rw [List.map_nil, List.append_nil] at k
  exact qU h h2 k
 | cons c cs => exact x_callc h h2 k
theorem mStep_len {m : Int} {f : List Pl} {h t : Rat} {x y : List Rat} (hl : f.length = x.length) (hy : tR m f h t x = some y) : y.length = x.length := by
 have r : ∀ z s, (wY f z s).length = x.length := fun z s => by rw [tM, hl]
 have sol : ∀ {n : Nat} {M : Mx} {z : List Rat}, solveV n M = some z → z.length = n := by
  intro n M z hz
  unfold solveV at hz
  cases hg : gaussV n M n with
  | none => rw [hg] at hz; cases hz
  | some R =>
   rw [hg] at hz
   simp at hz
   subst hz
   simp
 unfold tR at hy
 cases h0 : dec (m = 0) <;> rw [h0] at hy
 case true =>
  cases hy
  exact vD (r _ _)
 cases h1 : dec (m = 1 ∨ m = 6) <;> rw [h1] at hy
 case true =>
  cases hy
  refine vD ?_
  rw [vD] <;> simp [r]
 cases h2 : dec (m = 2) <;> rw [h2] at hy
 case true =>
  cases hy
  exact vD (r _ _)
 cases h3 : dec (m = 3) <;> rw [h3] at hy
 case true =>
  cases hy
  refine vD ?_
  have k1 : (k1V f h t x).length = x.length := r _ _
  have k2 : (k2V f h t x).length = x.length := r _ _
  have k3 : (k3V f h t x).length = x.length := r _ _
  have k4 : (k4V f h t x).length = x.length := r _ _
  have q1 : (xI (k1V f h t x) ((2 : Int) : Rat) (k2V f h t x)).length = x.length := by rw [vD (by rw [k1, k2]), k1]
  have q2 : (xI (xI (k1V f h t x) ((2 : Int) : Rat) (k2V f h t x)) ((2 : Int) : Rat) (k3V f h t x)).length = x.length := by rw [vD (by rw [q1, k3]), q1]
  rw [sumV, vD (by rw [q2, k4]), q2]
 cases h4 : dec (m = 4) <;> rw [h4] at hy
 case true => exact sol hy
 have := sol hy
 rw [this]
 exact vD (r _ _)
attribute [local irreducible] yA semH semC qLen qNil qIad qSlc qIdx yZ yM xC appX appI slcX awpF yP xK xopF xX qval lval seqQ xN wT wP wB cnd arith IntKind.wrap
theorem step_run {cf cx : C} {ch ct : List C} {f : List Pl} {x : List Rat} {h t : Rat} {m g : Int} {n : Nat} (hc : Ls elM cf f) (hf : SysOk (f.length + 1) f) (hx : Ls (elQ 2) cx x) (hT : Told f x) (hh : IQ 8 ch h) (bh : CpL 42 [h]) (ht : IQ 8 ct t) (bt : CpL 40 [t]) (m0 : 0 ≤ m) (m6 : m ≤ 6) (hg : g < 4294967296) (hn : n ≤ 60) (hi : ImpOk m) (ha : m = 4 ∨ m = 5 → AffS f) :
  semC Tryz.prog n_step_run [i64 m, .agg (cf :: ch), .agg ct, .c cx, i64 g, i64 n] (RunK (runV m f h t g x n)) := by
 refine yC ok_step_run rfl (show HFVs [i64 m, .agg (cf :: ch), .agg ct, .c cx, i64 g, i64 n] from ⟨trivial, ⟨hc.hf, hh.hf⟩, ht.hf, hx.hf, trivial, trivial, trivial⟩) ?_
 have hf3 := hf.len
 obtain ⟨a0, a1, a2, a3, a4, a5, rfl⟩ := id hh.six
 obtain ⟨b0, b1, b2, b3, b4, b5, rfl⟩ := id ht.six
 refine go5 ?_
 first | refine yE (step_method m0 m6 hi) (fun u hu => ?_) | refine yB (step_method m0 m6 hi) (fun u hu => ?_)
 obtain ⟨gf, caps, rfl, hcap, hdo⟩ := hu
 refine go5 ?_
 simp only [qA, sS, ratC, qY, qX, List.set_cons_zero, List.set_cons_succ, List.nil_append, List.cons_append, List.append_nil, List.replicate_succ, List.replicate_zero, List.length_cons, List.length_nil, splice, List.take_succ_cons, List.take_zero, List.drop_succ_cons, List.drop_zero, List.take_nil, List.drop_nil, Nat.zero_add, Nat.reduceAdd, Nat.reduceMul, Int.reduceToNat, vB, List.getElem?_cons_succ, List.getElem?_cons_zero]
 obtain ⟨F, hF⟩ : ∃ F : Hp, F = [.live ⟨[cf, a0, a1, a2, a3, a4, a5], tL, .rw⟩, .live ⟨[b0, b1, b2, b3, b4, b5], vN, .rw⟩] := ⟨_, rfl⟩
 refine yV (fun w vs H => ∃ (i : Nat) (o : C) (R : Hp) (out : List (List Rat)), vs = [i64 m, i64 g, .c (.ptr 0 0), .c (.ptr 1 0), .c o, .c (.fn gf caps), i64 n, i64 i] ∧ H = [.live ⟨[cf, a0, a1, a2, a3, a4, a5], tL, .rw⟩, .live ⟨[b0, b1, b2, b3, b4, b5], vN, .rw⟩] ++ R ∧ w = n - i ∧ i ≤ n ∧ runV m f h t g x i = .ok out ∧ out.length = i + 1 ∧ (∀ l ∈ out, Told f l) ∧ Out (elL 2) T_sl_num_Q 2 H o out) (by rfl) ⟨0, _, [.live ⟨[cx], T_sl_num_Q, .rw⟩], [x], rfl, rfl, rfl, by omega, rfl, rfl, by simpa using hT, .sl (cells := [cx]) (ds := [cx]) (by decide) rfl rfl rfl (.one ⟨cx, rfl, hx⟩)⟩ ?_
 rintro w vs H ⟨i, o, R, out, rfl, rfl, rfl, i1, i2, i3, i4, i5⟩
 obtain ⟨b, co, rfl⟩ := i5.isSl (by omega)
 refine go13 ?_
 cases hi : yA Cm.lss (i : Int) (n : Int)
 case false =>
  simp [yA] at hi
  have ei : i = n := by omega
  subst ei
  refine go13 ?_
  obtain ⟨d, f1, l1⟩ := i5.fz (p := (· ≠ .bor)) (by simp)
  exact ⟨_, .tup (.cons (.c f1) (.cons (.c (.hf trivial)) .nil)), .inr ⟨out, d, i2, rfl, l1⟩⟩
 simp [yA] at hi
 have hlast := i4 _ (List.getElem_mem (show i < out.length by omega))
 have hgl : out.getD i [] = out[i]'(by omega) := by simp [List.getD, i3]
 refine go13 ?_
 first | refine yE (vP (g := (i : Int)) (by omega)) (fun u hu => ?_) | refine yB (vP (g := (i : Int)) (by omega)) (fun u hu => ?_)
 obtain ⟨r1, rfl, g1⟩ := hu
 refine go13 ?_
 first | refine yE (tZ hh g1 (by decide)) (fun u hu => ?_) | refine yB (tZ hh g1 (by decide)) (fun u hu => ?_)
 obtain ⟨r2, rfl, g2⟩ := hu
 refine go13 ?_
 first | refine yE (sR ht g2 (by decide)) (fun u hu => ?_) | refine yB (sR ht g2 (by decide)) (fun u hu => ?_)
 obtain ⟨r3, rfl, g3⟩ := hu
 have bi : CpL 6 [((i : Int) : Rat)] := jC (by omega)
 have ba : CpL 90 [t + h * ((i : Int) : Rat)] := (cp_add bt (jU bh bi)).mono (by decide)
 obtain ⟨c0, c1, c2, c3, c4, c5, rfl⟩ := id g3.six
 refine go13 ?_
 refine ld_outL i5.extS (i := i) (by omega) (by omega) (fun cl hcl => ?_)
 have bl := told_cpl hf3 hlast
 have g3 := g3.up (show _ ≤ 4194304 by decide)
 have hin : pU cf cl [a0, a1, a2, a3, a4, a5] [c0, c1, c2, c3, c4, c5] f (out[i]'(by omega)) h (t + h * ((i : Int) : Rat)) := ⟨hc, gQ hf (by rw [hlast.1]), hlast.1.symm, hh.up (by decide), hcl.up (by decide), g3, bl, ba, bh.mono (by decide)⟩
 refine go13 ?_
 cases c6 : yA Cm.eql m 6
 case false =>
  simp [yA] at c6
  have hnx : nextV m f h (t + h * ((i : Int) : Rat)) i (out.getD i []) (out.getD (i - 1) []) = tR m f h (t + h * ((i : Int) : Rat)) (out[i]'(by omega)) := by
   unfold nextV
   rw [yI.2 (by omega), hgl]
   rfl
  refine go13 ?_
  refine x_callG (by rfl) (by rfl) (yB (hdo hin ha) (fun u hu => ?_))
  rcases hu with ⟨y, cy, hy, rfl, ly⟩ | ⟨hy, rfl⟩
  case inr =>
   have he : runV m f h t g x (i + 1) = .error 4 := by
    simp only [runV, i2, qN, hnx, hy]
   refine go13 ?_
   exact ⟨_, .tup (.cons (.c (.hf trivial)) (.cons (.c (.hf trivial)) .nil)), .inl ⟨4, run_err he (by omega), by decide, rfl⟩⟩
  have hny : y.length = f.length := by rw [mStep_len hin.hl hy, hlast.1]
  rw [hy] at hnx
  refine go13 ?_
  first | refine yE (qL ly (by omega) hg) (fun u hu => ?_) | refine yB (qL ly (by omega) hg) (fun u hu => ?_)
  rcases hu with ⟨hfit, cz, rfl, lz⟩ | ⟨hfit, rfl⟩
  case inr =>
   have he : runV m f h t g x (i + 1) = .error 3 := by
    simp only [runV, i2, qN, hnx]
    rw [yI.2 hfit]
    rfl
   refine go13 ?_
   exact ⟨_, .tup (.cons (.c (.hf trivial)) (.cons (.c (.hf trivial)) .nil)), .inl ⟨3, run_err he (by omega), by decide, rfl⟩⟩
  have hr : runV m f h t g x (i + 1) = .ok (out ++ [y.map (rdV g)]) := by
   simp only [runV, i2, qN, hnx]
   rw [yG.2 hfit]
   rfl
  refine go13 ?_
  refine app_imm (bytes := 24) (E := elL 2) (F := [.live ⟨[cf, a0, a1, a2, a3, a4, a5], tL, .rw⟩, .live ⟨[b0, b1, b2, b3, b4, b5], vN, .rw⟩]) (a := y.map (rdV g)) (List.append_assoc _ _ _) (by rw [← List.append_assoc]; exact i5.extS) (by rfl) (by rfl) rfl ⟨cz, rfl, lz⟩ (by omega) (fun R2 o2 q2 => ?_)
  refine go13 ?_
  rw [wF i (by omega)]
  refine l_n (by rfl) (n' := n - (i + 1)) (by omega) ⟨i + 1, _, _, _, rfl, rfl, rfl, by omega, hr, by simp; omega, fun l hl => ?_, q2⟩
  rcases List.mem_append.1 hl with hl | hl
  ·exact i4 l hl
  ·simp only [List.mem_singleton] at hl
   subst hl
   exact ⟨by rw [List.length_map, hny], hfit⟩
 simp [yA] at c6
 refine go13 ?_
 cases c7 : yA Cm.gtr (i : Int) 0
 case false =>
  simp [yA] at c7
  have hnx : nextV m f h (t + h * ((i : Int) : Rat)) i (out.getD i []) (out.getD (i - 1) []) = tR m f h (t + h * ((i : Int) : Rat)) (out[i]'(by omega)) := by
   unfold nextV
   rw [yI.2 (by omega), hgl]
   rfl
  refine go13 ?_
  refine x_callG (by rfl) (by rfl) (yB (hdo hin ha) (fun u hu => ?_))
  rcases hu with ⟨y, cy, hy, rfl, ly⟩ | ⟨hy, rfl⟩
  case inr =>
   have he : runV m f h t g x (i + 1) = .error 4 := by
    simp only [runV, i2, qN, hnx, hy]
   refine go13 ?_
   exact ⟨_, .tup (.cons (.c (.hf trivial)) (.cons (.c (.hf trivial)) .nil)), .inl ⟨4, run_err he (by omega), by decide, rfl⟩⟩
  have hny : y.length = f.length := by rw [mStep_len hin.hl hy, hlast.1]
  rw [hy] at hnx
  refine go13 ?_
  first | refine yE (qL ly (by omega) hg) (fun u hu => ?_) | refine yB (qL ly (by omega) hg) (fun u hu => ?_)
  rcases hu with ⟨hfit, cz, rfl, lz⟩ | ⟨hfit, rfl⟩
  case inr =>
   have he : runV m f h t g x (i + 1) = .error 3 := by
    simp only [runV, i2, qN, hnx]
    rw [yI.2 hfit]
    rfl
   refine go13 ?_
   exact ⟨_, .tup (.cons (.c (.hf trivial)) (.cons (.c (.hf trivial)) .nil)), .inl ⟨3, run_err he (by omega), by decide, rfl⟩⟩
  have hr : runV m f h t g x (i + 1) = .ok (out ++ [y.map (rdV g)]) := by
   simp only [runV, i2, qN, hnx]
   rw [yG.2 hfit]
   rfl
  refine go13 ?_
  refine app_imm (bytes := 24) (E := elL 2) (F := [.live ⟨[cf, a0, a1, a2, a3, a4, a5], tL, .rw⟩, .live ⟨[b0, b1, b2, b3, b4, b5], vN, .rw⟩]) (a := y.map (rdV g)) (List.append_assoc _ _ _) (by rw [← List.append_assoc]; exact i5.extS) (by rfl) (by rfl) rfl ⟨cz, rfl, lz⟩ (by omega) (fun R2 o2 q2 => ?_)
  refine go13 ?_
  rw [wF i (by omega)]
  refine l_n (by rfl) (n' := n - (i + 1)) (by omega) ⟨i + 1, _, _, _, rfl, rfl, rfl, by omega, hr, by simp; omega, fun l hl => ?_, q2⟩
  rcases List.mem_append.1 hl with hl | hl
  ·exact i4 l hl
  ·simp only [List.mem_singleton] at hl
   subst hl
   exact ⟨by rw [List.length_map, hny], hfit⟩
 simp [yA] at c7
 refine go13 ?_
 rw [pW i (by omega) (by omega)]
 refine go13 ?_
 refine ld_outL i5.extS (i := i - 1) (by omega) (by omega) (fun cp hcp => ?_)
 have hprev := i4 _ (List.getElem_mem (show i - 1 < out.length by omega))
 have bp := told_cpl hf3 hprev
 have hgp : out.getD (i - 1) [] = out[i - 1]'(by omega) := by
  have : i - 1 < out.length := by omega
  simp [List.getD, this]
 have bm : CpL 140 [t + h * ((i : Int) : Rat) - h] := (cp_sub ba bh).mono (by decide)
 have hnx : nextV m f h (t + h * ((i : Int) : Rat)) i (out.getD i []) (out.getD (i - 1) []) = some (xI (xI (out[i]'(by omega)) (h * (((3 : Int) : Rat) / ((2 : Int) : Rat))) (wY f (out[i]'(by omega)) (t + h * ((i : Int) : Rat)))) (h * (((-1 : Int) : Rat) / ((2 : Int) : Rat))) (wY f (out[i - 1]'(by omega)) (t + h * ((i : Int) : Rat) - h))) := by
  unfold nextV
  rw [yG.2 ⟨c6, by omega⟩, hgl, hgp]
  rfl
 have r1 : CpL 9720 (wY f (out[i]'(by omega)) (t + h * ((i : Int) : Rat))) := (qE hin.hf bl ba).mono (by decide)
 have n1 : (wY f (out[i]'(by omega)) (t + h * ((i : Int) : Rat))).length = (out[i]'(by omega)).length := by rw [tM, hlast.1]
 have r2 : CpL 11000 (wY f (out[i - 1]'(by omega)) (t + h * ((i : Int) : Rat) - h)) := (qE (gQ hf (show _ = (out[i - 1]'(by omega)).length + 1 by rw [hprev.1])) bp bm).mono (by decide)
 have n2 : (wY f (out[i - 1]'(by omega)) (t + h * ((i : Int) : Rat) - h)).length = (out[i]'(by omega)).length := by rw [tM, hlast.1]
 have x1 : CpL 10000 (xI (out[i]'(by omega)) (h * (((3 : Int) : Rat) / ((2 : Int) : Rat))) (wY f (out[i]'(by omega)) (t + h * ((i : Int) : Rat)))) := (sH bl (jU bh c32) r1).mono (by decide)
 have m1 : (xI (out[i]'(by omega)) (h * (((3 : Int) : Rat) / ((2 : Int) : Rat))) (wY f (out[i]'(by omega)) (t + h * ((i : Int) : Rat)))).length = (out[i]'(by omega)).length := vD n1
 refine go13 ?_
 first | refine yE (uU hin hin.hx rfl hin.ht bl ba (by decide)) (fun u hu => ?_) | refine yB (uU hin hin.hx rfl hin.ht bl ba (by decide)) (fun u hu => ?_)
 obtain ⟨s1, rfl, l1⟩ := hu
 refine go13 ?_
 first | refine yE (q_Sub2 g3 hh (by decide)) (fun u hu => ?_) | refine yB (q_Sub2 g3 hh (by decide)) (fun u hu => ?_)
 obtain ⟨s2, rfl, l2⟩ := hu
 have l2 := l2.tightS (bm.bd (k := 4194304) (by decide) (by simp))
 refine go13 ?_
 first | refine yE (uU hin (hcp.up (by decide)) (by rw [hprev.1, hlast.1]) l2 bp bm (by decide)) (fun u hu => ?_) | refine yB (uU hin (hcp.up (by decide)) (by rw [hprev.1, hlast.1]) l2 bp bm (by decide)) (fun u hu => ?_)
 obtain ⟨s3, rfl, l3⟩ := hu
 refine go13 ?_
 first | refine yE (tQ (a := 3) (b := 2) (by decide) (by decide) (by decide)) (fun u hu => ?_) | refine yB (tQ (a := 3) (b := 2) (by decide) (by decide) (by decide)) (fun u hu => ?_)
 obtain ⟨s4, rfl, l4⟩ := hu
 refine go13 ?_
 first | refine yE (tZ hh l4 (by decide)) (fun u hu => ?_) | refine yB (tZ hh l4 (by decide)) (fun u hu => ?_)
 obtain ⟨s5, rfl, l5⟩ := hu
 refine go13 ?_
 first | refine yE (wV (x3 := hin.x3) hin.hx bl (pE l5 (by decide)) (jU bh c32) l1 n1 r1 (by decide)) (fun u hu => ?_) | refine yB (wV (x3 := hin.x3) hin.hx bl (pE l5 (by decide)) (jU bh c32) l1 n1 r1 (by decide)) (fun u hu => ?_)
 obtain ⟨s6, rfl, l6⟩ := hu
 refine go13 ?_
 first | refine yE (tQ (a := -1) (b := 2) (by decide) (by decide) (by decide)) (fun u hu => ?_) | refine yB (tQ (a := -1) (b := 2) (by decide) (by decide) (by decide)) (fun u hu => ?_)
 obtain ⟨s7, rfl, l7⟩ := hu
 refine go13 ?_
 first | refine yE (tZ hh l7 (by decide)) (fun u hu => ?_) | refine yB (tZ hh l7 (by decide)) (fun u hu => ?_)
 obtain ⟨s8, rfl, l8⟩ := hu
 refine go13 ?_
 first | refine yE (wV (x3 := by rw [m1]; exact hin.x3) l6 x1 (pE l8 (by decide)) (jU bh c12) l3 (by rw [n2, m1]) r2 (by decide)) (fun u hu => ?_) | refine yB (wV (x3 := by rw [m1]; exact hin.x3) l6 x1 (pE l8 (by decide)) (jU bh c12) l3 (by rw [n2, m1]) r2 (by decide)) (fun u hu => ?_)
 obtain ⟨s9, rfl, ly⟩ := hu
 generalize hyy : xI (xI (out[i]'(by omega)) (h * (((3 : Int) : Rat) / ((2 : Int) : Rat))) (wY f (out[i]'(by omega)) (t + h * ((i : Int) : Rat)))) (h * (((-1 : Int) : Rat) / ((2 : Int) : Rat))) (wY f (out[i - 1]'(by omega)) (t + h * ((i : Int) : Rat) - h)) = y at hnx ly
 have hny : y.length = f.length := by rw [← hyy, vD (by rw [n2, m1]), m1, hlast.1]
 refine go13 ?_
 first | refine yE (qL ly (by omega) hg) (fun u hu => ?_) | refine yB (qL ly (by omega) hg) (fun u hu => ?_)
 rcases hu with ⟨hfit, cz, rfl, lz⟩ | ⟨hfit, rfl⟩
 case inr =>
  have he : runV m f h t g x (i + 1) = .error 3 := by
   simp only [runV, i2, qN, hnx]
   rw [yI.2 hfit]
   rfl
  refine go13 ?_
  exact ⟨_, .tup (.cons (.c (.hf trivial)) (.cons (.c (.hf trivial)) .nil)), .inl ⟨3, run_err he (by omega), by decide, rfl⟩⟩
 have hr : runV m f h t g x (i + 1) = .ok (out ++ [y.map (rdV g)]) := by
  simp only [runV, i2, qN, hnx]
  rw [yG.2 hfit]
  rfl
 refine go13 ?_
 refine app_imm (bytes := 24) (E := elL 2) (F := [.live ⟨[cf, a0, a1, a2, a3, a4, a5], tL, .rw⟩, .live ⟨[b0, b1, b2, b3, b4, b5], vN, .rw⟩]) (a := y.map (rdV g)) (List.append_assoc _ _ _) (by rw [← List.append_assoc]; exact i5.extS) (by rfl) (by rfl) rfl ⟨cz, rfl, lz⟩ (by omega) (fun R2 o2 q2 => ?_)
 refine go13 ?_
 rw [wF i (by omega)]
 refine l_n (by rfl) (n' := n - (i + 1)) (by omega) ⟨i + 1, _, _, _, rfl, rfl, rfl, by omega, hr, by simp; omega, fun l hl => ?_, q2⟩
 rcases List.mem_append.1 hl with hl | hl
 ·exact i4 l hl
 ·simp only [List.mem_singleton] at hl
  subst hl
  exact ⟨by rw [List.length_map, hny], hfit⟩
end Go.Proofs.YtokckcnfojjpjaaGreat

set_option linter.unusedVariables false
set_option linter.unusedSimpArgs false
namespace Go.Proofs.YtokckcnfojjpjaaGreat
open Go.RowKit
set_option maxRecDepth 20000
def elLR : El (List R2) := ⟨fun cs l => ∃ c, cs = [c] ∧ Ls elP c l ∧ l.length < 1048576, 1, fun h => by obtain ⟨c, rfl, _⟩ := h; rfl, fun h => by obtain ⟨c, rfl, h, _⟩ := h; exact ⟨h.hf, trivial⟩⟩
def RunRK (m : Int) (f : List Pl) (t : R2) (x : List R2) (h : R2) (g n : Int) (u : V) : Prop :=
 (RunOk m f t x h g n ∧ ∃ e, runV m f (rt h) (rt t) g (x.map rt) n.toNat = .error e ∧ e ≠ 0 ∧ u = .tup [.c .nilSl, i64 e]) ∨
 (RunOk m f t x h g n ∧ ∃ out c, runV m f (rt h) (rt t) g (x.map rt) n.toNat = .ok out ∧ (∀ l ∈ out, Told f l) ∧ out.length = n.toNat + 1 ∧ u = .tup [.c c, i64 0] ∧ Ls elLR c (out.map fun l => l.map rp)) ∨
 (¬ RunOk m f t x h g n ∧ ∃ e, e ≠ 0 ∧ u = .tup [.c .nilSl, i64 e] ∧ (jQ f → e = qV m f t x h g n))
theorem run_told {m : Int} {f : List Pl} {h t : Rat} {g : Int} {x : List Rat} (hT : Told f x) : ∀ {n : Nat} {out : List (List Rat)}, runV m f h t g x n = .ok out → out.length = n + 1 ∧ ∀ l ∈ out, Told f l
 | 0, out, h1 => by
  cases h1
  exact ⟨rfl, by simpa using hT⟩
 | n + 1, out, h1 => by
  simp only [runV] at h1
  cases h2 : runV m f h t g x n with
  | error e => rw [h2] at h1; cases h1
  | ok o =>
   rw [h2] at h1
   obtain ⟨l1, l2⟩ := run_told hT h2
   simp only [qN] at h1
   have hgl : o.getD n [] = o[n]'(by omega) := by simp [List.getD, l1]
   cases h3 : nextV m f h (t + h * ((n : Int) : Rat)) n (o.getD n []) (o.getD (n - 1) []) with
   | none => rw [h3] at h1; cases h1
   | some y =>
    rw [h3] at h1
    simp only at h1
    cases h4 : dec (gM (y.map (rdV g)))
    ·rw [h4] at h1; cases h1
    ·rw [h4] at h1
     simp only [cond_true, Except.ok.injEq] at h1
     subst h1
     have hfit := yG.1 h4
     refine ⟨by simp; omega, fun l hl => ?_⟩
     rcases List.mem_append.1 hl with hl | hl
     ·exact l2 l hl
     ·simp only [List.mem_singleton] at hl
      subst hl
      refine ⟨?_, hfit⟩
      have hy : y.length = (o[n]'(by omega)).length := by
       have hlast := l2 _ (List.getElem_mem (show n < o.length by omega))
       rw [hgl] at h3
       unfold nextV at h3
       cases h5 : dec (m = 6 ∧ 0 < n) <;> rw [h5] at h3
       ·exact mStep_len hlast.1.symm h3
       ·cases h3
        rw [vD, vD]
        ·rw [tM, hlast.1]
        ·rw [tM, vD (by rw [tM, hlast.1]), hlast.1]
      rw [List.length_map, hy]
      exact (l2 _ (List.getElem_mem (show n < o.length by omega))).1
theorem told_in {f : List Pl} {x : List R2} (hv : pY x) (hl : x.length = f.length) : Told f (x.map rt) := by
 refine ⟨by simpa using hl, fun q hq => ?_⟩
 obtain ⟨p, hp, rfl⟩ := List.mem_map.1 hq
 have := hv p hp
 rw [this.rp]
 exact this.fit
theorem outs_told {f : List Pl} {l : List Rat} (h : Told f l) : gT l = (l.map rp, true) := by
 unfold gT
 rw [yG.2 (show ∀ q ∈ l, fitR (rp q) = true from h.2)]
 rfl
theorem num_two {p : R2} (h : vI p.1 p.2) : CpL 40 [rt p] := CpL.one h
theorem ld_LR {c : C} {l : List (List R2)} {n i : Nat} {K : V → Prop} (hc : Ls elLR c l) (hi : i < l.length) (hn : n = i) (h : ∀ d, Ls elP d l[i] → K (.c d)) : yM (c.ds.drop (n * 1)) false 1 K := by
 subst hn
 obtain ⟨cs, r, ⟨d, rfl, h1, _⟩, h2⟩ := hc.els.get hi
 have h2 : c.ds.drop (n * 1) = [d] ++ r := h2
 rw [h2]
 exact h d h1
theorem run_first {m : Int} {f : List Pl} {h t : Rat} {g : Int} {x : List Rat} : ∀ {n : Nat} {out : List (List Rat)}, runV m f h t g x n = .ok out → ∃ r, out = x :: r
 | 0, out, h1 => by
  cases h1
  exact ⟨[], rfl⟩
 | n + 1, out, h1 => by
  simp only [runV] at h1
  cases h2 : runV m f h t g x n with
  | error e => rw [h2] at h1; cases h1
  | ok o =>
   rw [h2] at h1
   obtain ⟨r, rfl⟩ := run_first h2
   simp only [qN] at h1
   split at h1
   ·cases h1
   ·rename_i y hy
    cases h4 : dec (gM (y.map (rdV g)))
    ·rw [h4] at h1; cases h1
    ·rw [h4] at h1
     simp only [cond_true, Except.ok.injEq] at h1
     subst h1
     exact ⟨_, rfl⟩
attribute [local irreducible] yA semH semC qLen qNil qIad qSlc qIdx yZ yM xC appX appI slcX awpF yP xK xopF xX qval lval seqQ xN wT wP wB cnd arith IntKind.wrap
theorem step_Run {cf cx : C} {f : List Pl} {x : List R2} (m : Int) (t h : R2) (g n : Int) (hc : Ls elM cf f) (hf : f.length < tN) (hx : Ls elP cx x) (hxl : x.length < tN) (hi : ImpOk m) : semC Tryz.prog n_step_Run [i64 m, .c cf, .agg (ratC t), .c cx, .agg (ratC h), i64 g, i64 n] (RunRK m f t x h g n) := by
 refine yC ok_step_Run rfl (show HFVs [i64 m, .c cf, .agg (ratC t), .c cx, .agg (ratC h), i64 g, i64 n] from ⟨trivial, hc.hf, jK _, hx.hf, jK _, trivial, trivial, trivial⟩) ?_
 refine go13 ?_
 first | refine yE (step_known m t h g n hc hf hx hxl) (fun u hu => ?_) | refine yB (step_known m t h g n hc hf hx hxl) (fun u hu => ?_)
 obtain ⟨e, rfl, k1, k2⟩ := hu
 refine go13 ?_
 rw [neq_decS]
 cases h1 : dec (e ≠ 0)
 case true =>
  have h1 := yG.1 h1
  refine go13 ?_
  refine ⟨_, .tup (.cons (.c (.hf trivial)) (.cons (.c (.hf trivial)) .nil)), .inr (.inr ⟨fun hk => ?_, e, h1, rfl, k1⟩)⟩
  have hv := val_sys hk.sys
  have hS : jQ f := fun p hp t ht => by
   have := ((hv.1.poly p hp).term t ht).len
   have := hv.1.len
   omega
  have e2 := known_ok (m := m) (f := f) (t := t) (x := x) (h := h) (g := g) (n := n) hk.sys ⟨hk.ht, hk.hx, hk.hh⟩ (by have := hk.m0; have := hk.m6; have := hk.hp; have := hk.g0; have := hk.gm; have := hk.n0; have := hk.nm; omega) hk.len (fun h => h.2 (hk.aff h.1))
  rw [k1 hS, e2.1] at h1
  exact h1 rfl
 have h1 : e = 0 := Classical.byContradiction (yI.1 h1)
 have hk := k2 h1
 have hsys := val_sys hk.sys
 have hf3 := hsys.1.len
 have hxl3 := hk.len
 have hT := told_in hk.hx hk.len
 obtain ⟨n', rfl⟩ := Int.eq_ofNat_of_zero_le hk.n0
 have hn60 := hk.nm
 have hgm := hk.gm
 refine go13 ?_
 first | refine yE (q_Of hk.hh) (fun u hu => ?_) | refine yB (q_Of hk.hh) (fun u hu => ?_)
 obtain ⟨r1, rfl, g1⟩ := hu
 obtain ⟨a0, a1, a2, a3, a4, a5, rfl⟩ := id g1.six
 refine go13 ?_
 first | refine yE (q_Of hk.ht) (fun u hu => ?_) | refine yB (q_Of hk.ht) (fun u hu => ?_)
 obtain ⟨r2, rfl, g2⟩ := hu
 refine go13 ?_
 first | refine yE (num_In hx hk.hx (by omega)) (fun u hu => ?_) | refine yB (num_In hx hk.hx (by omega)) (fun u hu => ?_)
 obtain ⟨r3, rfl, g3⟩ := hu
 refine go13 ?_
 first | refine yE (step_run (n := n') hc hsys.1 g3 hT (g1.up (by decide)) ((num_two hk.hh).mono (by decide)) (g2.up (by decide)) (num_two hk.ht) hk.m0 hk.m6 (by omega) (by omega) hi hk.aff) (fun u hu => ?_) | refine yB (step_run (n := n') hc hsys.1 g3 hT (g1.up (by decide)) ((num_two hk.hh).mono (by decide)) (g2.up (by decide)) (num_two hk.ht) hk.m0 hk.m6 (by omega) (by omega) hi hk.aff) (fun u hu => ?_)
 rcases hu with ⟨e2, hr, he2, rfl⟩ | ⟨out, cl, hr, rfl, hl⟩
 case inl =>
  refine go13 ?_
  rw [neq_decS]
  rw [yG.2 he2]
  refine go13 ?_
  exact ⟨_, .tup (.cons (.c (.hf trivial)) (.cons (.c (.hf trivial)) .nil)), .inl ⟨hk, e2, hr, he2, rfl⟩⟩
 obtain ⟨o1, o2⟩ := run_told hT hr
 refine go13 ?_
 rw [show yA Cm.neq 0 0 = false by simp [yA]]
 refine go13 ?_
 refine yV (fun w vs H => ∃ (i : Nat) (o : C) (R : Hp), vs = [.c o, .c cl, i64 out.length, i64 i] ∧ H = [.live ⟨ratC t, tT, .rw⟩, .live ⟨ratC h, tT, .rw⟩] ++ R ∧ w = out.length - i ∧ i ≤ out.length ∧ Out elLR T_sl_api_Rat 2 H o ((out.take i).map fun l => l.map rp)) (by rfl) ⟨0, _, [], rfl, rfl, rfl, by omega, .nil⟩ ?_
 rintro w vs H ⟨i, o, R, rfl, rfl, rfl, i1, i2⟩
 refine go13 ?_
 cases hi : yA Cm.lss (i : Int) (out.length : Int)
 case false =>
  simp [yA] at hi
  rw [tV (by omega)] at i2
  refine go13 ?_
  obtain ⟨d, f1, l1⟩ := i2.fz (p := (· ≠ .bor)) (by simp)
  exact ⟨_, .tup (.cons (.c f1) (.cons (.c (.hf trivial)) .nil)), .inr (.inl ⟨hk, out, d, hr, o2, o1, rfl, l1⟩)⟩
 simp [yA] at hi
 have htl := o2 _ (vJ hi)
 refine go13 ?_
 refine ld_L hl (i := i) hi (by omega) (fun d hd => ?_)
 refine go13 ?_
 first | refine yE (num_Outs hd (by have := htl.1; omega)) (fun u hu => ?_) | refine yB (num_Outs hd (by have := htl.1; omega)) (fun u hu => ?_)
 obtain ⟨c5, l5, rfl⟩ := hu
 rw [outs_told htl] at l5 ⊢
 refine go13 ?_
 refine app_imm (bytes := 24) (E := elLR) (F := [.live ⟨ratC t, tT, .rw⟩, .live ⟨ratC h, tT, .rw⟩]) (R := R) (a := out[i].map rp) rfl i2 (by rfl) (by rfl) rfl ⟨c5, rfl, l5, by rw [List.length_map]; have := htl.1; omega⟩ (by simp only [List.length_map, List.length_take]; omega) (fun R2 o2' q2 => ?_)
 refine go13 ?_
 rw [wF i (by omega)]
 refine l_n (by rfl) (n' := out.length - (i + 1)) (by omega) ⟨i + 1, _, _, rfl, rfl, rfl, by omega, ?_⟩
 rw [wW hi, List.map_append]
 exact q2
def StepRK (m : Int) (f : List Pl) (t : R2) (x : List R2) (h : R2) (g : Int) (u : V) : Prop :=
 (RunOk m f t x h g 1 ∧ ∃ e, runV m f (rt h) (rt t) g (x.map rt) 1 = .error e ∧ e ≠ 0 ∧ u = .tup [.c .nilSl, i64 e]) ∨
 (RunOk m f t x h g 1 ∧ ∃ y c, runV m f (rt h) (rt t) g (x.map rt) 1 = .ok [x.map rt, y] ∧ Told f y ∧ u = .tup [.c c, i64 0] ∧ Ls elP c (y.map rp)) ∨
 (¬ RunOk m f t x h g 1 ∧ ∃ e, e ≠ 0 ∧ u = .tup [.c .nilSl, i64 e] ∧ (jQ f → e = qV m f t x h g 1))
theorem step_Step {cf cx : C} {f : List Pl} {x : List R2} (m : Int) (t h : R2) (g : Int) (hc : Ls elM cf f) (hf : f.length < tN) (hx : Ls elP cx x) (hxl : x.length < tN) (hi : ImpOk m) : semC Tryz.prog n_step_Step [i64 m, .c cf, .agg (ratC t), .c cx, .agg (ratC h), i64 g] (StepRK m f t x h g) := by
 refine yC ok_step_Step rfl (show HFVs [i64 m, .c cf, .agg (ratC t), .c cx, .agg (ratC h), i64 g] from ⟨trivial, hc.hf, jK _, hx.hf, jK _, trivial, trivial⟩) ?_
 refine go13 ?_
 first | refine yE (step_Run m t h g 1 hc hf hx hxl hi) (fun u hu => ?_) | refine yB (step_Run m t h g 1 hc hf hx hxl hi) (fun u hu => ?_)
 rcases hu with ⟨hk, e, hr, he, rfl⟩ | ⟨hk, out, c, hr, ho, hl, rfl, lc⟩ | ⟨hk, e, he, rfl, h1⟩
 ·refine go13 ?_
  rw [neq_decS, yG.2 he]
  refine go13 ?_
  exact ⟨_, .tup (.cons (.c (.hf trivial)) (.cons (.c (.hf trivial)) .nil)), .inl ⟨hk, e, hr, he, rfl⟩⟩
 ·have hl2 : out.length = 2 := hl
  have hr : runV m f (rt h) (rt t) g (x.map rt) 1 = .ok out := hr
  obtain ⟨r, rfl⟩ := run_first hr
  obtain ⟨y, rfl⟩ : ∃ y, r = [y] := by
   match r, hl2 with
   | [y], _ => exact ⟨y, rfl⟩
  obtain ⟨L, hL⟩ : ∃ L : List (List R2), L = [x.map rt, y].map fun l => l.map rp := ⟨_, rfl⟩
  rw [← hL] at lc
  have hLl : L.length = 2 := by rw [hL]; rfl
  refine go13 ?_
  rw [show yA Cm.neq 0 0 = false by simp [yA]]
  refine go13 ?_
  refine ld_LR lc (i := 1) (by omega) (by decide) (fun d hd => ?_)
  have hy : L[1]'(by omega) = y.map rp := by simp [hL]
  rw [hy] at hd
  refine go13 ?_
  exact ⟨_, .tup (.cons (.c (.hf hd.hf)) (.cons (.c (.hf trivial)) .nil)), .inr (.inl ⟨hk, y, d, hr, ho _ (by simp), rfl, hd⟩)⟩
 ·refine go13 ?_
  rw [neq_decS, yG.2 he]
  refine go13 ?_
  exact ⟨_, .tup (.cons (.c (.hf trivial)) (.cons (.c (.hf trivial)) .nil)), .inr (.inr ⟨hk, e, he, rfl, h1⟩)⟩
end Go.Proofs.YtokckcnfojjpjaaGreat

set_option linter.unusedVariables false
set_option linter.unusedSimpArgs false
namespace Go.Proofs.YtokckcnfojjpjaaGreat
open Go.RowKit
set_option maxRecDepth 20000
def TrueK (u : V) : Prop := u = .c (.bool true)
theorem TrueK.fz {H : Hp} : ∃ d, FzV H (.c (.bool true)) d ∧ TrueK d := ⟨_, .c (.hf trivial), rfl⟩
def kF : List Pl := [[((1, 1), [1, 0])]]
theorem k_run : classicV kF (rt (1, 1)) (rt (0, 1) + rt (1, 1) * (((0 : Nat) : Int) : Rat)) [rt (24, 1)] = [65] := by decide +kernel
theorem k_val : valS kF = 0 := by
 refine sys_ok (by decide) ?_ ?_
 ·rintro ⟨p, hp, h⟩
  simp [kF] at hp
  subst hp
  rcases h with h | ⟨t, ht, h⟩
  ·simp at h
  ·simp at ht
   subst ht
   rcases h with h | ⟨_, h⟩ <;> simp [sumP] at h
 ·rintro ⟨p, hp, i, hi, h⟩
  simp [kF] at hp
  subst hp
  simp at hi
  subst hi
  rcases h with h | ⟨h, _⟩
  ·rcases h with h | h | h | ⟨k, hk, h⟩
   ·simp [kF] at h
   ·exact h (show vI 1 1 from ⟨by decide, by decide, by decide, by decide, by decide⟩)
   ·simp at h
   ·simp at hk
    rcases hk with rfl | rfl <;> simp at h
  ·omega
theorem k_ok : RunOk 3 kF (0, 1) [(24, 1)] (1, 1) 0 1 := ⟨k_val, ⟨by decide, by decide, by decide, by decide, by decide⟩, fun p hp => by simp at hp; subst hp; exact ⟨by decide, by decide, by decide, by decide, by decide⟩, ⟨by decide, by decide, by decide, by decide, by decide⟩, by decide, by decide, by decide, by decide, by decide, by decide, by decide, by decide, by rintro (h | h) <;> cases h⟩
theorem k_runV : runV 3 kF (rt (1, 1)) (rt (0, 1)) 0 [rt (24, 1)] 1 = .ok [[rt (24, 1)], [65]] := by
 have h1 : nextV 3 kF (rt (1, 1)) (rt (0, 1) + rt (1, 1) * (((0 : Nat) : Int) : Rat)) 0 [rt (24, 1)] [rt (24, 1)] = some [65] := by
  unfold nextV
  rw [yI.2 (by omega)]
  simp only [cond_false]
  rw [one_3, k_run]
 have h2 : rdV 0 65 = 65 := rd_none (by decide)
 have h3 : gM ([65].map (rdV 0)) := by
  intro q hq
  simp only [List.map_cons, List.map_nil, List.mem_singleton] at hq
  subst hq
  rw [h2]
  unfold fitR
  exact yG.2 (by decide +kernel)
 show qN 3 kF (rt (1, 1)) (rt (0, 1)) 0 0 [[rt (24, 1)]] = _
 unfold qN
 simp only [List.getD_cons_zero, Nat.zero_sub]
 rw [h1]
 simp only
 rw [yG.2 h3]
 simp [h2]
theorem imp3 {m : Int} (h : m ≠ 4) (h2 : m ≠ 5) : ImpOk m := fun _ _ _ => ⟨fun e => absurd e h, fun e => absurd e h2⟩
theorem k_elM : Ls elM (.imm 1 [.imm 1 [iC 1, iC 1, .imm 2 [iC 1, iC 0]]]) kF := by
 have h1 : Ls elI (.imm 2 [iC 1, iC 0]) [1, 0] := .imm (.cons (E := elI) (a := 1) (cs := [iC 1]) ⟨rfl, by decide, by decide⟩ (.one (E := elI) (a := 0) ⟨rfl, by decide, by decide⟩))
 have h2 : Ls elT (.imm 1 [iC 1, iC 1, .imm 2 [iC 1, iC 0]]) [((1, 1), [1, 0])] := .imm (.one (E := elT) (a := ((1, 1), [1, 0])) ⟨_, rfl, h1, by decide⟩)
 exact .imm (.one (E := elM) (a := [((1, 1), [1, 0])]) ⟨_, rfl, h2, by decide⟩)
theorem k_x : Ls elP (.imm 1 [iC 24, iC 1]) [(24, 1)] := .imm (.one (E := elP) (a := (24, 1)) rfl)
attribute [local irreducible] yA semH semC qLen qNil qIad qSlc qIdx yZ yM xC appX appI slcX awpF yP xK xopF xX qval lval seqQ xN wT wP wB cnd arith IntKind.wrap
theorem law19_known : semC Tryz.prog n_law19_known [] TrueK := by
 refine yC ok_law19_known rfl (show HFVs [] from trivial) ?_
 refine go13 ?_
 simp only [qA, sS, ratC, qY, qX, List.set_cons_zero, List.set_cons_succ, List.nil_append, List.cons_append, List.append_nil, List.replicate_succ, List.replicate_zero, List.length_cons, List.length_nil, splice, List.take_succ_cons, List.take_zero, List.drop_succ_cons, List.drop_zero, List.take_nil, List.drop_nil, Nat.zero_add, Nat.reduceAdd, Nat.reduceMul, Int.reduceToNat, vB, List.getElem?_cons_succ, List.getElem?_cons_zero]
 first | refine yE (step_Step 3 (0, 1) (1, 1) 0 k_elM (by decide) k_x (by decide) (imp3 (by decide) (by decide))) (fun u hu => ?_) | refine yB (step_Step 3 (0, 1) (1, 1) 0 k_elM (by decide) k_x (by decide) (imp3 (by decide) (by decide))) (fun u hu => ?_)
 rcases hu with ⟨_, e, hr, _⟩ | ⟨_, y, c, hr, hT, rfl, hc⟩ | ⟨hn, _⟩
 ·have hr : runV 3 kF (rt (1, 1)) (rt (0, 1)) 0 [rt (24, 1)] 1 = .error e := hr
  rw [k_runV] at hr
  cases hr
 ·have hr : runV 3 kF (rt (1, 1)) (rt (0, 1)) 0 [rt (24, 1)] 1 = .ok [[rt (24, 1)], y] := hr
  rw [k_runV] at hr
  simp only [Except.ok.injEq, List.cons.injEq, and_true, true_and] at hr
  subst hr
  obtain ⟨L, hL⟩ : ∃ L : List R2, L = [65].map rp := ⟨_, rfl⟩
  rw [← hL] at hc
  have hl : L = [(65, 1)] := by rw [hL]; decide +kernel
  have hLl : L.length = 1 := by rw [hl]; rfl
  refine go13 ?_
  rw [show yA Cm.eql (L.length : Int) 1 = true by rw [hLl]; simp [yA]]
  refine go13 ?_
  refine qT hc (i := 0) (by omega) (by decide) rfl (fun cs hcs => ?_)
  have h0 : L[0]'(by omega) = (65, 1) := by simp [hl]
  rw [h0] at hcs
  obtain rfl := (show cs = ratC (65, 1) from hcs)
  refine go13 ?_
  rw [show yA Cm.eql 0 0 = true by simp [yA]]
  exact TrueK.fz
 ·exact absurd k_ok hn
end Go.Proofs.YtokckcnfojjpjaaGreat

set_option linter.unusedVariables false
set_option linter.unusedSimpArgs false
namespace Go.Proofs.YtokckcnfojjpjaaGreat
open Go.RowKit
set_option maxRecDepth 20000
def fr (a b : Int) : Rat := (a : Rat) / (b : Rat)
def oneQ : Rat := ((1 : Int) : Rat)
def uT (m : Int) : List Rat × List Rat :=
 if m = 0 then ([oneQ, oneQ], [oneQ]) else if m = 1 ∨ m = 2 then ([oneQ, oneQ, fr 1 2], [oneQ]) else
  if m = 3 then ([oneQ, oneQ, fr 1 2, fr 1 6, fr 1 24], [oneQ]) else if m = 4 then ([oneQ], [oneQ, ((-1 : Int) : Rat)]) else ([oneQ, fr 1 2], [oneQ, fr (-1) 2])
def GroK (E : El Rat) (m : Int) (u : V) : Prop := ∃ c d, u = .tup [.c c, .c d] ∧ Ls E c (uT m).1 ∧ Ls E d (uT m).2
theorem GroK.of {E : El Rat} {m : Int} {c d : C} {p q : List Rat} {H : Hp} (h : uT m = (p, q)) (hc : Ls E c p) (hd : Ls E d q) : ∃ e, FzV H (.tup [.c c, .c d]) e ∧ GroK E m e := ⟨_, .tup (.cons (.c (.hf hc.hf)) (.cons (.c (.hf hd.hf)) .nil)), c, d, rfl, by rw [h]; exact hc, by rw [h]; exact hd⟩
def grR (m : Int) : List R2 × List R2 × Int := if m < 0 ∨ 6 < m then ([], [], 1) else if m = 6 then ([], [], 6) else ((uT m).1.map rp, (uT m).2.map rp, 0)
def GrK (m : Int) (u : V) : Prop := ∃ c d, u = .tup [.c c, .c d, i64 (grR m).2.2] ∧ Ls elP c (grR m).1 ∧ Ls elP d (grR m).2.1
theorem GrK.of {m e : Int} {c d : C} {p q : List R2} {H : Hp} (h : grR m = (p, q, e)) (hc : Ls elP c p) (hd : Ls elP d q) : ∃ a, FzV H (.tup [.c c, .c d, i64 e]) a ∧ GrK m a := ⟨_, .tup (.cons (.c (.hf hc.hf)) (.cons (.c (.hf hd.hf)) (.cons (.c (.hf trivial)) .nil))), c, d, by rw [h]; rfl, by rw [h]; exact hc, by rw [h]; exact hd⟩
def ordR (m : Int) : Int × Int := if m = 0 ∨ m = 4 then (1, 0) else if m = 1 ∨ m = 2 ∨ m = 5 ∨ m = 6 then (2, 0) else if m = 3 then (4, 0) else (0, 1)
def OrdK (m : Int) (u : V) : Prop := u = .tup [i64 (ordR m).1, i64 (ordR m).2]
theorem OrdK.of {m a b : Int} {H : Hp} (h : ordR m = (a, b)) : ∃ d, FzV H (.tup [i64 a, i64 b]) d ∧ OrdK m d := ⟨_, .tup (.cons (.c (.hf trivial)) (.cons (.c (.hf trivial)) .nil)), by unfold OrdK; rw [h]; rfl⟩
def absV (q : Rat) : Rat := if q < 0 then -q else q
noncomputable def gF (m : Int) (z : R2) : Bool × Int :=
 bif dec (m < 0 ∨ 6 < m ∨ ¬ vI z.1 z.2) then (false, 1) else bif dec (m = 6) then (false, 6) else bif dec (ev (uT m).2 (rt z) = 0) then (false, 4) else
  (dec (absV (ev (uT m).1 (rt z) / ev (uT m).2 (rt z)) ≤ ((1 : Int) : Rat)), 0)
def jW (m : Int) (z : R2) (u : V) : Prop := u = .tup [.c (.bool (gF m z).1), i64 (gF m z).2]
theorem jW.of {m e : Int} {z : R2} {b : Bool} {H : Hp} (h : gF m z = (b, e)) : ∃ d, FzV H (.tup [.c (.bool b), i64 e]) d ∧ jW m z d := ⟨_, .tup (.cons (.c (.hf trivial)) (.cons (.c (.hf trivial)) .nil)), by unfold jW; rw [h]; rfl⟩
theorem grow_fit (m : Int) : gM (uT m).1 ∧ gM (uT m).2 := by
 have f : ∀ q ∈ [oneQ, fr 1 2, fr 1 6, fr 1 24, ((-1 : Int) : Rat), fr (-1) 2], fitR (rp q) = true := by
  intro q hq
  unfold fitR
  refine yG.2 ?_
  simp only [List.mem_cons, List.not_mem_nil, or_false] at hq
  rcases hq with rfl | rfl | rfl | rfl | rfl | rfl <;> decide +kernel
 unfold uT
 constructor <;> (repeat' split) <;> (intro q hq; refine f q ?_; simp only [List.mem_cons, List.not_mem_nil, or_false] at hq ⊢; (try simp_all))
 all_goals (rcases hq with h | h | h | h | h <;> simp_all)
theorem grow_len (m : Int) : (uT m).1.length ≤ 5 ∧ (uT m).2.length ≤ 5 := by
 unfold uT
 constructor <;> (repeat' split) <;> simp
attribute [local irreducible] yA semH semC qLen qNil qIad qSlc qIdx yZ yM xC appX appI slcX awpF yP xK xopF xX qval lval seqQ xN wT wP wB cnd arith IntKind.wrap
theorem step_isMethod (m : Int) : semC Tryz.prog n_step_isMethod [i64 m] (fun u => u = i64 (if m < 0 ∨ 6 < m then 1 else if m = 6 then 6 else 0)) := by
 refine yC ok_step_isMethod rfl (show HFVs [i64 m] from ⟨trivial, trivial⟩) ?_
 refine go13 ?_
 cases h1 : yA Cm.lss m 0
 case true =>
  simp [yA] at h1
  rw [if_pos (.inl h1)]
  refine go13 ?_
  exact ⟨_, .c (.hf trivial), rfl⟩
 simp [yA] at h1
 refine go13 ?_
 cases h2 : yA Cm.gtr m 6
 case true =>
  simp [yA] at h2
  rw [if_pos (.inr h2)]
  refine go13 ?_
  exact ⟨_, .c (.hf trivial), rfl⟩
 simp [yA] at h2
 rw [if_neg (by omega)]
 refine go13 ?_
 cases h3 : yA Cm.eql m 6
 case true =>
  simp [yA] at h3
  rw [if_pos h3]
  refine go13 ?_
  exact ⟨_, .c (.hf trivial), rfl⟩
 simp [yA] at h3
 rw [if_neg h3]
 refine go13 ?_
 exact ⟨_, .c (.hf trivial), rfl⟩
theorem gR (m : Int) : semC Tryz.prog n_step_growth [i64 m] (GroK (elQ 1) m) := by
 refine yC ok_step_growth rfl (show HFVs [i64 m] from ⟨trivial, trivial⟩) ?_
 refine go13 ?_
 first | refine yE (vP (g := 1) (by decide)) (fun u hu => ?_) | refine yB (vP (g := 1) (by decide)) (fun u hu => ?_)
 obtain ⟨_, rfl, g0⟩ := hu
 have g0 : IQ 1 _ oneQ := g0
 obtain ⟨_, _, _, _, _, _, rfl⟩ := id g0.six
 have l0 := Ls.imm (Els.one (E := elQ 1) g0)
 refine go13 ?_
 cases h1 : yA Cm.eql m 0
 case true =>
  simp [yA] at h1
  refine go13 ?_
  first | refine yE (vP (g := 1) (by decide)) (fun u hu => ?_) | refine yB (vP (g := 1) (by decide)) (fun u hu => ?_)
  obtain ⟨_, rfl, g1⟩ := hu
  have g1 : IQ 1 _ oneQ := g1
  obtain ⟨_, _, _, _, _, _, rfl⟩ := id g1.six
  refine go13 ?_
  first | refine yE (vP (g := 1) (by decide)) (fun u hu => ?_) | refine yB (vP (g := 1) (by decide)) (fun u hu => ?_)
  obtain ⟨_, rfl, g2⟩ := hu
  have g2 : IQ 1 _ oneQ := g2
  obtain ⟨_, _, _, _, _, _, rfl⟩ := id g2.six
  refine go13 ?_
  exact GroK.of (by simp [uT, h1]) (.imm (.cons (E := elQ 1) g1 (.one (E := elQ 1) g2))) l0
 simp [yA] at h1
 refine go13 ?_
 cases h2 : yA Cm.eql m 1
 case true =>
  simp [yA] at h2
  have hm : m = 1 ∨ m = 2 := .inl h2
  have hm : uT m = ([oneQ, oneQ, fr 1 2], [oneQ]) := by unfold uT; rw [if_neg h1, if_pos hm]
  refine go13 ?_
  first | refine yE (vP (g := 1) (by decide)) (fun u hu => ?_) | refine yB (vP (g := 1) (by decide)) (fun u hu => ?_)
  obtain ⟨_, rfl, g1⟩ := hu
  have g1 : IQ 1 _ oneQ := g1
  obtain ⟨_, _, _, _, _, _, rfl⟩ := id g1.six
  refine go13 ?_
  first | refine yE (vP (g := 1) (by decide)) (fun u hu => ?_) | refine yB (vP (g := 1) (by decide)) (fun u hu => ?_)
  obtain ⟨_, rfl, g2⟩ := hu
  have g2 : IQ 1 _ oneQ := g2
  obtain ⟨_, _, _, _, _, _, rfl⟩ := id g2.six
  refine go13 ?_
  first | refine yE (tQ (a := 1) (b := 2) (by decide) (by decide) (by decide)) (fun u hu => ?_) | refine yB (tQ (a := 1) (b := 2) (by decide) (by decide) (by decide)) (fun u hu => ?_)
  obtain ⟨_, rfl, g3⟩ := hu
  have g3 : IQ 1 _ (fr 1 2) := g3
  obtain ⟨_, _, _, _, _, _, rfl⟩ := id g3.six
  refine go13 ?_
  exact GroK.of hm (.imm (.cons (E := elQ 1) g1 (.cons (E := elQ 1) g2 (.one (E := elQ 1) g3)))) l0
 simp [yA] at h2
 refine go13 ?_
 cases h3 : yA Cm.eql m 2
 case true =>
  simp [yA] at h3
  have hm : m = 1 ∨ m = 2 := .inr h3
  have hm : uT m = ([oneQ, oneQ, fr 1 2], [oneQ]) := by unfold uT; rw [if_neg h1, if_pos hm]
  refine go13 ?_
  first | refine yE (vP (g := 1) (by decide)) (fun u hu => ?_) | refine yB (vP (g := 1) (by decide)) (fun u hu => ?_)
  obtain ⟨_, rfl, g1⟩ := hu
  have g1 : IQ 1 _ oneQ := g1
  obtain ⟨_, _, _, _, _, _, rfl⟩ := id g1.six
  refine go13 ?_
  first | refine yE (vP (g := 1) (by decide)) (fun u hu => ?_) | refine yB (vP (g := 1) (by decide)) (fun u hu => ?_)
  obtain ⟨_, rfl, g2⟩ := hu
  have g2 : IQ 1 _ oneQ := g2
  obtain ⟨_, _, _, _, _, _, rfl⟩ := id g2.six
  refine go13 ?_
  first | refine yE (tQ (a := 1) (b := 2) (by decide) (by decide) (by decide)) (fun u hu => ?_) | refine yB (tQ (a := 1) (b := 2) (by decide) (by decide) (by decide)) (fun u hu => ?_)
  obtain ⟨_, rfl, g3⟩ := hu
  have g3 : IQ 1 _ (fr 1 2) := g3
  obtain ⟨_, _, _, _, _, _, rfl⟩ := id g3.six
  refine go13 ?_
  exact GroK.of hm (.imm (.cons (E := elQ 1) g1 (.cons (E := elQ 1) g2 (.one (E := elQ 1) g3)))) l0
 simp [yA] at h3
 refine go13 ?_
 cases h4 : yA Cm.eql m 3
 case true =>
  simp [yA] at h4
  refine go13 ?_
  first | refine yE (vP (g := 1) (by decide)) (fun u hu => ?_) | refine yB (vP (g := 1) (by decide)) (fun u hu => ?_)
  obtain ⟨_, rfl, g1⟩ := hu
  have g1 : IQ 1 _ oneQ := g1
  obtain ⟨_, _, _, _, _, _, rfl⟩ := id g1.six
  refine go13 ?_
  first | refine yE (vP (g := 1) (by decide)) (fun u hu => ?_) | refine yB (vP (g := 1) (by decide)) (fun u hu => ?_)
  obtain ⟨_, rfl, g2⟩ := hu
  have g2 : IQ 1 _ oneQ := g2
  obtain ⟨_, _, _, _, _, _, rfl⟩ := id g2.six
  refine go13 ?_
  first | refine yE (tQ (a := 1) (b := 2) (by decide) (by decide) (by decide)) (fun u hu => ?_) | refine yB (tQ (a := 1) (b := 2) (by decide) (by decide) (by decide)) (fun u hu => ?_)
  obtain ⟨_, rfl, g3⟩ := hu
  have g3 : IQ 1 _ (fr 1 2) := g3
  obtain ⟨_, _, _, _, _, _, rfl⟩ := id g3.six
  refine go13 ?_
  first | refine yE (tQ (a := 1) (b := 6) (by decide) (by decide) (by decide)) (fun u hu => ?_) | refine yB (tQ (a := 1) (b := 6) (by decide) (by decide) (by decide)) (fun u hu => ?_)
  obtain ⟨_, rfl, g4⟩ := hu
  have g4 : IQ 1 _ (fr 1 6) := g4
  obtain ⟨_, _, _, _, _, _, rfl⟩ := id g4.six
  refine go13 ?_
  first | refine yE (tQ (a := 1) (b := 24) (by decide) (by decide) (by decide)) (fun u hu => ?_) | refine yB (tQ (a := 1) (b := 24) (by decide) (by decide) (by decide)) (fun u hu => ?_)
  obtain ⟨_, rfl, g5⟩ := hu
  have g5 : IQ 1 _ (fr 1 24) := g5
  obtain ⟨_, _, _, _, _, _, rfl⟩ := id g5.six
  refine go13 ?_
  exact GroK.of (by subst h4; simp [uT]) (.imm (.cons (E := elQ 1) g1 (.cons (E := elQ 1) g2 (.cons (E := elQ 1) g3 (.cons (E := elQ 1) g4 (.one (E := elQ 1) g5)))))) l0
 simp [yA] at h4
 refine go13 ?_
 cases h5 : yA Cm.eql m 4
 case true =>
  simp [yA] at h5
  refine go13 ?_
  first | refine yE (vP (g := 1) (by decide)) (fun u hu => ?_) | refine yB (vP (g := 1) (by decide)) (fun u hu => ?_)
  obtain ⟨_, rfl, g1⟩ := hu
  have g1 : IQ 1 _ oneQ := g1
  obtain ⟨_, _, _, _, _, _, rfl⟩ := id g1.six
  refine go13 ?_
  first | refine yE (vP (g := (-1)) (by decide)) (fun u hu => ?_) | refine yB (vP (g := (-1)) (by decide)) (fun u hu => ?_)
  obtain ⟨_, rfl, g2⟩ := hu
  have g2 : IQ 1 _ ((-1 : Int) : Rat) := g2
  obtain ⟨_, _, _, _, _, _, rfl⟩ := id g2.six
  refine go13 ?_
  exact GroK.of (by subst h5; simp [uT]) l0 (.imm (.cons (E := elQ 1) g1 (.one (E := elQ 1) g2)))
 simp [yA] at h5
 refine go13 ?_
 first | refine yE (vP (g := 1) (by decide)) (fun u hu => ?_) | refine yB (vP (g := 1) (by decide)) (fun u hu => ?_)
 obtain ⟨_, rfl, g1⟩ := hu
 have g1 : IQ 1 _ oneQ := g1
 obtain ⟨_, _, _, _, _, _, rfl⟩ := id g1.six
 refine go13 ?_
 first | refine yE (tQ (a := 1) (b := 2) (by decide) (by decide) (by decide)) (fun u hu => ?_) | refine yB (tQ (a := 1) (b := 2) (by decide) (by decide) (by decide)) (fun u hu => ?_)
 obtain ⟨_, rfl, g2⟩ := hu
 have g2 : IQ 1 _ (fr 1 2) := g2
 obtain ⟨_, _, _, _, _, _, rfl⟩ := id g2.six
 refine go13 ?_
 first | refine yE (vP (g := 1) (by decide)) (fun u hu => ?_) | refine yB (vP (g := 1) (by decide)) (fun u hu => ?_)
 obtain ⟨_, rfl, g3⟩ := hu
 have g3 : IQ 1 _ oneQ := g3
 obtain ⟨_, _, _, _, _, _, rfl⟩ := id g3.six
 refine go13 ?_
 first | refine yE (tQ (a := (-1)) (b := 2) (by decide) (by decide) (by decide)) (fun u hu => ?_) | refine yB (tQ (a := (-1)) (b := 2) (by decide) (by decide) (by decide)) (fun u hu => ?_)
 obtain ⟨_, rfl, g4⟩ := hu
 have g4 : IQ 1 _ (fr (-1) 2) := g4
 obtain ⟨_, _, _, _, _, _, rfl⟩ := id g4.six
 refine go13 ?_
 exact GroK.of (by unfold uT; rw [if_neg h1, if_neg (by omega), if_neg h4, if_neg h5]) (.imm (.cons (E := elQ 1) g1 (.one (E := elQ 1) g2))) (.imm (.cons (E := elQ 1) g3 (.one (E := elQ 1) g4)))
theorem gV {k : Nat} {c : C} {m : List Rat} (hc : Ls (elQ k) c m) (hm : m.length < 1048576) : semC Tryz.prog n_num_P_Coefs [.c c] (OutsK m) := by
 refine yC ok_num_P_Coefs rfl (show HFVs [.c c] from ⟨hc.hf, trivial⟩) ?_
 refine go13 ?_
 first | refine yE (num_Outs hc hm) (fun u hu => ?_) | refine yB (num_Outs hc hm) (fun u hu => ?_)
 obtain ⟨d, hd, rfl⟩ := hu
 refine go13 ?_
 exact ⟨_, .tup (.cons (.c (.hf hd.hf)) (.cons (.c (.hf trivial)) .nil)), d, hd, rfl⟩
theorem step_Growth (m : Int) : semC Tryz.prog n_step_Growth [i64 m] (GrK m) := by
 refine yC ok_step_Growth rfl (show HFVs [i64 m] from ⟨trivial, trivial⟩) ?_
 have hl := grow_len m
 have hfit := grow_fit m
 refine go13 ?_
 first | refine yE (step_isMethod m) (fun u hu => ?_) | refine yB (step_isMethod m) (fun u hu => ?_)
 obtain rfl := hu
 refine go13 ?_
 by_cases h1 : m < 0 ∨ 6 < m
 ·rw [if_pos h1]
  rw [show yA Cm.neq 1 0 = true by simp [yA]]
  refine go13 ?_
  exact GrK.of (by unfold grR; rw [if_pos h1]) .nil .nil
 rw [if_neg h1]
 by_cases h2 : m = 6
 ·rw [if_pos h2]
  rw [show yA Cm.neq 6 0 = true by simp [yA]]
  refine go13 ?_
  exact GrK.of (by unfold grR; rw [if_neg h1, if_pos h2]) .nil .nil
 rw [if_neg h2]
 rw [show yA Cm.neq 0 0 = false by simp [yA]]
 refine go13 ?_
 first | refine yE (gR m) (fun u hu => ?_) | refine yB (gR m) (fun u hu => ?_)
 obtain ⟨c, d, rfl, l1, l2⟩ := hu
 refine go13 ?_
 first | refine yE (gV l1 (by omega)) (fun u hu => ?_) | refine yB (gV l1 (by omega)) (fun u hu => ?_)
 obtain ⟨c1, l3, rfl⟩ := hu
 refine go13 ?_
 first | refine yE (gV l2 (by omega)) (fun u hu => ?_) | refine yB (gV l2 (by omega)) (fun u hu => ?_)
 obtain ⟨c2, l4, rfl⟩ := hu
 rw [show gT (uT m).1 = ((uT m).1.map rp, true) by unfold gT; rw [yG.2 (show ∀ q ∈ (uT m).1, fitR (rp q) = true from hfit.1)]; rfl] at l3 ⊢
 rw [show gT (uT m).2 = ((uT m).2.map rp, true) by unfold gT; rw [yG.2 (show ∀ q ∈ (uT m).2, fitR (rp q) = true from hfit.2)]; rfl] at l4 ⊢
 refine go13 ?_
 exact GrK.of (by unfold grR; rw [if_neg h1, if_neg h2]) l3 l4
theorem step_Order (m : Int) : semC Tryz.prog n_step_Order [i64 m] (OrdK m) := by
 refine yC ok_step_Order rfl (show HFVs [i64 m] from ⟨trivial, trivial⟩) ?_
 refine go13 ?_
 cases h0 : yA Cm.eql m 0
 case true =>
  simp [yA] at h0
  refine go13 ?_
  exact OrdK.of (by subst h0; rfl)
 simp [yA] at h0
 refine go13 ?_
 cases h4 : yA Cm.eql m 4
 case true =>
  simp [yA] at h4
  refine go13 ?_
  exact OrdK.of (by subst h4; rfl)
 simp [yA] at h4
 refine go13 ?_
 cases h1 : yA Cm.eql m 1
 case true =>
  simp [yA] at h1
  refine go13 ?_
  exact OrdK.of (by subst h1; rfl)
 simp [yA] at h1
 refine go13 ?_
 cases h2 : yA Cm.eql m 2
 case true =>
  simp [yA] at h2
  refine go13 ?_
  exact OrdK.of (by subst h2; rfl)
 simp [yA] at h2
 refine go13 ?_
 cases h5 : yA Cm.eql m 5
 case true =>
  simp [yA] at h5
  refine go13 ?_
  exact OrdK.of (by subst h5; rfl)
 simp [yA] at h5
 refine go13 ?_
 cases h6 : yA Cm.eql m 6
 case true =>
  simp [yA] at h6
  refine go13 ?_
  exact OrdK.of (by subst h6; rfl)
 simp [yA] at h6
 refine go13 ?_
 cases h3 : yA Cm.eql m 3
 case true =>
  simp [yA] at h3
  refine go13 ?_
  exact OrdK.of (by subst h3; rfl)
 simp [yA] at h3
 refine go13 ?_
 exact OrdK.of (by unfold ordR; rw [if_neg (by omega), if_neg (by omega), if_neg h3])
end Go.Proofs.YtokckcnfojjpjaaGreat

set_option linter.unusedVariables false
set_option linter.unusedSimpArgs false
namespace Go.Proofs.YtokckcnfojjpjaaGreat
open Go.RowKit
set_option maxRecDepth 20000
theorem zeroRQ_is : IR 1 zeroRQ 0 := by
 have e : rp (0 : Rat) = (0, 1) := rp_int 0
 refine ⟨?_, ?_⟩
 ·rw [e]
  exact IsRQ.mk (n := [.nilSl, .bool false]) (d := [.nilSl, .bool false]) rw_zero rw_zero
 ·rw [e]
  exact one_bd (k := 0) (n := 0) (by decide)
section
variable {α : Type} {E : El α}
end
attribute [local irreducible] yA semH semC qLen qNil qIad qSlc qIdx yZ yM xC appX appI slcX awpF yP xK xopF xX qval lval seqQ xN wT wP wB cnd arith IntKind.wrap
end Go.Proofs.YtokckcnfojjpjaaGreat

set_option linter.unusedVariables false
set_option linter.unusedSimpArgs false
namespace Go.Proofs.YtokckcnfojjpjaaGreat
open Go.RowKit
set_option maxRecDepth 20000
theorem ev_step {l : List Rat} {j : Nat} (h : j < l.length) (x : Rat) : ev (l.drop (l.length - j)) x * x + l[l.length - 1 - j] = ev (l.drop (l.length - (j + 1))) x := by
 rw [show l.length - (j + 1) = l.length - 1 - j by omega, ev_drop (l := l) (i := l.length - 1 - j) (by omega), show l.length - 1 - j + 1 = l.length - j by omega, Rat.mul_comm x, Rat.add_comm]
def sgR (q : Rat) : Int := sgn (rp q).1
theorem sgR_cases (q : Rat) : (sgR q = -1 ∧ q < 0) ∨ (sgR q = 0 ∧ q = 0) ∨ (sgR q = 1 ∧ 0 < q) := by
 unfold sgR sgn rp
 simp only
 rcases Int.lt_trichotomy q.num 0 with h | h | h
 ·left
  exact ⟨by rw [if_pos h], Rat.not_le.1 (fun h2 => by have := Rat.num_nonneg.2 h2; omega)⟩
 ·right; left
  exact ⟨by rw [if_neg (by omega), if_pos h], Rat.num_eq_zero.1 h⟩
 ·right; right
  exact ⟨by rw [if_neg (by omega), if_neg (by omega)], by
   have h2 : 0 ≤ q := Rat.num_nonneg.1 (by omega)
   have h3 : q ≠ 0 := fun e => by rw [e] at h; exact absurd h (by decide)
   grind⟩
theorem sgn_num (q : Rat) : yA Cm.lss (sgn (rp q).1) 0 = dec (q < 0) := by
 show dec (sgR q < 0) = dec (q < 0)
 rcases sgR_cases q with ⟨h1, h2⟩ | ⟨h1, h2⟩ | ⟨h1, h2⟩
 ·rw [yG.2 (by omega), yG.2 h2]
 ·rw [yI.2 (by omega), yI.2 (by grind)]
 ·rw [yI.2 (by omega), yI.2 (by grind)]
theorem decI {j n : Nat} (h : j < n) (h2 : n < 9223372036854775808) : arith .sub .i64 ((n : Int) - 1 - (j : Int)) 1 = (n : Int) - 1 - ((j + 1 : Nat) : Int) := by
 rw [vC, yF (by omega) (by omega)]
 omega
def IsM (m : Int) : Prop := 0 ≤ m ∧ m ≤ 6
attribute [local irreducible] yA semH semC qLen qNil qIad qSlc qIdx yZ yM xC appX appI slcX awpF yP xK xopF xX qval lval seqQ xN wT wP wB cnd arith IntKind.wrap
theorem num_P_At {k m : Nat} {c : C} {cs : List C} {l : List Rat} {x : Rat} (hc : Ls (elQ k) c l) (hx : IQ m cs x) (hl : l.length < 1048576) (hk : evK k m l.length ≤ 134217728) : semC Tryz.prog n_num_P_At [.c c, .agg cs] (QV (evK k m l.length) (ev l x)) := by
 refine yC ok_num_P_At rfl (show HFVs [.c c, .agg cs] from ⟨hc.hf, hx.hf, trivial⟩) ?_
 obtain ⟨a0, a1, a2, a3, a4, a5, rfl⟩ := id hx.six
 refine go13 ?_
 first | refine yE (vP (g := 0) (by decide)) (fun u hu => ?_) | refine yB (vP (g := 0) (by decide)) (fun u hu => ?_)
 obtain ⟨es, rfl, g0⟩ := hu
 obtain ⟨_, _, _, _, _, _, rfl⟩ := id g0.six
 refine go13 ?_
 simp only [qA, sS, ratC, qY, qX, List.set_cons_zero, List.set_cons_succ, List.nil_append, List.cons_append, List.append_nil, List.replicate_succ, List.replicate_zero, List.length_cons, List.length_nil, splice, List.take_succ_cons, List.take_zero, List.drop_succ_cons, List.drop_zero, List.take_nil, List.drop_nil, Nat.zero_add, Nat.reduceAdd, Nat.reduceMul, Int.reduceToNat, vB, List.getElem?_cons_succ, List.getElem?_cons_zero]
 rw [subI1' (by omega)]
 refine yV (fun w vs H => ∃ (j : Nat) (es : List C), vs = [.c c, .c (.ptr 0 0), .c (.ptr 1 0), .c (.ptr 2 0), i64 ((l.length : Int) - 1 - (j : Int))] ∧ H = [.live ⟨[a0, a1, a2, a3, a4, a5], vN, .rw⟩, .live ⟨zeroQ, vN, .rw⟩, .live ⟨es, vN, .rw⟩] ∧ w = l.length - j ∧ j ≤ l.length ∧ IQ (evK k m j) es (ev (l.drop (l.length - j)) x)) (by rfl) ⟨0, _, by simp [i64], rfl, rfl, by omega, by rw [Nat.sub_zero, List.drop_of_length_le (Nat.le_refl _)]; exact g0.up (by simp [evK])⟩ ?_
 clear g0
 rintro w vs H ⟨j, es, rfl, rfl, rfl, h2, h3⟩
 obtain ⟨_, _, _, _, _, _, rfl⟩ := id h3.six
 refine go13 ?_
 cases hq : yA Cm.geq ((l.length : Int) - 1 - (j : Int)) 0
 ·simp [yA] at hq
  have ej : j = l.length := by omega
  subst ej
  rw [Nat.sub_self, List.drop_zero] at h3
  refine go13 ?_
  exact QV.fz h3
 ·simp [yA] at hq
  have hm := bI (k := k) (m := m) (show j + 1 ≤ l.length by omega)
  rw [evK_succ] at hm
  refine go13 ?_
  refine qT hc (i := l.length - 1 - j) (by omega) (by omega) rfl (fun ds hds => ?_)
  refine go13 ?_
  first | refine yE (tZ h3 hx (by omega)) (fun u hu => ?_) | refine yB (tZ h3 hx (by omega)) (fun u hu => ?_)
  obtain ⟨fs, rfl, g1⟩ := hu
  refine go13 ?_
  first | refine yE (sR g1 hds (by omega)) (fun u hu => ?_) | refine yB (sR g1 hds (by omega)) (fun u hu => ?_)
  obtain ⟨gs, rfl, g2⟩ := hu
  rw [ev_step (show j < l.length by omega)] at g2
  obtain ⟨_, _, _, _, _, _, rfl⟩ := id g2.six
  refine go13 ?_
  rw [decI (show j < l.length by omega) (by omega)]
  exact l_n (by rfl) (n' := l.length - (j + 1)) (by omega) ⟨j + 1, _, rfl, rfl, rfl, by omega, by rw [evK_succ]; exact g2.up (by omega)⟩
theorem num_Q_Abs {k : Nat} {cs : List C} {q : Rat} (hx : IQ k cs q) (hk : k ≤ 268435456) : semC Tryz.prog n_num_Q_Abs [.agg cs] (QV k (absV q)) := by
 refine yC ok_num_Q_Abs rfl (show HFVs [.agg cs] from ⟨hx.hf, trivial⟩) ?_
 obtain ⟨a0, a1, a2, a3, a4, a5, rfl⟩ := id hx.six
 refine go13 ?_
 first | refine yE (num_Q_Sign hx.is) (fun u hu => ?_) | refine yB (num_Q_Sign hx.is) (fun u hu => ?_)
 obtain rfl := hu
 refine go13 ?_
 rw [sgn_num]
 cases h : dec (q < 0)
 ·refine go13 ?_
  have e : absV q = q := by unfold absV; rw [if_neg (yI.1 h)]
  rw [e]
  exact QV.fz hx
 ·refine go13 ?_
  first | refine yE (q_Neg hx hk) (fun u hu => ?_) | refine yB (q_Neg hx hk) (fun u hu => ?_)
  obtain ⟨fs, rfl, g1⟩ := hu
  obtain ⟨_, _, _, _, _, _, rfl⟩ := id g1.six
  refine go13 ?_
  have e : absV q = -q := by unfold absV; rw [if_pos (yG.1 h)]
  rw [e]
  exact QV.fz g1
theorem step_Stable (m : Int) (z : R2) : semC Tryz.prog n_step_Stable [i64 m, .agg (ratC z)] (jW m z) := by
 refine yC ok_step_Stable rfl (show HFVs [i64 m, .agg (ratC z)] from ⟨trivial, jK _, trivial⟩) ?_
 have hl := grow_len m
 refine go13 ?_
 cases h1 : yA Cm.lss m 0
 case true =>
  simp [yA] at h1
  refine go13 ?_
  exact jW.of (by unfold gF; rw [yG.2 (.inl h1)]; rfl)
 simp [yA] at h1
 refine go13 ?_
 cases h2 : yA Cm.gtr m 6
 case true =>
  simp [yA] at h2
  refine go13 ?_
  exact jW.of (by unfold gF; rw [yG.2 (.inr (.inl h2))]; rfl)
 simp [yA] at h2
 refine go13 ?_
 first | refine yE (qP z.1 z.2) (fun u hu => ?_) | refine yB (qP z.1 z.2) (fun u hu => ?_)
 obtain ⟨b, rfl, hb⟩ := hu
 cases b
 case false =>
  refine go13 ?_
  exact jW.of (by unfold gF; rw [yG.2 (.inr (.inr fun h => by cases hb.2 h))]; rfl)
 have hz := hb.1 rfl
 have hno : ¬ (m < 0 ∨ 6 < m ∨ ¬ vI z.1 z.2) := by
  rintro (h | h | h)
  ·omega
  ·omega
  ·exact h hz
 refine go13 ?_
 cases h3 : yA Cm.eql m 6
 case true =>
  simp [yA] at h3
  refine go13 ?_
  exact jW.of (by unfold gF; rw [yI.2 hno, yG.2 h3]; rfl)
 simp [yA] at h3
 have k1 := bI (k := 1) (m := 2) hl.1
 have k2 := bI (k := 1) (m := 2) hl.2
 have k0 : evK 1 2 5 = 21 := rfl
 refine go13 ?_
 first | refine yE (gR m) (fun u hu => ?_) | refine yB (gR m) (fun u hu => ?_)
 obtain ⟨c, d, rfl, l1, l2⟩ := hu
 refine go13 ?_
 first | refine yE (q_Of hz) (fun u hu => ?_) | refine yB (q_Of hz) (fun u hu => ?_)
 obtain ⟨e1, rfl, g1⟩ := hu
 refine go13 ?_
 first | refine yE (num_P_At l2 g1 (by omega) (by omega)) (fun u hu => ?_) | refine yB (num_P_At l2 g1 (by omega) (by omega)) (fun u hu => ?_)
 obtain ⟨e2, rfl, g2⟩ := hu
 obtain ⟨_, _, _, _, _, _, rfl⟩ := id g2.six
 refine go13 ?_
 first | refine yE (num_Q_IsZero g2) (fun u hu => ?_) | refine yB (num_Q_IsZero g2) (fun u hu => ?_)
 obtain ⟨b2, rfl, hb2⟩ := hu
 cases b2
 case true =>
  refine go13 ?_
  exact jW.of (by unfold gF; rw [yI.2 hno, yI.2 h3, yG.2 (hb2.1 rfl)]; rfl)
 have hd : ¬ ev (uT m).2 (rt z) = 0 := fun h => by cases hb2.2 h
 refine go13 ?_
 first | refine yE (q_Of hz) (fun u hu => ?_) | refine yB (q_Of hz) (fun u hu => ?_)
 obtain ⟨e3, rfl, g3⟩ := hu
 refine go13 ?_
 first | refine yE (num_P_At l1 g3 (by omega) (by omega)) (fun u hu => ?_) | refine yB (num_P_At l1 g3 (by omega) (by omega)) (fun u hu => ?_)
 obtain ⟨e4, rfl, g4⟩ := hu
 refine go13 ?_
 first | refine yE (q_Div2 g4 g2 (by omega) hd) (fun u hu => ?_) | refine yB (q_Div2 g4 g2 (by omega) hd) (fun u hu => ?_)
 obtain ⟨e5, rfl, g5⟩ := hu
 refine go13 ?_
 first | refine yE (num_Q_Abs g5 (by omega)) (fun u hu => ?_) | refine yB (num_Q_Abs g5 (by omega)) (fun u hu => ?_)
 obtain ⟨e6, rfl, g6⟩ := hu
 refine go13 ?_
 first | refine yE (vP (g := 1) (by decide)) (fun u hu => ?_) | refine yB (vP (g := 1) (by decide)) (fun u hu => ?_)
 obtain ⟨e7, rfl, g7⟩ := hu
 refine go13 ?_
 first | refine yE (q_Cmp2 g6 g7 (by omega)) (fun u hu => ?_) | refine yB (q_Cmp2 g6 g7 (by omega)) (fun u hu => ?_)
 obtain rfl := hu
 refine go13 ?_
 rw [cq_leq]
 exact jW.of (by unfold gF; rw [yI.2 hno, yI.2 h3, yI.2 hd]; rfl)
theorem gS {k m : Nat} {c : C} {cs : List C} {l : List Rat} {x : Rat} (hc : Ls (elR k) c l) (hx : IR m cs x) (hl : l.length < 1048576) (hk : evK k m l.length ≤ 134217727) : semC Tryz.prog n_ref03_Value [.c c, .agg cs] (RQV (evK k m l.length) (ev l x)) := by
 refine yC ok_ref03_Value rfl (show HFVs [.c c, .agg cs] from ⟨hc.hf, hx.hf, trivial⟩) ?_
 obtain ⟨a0, a1, a2, a3, rfl⟩ := id hx.four
 refine go13 ?_
 simp only [qA, sS, ratC, qY, qX, List.set_cons_zero, List.set_cons_succ, List.nil_append, List.cons_append, List.append_nil, List.replicate_succ, List.replicate_zero, List.length_cons, List.length_nil, splice, List.take_succ_cons, List.take_zero, List.drop_succ_cons, List.drop_zero, List.take_nil, List.drop_nil, Nat.zero_add, Nat.reduceAdd, Nat.reduceMul, Int.reduceToNat, vB, List.getElem?_cons_succ, List.getElem?_cons_zero]
 rw [subI1' (by omega)]
 refine yV (fun w vs H => ∃ (j : Nat) (es : List C), vs = [.c c, .c (.ptr 0 0), .c (.ptr 1 0), .c (.ptr 2 0), i64 ((l.length : Int) - 1 - (j : Int))] ∧ H = [.live ⟨[a0, .bool a1, a2, .bool a3], pT, .rw⟩, .live ⟨zeroRQ, pT, .rw⟩, .live ⟨es, pT, .rw⟩] ∧ w = l.length - j ∧ j ≤ l.length ∧ IR (evK k m j) es (ev (l.drop (l.length - j)) x)) (by rfl) ⟨0, _, by simp [i64], rfl, rfl, by omega, by rw [Nat.sub_zero, List.drop_of_length_le (Nat.le_refl _)]; exact zeroRQ_is.up (by simp [evK])⟩ ?_
 rintro w vs H ⟨j, es, rfl, rfl, rfl, h2, h3⟩
 obtain ⟨_, _, _, _, rfl⟩ := id h3.four
 refine go13 ?_
 cases hq : yA Cm.geq ((l.length : Int) - 1 - (j : Int)) 0
 ·simp [yA] at hq
  have ej : j = l.length := by omega
  subst ej
  rw [Nat.sub_self, List.drop_zero] at h3
  refine go13 ?_
  exact RQV.fz h3
 ·simp [yA] at hq
  have hm := bI (k := k) (m := m) (show j + 1 ≤ l.length by omega)
  rw [evK_succ] at hm
  refine go13 ?_
  refine qT hc (i := l.length - 1 - j) (by omega) (by omega) rfl (fun ds hds => ?_)
  refine go13 ?_
  first | refine yE (r_Mul2 h3 hx (by omega)) (fun u hu => ?_) | refine yB (r_Mul2 h3 hx (by omega)) (fun u hu => ?_)
  obtain ⟨fs, rfl, g1⟩ := hu
  refine go13 ?_
  first | refine yE (r_Add2 g1 hds (by omega)) (fun u hu => ?_) | refine yB (r_Add2 g1 hds (by omega)) (fun u hu => ?_)
  obtain ⟨gs, rfl, g2⟩ := hu
  rw [ev_step (show j < l.length by omega)] at g2
  obtain ⟨_, _, _, _, rfl⟩ := id g2.four
  refine go13 ?_
  rw [decI (show j < l.length by omega) (by omega)]
  exact l_n (by rfl) (n' := l.length - (j + 1)) (by omega) ⟨j + 1, _, rfl, rfl, rfl, by omega, by rw [evK_succ]; exact g2.up (by omega)⟩
theorem ref01_Q_Sign {k : Nat} {cs : List C} {q : Rat} (hx : IR k cs q) : semC Tryz.prog n_ref01_Q_Sign [.agg cs] (IntK (sgR q)) := by
 refine yC ok_ref01_Q_Sign rfl (show HFVs [.agg cs] from ⟨hx.hf, trivial⟩) ?_
 obtain ⟨a, b, c, d, x, rfl, h1, h2, e⟩ := hx.is.four
 obtain ⟨c1, l, mi, h3, hw, hn, hm, hz⟩ := h1.two
 cases h3
 refine go5 ?_
 refine yB (tW h1) (fun u hu => ?_)
 obtain ⟨z, rfl, hz2⟩ := hu
 unfold sgR
 cases z
 case true =>
  rw [hz2.1 rfl]
  refine go5 ?_
  exact IntK.fz
 have hne : (rp q).1 ≠ 0 := fun e => absurd (hz2.2 e) (by decide)
 cases b
 ·have : sgn (rp q).1 = 1 := by
   rw [hz] at hne ⊢
   simp only [amt, cond_false] at hne ⊢
   exact sgn_pos (by omega)
  rw [this]
  refine go5 ?_
  exact IntK.fz
 ·have : sgn (rp q).1 = -1 := by
   rw [hz] at hne ⊢
   simp only [amt, cond_true] at hne ⊢
   exact sgn_lt (by omega)
  rw [this]
  refine go5 ?_
  exact IntK.fz
theorem ref01_Q_Abs {k : Nat} {cs : List C} {q : Rat} (hx : IR k cs q) (hk : k ≤ 268435456) : semC Tryz.prog n_ref01_Q_Abs [.agg cs] (RQV k (absV q)) := by
 refine yC ok_ref01_Q_Abs rfl (show HFVs [.agg cs] from ⟨hx.hf, trivial⟩) ?_
 obtain ⟨a0, a1, a2, a3, rfl⟩ := id hx.four
 refine go13 ?_
 first | refine yE (ref01_Q_Sign hx) (fun u hu => ?_) | refine yB (ref01_Q_Sign hx) (fun u hu => ?_)
 obtain rfl := hu
 refine go13 ?_
 rw [show yA Cm.lss (sgR q) 0 = dec (q < 0) from sgn_num q]
 cases h : dec (q < 0)
 ·refine go13 ?_
  have e : absV q = q := by unfold absV; rw [if_neg (yI.1 h)]
  rw [e]
  exact RQV.fz hx
 ·refine go13 ?_
  first | refine yE (r_Neg hx hk) (fun u hu => ?_) | refine yB (r_Neg hx hk) (fun u hu => ?_)
  obtain ⟨fs, rfl, g1⟩ := hu
  obtain ⟨_, _, _, _, rfl⟩ := id g1.four
  refine go13 ?_
  have e : absV q = -q := by unfold absV; rw [if_pos (yG.1 h)]
  rw [e]
  exact RQV.fz g1
theorem sF (m : Int) : semC Tryz.prog n_ref19_isMethod [i64 m] (uX (IsM m)) := by
 refine yC ok_ref19_isMethod rfl (show HFVs [i64 m] from ⟨trivial, trivial⟩) ?_
 refine go13 ?_
 cases h1 : yA Cm.geq m 0
 case false =>
  simp [yA] at h1
  refine go13 ?_
  exact ⟨_, .c (.hf trivial), false, rfl, ⟨fun h => (by cases h), fun h => by have := h.1; omega⟩⟩
 simp [yA] at h1
 refine go13 ?_
 cases h2 : yA Cm.leq m 6
 case false =>
  simp [yA] at h2
  exact ⟨_, .c (.hf trivial), false, rfl, ⟨fun h => (by cases h), fun h => by have := h.2; omega⟩⟩
 simp [yA] at h2
 exact ⟨_, .c (.hf trivial), true, rfl, ⟨fun _ => ⟨h1, h2⟩, fun _ => rfl⟩⟩
end Go.Proofs.YtokckcnfojjpjaaGreat

set_option linter.unusedVariables false
set_option linter.unusedSimpArgs false
namespace Go.Proofs.YtokckcnfojjpjaaGreat
open Go.RowKit
set_option maxRecDepth 20000
theorem neg_half : -fr 1 2 = fr (-1) 2 := by decide +kernel
theorem neg_one : -oneQ = ((-1 : Int) : Rat) := by decide +kernel
theorem ref_ord {m : Int} (h : IsM m) : ordR m = if m = 0 ∨ m = 4 then (1, 0) else if m = 3 then (4, 0) else (2, 0) := by
 obtain ⟨h1, h2⟩ := h
 have hm : m = 0 ∨ m = 1 ∨ m = 2 ∨ m = 3 ∨ m = 4 ∨ m = 5 ∨ m = 6 := by omega
 rcases hm with rfl | rfl | rfl | rfl | rfl | rfl | rfl <;> rfl
attribute [local irreducible] yA semH semC qLen qNil qIad qSlc qIdx yZ yM xC appX appI slcX awpF yP xK xopF xX qval lval seqQ xN wT wP wB cnd arith IntKind.wrap
theorem r_Half {a b : Int} (h1 : a.natAbs < 4294967296) (h2 : b.natAbs < 4294967296) (h0 : b ≠ 0) : semC Tryz.prog n_ref01_Half [i64 a, i64 b] (RQV 1 (fr a b)) := by
 refine yC ok_ref01_Half rfl (show HFVs [i64 a, i64 b] from ⟨trivial, trivial, trivial⟩) ?_
 have s1 : Sz 1 a := by unfold Sz; simpa using h1
 have s2 : Sz 1 b := by unfold Sz; simpa using h2
 refine go2 ?_
 refine yB (jM (v := a) (by omega) (by omega)) (fun u hu => ?_)
 obtain ⟨cs, rfl, g1⟩ := hu
 refine go2 ?_
 refine yB (jM (v := b) (by omega) (by omega)) (fun u hu => ?_)
 obtain ⟨ds, rfl, g2⟩ := hu
 refine go2 ?_
 refine yB (vK (fun u hu => RRK.rat hu.rr h0 (Rat.divInt_eq_div a b) s1 s2) (qD (k := 1) g1 g2 s1 s2 (by decide) h0)) (fun u hu => ?_)
 obtain ⟨es, rfl, g3⟩ := hu
 obtain ⟨_, _, _, _, rfl⟩ := id g3.four
 refine go2 ?_
 exact RQV.fz g3
theorem jZ (m : Int) : semC Tryz.prog n_ref19_growth [i64 m] (GroK (elR 1) m) := by
 refine yC ok_ref19_growth rfl (show HFVs [i64 m] from ⟨trivial, trivial⟩) ?_
 refine go13 ?_
 first | refine yE (r_Int (g := 1) (by decide)) (fun u hu => ?_) | refine yB (r_Int (g := 1) (by decide)) (fun u hu => ?_)
 obtain ⟨_, rfl, g0⟩ := hu
 have g0 : IR 1 _ oneQ := g0
 obtain ⟨_, _, _, _, rfl⟩ := id g0.four
 refine go13 ?_
 first | refine yE (r_Half (a := 1) (b := 2) (by decide) (by decide) (by decide)) (fun u hu => ?_) | refine yB (r_Half (a := 1) (b := 2) (by decide) (by decide) (by decide)) (fun u hu => ?_)
 obtain ⟨_, rfl, gh⟩ := hu
 have gh : IR 1 _ (fr 1 2) := gh
 obtain ⟨_, _, _, _, rfl⟩ := id gh.four
 refine go13 ?_
 simp only [qA, sS, ratC, qY, qX, List.set_cons_zero, List.set_cons_succ, List.nil_append, List.cons_append, List.append_nil, List.replicate_succ, List.replicate_zero, List.length_cons, List.length_nil, splice, List.take_succ_cons, List.take_zero, List.drop_succ_cons, List.drop_zero, List.take_nil, List.drop_nil, Nat.zero_add, Nat.reduceAdd, Nat.reduceMul, Int.reduceToNat, vB, List.getElem?_cons_succ, List.getElem?_cons_zero]
 cases h1 : yA Cm.eql m 0
 case true =>
  simp [yA] at h1
  refine go13 ?_
  exact GroK.of (by subst h1; rfl) (.imm (.cons (E := elR 1) g0 (.one (E := elR 1) g0))) (.imm (.one (E := elR 1) g0))
 simp [yA] at h1
 refine go13 ?_
 cases h2 : yA Cm.eql m 1
 case true =>
  simp [yA] at h2
  have hm : uT m = ([oneQ, oneQ, fr 1 2], [oneQ]) := by subst h2; rfl
  refine go13 ?_
  exact GroK.of hm (.imm (.cons (E := elR 1) g0 (.cons (E := elR 1) g0 (.one (E := elR 1) gh)))) (.imm (.one (E := elR 1) g0))
 simp [yA] at h2
 refine go13 ?_
 cases h3 : yA Cm.eql m 2
 case true =>
  simp [yA] at h3
  have hm : uT m = ([oneQ, oneQ, fr 1 2], [oneQ]) := by subst h3; rfl
  refine go13 ?_
  exact GroK.of hm (.imm (.cons (E := elR 1) g0 (.cons (E := elR 1) g0 (.one (E := elR 1) gh)))) (.imm (.one (E := elR 1) g0))
 simp [yA] at h3
 refine go13 ?_
 cases h4 : yA Cm.eql m 3
 case true =>
  simp [yA] at h4
  refine go13 ?_
  first | refine yE (r_Half (a := 1) (b := 6) (by decide) (by decide) (by decide)) (fun u hu => ?_) | refine yB (r_Half (a := 1) (b := 6) (by decide) (by decide) (by decide)) (fun u hu => ?_)
  obtain ⟨_, rfl, g4⟩ := hu
  have g4 : IR 1 _ (fr 1 6) := g4
  obtain ⟨_, _, _, _, rfl⟩ := id g4.four
  refine go13 ?_
  first | refine yE (r_Half (a := 1) (b := 24) (by decide) (by decide) (by decide)) (fun u hu => ?_) | refine yB (r_Half (a := 1) (b := 24) (by decide) (by decide) (by decide)) (fun u hu => ?_)
  obtain ⟨_, rfl, g5⟩ := hu
  have g5 : IR 1 _ (fr 1 24) := g5
  obtain ⟨_, _, _, _, rfl⟩ := id g5.four
  refine go13 ?_
  exact GroK.of (by subst h4; rfl) (.imm (.cons (E := elR 1) g0 (.cons (E := elR 1) g0 (.cons (E := elR 1) gh (.cons (E := elR 1) g4 (.one (E := elR 1) g5)))))) (.imm (.one (E := elR 1) g0))
 simp [yA] at h4
 refine go13 ?_
 cases h5 : yA Cm.eql m 4
 case true =>
  simp [yA] at h5
  refine go13 ?_
  first | refine yE (r_Neg g0 (by decide)) (fun u hu => ?_) | refine yB (r_Neg g0 (by decide)) (fun u hu => ?_)
  obtain ⟨_, rfl, g6⟩ := hu
  rw [neg_one] at g6
  obtain ⟨_, _, _, _, rfl⟩ := id g6.four
  refine go13 ?_
  exact GroK.of (by subst h5; rfl) (.imm (.one (E := elR 1) g0)) (.imm (.cons (E := elR 1) g0 (.one (E := elR 1) g6)))
 simp [yA] at h5
 refine go13 ?_
 first | refine yE (r_Neg gh (by decide)) (fun u hu => ?_) | refine yB (r_Neg gh (by decide)) (fun u hu => ?_)
 obtain ⟨_, rfl, g6⟩ := hu
 rw [neg_half] at g6
 obtain ⟨_, _, _, _, rfl⟩ := id g6.four
 refine go13 ?_
 exact GroK.of (by unfold uT; rw [if_neg h1, if_neg (by omega), if_neg h4, if_neg h5]) (.imm (.cons (E := elR 1) g0 (.one (E := elR 1) gh))) (.imm (.cons (E := elR 1) g0 (.one (E := elR 1) g6)))
theorem ref19_Growth (m : Int) : semC Tryz.prog n_ref19_Growth [i64 m] (GrK m) := by
 refine yC ok_ref19_Growth rfl (show HFVs [i64 m] from ⟨trivial, trivial⟩) ?_
 have hl := grow_len m
 have hfit := grow_fit m
 refine go13 ?_
 first | refine yE (sF m) (fun u hu => ?_) | refine yB (sF m) (fun u hu => ?_)
 obtain ⟨b, rfl, hb⟩ := hu
 cases b
 case false =>
  have h1 : m < 0 ∨ 6 < m := Classical.byContradiction fun h => by cases hb.2 ⟨by omega, by omega⟩
  refine go13 ?_
  exact GrK.of (by unfold grR; rw [if_pos h1]) .nil .nil
 have hM := hb.1 rfl
 have h1 : ¬ (m < 0 ∨ 6 < m) := by have := hM.1; have := hM.2; omega
 refine go13 ?_
 cases h2 : yA Cm.eql m 6
 case true =>
  simp [yA] at h2
  refine go13 ?_
  exact GrK.of (by unfold grR; rw [if_neg h1, if_pos h2]) .nil .nil
 simp [yA] at h2
 refine go13 ?_
 first | refine yE (jZ m) (fun u hu => ?_) | refine yB (jZ m) (fun u hu => ?_)
 obtain ⟨c, d, rfl, l1, l2⟩ := hu
 refine go13 ?_
 first | refine yE (bR l1 (by omega)) (fun u hu => ?_) | refine yB (bR l1 (by omega)) (fun u hu => ?_)
 obtain ⟨c1, l3, rfl⟩ := hu
 refine go13 ?_
 first | refine yE (bR l2 (by omega)) (fun u hu => ?_) | refine yB (bR l2 (by omega)) (fun u hu => ?_)
 obtain ⟨c2, l4, rfl⟩ := hu
 rw [show gT (uT m).1 = ((uT m).1.map rp, true) by unfold gT; rw [yG.2 (show ∀ q ∈ (uT m).1, fitR (rp q) = true from hfit.1)]; rfl] at l3 ⊢
 rw [show gT (uT m).2 = ((uT m).2.map rp, true) by unfold gT; rw [yG.2 (show ∀ q ∈ (uT m).2, fitR (rp q) = true from hfit.2)]; rfl] at l4 ⊢
 refine go13 ?_
 exact GrK.of (by unfold grR; rw [if_neg h1, if_neg h2]) l3 l4
theorem ref19_Order (m : Int) : semC Tryz.prog n_ref19_Order [i64 m] (OrdK m) := by
 refine yC ok_ref19_Order rfl (show HFVs [i64 m] from ⟨trivial, trivial⟩) ?_
 refine go13 ?_
 first | refine yE (sF m) (fun u hu => ?_) | refine yB (sF m) (fun u hu => ?_)
 obtain ⟨b, rfl, hb⟩ := hu
 cases b
 case false =>
  have h1 : m < 0 ∨ 6 < m := Classical.byContradiction fun h => by cases hb.2 ⟨by omega, by omega⟩
  refine go13 ?_
  exact OrdK.of (by unfold ordR; rw [if_neg (by omega), if_neg (by omega), if_neg (by omega)])
 have hM := ref_ord (hb.1 rfl)
 refine go13 ?_
 cases h0 : yA Cm.eql m 0
 case true =>
  simp [yA] at h0
  refine go13 ?_
  exact OrdK.of (by subst h0; rfl)
 simp [yA] at h0
 refine go13 ?_
 cases h4 : yA Cm.eql m 4
 case true =>
  simp [yA] at h4
  refine go13 ?_
  exact OrdK.of (by subst h4; rfl)
 simp [yA] at h4
 refine go13 ?_
 cases h3 : yA Cm.eql m 3
 case true =>
  simp [yA] at h3
  refine go13 ?_
  exact OrdK.of (by subst h3; rfl)
 simp [yA] at h3
 refine go13 ?_
 exact OrdK.of (by rw [hM, if_neg (by omega), if_neg h3])
theorem ref19_Stable (m : Int) (z : R2) : semC Tryz.prog n_ref19_Stable [i64 m, .agg (ratC z)] (jW m z) := by
 refine yC ok_ref19_Stable rfl (show HFVs [i64 m, .agg (ratC z)] from ⟨trivial, jK _, trivial⟩) ?_
 have hl := grow_len m
 refine go13 ?_
 first | refine yE (sF m) (fun u hu => ?_) | refine yB (sF m) (fun u hu => ?_)
 obtain ⟨b, rfl, hb⟩ := hu
 cases b
 case false =>
  have h1 : m < 0 ∨ 6 < m := Classical.byContradiction fun h => by cases hb.2 ⟨by omega, by omega⟩
  refine go13 ?_
  exact jW.of (by unfold gF; rw [yG.2 (by omega)]; rfl)
 have hM := hb.1 rfl
 refine go13 ?_
 first | refine yE (ref01_Is z.1 z.2) (fun u hu => ?_) | refine yB (ref01_Is z.1 z.2) (fun u hu => ?_)
 obtain ⟨b, rfl, hb⟩ := hu
 cases b
 case false =>
  refine go13 ?_
  exact jW.of (by unfold gF; rw [yG.2 (.inr (.inr fun h => by cases hb.2 h))]; rfl)
 have hz := hb.1 rfl
 have hno : ¬ (m < 0 ∨ 6 < m ∨ ¬ vI z.1 z.2) := by
  have := hM.1
  have := hM.2
  rintro (h | h | h)
  ·omega
  ·omega
  ·exact h hz
 refine go13 ?_
 cases h3 : yA Cm.eql m 6
 case true =>
  simp [yA] at h3
  refine go13 ?_
  exact jW.of (by unfold gF; rw [yI.2 hno, yG.2 h3]; rfl)
 simp [yA] at h3
 have k1 := bI (k := 1) (m := 2) hl.1
 have k2 := bI (k := 1) (m := 2) hl.2
 have k0 : evK 1 2 5 = 21 := rfl
 refine go13 ?_
 first | refine yE (jZ m) (fun u hu => ?_) | refine yB (jZ m) (fun u hu => ?_)
 obtain ⟨c, d, rfl, l1, l2⟩ := hu
 refine go13 ?_
 first | refine yE (r_Of hz) (fun u hu => ?_) | refine yB (r_Of hz) (fun u hu => ?_)
 obtain ⟨e1, rfl, g1⟩ := hu
 refine go13 ?_
 first | refine yE (gS l2 g1 (by omega) (by omega)) (fun u hu => ?_) | refine yB (gS l2 g1 (by omega) (by omega)) (fun u hu => ?_)
 obtain ⟨e2, rfl, g2⟩ := hu
 obtain ⟨_, _, _, _, rfl⟩ := id g2.four
 refine go13 ?_
 first | refine yE (ref01_Q_IsZero g2) (fun u hu => ?_) | refine yB (ref01_Q_IsZero g2) (fun u hu => ?_)
 obtain ⟨b2, rfl, hb2⟩ := hu
 cases b2
 case true =>
  refine go13 ?_
  exact jW.of (by unfold gF; rw [yI.2 hno, yI.2 h3, yG.2 (hb2.1 rfl)]; rfl)
 have hd : ¬ ev (uT m).2 (rt z) = 0 := fun h => by cases hb2.2 h
 refine go13 ?_
 first | refine yE (r_Of hz) (fun u hu => ?_) | refine yB (r_Of hz) (fun u hu => ?_)
 obtain ⟨e3, rfl, g3⟩ := hu
 refine go13 ?_
 first | refine yE (gS l1 g3 (by omega) (by omega)) (fun u hu => ?_) | refine yB (gS l1 g3 (by omega) (by omega)) (fun u hu => ?_)
 obtain ⟨e4, rfl, g4⟩ := hu
 refine go13 ?_
 first | refine yE (r_Div2 g4 g2 (by omega) hd) (fun u hu => ?_) | refine yB (r_Div2 g4 g2 (by omega) hd) (fun u hu => ?_)
 obtain ⟨e5, rfl, g5⟩ := hu
 refine go13 ?_
 first | refine yE (ref01_Q_Abs g5 (by omega)) (fun u hu => ?_) | refine yB (ref01_Q_Abs g5 (by omega)) (fun u hu => ?_)
 obtain ⟨e6, rfl, g6⟩ := hu
 refine go13 ?_
 first | refine yE (r_Int (g := 1) (by decide)) (fun u hu => ?_) | refine yB (r_Int (g := 1) (by decide)) (fun u hu => ?_)
 obtain ⟨e7, rfl, g7⟩ := hu
 refine go13 ?_
 first | refine yE (r_Cmp2 g6 g7 (by omega)) (fun u hu => ?_) | refine yB (r_Cmp2 g6 g7 (by omega)) (fun u hu => ?_)
 obtain rfl := hu
 refine go13 ?_
 rw [cq_leq]
 exact jW.of (by unfold gF; rw [yI.2 hno, yI.2 h3, yI.2 hd]; rfl)
theorem bW {c d : C} {l m : List R2} (hc : Ls elP c l) (hd : Ls elP d m) (hl : l.length < 1073741824) (hm : m.length < 1073741824) : semC Tryz.prog n_law19_same [.c c, .c d] (uX (l = m)) := by
 refine yC ok_law19_same rfl (show HFVs [.c c, .c d] from ⟨hc.hf, hd.hf, trivial⟩) ?_
 refine go13 ?_
 cases h1 : yA Cm.neq (l.length : Int) (m.length : Int)
 case true =>
  simp [yA] at h1
  refine go13 ?_
  exact ⟨_, .c (.hf trivial), false, rfl, ⟨fun h => (by cases h), fun h => absurd (congrArg List.length h) (by omega)⟩⟩
 simp [yA] at h1
 refine go13 ?_
 refine yV (fun w vs H => ∃ (i : Nat), vs = [.c c, .c d, i64 l.length, i64 i] ∧ w = l.length - i ∧ i ≤ l.length ∧ l.take i = m.take i) (by rfl) ⟨0, rfl, rfl, by omega, rfl⟩ ?_
 rintro w vs H ⟨i, rfl, rfl, i1, i2⟩
 refine go13 ?_
 cases hi : yA Cm.lss (i : Int) (l.length : Int)
 case false =>
  simp [yA] at hi
  rw [tV (by omega), tV (by omega)] at i2
  refine go13 ?_
  exact ⟨_, .c (.hf trivial), true, rfl, ⟨fun _ => i2, fun _ => rfl⟩⟩
 simp [yA] at hi
 refine go13 ?_
 refine qT hc (i := i) hi (by omega) rfl (fun cs hcs => ?_)
 obtain rfl := (show cs = ratC _ from hcs)
 refine go13 ?_
 refine qT hd (i := i) (by omega) (by omega) rfl (fun ds hds => ?_)
 obtain rfl := (show ds = ratC _ from hds)
 refine go13 ?_
 rw [ne_pair l[i] (m[i]'(by omega))]
 cases he : dec (l[i] = m[i]'(by omega))
 case false =>
  refine go13 ?_
  refine ⟨_, .c (.hf trivial), false, rfl, ⟨fun h => (by cases h), fun h => absurd ?_ (yI.1 he)⟩⟩
  subst h
  rfl
 refine go13 ?_
 rw [wF i (by omega)]
 refine l_n (by rfl) (n' := l.length - (i + 1)) (by omega) ⟨i + 1, rfl, rfl, by omega, ?_⟩
 rw [wW hi, wW (show i < m.length by omega), i2, yG.1 he]
theorem law19_StepGrowth (m : Int) (z : R2) : semC Tryz.prog n_law19_StepGrowth [i64 m, .agg (ratC z)] TrueK := by
 refine yC ok_law19_StepGrowth rfl (show HFVs [i64 m, .agg (ratC z)] from ⟨trivial, jK _, trivial⟩) ?_
 have hl : (grR m).1.length < 1073741824 ∧ (grR m).2.1.length < 1073741824 := by
  have := grow_len m
  unfold grR
  (repeat' split) <;> simp <;> omega
 refine go13 ?_
 first | refine yE (step_Growth m) (fun u hu => ?_) | refine yB (step_Growth m) (fun u hu => ?_)
 obtain ⟨c1, d1, rfl, l1, l2⟩ := hu
 refine go13 ?_
 first | refine yE (ref19_Growth m) (fun u hu => ?_) | refine yB (ref19_Growth m) (fun u hu => ?_)
 obtain ⟨c2, d2, rfl, l3, l4⟩ := hu
 refine go13 ?_
 first | refine yE (bW l1 l3 hl.1 hl.1) (fun u hu => ?_) | refine yB (bW l1 l3 hl.1 hl.1) (fun u hu => ?_)
 obtain ⟨z1, rfl, hz1⟩ := hu
 obtain rfl : z1 = true := hz1.2 rfl
 refine go13 ?_
 first | refine yE (bW l2 l4 hl.2 hl.2) (fun u hu => ?_) | refine yB (bW l2 l4 hl.2 hl.2) (fun u hu => ?_)
 obtain ⟨z2, rfl, hz2⟩ := hu
 obtain rfl : z2 = true := hz2.2 rfl
 refine go13 ?_
 rw [show ∀ z : Int, yA Cm.neq z z = false from fun z => by simp [yA]]
 refine go13 ?_
 first | refine yE (step_Order m) (fun u hu => ?_) | refine yB (step_Order m) (fun u hu => ?_)
 obtain rfl := hu
 refine go13 ?_
 first | refine yE (ref19_Order m) (fun u hu => ?_) | refine yB (ref19_Order m) (fun u hu => ?_)
 obtain rfl := hu
 refine go13 ?_
 rw [show ∀ z : Int, yA Cm.neq z z = false from fun z => by simp [yA]]
 refine go13 ?_
 rw [show ∀ z : Int, yA Cm.neq z z = false from fun z => by simp [yA]]
 refine go13 ?_
 first | refine yE (step_Stable m z) (fun u hu => ?_) | refine yB (step_Stable m z) (fun u hu => ?_)
 obtain rfl := hu
 refine go13 ?_
 first | refine yE (ref19_Stable m z) (fun u hu => ?_) | refine yB (ref19_Stable m z) (fun u hu => ?_)
 obtain rfl := hu
 generalize gF m z = r
 obtain ⟨r1, r2⟩ := r
 refine go13 ?_
 have e2 : ∀ b : Bool, (b == b) = true := by decide
 simp only [e2]
 refine go13 ?_
 rw [show yA Cm.eql r2 r2 = true by simp [yA]]
 refine go13 ?_
 first | refine yE law19_known (fun u hu => ?_) | refine yB law19_known (fun u hu => ?_)
 obtain rfl := hu
 refine go13 ?_
 exact TrueK.fz
end Go.Proofs.YtokckcnfojjpjaaGreat
