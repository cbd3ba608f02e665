/- Plain laws of decimal digits, and of a row turned round. -/
import Derived.Test.YtjdlefkpoggocaaW4
namespace Go.Wide
open Go Go.Sx
set_option linter.unusedSimpArgs false
set_option linter.unusedVariables false

/-- The decimal digits as bytes, the lowest first. -/
def lowD : Nat → Nat → List Int
  | 0, _ => []
  | f + 1, x => ((48 + x % 10 : Nat) : Int) :: (bif decide (x / 10 = 0) then [] else lowD f (x / 10))

/-- What is printed so far, and what is left. -/
def PD (x a : Nat) (l : List Int) : Prop := l.length < 80 ∧ a < 10 ^ (80 - l.length) ∧ lowD 80 x = l ++ lowD (80 - l.length) a

theorem T256_lt : T256 < 10 ^ 80 := by decide
theorem PD.start {x : Nat} (h : x < T256) : PD x x [] := ⟨by decide, Nat.lt_trans h T256_lt, rfl⟩
theorem PD.step {x a : Nat} {l : List Int} (h : PD x a l) (ha : ¬ a / 10 = 0) : PD x (a / 10) (l ++ [((48 + a % 10 : Nat) : Int)]) := by
  obtain ⟨h1, h2, h3⟩ := h
  have hlen : (l ++ [((48 + a % 10 : Nat) : Int)]).length = l.length + 1 := by simp
  have hne : ¬ 80 - l.length = 1 := by
    intro h0
    rw [h0] at h2
    omega
  refine ⟨by rw [hlen]; omega, ?_, ?_⟩
  · rw [hlen]
    rw [show 80 - l.length = (80 - (l.length + 1)) + 1 by omega, Nat.pow_succ] at h2
    omega
  · rw [h3, hlen, show 80 - l.length = (80 - (l.length + 1)) + 1 by omega, lowD, decide_eq_false ha, cond_false, List.append_assoc]
    rfl
theorem PD.end {x a : Nat} {l : List Int} (h : PD x a l) (ha : a / 10 = 0) : lowD 80 x = l ++ [((48 + a % 10 : Nat) : Int)] := by
  obtain ⟨h1, h2, h3⟩ := h
  rw [h3, show 80 - l.length = (80 - (l.length + 1)) + 1 by omega, lowD, decide_eq_true ha, cond_true]

/-- A row turned round as far as i from both ends. -/
def RV (l : List Int) (i : Nat) (c : List Int) : Prop := c.length = l.length ∧ ∀ k, k < l.length → c.getD k 0 = bif decide (k < i ∨ l.length - 1 - k < i) then l.getD (l.length - 1 - k) 0 else l.getD k 0
theorem RV.start (l : List Int) : RV l 0 l := ⟨rfl, fun k _ => by rw [decide_eq_false (by omega)]; rfl⟩
theorem RV.step {l c : List Int} {i : Nat} (h : RV l i c) (hi : i < l.length - 1 - i) : RV l (i + 1) ((c.set i (c.getD (l.length - 1 - i) 0)).set (l.length - 1 - i) (c.getD i 0)) := by
  obtain ⟨h1, h2⟩ := h
  refine ⟨by simp [h1], fun k hk => ?_⟩
  rw [List.getD_eq_getElem?_getD, List.getElem?_set]
  by_cases hkj : l.length - 1 - i = k
  · rw [if_pos hkj, if_pos (by simp [h1]; omega), Option.getD_some, h2 i (by omega), decide_eq_false (by omega), cond_false, decide_eq_true (by omega), cond_true]
    congr 1
    omega
  · rw [if_neg hkj, List.getElem?_set]
    by_cases hki : i = k
    · subst hki
      rw [if_pos rfl, if_pos (by omega), Option.getD_some, h2 _ (by omega), decide_eq_false (by omega), cond_false, decide_eq_true (by omega), cond_true]
    · rw [if_neg hki, ← List.getD_eq_getElem?_getD, h2 k hk]
      by_cases hd : k < i ∨ l.length - 1 - k < i
      · rw [decide_eq_true hd, decide_eq_true (by omega)]
      · rw [decide_eq_false hd, decide_eq_false (by omega)]
theorem RV.end {l c : List Int} {i : Nat} (h : RV l i c) (hi : ¬ (i : Int) < (l.length : Int) - 1 - (i : Int)) : c = l.reverse := by
  obtain ⟨h1, h2⟩ := h
  refine List.ext_getElem (by simp [h1]) fun k hk hk' => ?_
  have := h2 k (by omega)
  rw [getD_at hk] at this
  rw [this, List.getElem_reverse]
  have hl : k < l.length := by omega
  by_cases hd : k < i ∨ l.length - 1 - k < i
  · rw [decide_eq_true hd, cond_true, getD_at (by omega)]
  · rw [decide_eq_false hd, cond_false, getD_at hl]
    congr 1
    omega
end Go.Wide
