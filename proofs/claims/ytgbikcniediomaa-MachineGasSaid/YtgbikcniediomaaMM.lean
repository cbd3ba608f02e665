/- The machine, as plain functions. -/
import Derived.Test.YtgbikcniediomaaSx24
namespace Go.Mach
open Go Go.Sx
set_option linter.unusedSimpArgs false
set_option linter.unusedVariables false

def costF (op : Int) : Int := if op = 14 then 2 else if op = 15 then 5 else 1
def truthF (b : Bool) : Int := if b then 1 else 0
def wordF (op arg : Int) : Int := if op = 14 ∨ op = 15 then IntKind.i64.wrap arg else 0
/-- What is taken, what is laid, what must be found. -/
def takesF (op arg : Int) : Int × Int × Int :=
  if op = 1 ∨ op = 14 ∨ op = 16 ∨ op = 17 ∨ op = 18 then (0, 1, 0)
  else if op = 2 ∨ op = 13 ∨ op = 15 then (1, 0, 1)
  else if op = 3 then (0, 1, IntKind.i64.wrap (IntKind.i64.wrap arg + 1))
  else if op = 4 then (0, 0, IntKind.i64.wrap (IntKind.i64.wrap arg + 2))
  else if op = 5 ∨ op = 6 ∨ op = 7 ∨ op = 8 ∨ op = 9 ∨ op = 10 ∨ op = 11 then (2, 1, 2)
  else (0, 0, 0)
def rightF (op arg : Int) : Bool :=
  if op = 1 ∨ op = 12 ∨ op = 13 ∨ op = 16 then true
  else if op = 3 ∨ op = 4 then decide (arg < 32)
  else if op = 14 ∨ op = 15 then decide (arg < 16)
  else decide (0 ≤ op) && (decide (op ≤ 19) && decide (arg = 0))
def bothF (op b a : Int) : Int × Int :=
  if op = 5 then (IntKind.u64.wrap (b + a), 0)
  else if op = 6 then (IntKind.u64.wrap (b - a), 0)
  else if op = 7 then (IntKind.u64.wrap (b * a), 0)
  else if op = 10 then (truthF (decide (b < a)), 0)
  else if op = 11 then (truthF (b == a), 0)
  else if a = 0 then (0, 32)
  else if op = 8 then (IntKind.u64.wrap (Int.tdiv b a), 0)
  else (Int.tmod b a, 0)
end Go.Mach

namespace Go.Mach
open Go Go.Sx
set_option linter.unusedSimpArgs false
set_option linter.unusedVariables false

abbrev IT : Type := RK.TL [.int .i64, .int .u64]
def iop (x : IT) : Int := Prod.fst (α := Int) (β := RK.TL [.int .u64]) x
def iarg (x : IT) : Int := Prod.fst (α := Int) (β := Unit) (Prod.snd (α := Int) (β := RK.TL [.int .u64]) x)
structure MS where
  pc : Int
  gas : Int
  st : Int
  e : Int
  stk : List Int
  wd : List Int
def failF (s : MS) (e : Int) : MS := { s with st := 2, e := e }
/-- Caller, value, input. -/
structure Ctx where
  caller : Int
  value : Int
  input : List Int
/-- What the op lays, the next place, the word; none: it fails so. -/
def layF (op arg : Int) (c : Ctx) (s : MS) (word : Int) (left taken : List Int) (find : Int) : Int × Int × Int × Int × List Int :=
  let n : Int := s.stk.length
  let next := IntKind.i64.wrap (s.pc + 1)
  let jump := IntKind.i64.wrap (if 128 < arg then 128 else arg)
  if op = 1 then (arg, next, word, 0, left)
  else if op = 3 then (left.getD (n - find).toNat 0, next, word, 0, left)
  else if op = 4 then (0, next, word, 0, (left.set (n - 1).toNat (left.getD (n - find).toNat 0)).set (n - find).toNat (left.getD (n - 1).toNat 0))
  else if op = 12 then (0, jump, word, 0, left)
  else if op = 13 then (0, (if taken.getD 0 0 = 0 then next else jump), word, 0, left)
  else if op = 14 then (word, next, word, 0, left)
  else if op = 15 then (0, next, taken.getD 0 0, 0, left)
  else if op = 16 then ((if arg < c.input.length then c.input.getD arg.toNat 0 else 0), next, word, 0, left)
  else if op = 17 then (c.value, next, word, 0, left)
  else if op = 18 then (c.caller, next, word, 0, left)
  else if op = 2 then (0, next, word, 0, left)
  else ((bothF op (taken.getD 0 0) (taken.getD 1 0)).1, next, word, (bothF op (taken.getD 0 0) (taken.getD 1 0)).2, left)
def doesF (op arg : Int) (c : Ctx) (s : MS) (word : Int) : MS × Int :=
  if s.gas < costF op then (failF { s with gas := 0 } 35, word)
  else
    let s1 := { s with gas := IntKind.u64.wrap (s.gas - costF op) }
    let n : Int := s.stk.length
    let t := takesF op arg
    if n < t.2.2 ∨ 32 < n - t.1 + t.2.1 then (failF s1 36, word)
    else if op = 0 then ({ s1 with st := 1 }, word)
    else if op = 19 then (failF s1 38, word)
    else
      let left := s.stk.take (n - t.1).toNat
      let taken := s.stk.drop (n - t.1).toNat
      let r := layF op arg c s word left taken t.2.2
      if r.2.2.2.1 ≠ 0 then (failF s1 r.2.2.2.1, word)
      else ({ s1 with stk := if 0 < t.2.1 then r.2.2.2.2 ++ [r.1] else r.2.2.2.2, pc := r.2.1 }, r.2.2.1)
def codeF (l : List IT) : Bool := decide (l.length ≤ 128) && l.all fun x => rightF (iop x) (iarg x)
def stepF (l : List IT) (c : Ctx) (s : MS) : MS :=
  if s.st ≠ 0 then s
  else if codeF l = false ∨ s.pc < 0 ∨ (l.length : Int) ≤ s.pc then failF s 37
  else match l[s.pc.toNat]? with
    | none => failF s 37
    | some x => let r := doesF (iop x) (iarg x) c s (s.wd.getD (wordF (iop x) (iarg x)).toNat 0)
      { r.1 with wd := r.1.wd.set (wordF (iop x) (iarg x)).toNat r.2 }
end Go.Mach

namespace Go.Mach
open Go Go.Sx
set_option linter.unusedSimpArgs false
set_option linter.unusedVariables false

theorem doesF_wd (op arg : Int) (c : Ctx) (s : MS) (word : Int) : (doesF op arg c s word).1.wd = s.wd := by
  unfold doesF
  split
  · rfl
  · dsimp only
    split
    · rfl
    · split
      · rfl
      · split
        · rfl
        · split <;> rfl
theorem stepF_wd (l : List IT) (c : Ctx) (s : MS) : (stepF l c s).wd.length = s.wd.length := by
  unfold stepF
  split
  · rfl
  · split
    · rfl
    · split
      · rfl
      · dsimp only
        rw [List.length_set, doesF_wd]
theorem layF_len (op arg : Int) (c : Ctx) (s : MS) (word : Int) (left taken : List Int) (find : Int) : (layF op arg c s word left taken find).2.2.2.2.length = left.length := by
  by_cases h1 : op = 1
  · subst h1; simp [layF]
  by_cases h3 : op = 3
  · subst h3; simp [layF]
  by_cases h4 : op = 4
  · subst h4; simp [layF]
  by_cases h12 : op = 12
  · subst h12; simp [layF]
  by_cases h13 : op = 13
  · subst h13; simp [layF]
  by_cases h14 : op = 14
  · subst h14; simp [layF]
  by_cases h15 : op = 15
  · subst h15; simp [layF]
  by_cases h16 : op = 16
  · subst h16; simp [layF]
  by_cases h17 : op = 17
  · subst h17; simp [layF]
  by_cases h18 : op = 18
  · subst h18; simp [layF]
  by_cases h2 : op = 2
  · subst h2; simp [layF]
  simp [layF, h1, h3, h4, h12, h13, h14, h15, h16, h17, h18, h2]
theorem doesF_stk (op arg : Int) (c : Ctx) (s : MS) (word : Int) (h : s.stk.length ≤ 32) : (doesF op arg c s word).1.stk.length ≤ 32 := by
  unfold doesF
  split
  · exact h
  · dsimp only
    split
    · exact h
    · rename_i g
      split
      · exact h
      · split
        · exact h
        · split
          · exact h
          · dsimp only
            split
            · rw [List.length_append, layF_len, List.length_take, List.length_singleton]
              omega
            · rw [layF_len, List.length_take]
              omega
theorem stepF_stk (l : List IT) (c : Ctx) (s : MS) (h : s.stk.length ≤ 32) : (stepF l c s).stk.length ≤ 32 := by
  unfold stepF
  split
  · exact h
  · split
    · exact h
    · split
      · exact h
      · exact doesF_stk _ _ _ _ _ h
/-- Steps, one behind the other. -/
def itF (l : List IT) (c : Ctx) (s : MS) : Nat → MS
  | 0 => s
  | k + 1 => stepF l c (itF l c s k)
theorem itF_wd (l : List IT) (c : Ctx) (s : MS) : ∀ k, (itF l c s k).wd.length = s.wd.length
  | 0 => rfl
  | k + 1 => (stepF_wd l c _).trans (itF_wd l c s k)
theorem itF_stk (l : List IT) (c : Ctx) (s : MS) (h : s.stk.length ≤ 32) : ∀ k, (itF l c s k).stk.length ≤ 32
  | 0 => h
  | k + 1 => stepF_stk l c _ (itF_stk l c s h k)
end Go.Mach

namespace Go.Mach
open Go Go.Sx
set_option linter.unusedSimpArgs false
set_option linter.unusedVariables false

theorem cost_pos (op : Int) : 1 ≤ costF op ∧ costF op ≤ 5 := by
  unfold costF
  split
  · decide
  · split <;> decide
theorem wrapG {x : Int} (h1 : 0 ≤ x) (h2 : x < 18446744073709551616) : IntKind.u64.wrap x = x := by
  simp [IntKind.wrap, IntKind.bits, IntKind.signed]
  omega
theorem doesF_gas (op arg : Int) (c : Ctx) (s : MS) (word : Int) (h0 : 0 ≤ s.gas) (h1 : s.gas < 18446744073709551616) :
    0 ≤ (doesF op arg c s word).1.gas ∧ (doesF op arg c s word).1.gas ≤ s.gas ∧ ((doesF op arg c s word).1.st = 0 → (doesF op arg c s word).1.gas + 1 ≤ s.gas) := by
  have hc := cost_pos op
  unfold doesF
  split
  · refine ⟨Int.le_refl _, h0, fun h => by cases h⟩
  · rename_i g
    have hw : IntKind.u64.wrap (s.gas - costF op) = s.gas - costF op := wrapG (by omega) (by omega)
    dsimp only
    rw [hw]
    split
    · refine ⟨?_, ?_, fun h => by cases h⟩ <;> simp only [failF] <;> omega
    · split
      · refine ⟨?_, ?_, fun h => by cases h⟩ <;> dsimp only <;> omega
      · split
        · refine ⟨?_, ?_, fun h => by cases h⟩ <;> simp only [failF] <;> omega
        · split
          · refine ⟨?_, ?_, fun h => by cases h⟩ <;> simp only [failF] <;> omega
          · refine ⟨?_, ?_, fun _ => ?_⟩ <;> dsimp only <;> omega
theorem stepF_gas (l : List IT) (c : Ctx) (s : MS) (h0 : 0 ≤ s.gas) (h1 : s.gas < 18446744073709551616) (hs : s.st = 0) :
    0 ≤ (stepF l c s).gas ∧ (stepF l c s).gas ≤ s.gas ∧ ((stepF l c s).st = 0 → (stepF l c s).gas + 1 ≤ s.gas) := by
  unfold stepF
  rw [if_neg (by simp [hs])]
  split
  · exact ⟨h0, Int.le_refl _, fun h => by cases h⟩
  · split
    · exact ⟨h0, Int.le_refl _, fun h => by cases h⟩
    · exact doesF_gas _ _ _ _ _ h0 h1
/-- As long as it runs, each step costs. -/
theorem itF_gas (l : List IT) (c : Ctx) (s : MS) (h0 : 0 ≤ s.gas) (h1 : s.gas < 18446744073709551616) : ∀ k, (∀ j, j < k → (itF l c s j).st = 0) → 0 ≤ (itF l c s k).gas ∧ (itF l c s k).gas ≤ s.gas ∧ ((itF l c s k).st = 0 → (itF l c s k).gas + k ≤ s.gas) ∧ (k : Int) ≤ s.gas + 1
  | 0, _ => ⟨h0, Int.le_refl _, fun _ => by show s.gas + ((0 : Nat) : Int) ≤ s.gas; omega, by omega⟩
  | k + 1, h => by
    obtain ⟨a, b, d, e⟩ := itF_gas l c s h0 h1 k fun j hj => h j (by omega)
    have hk := h k (by omega)
    have d := d hk
    obtain ⟨f, g, i⟩ := stepF_gas l c (itF l c s k) a (by omega) hk
    refine ⟨f, by show (stepF l c (itF l c s k)).gas ≤ s.gas; omega, fun hz => ?_, by omega⟩
    have := i hz
    show (stepF l c (itF l c s k)).gas + ((k + 1 : Nat) : Int) ≤ s.gas
    omega
/-- It failed just if an error stands there. -/
def okSt (s : MS) : Prop := (s.st = 0 ∧ s.e = 0) ∨ (s.st = 1 ∧ s.e = 0) ∨ (s.st = 2 ∧ s.e ≠ 0)
theorem doesF_okSt (op arg : Int) (c : Ctx) (s : MS) (word : Int) (hs : s.st = 0) (he : s.e = 0) : okSt (doesF op arg c s word).1 := by
  unfold doesF
  split
  · exact .inr (.inr ⟨rfl, by simp [failF]⟩)
  · dsimp only
    split
    · exact .inr (.inr ⟨rfl, by simp [failF]⟩)
    · split
      · exact .inr (.inl ⟨rfl, he⟩)
      · split
        · exact .inr (.inr ⟨rfl, by simp [failF]⟩)
        · split
          · rename_i h
            exact .inr (.inr ⟨rfl, h⟩)
          · exact .inl ⟨hs, he⟩
theorem stepF_okSt (l : List IT) (c : Ctx) (s : MS) (h : okSt s) : okSt (stepF l c s) := by
  unfold stepF
  split
  · exact h
  · rename_i h0
    have hs : s.st = 0 := by omega
    have he : s.e = 0 := by
      rcases h with h | h | h
      · exact h.2
      · exact h.2
      · omega
    split
    · exact .inr (.inr ⟨rfl, by simp [failF]⟩)
    · split
      · exact .inr (.inr ⟨rfl, by simp [failF]⟩)
      · exact doesF_okSt _ _ _ _ _ hs he
theorem itF_okSt (l : List IT) (c : Ctx) (s : MS) (h : okSt s) : ∀ k, okSt (itF l c s k)
  | 0 => h
  | k + 1 => stepF_okSt l c _ (itF_okSt l c s h k)
end Go.Mach

namespace Go.Mach
open Go Go.Sx
set_option linter.unusedSimpArgs false
set_option linter.unusedVariables false

def plusF (s : MS) (m : Int) : MS := { s with gas := s.gas + m }
theorem doesF_plus (op arg : Int) (c : Ctx) (s : MS) (word m : Int) (h0 : 0 ≤ s.gas) (hm : 0 ≤ m) (h1 : s.gas + m < 18446744073709551616) (hg : (doesF op arg c s word).1.e ≠ 35) :
    doesF op arg c (plusF s m) word = (plusF (doesF op arg c s word).1 m, (doesF op arg c s word).2) := by
  have hc := cost_pos op
  by_cases g : s.gas < costF op
  · exfalso
    apply hg
    unfold doesF
    rw [if_pos g]
    rfl
  have hw : IntKind.u64.wrap (s.gas - costF op) = s.gas - costF op := wrapG (by omega) (by omega)
  have hw2 : IntKind.u64.wrap ((plusF s m).gas - costF op) = s.gas - costF op + m := by
    show IntKind.u64.wrap (s.gas + m - costF op) = _
    rw [wrapG (by omega) (by omega)]
    omega
  clear hg
  unfold doesF
  rw [if_neg g, if_neg (show ¬ (plusF s m).gas < costF op by show ¬ s.gas + m < costF op; omega)]
  dsimp only
  rw [hw, hw2]
  by_cases c1 : (s.stk.length : Int) < (takesF op arg).2.2 ∨ 32 < (s.stk.length : Int) - (takesF op arg).1 + (takesF op arg).2.1
  · rw [if_pos c1, if_pos (show ((plusF s m).stk.length : Int) < (takesF op arg).2.2 ∨ 32 < ((plusF s m).stk.length : Int) - (takesF op arg).1 + (takesF op arg).2.1 from c1)]
    rfl
  rw [if_neg c1, if_neg (show ¬ (((plusF s m).stk.length : Int) < (takesF op arg).2.2 ∨ 32 < ((plusF s m).stk.length : Int) - (takesF op arg).1 + (takesF op arg).2.1) from c1)]
  by_cases c2 : op = 0
  · rw [if_pos c2, if_pos c2]
    rfl
  rw [if_neg c2, if_neg c2]
  by_cases c3 : op = 19
  · rw [if_pos c3, if_pos c3]
    rfl
  rw [if_neg c3, if_neg c3]
  show (if (layF op arg c s word (s.stk.take ((s.stk.length : Int) - (takesF op arg).1).toNat) (s.stk.drop ((s.stk.length : Int) - (takesF op arg).1).toNat) (takesF op arg).2.2).2.2.2.1 ≠ 0 then _ else _) = _
  split <;> rfl
theorem stepF_plus (l : List IT) (c : Ctx) (s : MS) (m : Int) (h0 : 0 ≤ s.gas) (hm : 0 ≤ m) (h1 : s.gas + m < 18446744073709551616) (hg : (stepF l c s).e ≠ 35) :
    stepF l c (plusF s m) = plusF (stepF l c s) m := by
  by_cases a : s.st ≠ 0
  · unfold stepF
    rw [if_pos a, if_pos (show (plusF s m).st ≠ 0 from a)]
  by_cases b : codeF l = false ∨ s.pc < 0 ∨ (l.length : Int) ≤ s.pc
  · unfold stepF
    rw [if_neg a, if_neg (show ¬ (plusF s m).st ≠ 0 from a), if_pos b, if_pos (show codeF l = false ∨ (plusF s m).pc < 0 ∨ (l.length : Int) ≤ (plusF s m).pc from b)]
    rfl
  have hk : s.pc.toNat < l.length := by
    have : ¬ (s.pc < 0) ∧ ¬ ((l.length : Int) ≤ s.pc) := ⟨fun h => b (.inr (.inl h)), fun h => b (.inr (.inr h))⟩
    omega
  have e1 : stepF l c s = { (doesF (iop l[s.pc.toNat]) (iarg l[s.pc.toNat]) c s (s.wd.getD (wordF (iop l[s.pc.toNat]) (iarg l[s.pc.toNat])).toNat 0)).1 with wd := (doesF (iop l[s.pc.toNat]) (iarg l[s.pc.toNat]) c s (s.wd.getD (wordF (iop l[s.pc.toNat]) (iarg l[s.pc.toNat])).toNat 0)).1.wd.set (wordF (iop l[s.pc.toNat]) (iarg l[s.pc.toNat])).toNat (doesF (iop l[s.pc.toNat]) (iarg l[s.pc.toNat]) c s (s.wd.getD (wordF (iop l[s.pc.toNat]) (iarg l[s.pc.toNat])).toNat 0)).2 } := by
    unfold stepF
    rw [if_neg a, if_neg b, List.getElem?_eq_getElem hk]
  have e2 : stepF l c (plusF s m) = { (doesF (iop l[s.pc.toNat]) (iarg l[s.pc.toNat]) c (plusF s m) (s.wd.getD (wordF (iop l[s.pc.toNat]) (iarg l[s.pc.toNat])).toNat 0)).1 with wd := (doesF (iop l[s.pc.toNat]) (iarg l[s.pc.toNat]) c (plusF s m) (s.wd.getD (wordF (iop l[s.pc.toNat]) (iarg l[s.pc.toNat])).toNat 0)).1.wd.set (wordF (iop l[s.pc.toNat]) (iarg l[s.pc.toNat])).toNat (doesF (iop l[s.pc.toNat]) (iarg l[s.pc.toNat]) c (plusF s m) (s.wd.getD (wordF (iop l[s.pc.toNat]) (iarg l[s.pc.toNat])).toNat 0)).2 } := by
    unfold stepF
    rw [if_neg (show ¬ (plusF s m).st ≠ 0 from a), if_neg (show ¬ (codeF l = false ∨ (plusF s m).pc < 0 ∨ (l.length : Int) ≤ (plusF s m).pc) from b)]
    show (match l[s.pc.toNat]? with
      | none => _
      | some x => _) = _
    rw [List.getElem?_eq_getElem hk]
    rfl
  rw [e1] at hg
  rw [e1, e2, doesF_plus _ _ c s _ m h0 hm h1 hg]
  rfl
/-- As long as none fails for gas, both runs go in step. -/
theorem itF_plus (l : List IT) (c : Ctx) (s : MS) (m : Int) (h0 : 0 ≤ s.gas) (hm : 0 ≤ m) (h1 : s.gas + m < 18446744073709551616) (ok : okSt s) : ∀ k, (∀ j, j < k → (itF l c s j).st = 0) → (itF l c s k).e ≠ 35 → itF l c (plusF s m) k = plusF (itF l c s k) m
  | 0, _, _ => rfl
  | k + 1, h, he => by
    have hk := h k (by omega)
    have hj : ∀ j, j < k → (itF l c s j).st = 0 := fun j hj => h j (by omega)
    have e0 : (itF l c s k).e ≠ 35 := by
      have := itF_okSt l c s ok k
      unfold okSt at this
      omega
    obtain ⟨a, b, _, _⟩ := itF_gas l c s h0 (by omega) k hj
    show stepF l c (itF l c (plusF s m) k) = _
    rw [itF_plus l c s m h0 hm h1 ok k hj e0]
    exact stepF_plus l c _ m a hm (by omega) he
/-- The whole: the first run ends; it failed for gas, or the second does the same. -/
theorem gas_law (l : List IT) (c : Ctx) (s : MS) (m : Int) (k k2 : Nat) (h0 : 0 ≤ s.gas) (hm : 0 ≤ m) (h1 : s.gas ≤ 200) (h2 : m ≤ 200) (ok : okSt s)
    (hk : ∀ j, j < k → (itF l c s j).st = 0) (ek : k = 500 ∨ (itF l c s k).st ≠ 0)
    (hk2 : ∀ j, j < k2 → (itF l c (plusF s m) j).st = 0) (ek2 : k2 = 500 ∨ (itF l c (plusF s m) k2).st ≠ 0) :
    (itF l c s k).st ≠ 0 ∧ ((itF l c s k).e = 35 ∨ (k2 = k ∧ itF l c (plusF s m) k2 = plusF (itF l c s k) m)) := by
  obtain ⟨a, b, d, e⟩ := itF_gas l c s h0 (by omega) k hk
  have hst : (itF l c s k).st ≠ 0 := by
    rcases ek with ek | ek
    · omega
    · exact ek
  refine ⟨hst, ?_⟩
  by_cases he : (itF l c s k).e = 35
  · exact .inl he
  right
  have hp := itF_plus l c s m h0 hm (by omega) ok k hk he
  have : k2 = k := by
    by_cases h3 : k < k2
    · have := hk2 k h3
      rw [hp] at this
      exact absurd this hst
    by_cases h4 : k2 < k
    · exfalso
      have h5 := itF_plus l c s m h0 hm (by omega) ok k2 (fun j hj => hk j (by omega)) (by
        have := itF_okSt l c s ok k2
        have := hk k2 h4
        unfold okSt at *
        omega)
      rw [h5] at ek2
      have h6 : (plusF (itF l c s k2) m).st = 0 := hk k2 h4
      rcases ek2 with ek2 | ek2
      · omega
      · exact ek2 h6
    omega
  subst this
  exact ⟨rfl, hp⟩
end Go.Mach
