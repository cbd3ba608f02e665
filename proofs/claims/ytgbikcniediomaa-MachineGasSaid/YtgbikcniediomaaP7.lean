/- Runs of the machine. -/
import Derived.Test.YtgbikcniediomaaP6
import Derived.Test.YtgbikcniediomaaSx24
namespace Go.Proofs.Ytgbikcniediomaa
open Go Go.Sx Go.Mach
set_option linter.unusedVariables false
set_option linter.unusedSimpArgs false
set_option maxRecDepth 100000
set_option maxHeartbeats 4000000

theorem step_view (x x2 y0 : Value) (l : List IT) (c : Ctx) (pc gas st er : Int) (stk wd : List Int) (h : wd.length = 16 ∧ stk.length ≤ 32 ∧ c.input.length ≤ 1000 ∧ ∀ y ∈ l, 0 ≤ iarg y) :
    SMem Try.prog 30 [iV x l, cxM x2 c, .agg [.v (.int .i64 pc), .v (.int .u64 gas), .v (.int .i64 st), .v (.int .i64 er), .view y0 1 e8 stk, .ints .u64 16 wd]] 0 [] (fun y : Value => ⟨0, stM (stepF l c ⟨pc, gas, st, er, stk, wd⟩) (.view y 1 e8 (stepF l c ⟨pc, gas, st, er, stk, wd⟩).stk), []⟩) :=
  step_spec x x2 y0 l c ⟨pc, gas, st, er, stk, wd⟩ h.1 h.2.1 h.2.2.1 h.2.2.2
def stepT : MT := fun ms n h K => match ms with
  | [.one (.view vx0 ve0 en0 vl0), .agg [.v (.int .u64 cl), .v (.int .u64 va), .view vx1 ve1 en1 vl1], .agg [.v (.int .i64 pc), .v (.int .u64 gas), .v (.int .i64 st), .v (.int .i64 er), .view vx2 ve2 en2 vl2, .ints .u64 16 wd]] => bif Nat.beq ve0 2 && Nat.beq ve1 1 && Nat.beq ve2 1 && noDup [] then ∃ l : List (IT), vl0.map en0 = l.map iE ∧ ∃ inp : List (Int), vl1.map en1 = inp.map e8 ∧ ∃ stk : List (Int), vl2.map en2 = stk.map e8 ∧ ((wd.length = 16 ∧ stk.length ≤ 32 ∧ inp.length ≤ 1000 ∧ ∀ y ∈ l, 0 ≤ iarg y)) ∧ (∀ y : Value, K (n + 0) (stM (stepF l ⟨cl, va, inp⟩ ⟨pc, gas, st, er, stk, wd⟩) (.view y 1 e8 (stepF l ⟨cl, va, inp⟩ ⟨pc, gas, st, er, stk, wd⟩).stk)) ([] ++ delL [] h)) else False
  | _ => False
theorem step_mono : MMono stepT := by
  intro ms n h K K' hkk hk
  unfold stepT at hk ⊢
  split at hk
  · rename_i vx0 ve0 va0 en0 vl0 cl va vx1 ve1 va1 en1 vl1 pc gas st er vx2 ve2 va2 en2 vl2 wd
    obtain ⟨hb, y0, z0, y1, z1, y2, z2, h1, h2⟩ := cond_false_elim hk
    rw [hb]
    exact ⟨y0, z0, y1, z1, y2, z2, h1, fun o => hkk _ _ _ (h2 o)⟩
  · exact hk.elim
theorem step_ok : MOK Try.prog 30 stepT := by
  refine ⟨?_, step_mono⟩
  intro ms n hB K hk
  unfold stepT at hk
  split at hk
  · rename_i vx0 ve0 va0 en0 vl0 cl va vx1 ve1 va1 en1 vl1 pc gas st er vx2 ve2 va2 en2 vl2 wd
    obtain ⟨hb, l, he0, inp, he1, stk, he2, h, hk2⟩ := cond_false_elim hk
    clear hk
    simp only [Bool.and_eq_true] at hb
    obtain ⟨⟨⟨hc0, hc1⟩, hc2⟩, hnd⟩ := hb
    have hs0 := Nat.eq_of_beq_eq_true hc0
    subst hs0
    have hs1 := Nat.eq_of_beq_eq_true hc1
    subst hs1
    have hs2 := Nat.eq_of_beq_eq_true hc2
    subst hs2
    refine SCall.seen ?_ (.cons (.view he0) (.cons (.agg (.refl (.refl (.view he1 .nil)))) (.cons (.agg (.refl (.refl (.refl (.refl (.view he2 (.refl .nil))))))) .nil)))
    exact (step_view _ _ _ l ⟨cl, va, inp⟩ pc gas st er stk wd h).use (fun _ => 0) rfl rfl trivial hnd (fun j hj => absurd hj (Nat.not_lt_zero j)) (fun o => hk2 o)
  · exact hk.elim

end Go.Proofs.Ytgbikcniediomaa
