/- Tables with memory: code, contexts, instructions. -/
import Derived.Test.YtgbikcniediomaaP4
import Derived.Test.YtgbikcniediomaaSx24
namespace Go.Proofs.Ytgbikcniediomaa
open Go Go.Sx Go.Mach
set_option linter.unusedVariables false
set_option linter.unusedSimpArgs false
set_option maxRecDepth 100000
set_option maxHeartbeats 4000000

def ownT : MT := fun ms n h K => match ms with
  | [.one (.view vx0 ve0 en0 vl0)] => bif Nat.beq ve0 2 && noDup [] then ∃ l : List (IT), vl0.map en0 = l.map iE ∧ (l.length ≤ 1000000) ∧ (∀ y : Value, K (n + 0) (iV y l) ([] ++ delL [] h)) else False
  | _ => False
theorem own_mono : MMono ownT := by
  intro ms n h K K' hkk hk
  unfold ownT at hk ⊢
  split at hk
  · rename_i vx0 ve0 va0 en0 vl0
    obtain ⟨hb, y0, z0, h1, h2⟩ := cond_false_elim hk
    rw [hb]
    exact ⟨y0, z0, h1, fun o => hkk _ _ _ (h2 o)⟩
  · exact hk.elim
theorem own_ok : MOK Try.prog 9 ownT := by
  refine ⟨?_, own_mono⟩
  intro ms n hB K hk
  unfold ownT at hk
  split at hk
  · rename_i vx0 ve0 va0 en0 vl0
    obtain ⟨hb, l, he0, h, hk2⟩ := cond_false_elim hk
    clear hk
    simp only [Bool.and_eq_true] at hb
    obtain ⟨hc0, hnd⟩ := hb
    have hs0 := Nat.eq_of_beq_eq_true hc0
    subst hs0
    refine SCall.seen ?_ (.cons (.view he0) .nil)
    exact (own_spec _ _ h).use (fun _ => 0) rfl rfl trivial hnd (fun j hj => absurd hj (Nat.not_lt_zero j)) (fun o => hk2 o)
  · exact hk.elim

def contextT : MT := fun ms n h K => match ms with
  | [.agg [.v (.int .u64 cl), .v (.int .u64 va), .view vx0 ve0 en0 vl0]] => bif Nat.beq ve0 1 && noDup [] then ∃ inp : List (Int), vl0.map en0 = inp.map e8 ∧ (inp.length ≤ 1000000) ∧ (∀ y : Value, K (n + 0) (cxM y ⟨cl, va, inp⟩) ([] ++ delL [] h)) else False
  | _ => False
theorem context_mono : MMono contextT := by
  intro ms n h K K' hkk hk
  unfold contextT at hk ⊢
  split at hk
  · rename_i cl va vx0 ve0 va0 en0 vl0
    obtain ⟨hb, y0, z0, h1, h2⟩ := cond_false_elim hk
    rw [hb]
    exact ⟨y0, z0, h1, fun o => hkk _ _ _ (h2 o)⟩
  · exact hk.elim
theorem context_ok : MOK Try.prog 10 contextT := by
  refine ⟨?_, context_mono⟩
  intro ms n hB K hk
  unfold contextT at hk
  split at hk
  · rename_i cl va vx0 ve0 va0 en0 vl0
    obtain ⟨hb, inp, he0, h, hk2⟩ := cond_false_elim hk
    clear hk
    simp only [Bool.and_eq_true] at hb
    obtain ⟨hc0, hnd⟩ := hb
    have hs0 := Nat.eq_of_beq_eq_true hc0
    subst hs0
    refine SCall.seen ?_ (.cons (.agg (.refl (.refl (.view he0 .nil)))) .nil)
    exact (context_spec _ ⟨cl, va, inp⟩ h).use (fun _ => 0) rfl rfl trivial hnd (fun j hj => absurd hj (Nat.not_lt_zero j)) (fun o => hk2 o)
  · exact hk.elim

theorem does_row (op arg word : Int) (x : Value) (c : Ctx) (pc gas st er : Int) (wd stk : List Int) (sl cap cp : Nat) (h : sl = stk.length ∧ cp = cap ∧ rightF op arg = true ∧ 0 ≤ arg ∧ stk.length ≤ 32 ∧ stk.length ≤ cap ∧ c.input.length ≤ 1000) :
    SMem Try.prog 46 [ins op arg, cxM x c, .agg [.v (.int .i64 pc), .v (.int .u64 gas), .v (.int .i64 st), .v (.int .i64 er), .slc 0 1 0 sl cap, .ints .u64 16 wd], u64 word] 1 [(0, .row 1 E8 stk cp)]
      (fun y : Value => ⟨1, .tup [stM (doesF op arg c ⟨pc, gas, st, er, stk, wd⟩ word).1 (.view y 1 e8 (doesF op arg c ⟨pc, gas, st, er, stk, wd⟩ word).1.stk), u64 (doesF op arg c ⟨pc, gas, st, er, stk, wd⟩ word).2], []⟩) := by
  obtain ⟨rfl, rfl, h1, h2, h3, h4, h5⟩ := h
  exact does_spec op arg word x c ⟨pc, gas, st, er, stk, wd⟩ _ h1 h2 h3 h4 h5
def doesRT : MT := fun ms n h K => match ms with
  | [.agg [.v (.int .i64 op), .v (.int .u64 arg)], .agg [.v (.int .u64 cl), .v (.int .u64 va), .view vx0 ve0 en0 vl0], .agg [.v (.int .i64 pc), .v (.int .u64 gas), .v (.int .i64 st), .v (.int .i64 er), .slc P0 1 0 sl cap, .ints .u64 16 wd], .one (.v (.int .u64 word))] => (match get h P0 with
    | some (.row we0 wn0 wl0 cp) => bif Nat.beq ve0 1 && Nat.beq we0 1 && noDup [P0] then ∃ inp : List (Int), vl0.map en0 = inp.map e8 ∧ ∃ stk : List (Int), wl0.map wn0.enc = stk.map (E8).enc ∧ ((sl = stk.length ∧ cp = cap ∧ rightF op arg = true ∧ 0 ≤ arg ∧ stk.length ≤ 32 ∧ stk.length ≤ cap ∧ inp.length ≤ 1000)) ∧ (∀ y : Value, K (n + 0) (.tup [stM (doesF op arg ⟨cl, va, inp⟩ ⟨pc, gas, st, er, stk, wd⟩ word).1 (.view y 1 e8 (doesF op arg ⟨cl, va, inp⟩ ⟨pc, gas, st, er, stk, wd⟩ word).1.stk), u64 (doesF op arg ⟨cl, va, inp⟩ ⟨pc, gas, st, er, stk, wd⟩ word).2]) ([] ++ delL [P0] h)) else False
    | _ => False)
  | _ => False
theorem doesR_mono : MMono doesRT := by
  intro ms n h K K' hkk hk
  unfold doesRT at hk ⊢
  split at hk
  · rename_i op arg cl va vx0 ve0 va0 en0 vl0 pc gas st er P0 sl cap wd word
    split at hk
    · rename_i we0 wa0 wn0 wl0 cp hg0
      try simp only [hg0]
      obtain ⟨hb, y0, z0, y1, z1, h1, h2⟩ := cond_false_elim hk
      rw [hb]
      exact ⟨y0, z0, y1, z1, h1, fun o => hkk _ _ _ (h2 o)⟩
    · exact hk.elim
  · exact hk.elim
theorem doesR_ok : MOK Try.prog 46 doesRT := by
  refine ⟨?_, doesR_mono⟩
  intro ms n hB K hk
  unfold doesRT at hk
  split at hk
  · rename_i op arg cl va vx0 ve0 va0 en0 vl0 pc gas st er P0 sl cap wd word
    split at hk
    · rename_i we0 wa0 wn0 wl0 cp hg0
      obtain ⟨hb, inp, he0, stk, hl0, h, hk2⟩ := cond_false_elim hk
      clear hk
      simp only [Bool.and_eq_true] at hb
      obtain ⟨⟨hc0, hc1⟩, hnd⟩ := hb
      have hs0 := Nat.eq_of_beq_eq_true hc0
      subst hs0
      have hs1 := Nat.eq_of_beq_eq_true hc1
      subst hs1
      refine SCall.seen ?_ (.cons (.agg (.refl (.refl .nil))) (.cons (.agg (.refl (.refl (.view he0 .nil)))) (.cons (.agg (.refl (.refl (.refl (.refl (.refl (.refl .nil))))))) (.cons (.refl _) .nil))))
      exact (does_row op arg word _ ⟨cl, va, inp⟩ pc gas st er wd stk sl cap cp h).use (fun j => match j with | 0 => P0 | _ => 0) rfl rfl ⟨by show (match get hB P0 with | some b0 => Blk.imp _ _ _ b0 | none => False); rw [hg0]; exact ⟨rfl, rfl, hl0.symm, fun y _ => Enc.pures _ y⟩, rfl, trivial⟩ hnd (fun j hj => by cases j with
          | zero => exact ⟨_, rfl⟩
          | succ j => omega) (fun o => hk2 o)
    · exact hk.elim
  · exact hk.elim

def doesNT : MT := fun ms n h K => match ms with
  | [.agg [.v (.int .i64 op), .v (.int .u64 arg)], .agg [.v (.int .u64 cl), .v (.int .u64 va), .view vx0 ve0 en0 vl0], .agg [.v (.int .i64 pc), .v (.int .u64 gas), .v (.int .i64 st), .v (.int .i64 er), .v (.slice none 0 0), .ints .u64 16 wd], .one (.v (.int .u64 word))] => bif Nat.beq ve0 1 && noDup [] then ∃ inp : List (Int), vl0.map en0 = inp.map e8 ∧ ((rightF op arg = true ∧ 0 ≤ arg ∧ inp.length ≤ 1000)) ∧ (∀ y : Value, K (n + 0) (.tup [stM (doesF op arg ⟨cl, va, inp⟩ ⟨pc, gas, st, er, [], wd⟩ word).1 (.view y 1 e8 (doesF op arg ⟨cl, va, inp⟩ ⟨pc, gas, st, er, [], wd⟩ word).1.stk), u64 (doesF op arg ⟨cl, va, inp⟩ ⟨pc, gas, st, er, [], wd⟩ word).2]) ([] ++ delL [] h)) else False
  | _ => False
theorem doesN_mono : MMono doesNT := by
  intro ms n h K K' hkk hk
  unfold doesNT at hk ⊢
  split at hk
  · rename_i op arg cl va vx0 ve0 va0 en0 vl0 pc gas st er wd word
    obtain ⟨hb, y0, z0, h1, h2⟩ := cond_false_elim hk
    rw [hb]
    exact ⟨y0, z0, h1, fun o => hkk _ _ _ (h2 o)⟩
  · exact hk.elim
theorem doesN_ok : MOK Try.prog 46 doesNT := by
  refine ⟨?_, doesN_mono⟩
  intro ms n hB K hk
  unfold doesNT at hk
  split at hk
  · rename_i op arg cl va vx0 ve0 va0 en0 vl0 pc gas st er wd word
    obtain ⟨hb, inp, he0, h, hk2⟩ := cond_false_elim hk
    clear hk
    simp only [Bool.and_eq_true] at hb
    obtain ⟨hc0, hnd⟩ := hb
    have hs0 := Nat.eq_of_beq_eq_true hc0
    subst hs0
    refine SCall.seen ?_ (.cons (.agg (.refl (.refl .nil))) (.cons (.agg (.refl (.refl (.view he0 .nil)))) (.cons (.agg (.refl (.refl (.refl (.refl (.refl (.refl .nil))))))) (.cons (.refl _) .nil))))
    exact (does_nil op arg word _ ⟨cl, va, inp⟩ ⟨pc, gas, st, er, [], wd⟩ rfl h.1 h.2.1 h.2.2).use (fun _ => 0) rfl rfl trivial hnd (fun j hj => absurd hj (Nat.not_lt_zero j)) (fun o => hk2 o)
  · exact hk.elim

end Go.Proofs.Ytgbikcniediomaa
