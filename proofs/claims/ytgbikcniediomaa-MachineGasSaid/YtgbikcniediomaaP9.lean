/- Runs, as a table; what must come. -/
import Derived.Test.YtgbikcniediomaaP8
import Derived.Test.YtgbikcniediomaaSx24
namespace Go.Proofs.Ytgbikcniediomaa
open Go Go.Sx Go.Mach
set_option linter.unusedVariables false
set_option linter.unusedSimpArgs false
set_option maxRecDepth 100000
set_option maxHeartbeats 4000000

theorem run_int (x x2 : Value) (l : List IT) (c : Ctx) (pc gas st er : Int) (wd : List Int) (m : Int) (h : 0 ≤ m ∧ m ≤ 1000 ∧ wd.length = 16 ∧ c.input.length ≤ 1000 ∧ ∀ y ∈ l, 0 ≤ iarg y) :
    SMem Try.prog 8 [iV x l, cxM x2 c, .agg [.v (.int .i64 pc), .v (.int .u64 gas), .v (.int .i64 st), .v (.int .i64 er), .v (.slice none 0 0), .ints .u64 16 wd], int m] 0 []
      (fun o : RzT l c ⟨pc, gas, st, er, [], wd⟩ m.toNat => ⟨0, .tup [stM (itF l c ⟨pc, gas, st, er, [], wd⟩ o.k) (.view o.y 1 e8 (itF l c ⟨pc, gas, st, er, [], wd⟩ o.k).stk), int o.k], []⟩) := by
  have := run_spec x x2 l c ⟨pc, gas, st, er, [], wd⟩ m.toNat rfl (by omega) h.2.2.1 h.2.2.2.1 h.2.2.2.2
  rwa [show ((m.toNat : Nat) : Int) = m by omega] at this
def runT : MT := fun ms n h K => match ms with
  | [.one (.view vx0 ve0 en0 vl0), .agg [.v (.int .u64 cl), .v (.int .u64 va), .view vx1 ve1 en1 vl1], .agg [.v (.int .i64 pc), .v (.int .u64 gas), .v (.int .i64 st), .v (.int .i64 er), .v (.slice none 0 0), .ints .u64 16 wd], .one (.v (.int .i64 m))] => bif Nat.beq ve0 2 && Nat.beq ve1 1 && noDup [] then ∃ l : List (IT), vl0.map en0 = l.map iE ∧ ∃ inp : List (Int), vl1.map en1 = inp.map e8 ∧ ((0 ≤ m ∧ m ≤ 1000 ∧ wd.length = 16 ∧ inp.length ≤ 1000 ∧ ∀ y ∈ l, 0 ≤ iarg y)) ∧ (∀ o : RzT l ⟨cl, va, inp⟩ ⟨pc, gas, st, er, [], wd⟩ m.toNat, K (n + 0) (.tup [stM (itF l ⟨cl, va, inp⟩ ⟨pc, gas, st, er, [], wd⟩ o.k) (.view o.y 1 e8 (itF l ⟨cl, va, inp⟩ ⟨pc, gas, st, er, [], wd⟩ o.k).stk), int o.k]) ([] ++ delL [] h)) else False
  | _ => False
theorem run_mono : MMono runT := by
  intro ms n h K K' hkk hk
  unfold runT at hk ⊢
  split at hk
  · rename_i vx0 ve0 va0 en0 vl0 cl va vx1 ve1 va1 en1 vl1 pc gas st er wd m
    obtain ⟨hb, y0, z0, y1, z1, h1, h2⟩ := cond_false_elim hk
    rw [hb]
    exact ⟨y0, z0, y1, z1, h1, fun o => hkk _ _ _ (h2 o)⟩
  · exact hk.elim
theorem run_ok : MOK Try.prog 8 runT := by
  refine ⟨?_, run_mono⟩
  intro ms n hB K hk
  unfold runT at hk
  split at hk
  · rename_i vx0 ve0 va0 en0 vl0 cl va vx1 ve1 va1 en1 vl1 pc gas st er wd m
    obtain ⟨hb, l, he0, inp, he1, h, hk2⟩ := cond_false_elim hk
    clear hk
    simp only [Bool.and_eq_true] at hb
    obtain ⟨⟨hc0, hc1⟩, hnd⟩ := hb
    have hs0 := Nat.eq_of_beq_eq_true hc0
    subst hs0
    have hs1 := Nat.eq_of_beq_eq_true hc1
    subst hs1
    refine SCall.seen ?_ (.cons (.view he0) (.cons (.agg (.refl (.refl (.view he1 .nil)))) (.cons (.agg (.refl (.refl (.refl (.refl (.refl (.refl .nil))))))) (.cons (.refl _) .nil))))
    exact (run_int _ _ l ⟨cl, va, inp⟩ pc gas st er wd m h).use (fun _ => 0) rfl rfl trivial hnd (fun j hj => absurd hj (Nat.not_lt_zero j)) (fun o => hk2 o)
  · exact hk.elim

theorem SCall.nilled {P : Program} {f n : Nat} {ms ms' : List M} {h : Bs} {K : Nat → M → Bs → Prop} (s : SCall P f ms' n h K) (hd : ∀ σ, ms'.map (M.den σ) = ms.map (M.den σ)) (ho : ∀ {w av n}, (∀ m ∈ ms, M.Ok w av n m) → ∀ m ∈ ms', M.Ok w av n m) : SCall P f ms n h K := by
  refine ⟨fun B σ w sm hargs => ?_⟩
  rw [← hd σ]
  exact s.out B σ w sm (ho hargs)
def runNT : MT := fun ms n h K => match ms with
  | [a, .agg [p, q, .v (.slice none 0 0)], c, d] => runT [a, .agg [p, q, .view (.slice none 0 0) 1 e8 []], c, d] n h K
  | ms => runT ms n h K
theorem runN_ok : MOK Try.prog 8 runNT := by
  refine ⟨fun args n h K hk => ?_, fun args n h K K' hkk hk => ?_⟩
  · unfold runNT at hk
    split at hk
    · rename_i a p q c d
      refine SCall.nilled (run_ok.ok _ _ _ _ hk) (fun σ => rfl) fun {w av n} ho m hm => ?_
      rcases List.mem_cons.1 hm with rfl | hm
      · exact ho _ (by simp)
      rcases List.mem_cons.1 hm with rfl | hm
      · have h1 := ho (.agg [p, q, .v (.slice none 0 0)]) (by simp)
        cases h1 with
        | agg hl =>
          refine .agg fun z hz => ?_
          rcases List.mem_cons.1 hz with rfl | hz
          · exact hl _ (by simp)
          rcases List.mem_cons.1 hz with rfl | hz
          · exact hl _ (by simp)
          rcases List.mem_cons.1 hz with rfl | hz
          · exact nil_view_ok 1 e8
          · cases hz
      exact ho _ (by simp at hm ⊢; right; right; exact hm)
    · exact run_ok.ok _ _ _ _ hk
  · unfold runNT at hk ⊢
    split at hk
    · exact run_ok.mono _ _ _ _ _ hkk hk
    · exact run_ok.mono _ _ _ _ _ hkk hk
/-- Two less three. -/
def kc : List IT := [((1 : Int), (2 : Int), ()), ((1 : Int), (3 : Int), ()), ((6 : Int), (0 : Int), ()), ((0 : Int), (0 : Int), ())]
theorem mknows_spec : SFun Try.prog 7 [] (bool true) := by
  refine SFun.inm [(11, startT)] (SOK.cons start_ok SOK.nil) [(8, runNT)] (MSOK.cons runN_ok MSOK.nil) tok mixed [] IOK.nil true [] [] Try.call7 Try.func7 rfl (by rfl) ?_
  refine Eq.mp (α := (And ((0 : Nat) + (4 : Nat) ≤ (4 : Nat)) (And ((4 : Nat) ≤ (4 : Nat)) (And (∀ y : RK.TL [RK.int IntKind.i64, RK.int IntKind.u64], ((true : Bool) = true)) (∀ x : Value, (∃ l : List IT, (And (List.map (Enc.enc (encRec [RK.int IntKind.i64, RK.int IntKind.u64])) (List.take (4 : Nat) (List.drop (0 : Nat) [Enc.of (encRec [RK.int IntKind.i64, RK.int IntKind.u64]) ((1 : Int), (2 : Int), ()), Enc.of (encRec [RK.int IntKind.i64, RK.int IntKind.u64]) ((1 : Int), (3 : Int), ()), Enc.of (encRec [RK.int IntKind.i64, RK.int IntKind.u64]) ((6 : Int), (0 : Int), ()), Enc.of (encRec [RK.int IntKind.i64, RK.int IntKind.u64]) ((0 : Int), (0 : Int), ())])) = List.map iE l) (∃ inp : List Int, (And (List.map e8 [] = List.map e8 inp) (And (And ((0 : Int) ≤ (99 : Int)) (And ((99 : Int) ≤ (1000 : Int)) (And ((16 : Nat) = (16 : Nat)) (And (List.length inp ≤ (1000 : Nat)) (∀ y : IT, (∀ a : y ∈ l, ((0 : Int) ≤ iarg y))))))) (∀ o : RzT l { caller := (0 : Int), value := (0 : Int), input := inp } { pc := (0 : Int), gas := (9 : Int), st := (0 : Int), e := (0 : Int), stk := [], wd := List.replicate (16 : Nat) (0 : Int) } (Int.toNat (99 : Int)), (@Bool.rec (fun _ => Prop) (And (M.one (SV.v (Value.bool false)) = M.one (SV.v (Value.bool true))) ((true : Bool) = true)) (@Bool.rec (fun _ => Prop) (And (M.one (SV.v (Value.bool false)) = M.one (SV.v (Value.bool true))) ((true : Bool) = true)) (@Bool.rec (fun _ => Prop) (And (M.one (SV.v (Value.bool false)) = M.one (SV.v (Value.bool true))) ((true : Bool) = true)) (And ((0 : Int) ≤ (0 : Int)) (∃ hk : Int.toNat (0 : Int) < List.length (MS.stk (itF l { caller := (0 : Int), value := (0 : Int), input := inp } { pc := (0 : Int), gas := (9 : Int), st := (0 : Int), e := (0 : Int), stk := [], wd := List.replicate (16 : Nat) (0 : Int) } (RzT.k o))), (@Bool.rec (fun _ => Prop) (And (M.one (SV.v (Value.bool false)) = M.one (SV.v (Value.bool true))) ((true : Bool) = true)) (@Bool.rec (fun _ => Prop) (And (M.one (SV.v (Value.bool false)) = M.one (SV.v (Value.bool true))) ((true : Bool) = true)) (And (M.one (SV.v (Value.bool (MS.pc (itF l { caller := (0 : Int), value := (0 : Int), input := inp } { pc := (0 : Int), gas := (9 : Int), st := (0 : Int), e := (0 : Int), stk := [], wd := List.replicate (16 : Nat) (0 : Int) } (RzT.k o)) == (3 : Int)))) = M.one (SV.v (Value.bool true))) ((true : Bool) = true)) (MS.gas (itF l { caller := (0 : Int), value := (0 : Int), input := inp } { pc := (0 : Int), gas := (9 : Int), st := (0 : Int), e := (0 : Int), stk := [], wd := List.replicate (16 : Nat) (0 : Int) } (RzT.k o)) == (5 : Int))) ((MS.stk (itF l { caller := (0 : Int), value := (0 : Int), input := inp } { pc := (0 : Int), gas := (9 : Int), st := (0 : Int), e := (0 : Int), stk := [], wd := List.replicate (16 : Nat) (0 : Int) } (RzT.k o)))[Int.toNat (0 : Int)] == (18446744073709551615 : Int))))) ((↑(List.length (MS.stk (itF l { caller := (0 : Int), value := (0 : Int), input := inp } { pc := (0 : Int), gas := (9 : Int), st := (0 : Int), e := (0 : Int), stk := [], wd := List.replicate (16 : Nat) (0 : Int) } (RzT.k o)))) : Int) == (1 : Int))) (MS.st (itF l { caller := (0 : Int), value := (0 : Int), input := inp } { pc := (0 : Int), gas := (9 : Int), st := (0 : Int), e := (0 : Int), stk := [], wd := List.replicate (16 : Nat) (0 : Int) } (RzT.k o)) == (1 : Int))) ((↑(RzT.k o) : Int) == (4 : Int)))))))))))))) (by kernel_rfl) ?_
  refine ⟨by omega, by omega, fun _ => rfl, fun x => ⟨kc, rfl, [], rfl, ⟨by decide, by decide, rfl, by decide, ?_⟩, fun o => ?_⟩⟩
  · decide +kernel
  obtain ⟨k, y, hk, h1, h2⟩ := o
  have s0 : (itF kc ⟨0, 0, []⟩ ⟨0, 9, 0, 0, [], List.replicate 16 0⟩ 0).st = 0 := by decide +kernel
  have s1 : (itF kc ⟨0, 0, []⟩ ⟨0, 9, 0, 0, [], List.replicate 16 0⟩ 1).st = 0 := by decide +kernel
  have s2 : (itF kc ⟨0, 0, []⟩ ⟨0, 9, 0, 0, [], List.replicate 16 0⟩ 2).st = 0 := by decide +kernel
  have s3 : (itF kc ⟨0, 0, []⟩ ⟨0, 9, 0, 0, [], List.replicate 16 0⟩ 3).st = 0 := by decide +kernel
  have s4 : (itF kc ⟨0, 0, []⟩ ⟨0, 9, 0, 0, [], List.replicate 16 0⟩ 4).st = 1 := by decide +kernel
  have p4 : (itF kc ⟨0, 0, []⟩ ⟨0, 9, 0, 0, [], List.replicate 16 0⟩ 4).pc = 3 := by decide +kernel
  have g4 : (itF kc ⟨0, 0, []⟩ ⟨0, 9, 0, 0, [], List.replicate 16 0⟩ 4).gas = 5 := by decide +kernel
  have l4 : (itF kc ⟨0, 0, []⟩ ⟨0, 9, 0, 0, [], List.replicate 16 0⟩ 4).stk = [18446744073709551615] := by decide +kernel
  have : k = 4 := by
    by_cases c1 : 4 < k
    · have := h1 4 c1
      rw [s4] at this
      cases this
    · by_cases c2 : k = 4
      · exact c2
      · exfalso
        have c3 : k = 0 ∨ k = 1 ∨ k = 2 ∨ k = 3 := by omega
        rcases h2 with h2 | h2
        · have : Int.toNat 99 = 99 := rfl
          omega
        · rcases c3 with rfl | rfl | rfl | rfl
          · exact h2 s0
          · exact h2 s1
          · exact h2 s2
          · exact h2 s3
  subst this
  dsimp only
  rw [s4, p4, g4]
  simp only [l4]
  exact ⟨by decide, by decide, ⟨rfl, trivial⟩⟩
def mknowsT : List M → (M → Prop) → Prop
  | [], K => K (bool true)
  | _, _ => False
theorem mknows_ok : POK Try.prog 7 mknowsT := by
  intro ms K h
  unfold mknowsT at h ⊢
  split at h
  · exact ⟨_, h, (mknows_spec), rfl, fun _ hk => hk⟩
  · exact h.elim

end Go.Proofs.Ytgbikcniediomaa
