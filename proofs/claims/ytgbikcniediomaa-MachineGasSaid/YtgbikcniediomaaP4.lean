/- Right code. -/
import Derived.Test.YtgbikcniediomaaP3
import Derived.Test.YtgbikcniediomaaSx24
namespace Go.Proofs.Ytgbikcniediomaa
open Go Go.Sx Go.Mach
set_option linter.unusedVariables false
set_option linter.unusedSimpArgs false
set_option maxRecDepth 100000
set_option maxHeartbeats 4000000

abbrev iE : IT → List SV := RK.svs [.int .i64, .int .u64]
abbrev iV (x : Value) (l : List IT) : M := .one (.view x 2 iE l)
structure RiT (l : List IT) where
  i : Nat
  hi : i ≤ l.length
  h : ∀ j (hj : j < i), rightF (iop l[j]) (iarg l[j]) = true
abbrev riI (x : Value) (l : List IT) : List (Nat × Inv) := [(2, ⟨RiT l, fun p => ⟨0, [(0, iV x l), (1, .one (.clo 49 [])), (7, int l.length), (8, int p.i)], []⟩, fun p => l.length - p.i, fun _ _ => True⟩)]
theorem code_spec (x : Value) (l : List IT) : SFun Try.prog 43 [iV x l] (bool (codeF l)) := by
  refine SFun.inm [(50, rightT)] (SOK.cons right_ok SOK.nil) [] MSOK.nil tok mixed [(48, ⟨Try.f48, false, [], []⟩), (54, ⟨Try.f54, false, riI x l, []⟩), (49, ⟨Try.f49, false, [], []⟩)] (IOK.cons Try.func48 Try.call48 (IOK.cons Try.func54 Try.call54 (IOK.cons Try.func49 Try.call49 IOK.nil))) false [] [] Try.call43 Try.func43 rfl (by rfl) ?_
  refine Eq.mp (α := (@Bool.rec (fun _ => Prop) (And (M.one (SV.v (Value.bool false)) = M.one (SV.v (Value.bool (codeF l)))) ((true : Bool) = true)) (∃ i0 : RiT l, (And (And True (And (And (SV.view x (2 : Nat) iE l = SV.view x (2 : Nat) iE l) (And (And ((49 : Nat) = (49 : Nat)) True) (And ((↑(List.length l) : Int) = (↑(List.length l) : Int)) (And ((↑(RiT.i i0) : Int) = (0 : Int)) True)))) (And True ((true : Bool) = true)))) (∀ i : RiT l, (∀ a : True, (@Bool.rec (fun _ => Prop) (And (M.one (SV.v (Value.bool !decide ((0 : Int) ≤ (-1 : Int)))) = M.one (SV.v (Value.bool (codeF l)))) ((true : Bool) = true)) (And ((0 : Int) ≤ (↑(RiT.i i) : Int)) (∃ hk : Int.toNat (↑(RiT.i i) : Int) < List.length l, (@Bool.rec (fun _ => Prop) (∃ i' : RiT l, (And (And (List.length l - RiT.i i' < List.length l - RiT.i i) True) (And (And (SV.view x (2 : Nat) iE l = SV.view x (2 : Nat) iE l) (And (And ((49 : Nat) = (49 : Nat)) True) (And ((↑(List.length l) : Int) = (↑(List.length l) : Int)) (And ((↑(RiT.i i') : Int) = IntKind.wrap IntKind.i64 ((↑(RiT.i i) : Int) + (1 : Int))) True)))) (And True ((true : Bool) = true))))) (And (M.one (SV.v (Value.bool !decide ((0 : Int) ≤ (↑(RiT.i i) : Int)))) = M.one (SV.v (Value.bool (codeF l)))) ((true : Bool) = true)) (!rightF (Prod.fst l[Int.toNat (↑(RiT.i i) : Int)]) (Prod.fst (Prod.snd l[Int.toNat (↑(RiT.i i) : Int)])))))) (decide ((↑(RiT.i i) : Int) < (↑(List.length l) : Int)))))))) (decide ((↑(List.length l) : Int) ≤ (128 : Int))))) (by kernel_rfl) ?_
  refine bif_dec (fun h1 => ?_) (fun h1 => ?_)
  rotate_left
  · have hc : codeF l = false := by
      unfold codeF
      rw [decide_eq_false (by omega), Bool.false_and]
    rw [hc]
    exact ⟨rfl, rfl⟩
  refine ⟨⟨0, Nat.zero_le _, fun j hj => by omega⟩, ?_, ?_⟩
  ·
    repeat' first | exact trivial | refine And.intro ?_ ?_ | with_reducible refine bif_dt (by assumption) ?_ | with_reducible refine bif_df (by assumption) ?_ | with_reducible refine bif_dec (fun _ => ?_) (fun _ => ?_) | with_reducible refine bif_not ?_ | with_reducible refine bif_and ?_ | with_reducible refine bif_or ?_ | with_reducible refine bif_t (by assumption) ?_ | with_reducible refine bif_f (by assumption) ?_ | with_reducible refine bif_t (beq_self_eq_true _) ?_ | with_reducible refine bif_b (fun _ => ?_) (fun _ => ?_) | with_reducible refine ⟨_, Eq.refl (List.map _ _), ?_⟩ | (with_reducible refine Exists.intro (by omega) ?_) | rfl | (intro h0; omega) | omega
  rintro ⟨i, hi, h⟩ -
  dsimp only
  refine bif_dec (fun h2 => ?_) (fun h2 => ?_)
  · have hi' : i < l.length := by omega
    have nat2 : ((i : Nat) : Int).toNat = i := rfl
    have hn : IntKind.i64.wrap ((i : Int) + 1) = ((i + 1 : Nat) : Int) := by rw [wrap64 (by omega) (by omega)]; omega
    refine ⟨by omega, hi', ?_⟩
    refine bif_not ?_
    refine bif_b (fun b => ?_) (fun b => ?_)
    · have b : rightF (iop l[i]) (iarg l[i]) = true := b
      rw [hn]
      refine ⟨⟨i + 1, hi', fun j hj => by
        by_cases e : j = i
        · subst e; exact b
        · exact h j (by omega)⟩, ⟨show l.length - (i + 1) < l.length - i by omega, trivial⟩, ?_⟩
      repeat' first | exact trivial | refine And.intro ?_ ?_ | with_reducible refine bif_dt (by assumption) ?_ | with_reducible refine bif_df (by assumption) ?_ | with_reducible refine bif_dec (fun _ => ?_) (fun _ => ?_) | with_reducible refine bif_not ?_ | with_reducible refine bif_and ?_ | with_reducible refine bif_or ?_ | with_reducible refine bif_t (by assumption) ?_ | with_reducible refine bif_f (by assumption) ?_ | with_reducible refine bif_t (beq_self_eq_true _) ?_ | with_reducible refine bif_b (fun _ => ?_) (fun _ => ?_) | with_reducible refine ⟨_, Eq.refl (List.map _ _), ?_⟩ | (with_reducible refine Exists.intro (by omega) ?_) | rfl | (intro h0; omega) | omega
    · have b : rightF (iop l[i]) (iarg l[i]) = false := b
      have hc : codeF l = false := by
        unfold codeF
        rw [Bool.and_eq_false_iff]
        right
        rw [List.all_eq_false]
        exact ⟨l[i], List.getElem_mem hi', by rw [b]; decide⟩
      rw [hc, decide_eq_true (by omega)]
      exact ⟨rfl, rfl⟩
  · have hc : codeF l = true := by
      unfold codeF
      rw [decide_eq_true (by omega), Bool.true_and, List.all_eq_true]
      intro y hy
      obtain ⟨j, hj, rfl⟩ := List.mem_iff_getElem.1 hy
      exact h j (by omega)
    rw [hc]
    exact ⟨rfl, rfl⟩
def codeT : List M → (M → Prop) → Prop
  | [.one (.view x0 es0 en0 l0)], K => bif Nat.beq es0 2 then ∃ l : List (IT), l0.map en0 = l.map iE ∧ (K (bool (codeF l))) else False
  | _, _ => False
theorem code_ok : POK Try.prog 43 codeT := by
  intro ms K h
  unfold codeT at h ⊢
  split at h
  · obtain ⟨hb0, l, he0, h0⟩ := cond_false_elim (b := Nat.beq _ _) h
    have hs0 := Nat.eq_of_beq_eq_true hb0
    subst hs0
    exact ⟨_, h0, (code_spec _ _).seen (.cons (.view he0) .nil), rfl, fun _ hk => by show cond _ _ _; refine (show cond true _ _ from ⟨_, he0, ?_⟩); exact hk⟩
  · exact h.elim

abbrev EI : Enc IT := encRec [.int .i64, .int .u64]
structure OwT (l : List IT) where
  i : Nat
  cap : Nat
  hi : i ≤ l.length
  hc : i ≤ cap
theorem own_spec (x : Value) (l : List IT) (hl : l.length ≤ 1000000) : SMem Try.prog 9 [iV x l] 0 [] (fun y : Value => ⟨0, iV y l, []⟩) := by
  refine SMem.inf 2 EI [] SOK.nil [] MSOK.nil tok mixed [] IOK.nil false [(3, ⟨OwT l, fun p => ⟨1, [(0, iV x l), (3, .one (.nslc 0 2 p.i p.cap)), (4, int p.i)], [(0, .row 2 EI (l.take p.i) p.cap)]⟩, fun p => l.length - p.i, fun _ _ => True⟩)] [] Try.call9 Try.func9 rfl (by rfl) ?_
  refine Eq.mp (α := (∃ i0 : OwT l, (And (And True (And (And (SV.view x (2 : Nat) iE l = SV.view x (2 : Nat) iE l) (And (And ((true : Bool) = true) (And (OwT.i i0 = (0 : Nat)) (OwT.cap i0 = (0 : Nat)))) (And ((↑(OwT.i i0) : Int) = (0 : Int)) True))) (And (And (And ((true : Bool) = true) (And (OwT.cap i0 = (0 : Nat)) (And (List.map (Enc.enc EI) (List.take (OwT.i i0) l) = List.map (Enc.enc EI) []) (∀ x_1 : IT, (∀ a : x_1 ∈ List.take (OwT.i i0) l, (∀ s : SV, (∀ a_1 : s ∈ Enc.enc EI x_1, ((SV.isPure s : Bool) = (true))))))))) (And ((true : Bool) = true) True)) ((true : Bool) = true)))) (∀ i : OwT l, (∀ a : True, (@Bool.rec (fun _ => Prop) (And (OwT.i i ≤ List.length (List.take (OwT.i i) l)) (And (OwT.i i ≤ OwT.cap i) (And (OwT.cap i = OwT.cap i) (And (∀ y : IT, ((true : Bool) = true)) (∀ x_1 : Value, (∃ o : Value, (And (And (SV.view o (2 : Nat) iE l = nilV (2 : Nat) EI (SV.view x_1 (2 : Nat) (Enc.enc EI) (List.take (OwT.i i) (List.take (OwT.i i) l)))) True) (And True ((true : Bool) = true))))))))) (And ((0 : Int) ≤ (↑(OwT.i i) : Int)) (∃ hk : Int.toNat (↑(OwT.i i) : Int) < List.length l, (And ((0 : Int) ≤ (↑(OwT.i i) : Int)) (∃ hk_1 : Int.toNat (↑(OwT.i i) : Int) < List.length l, (And (OwT.i i = List.length (List.take (OwT.i i) l)) (And (OwT.cap i = OwT.cap i) (And ((0 : Nat) + (1 : Nat) ≤ (1 : Nat)) (And ((List.length (List.take (OwT.i i) l) + (1 : Nat)) * (16 : Nat) ≤ (150000000000000 : Nat)) (∀ cap2 : Nat, (∀ a_1 : List.length (List.take (OwT.i i) l) + (1 : Nat) ≤ cap2, (∃ i' : OwT l, (And (And (List.length l - OwT.i i' < List.length l - OwT.i i) True) (And (And (SV.view x (2 : Nat) iE l = SV.view x (2 : Nat) iE l) (And (And ((true : Bool) = true) (And (OwT.i i' = List.length (List.take (OwT.i i) l ++ castL (encRec [RK.int IntKind.i64, RK.int IntKind.u64]) EI (List.take (1 : Nat) (List.drop (0 : Nat) [Enc.of (encRec [RK.int IntKind.i64, RK.int IntKind.u64]) (Prod.fst l[Int.toNat (↑(OwT.i i) : Int)], Prod.fst (Prod.snd l[Int.toNat (↑(OwT.i i) : Int)]), ())])))) (OwT.cap i' = cap2))) (And ((↑(OwT.i i') : Int) = IntKind.wrap IntKind.i64 ((↑(OwT.i i) : Int) + (1 : Int))) True))) (And (And (And ((true : Bool) = true) (And (OwT.cap i' = cap2) (And (List.map (Enc.enc EI) (List.take (OwT.i i') l) = List.map (Enc.enc EI) (List.take (OwT.i i) l ++ castL (encRec [RK.int IntKind.i64, RK.int IntKind.u64]) EI (List.take (1 : Nat) (List.drop (0 : Nat) [Enc.of (encRec [RK.int IntKind.i64, RK.int IntKind.u64]) (Prod.fst l[Int.toNat (↑(OwT.i i) : Int)], Prod.fst (Prod.snd l[Int.toNat (↑(OwT.i i) : Int)]), ())])))) (∀ x_1 : IT, (∀ a_2 : x_1 ∈ List.take (OwT.i i') l, (∀ s : SV, (∀ a_3 : s ∈ Enc.enc EI x_1, ((SV.isPure s : Bool) = (true))))))))) (And ((true : Bool) = true) True)) ((true : Bool) = true))))))))))))))) (decide ((↑(OwT.i i) : Int) < (↑(List.length l) : Int))))))))) (by kernel_rfl) ?_
  refine ⟨⟨0, 0, Nat.zero_le _, Nat.le_refl _⟩, ?_, ?_⟩
  ·
    repeat' first | exact fun y _ => Enc.pures EI y | exact trivial | refine And.intro ?_ ?_ | with_reducible refine bif_dt (by assumption) ?_ | with_reducible refine bif_df (by assumption) ?_ | with_reducible refine bif_dec (fun _ => ?_) (fun _ => ?_) | with_reducible refine bif_not ?_ | with_reducible refine bif_and ?_ | with_reducible refine bif_or ?_ | with_reducible refine bif_t (by assumption) ?_ | with_reducible refine bif_f (by assumption) ?_ | with_reducible refine bif_t (beq_self_eq_true _) ?_ | with_reducible refine bif_b (fun _ => ?_) (fun _ => ?_) | with_reducible refine ⟨_, Eq.refl (List.map _ _), ?_⟩ | (with_reducible refine Exists.intro (by omega) ?_) | rfl | (intro h0; omega) | omega
  rintro ⟨i, cap, hi, hc⟩ -
  dsimp only
  have hL : (l.take i).length = i := by rw [List.length_take]; omega
  refine bif_dec (fun h => ?_) (fun h => ?_)
  · have hi' : i < l.length := by omega
    have hn : IntKind.i64.wrap ((i : Int) + 1) = ((i + 1 : Nat) : Int) := by rw [wrap64 (by omega) (by omega)]; omega
    have e9 : castL (encRec [.int .i64, .int .u64]) EI (List.take 1 (List.drop 0 [(encRec [.int .i64, .int .u64]).of (l[i].fst, l[i].snd.fst, ())])) = [l[i]] := rfl
    have e8' : l.take i ++ [l[i]] = l.take (i + 1) := by rw [List.take_add_one, List.getElem?_eq_getElem hi']; rfl
    refine ⟨by omega, hi', by omega, hi', by omega, rfl, by omega, by omega, fun c2 k2 => ?_⟩
    have hL2 : (l.take (i + 1)).length = i + 1 := by rw [List.length_take]; omega
    refine ⟨⟨i + 1, c2, hi', by omega⟩, ⟨show l.length - (i + 1) < l.length - i by omega, trivial⟩, ?_⟩
    rw [hn]
    have e7 : l.take i ++ castL (encRec [.int .i64, .int .u64]) EI (List.take 1 (List.drop 0 [(encRec [.int .i64, .int .u64]).of (l[((i : Nat) : Int).toNat].fst, l[((i : Nat) : Int).toNat].snd.fst, ())])) = l.take (i + 1) := e8'
    rw [e7]
    repeat' first | exact hL2.symm | exact fun y _ => Enc.pures EI y | exact trivial | refine And.intro ?_ ?_ | with_reducible refine bif_dt (by assumption) ?_ | with_reducible refine bif_df (by assumption) ?_ | with_reducible refine bif_dec (fun _ => ?_) (fun _ => ?_) | with_reducible refine bif_not ?_ | with_reducible refine bif_and ?_ | with_reducible refine bif_or ?_ | with_reducible refine bif_t (by assumption) ?_ | with_reducible refine bif_f (by assumption) ?_ | with_reducible refine bif_t (beq_self_eq_true _) ?_ | with_reducible refine bif_b (fun _ => ?_) (fun _ => ?_) | with_reducible refine ⟨_, Eq.refl (List.map _ _), ?_⟩ | (with_reducible refine Exists.intro (by omega) ?_) | rfl | (intro h0; omega) | omega
  · have : i = l.length := by omega
    subst this
    refine ⟨by omega, hc, rfl, fun _ => rfl, fun x1 => ⟨x1, ?_⟩⟩
    rw [List.take_take, Nat.min_self, List.take_length]
    repeat' first | exact trivial | refine And.intro ?_ ?_ | with_reducible refine bif_dt (by assumption) ?_ | with_reducible refine bif_df (by assumption) ?_ | with_reducible refine bif_dec (fun _ => ?_) (fun _ => ?_) | with_reducible refine bif_not ?_ | with_reducible refine bif_and ?_ | with_reducible refine bif_or ?_ | with_reducible refine bif_t (by assumption) ?_ | with_reducible refine bif_f (by assumption) ?_ | with_reducible refine bif_t (beq_self_eq_true _) ?_ | with_reducible refine bif_b (fun _ => ?_) (fun _ => ?_) | with_reducible refine ⟨_, Eq.refl (List.map _ _), ?_⟩ | (with_reducible refine Exists.intro (by omega) ?_) | rfl | (intro h0; omega) | omega
theorem start_spec (gas : Int) (wd : List Int) : SFun Try.prog 11 [u64 gas, .agg [.ints .u64 16 wd]] (stM ⟨0, gas, 0, 0, [], wd⟩ nilS') := by
  refine SFun.inl [] SOK.nil tok mixed [] IOK.nil true [] [] Try.call11 Try.func11 rfl (by rfl) ?_
  refine Eq.mp (α := (And (M.agg [SV.v (Value.int IntKind.i64 (0 : Int)), SV.v (Value.int IntKind.u64 gas), SV.v (Value.int IntKind.i64 (0 : Int)), SV.v (Value.int IntKind.i64 (0 : Int)), SV.v (Value.slice none (0 : Nat) (0 : Nat)), SV.ints IntKind.u64 (16 : Nat) wd] = M.agg [SV.v (Value.int IntKind.i64 (0 : Int)), SV.v (Value.int IntKind.u64 gas), SV.v (Value.int IntKind.i64 (0 : Int)), SV.v (Value.int IntKind.i64 (0 : Int)), SV.v (Value.slice none (0 : Nat) (0 : Nat)), SV.ints IntKind.u64 (16 : Nat) wd]) ((true : Bool) = true))) (by kernel_rfl) ?_
  repeat' first | exact trivial | refine And.intro ?_ ?_ | with_reducible refine bif_dt (by assumption) ?_ | with_reducible refine bif_df (by assumption) ?_ | with_reducible refine bif_dec (fun _ => ?_) (fun _ => ?_) | with_reducible refine bif_not ?_ | with_reducible refine bif_and ?_ | with_reducible refine bif_or ?_ | with_reducible refine bif_t (by assumption) ?_ | with_reducible refine bif_f (by assumption) ?_ | with_reducible refine bif_t (beq_self_eq_true _) ?_ | with_reducible refine bif_b (fun _ => ?_) (fun _ => ?_) | with_reducible refine ⟨_, Eq.refl (List.map _ _), ?_⟩ | (with_reducible refine Exists.intro (by omega) ?_) | rfl | (intro h0; omega) | omega
def startT : List M → (M → Prop) → Prop
  | [.one (.v (.int .u64 gas)), .agg [.ints .u64 16 wd]], K => K (stM ⟨0, gas, 0, 0, [], wd⟩ nilS')
  | _, _ => False
theorem start_ok : POK Try.prog 11 startT := by
  intro ms K h
  unfold startT at h ⊢
  split at h
  · exact ⟨_, h, (start_spec _ _), rfl, fun _ hk => hk⟩
  · exact h.elim

theorem num_spec (n : Int) : SFun Try.prog 12 [int n] (int n) := by
  refine SFun.inl [] SOK.nil tok mixed [] IOK.nil true [] [] Try.call12 Try.func12 rfl (by rfl) ?_
  refine Eq.mp (α := (And (M.one (SV.v (Value.int IntKind.i64 n)) = M.one (SV.v (Value.int IntKind.i64 n))) ((true : Bool) = true))) (by kernel_rfl) ?_
  repeat' first | exact trivial | refine And.intro ?_ ?_ | with_reducible refine bif_dt (by assumption) ?_ | with_reducible refine bif_df (by assumption) ?_ | with_reducible refine bif_dec (fun _ => ?_) (fun _ => ?_) | with_reducible refine bif_not ?_ | with_reducible refine bif_and ?_ | with_reducible refine bif_or ?_ | with_reducible refine bif_t (by assumption) ?_ | with_reducible refine bif_f (by assumption) ?_ | with_reducible refine bif_t (beq_self_eq_true _) ?_ | with_reducible refine bif_b (fun _ => ?_) (fun _ => ?_) | with_reducible refine ⟨_, Eq.refl (List.map _ _), ?_⟩ | (with_reducible refine Exists.intro (by omega) ?_) | rfl | (intro h0; omega) | omega
def numT : List M → (M → Prop) → Prop
  | [.one (.v (.int .i64 n))], K => K (int n)
  | _, _ => False
theorem num_ok : POK Try.prog 12 numT := by
  intro ms K h
  unfold numT at h ⊢
  split at h
  · exact ⟨_, h, (num_spec _), rfl, fun _ hk => hk⟩
  · exact h.elim

theorem context_spec (x : Value) (c : Ctx) (hc : c.input.length ≤ 1000000) : SMem Try.prog 10 [cxM x c] 0 [] (fun y : Value => ⟨0, cxM y c, []⟩) := by
  refine SMem.inf 1 E8 [] SOK.nil [] MSOK.nil tok mixed [] IOK.nil true [] [] Try.call10 Try.func10 rfl (by rfl) ?_
  refine Eq.mp (α := (And (And (And (And (And ((0 : Nat) = (0 : Nat)) (And ((0 : Nat) = (0 : Nat)) (∃ ys : List Int, (And (List.map (Enc.enc (encInt IntKind.u64)) ys = List.map e8 (Ctx.input c)) (And (((0 : Nat) + List.length ys) * (8 : Nat) ≤ (150000000000000 : Nat)) (∀ cap2 : Nat, (∀ a : (0 : Nat) + List.length ys ≤ cap2, (And (And ((0 : Nat) + List.length ([] ++ ys) ≤ List.length ([] ++ ys)) (And (List.length ([] ++ ys) ≤ cap2) (And (∀ y : Int, ((true : Bool) = true)) (∀ x_1 : Value, (∃ o : Value, (And (And (And (Ctx.caller c = Ctx.caller c) (And (Ctx.value c = Ctx.value c) (And (SV.view o (1 : Nat) e8 (Ctx.input c) = nilV (1 : Nat) E8 (SV.view x_1 (1 : Nat) (Enc.enc (encInt IntKind.u64)) (List.take (List.length ([] ++ ys)) (List.drop (0 : Nat) ([] ++ ys))))) True))) True) (And True ((true : Bool) = true)))))))) True)))))))) True) True) (And (And (And (And ((0 : Nat) = (0 : Nat)) (And ((0 : Nat) = (0 : Nat)) (∃ ys : List Int, (And (List.map (Enc.enc (encInt IntKind.u64)) ys = List.map e8 (Ctx.input c)) (And (((0 : Nat) + List.length ys) * (8 : Nat) ≤ (150000000000000 : Nat)) (∀ cap2 : Nat, (∀ a : (0 : Nat) + List.length ys ≤ cap2, (And (And ((0 : Nat) + List.length ([] ++ ys) ≤ List.length ([] ++ ys)) (And (List.length ([] ++ ys) ≤ cap2) (And (∀ y : Int, ((true : Bool) = true)) (∀ x_1 : Value, (∃ o : Value, (And (And (And (Ctx.caller c = Ctx.caller c) (And (Ctx.value c = Ctx.value c) (And (SV.view o (1 : Nat) e8 (Ctx.input c) = nilV (1 : Nat) E8 (SV.view x_1 (1 : Nat) (Enc.enc (encInt IntKind.u64)) (List.take (List.length ([] ++ ys)) (List.drop (0 : Nat) ([] ++ ys))))) True))) True) (And True ((true : Bool) = true)))))))) True)))))))) True) (And (And ((0 : Nat) = (0 : Nat)) (And ((0 : Nat) = (0 : Nat)) (∃ ys : List Int, (And (List.map (Enc.enc (encInt IntKind.u64)) ys = List.map e8 (Ctx.input c)) (And (((0 : Nat) + List.length ys) * (8 : Nat) ≤ (150000000000000 : Nat)) (∀ cap2 : Nat, (∀ a : (0 : Nat) + List.length ys ≤ cap2, (And (And ((0 : Nat) + List.length ([] ++ ys) ≤ List.length ([] ++ ys)) (And (List.length ([] ++ ys) ≤ cap2) (And (∀ y : Int, ((true : Bool) = true)) (∀ x_1 : Value, (∃ o : Value, (And (And (And (Ctx.caller c = Ctx.caller c) (And (Ctx.value c = Ctx.value c) (And (SV.view o (1 : Nat) e8 (Ctx.input c) = nilV (1 : Nat) E8 (SV.view x_1 (1 : Nat) (Enc.enc (encInt IntKind.u64)) (List.take (List.length ([] ++ ys)) (List.drop (0 : Nat) ([] ++ ys))))) True))) True) (And True ((true : Bool) = true)))))))) True)))))))) True)) True)) (And (And (And (And (And ((0 : Nat) = (0 : Nat)) (And ((0 : Nat) = (0 : Nat)) (∃ ys : List Int, (And (List.map (Enc.enc (encInt IntKind.u64)) ys = List.map e8 (Ctx.input c)) (And (((0 : Nat) + List.length ys) * (8 : Nat) ≤ (150000000000000 : Nat)) (∀ cap2 : Nat, (∀ a : (0 : Nat) + List.length ys ≤ cap2, (And (And ((0 : Nat) + List.length ([] ++ ys) ≤ List.length ([] ++ ys)) (And (List.length ([] ++ ys) ≤ cap2) (And (∀ y : Int, ((true : Bool) = true)) (∀ x_1 : Value, (∃ o : Value, (And (And (And (Ctx.caller c = Ctx.caller c) (And (Ctx.value c = Ctx.value c) (And (SV.view o (1 : Nat) e8 (Ctx.input c) = nilV (1 : Nat) E8 (SV.view x_1 (1 : Nat) (Enc.enc (encInt IntKind.u64)) (List.take (List.length ([] ++ ys)) (List.drop (0 : Nat) ([] ++ ys))))) True))) True) (And True ((true : Bool) = true)))))))) True)))))))) True) True) (And (And (And (And ((0 : Nat) = (0 : Nat)) (And ((0 : Nat) = (0 : Nat)) (∃ ys : List Int, (And (List.map (Enc.enc (encInt IntKind.u64)) ys = List.map e8 (Ctx.input c)) (And (((0 : Nat) + List.length ys) * (8 : Nat) ≤ (150000000000000 : Nat)) (∀ cap2 : Nat, (∀ a : (0 : Nat) + List.length ys ≤ cap2, (And (And ((0 : Nat) + List.length ([] ++ ys) ≤ List.length ([] ++ ys)) (And (List.length ([] ++ ys) ≤ cap2) (And (∀ y : Int, ((true : Bool) = true)) (∀ x_1 : Value, (∃ o : Value, (And (And (And (Ctx.caller c = Ctx.caller c) (And (Ctx.value c = Ctx.value c) (And (SV.view o (1 : Nat) e8 (Ctx.input c) = nilV (1 : Nat) E8 (SV.view x_1 (1 : Nat) (Enc.enc (encInt IntKind.u64)) (List.take (List.length ([] ++ ys)) (List.drop (0 : Nat) ([] ++ ys))))) True))) True) (And True ((true : Bool) = true)))))))) True)))))))) True) (And (And ((0 : Nat) = (0 : Nat)) (And ((0 : Nat) = (0 : Nat)) (∃ ys : List Int, (And (List.map (Enc.enc (encInt IntKind.u64)) ys = List.map e8 (Ctx.input c)) (And (((0 : Nat) + List.length ys) * (8 : Nat) ≤ (150000000000000 : Nat)) (∀ cap2 : Nat, (∀ a : (0 : Nat) + List.length ys ≤ cap2, (And (And ((0 : Nat) + List.length ([] ++ ys) ≤ List.length ([] ++ ys)) (And (List.length ([] ++ ys) ≤ cap2) (And (∀ y : Int, ((true : Bool) = true)) (∀ x_1 : Value, (∃ o : Value, (And (And (And (Ctx.caller c = Ctx.caller c) (And (Ctx.value c = Ctx.value c) (And (SV.view o (1 : Nat) e8 (Ctx.input c) = nilV (1 : Nat) E8 (SV.view x_1 (1 : Nat) (Enc.enc (encInt IntKind.u64)) (List.take (List.length ([] ++ ys)) (List.drop (0 : Nat) ([] ++ ys))))) True))) True) (And True ((true : Bool) = true)))))))) True)))))))) True)) True)) (And (And (And (And (And ((0 : Nat) = (0 : Nat)) (And ((0 : Nat) = (0 : Nat)) (∃ ys : List Int, (And (List.map (Enc.enc (encInt IntKind.u64)) ys = List.map e8 (Ctx.input c)) (And (((0 : Nat) + List.length ys) * (8 : Nat) ≤ (150000000000000 : Nat)) (∀ cap2 : Nat, (∀ a : (0 : Nat) + List.length ys ≤ cap2, (And (And ((0 : Nat) + List.length ([] ++ ys) ≤ List.length ([] ++ ys)) (And (List.length ([] ++ ys) ≤ cap2) (And (∀ y : Int, ((true : Bool) = true)) (∀ x_1 : Value, (∃ o : Value, (And (And (And (Ctx.caller c = Ctx.caller c) (And (Ctx.value c = Ctx.value c) (And (SV.view o (1 : Nat) e8 (Ctx.input c) = nilV (1 : Nat) E8 (SV.view x_1 (1 : Nat) (Enc.enc (encInt IntKind.u64)) (List.take (List.length ([] ++ ys)) (List.drop (0 : Nat) ([] ++ ys))))) True))) True) (And True ((true : Bool) = true)))))))) True)))))))) True) (And (And ((0 : Nat) = (0 : Nat)) (And ((0 : Nat) = (0 : Nat)) (∃ ys : List Int, (And (List.map (Enc.enc (encInt IntKind.u64)) ys = List.map e8 (Ctx.input c)) (And (((0 : Nat) + List.length ys) * (8 : Nat) ≤ (150000000000000 : Nat)) (∀ cap2 : Nat, (∀ a : (0 : Nat) + List.length ys ≤ cap2, (And (And ((0 : Nat) + List.length ([] ++ ys) ≤ List.length ([] ++ ys)) (And (List.length ([] ++ ys) ≤ cap2) (And (∀ y : Int, ((true : Bool) = true)) (∀ x_1 : Value, (∃ o : Value, (And (And (And (Ctx.caller c = Ctx.caller c) (And (Ctx.value c = Ctx.value c) (And (SV.view o (1 : Nat) e8 (Ctx.input c) = nilV (1 : Nat) E8 (SV.view x_1 (1 : Nat) (Enc.enc (encInt IntKind.u64)) (List.take (List.length ([] ++ ys)) (List.drop (0 : Nat) ([] ++ ys))))) True))) True) (And True ((true : Bool) = true)))))))) True)))))))) True)) (And (And (And (And ((0 : Nat) = (0 : Nat)) (And ((0 : Nat) = (0 : Nat)) (∃ ys : List Int, (And (List.map (Enc.enc (encInt IntKind.u64)) ys = List.map e8 (Ctx.input c)) (And (((0 : Nat) + List.length ys) * (8 : Nat) ≤ (150000000000000 : Nat)) (∀ cap2 : Nat, (∀ a : (0 : Nat) + List.length ys ≤ cap2, (And (And ((0 : Nat) + List.length ([] ++ ys) ≤ List.length ([] ++ ys)) (And (List.length ([] ++ ys) ≤ cap2) (And (∀ y : Int, ((true : Bool) = true)) (∀ x_1 : Value, (∃ o : Value, (And (And (And (Ctx.caller c = Ctx.caller c) (And (Ctx.value c = Ctx.value c) (And (SV.view o (1 : Nat) e8 (Ctx.input c) = nilV (1 : Nat) E8 (SV.view x_1 (1 : Nat) (Enc.enc (encInt IntKind.u64)) (List.take (List.length ([] ++ ys)) (List.drop (0 : Nat) ([] ++ ys))))) True))) True) (And True ((true : Bool) = true)))))))) True)))))))) True) (And (And ((0 : Nat) = (0 : Nat)) (And ((0 : Nat) = (0 : Nat)) (∃ ys : List Int, (And (List.map (Enc.enc (encInt IntKind.u64)) ys = List.map e8 (Ctx.input c)) (And (((0 : Nat) + List.length ys) * (8 : Nat) ≤ (150000000000000 : Nat)) (∀ cap2 : Nat, (∀ a : (0 : Nat) + List.length ys ≤ cap2, (And (And ((0 : Nat) + List.length ([] ++ ys) ≤ List.length ([] ++ ys)) (And (List.length ([] ++ ys) ≤ cap2) (And (∀ y : Int, ((true : Bool) = true)) (∀ x_1 : Value, (∃ o : Value, (And (And (And (Ctx.caller c = Ctx.caller c) (And (Ctx.value c = Ctx.value c) (And (SV.view o (1 : Nat) e8 (Ctx.input c) = nilV (1 : Nat) E8 (SV.view x_1 (1 : Nat) (Enc.enc (encInt IntKind.u64)) (List.take (List.length ([] ++ ys)) (List.drop (0 : Nat) ([] ++ ys))))) True))) True) (And True ((true : Bool) = true)))))))) True)))))))) True)) (And (And ((0 : Nat) = (0 : Nat)) (And ((0 : Nat) = (0 : Nat)) (∃ ys : List Int, (And (List.map (Enc.enc (encInt IntKind.u64)) ys = List.map e8 (Ctx.input c)) (And (((0 : Nat) + List.length ys) * (8 : Nat) ≤ (150000000000000 : Nat)) (∀ cap2 : Nat, (∀ a : (0 : Nat) + List.length ys ≤ cap2, (And (And ((0 : Nat) + List.length ([] ++ ys) ≤ List.length ([] ++ ys)) (And (List.length ([] ++ ys) ≤ cap2) (And (∀ y : Int, ((true : Bool) = true)) (∀ x_1 : Value, (∃ o : Value, (And (And (And (Ctx.caller c = Ctx.caller c) (And (Ctx.value c = Ctx.value c) (And (SV.view o (1 : Nat) e8 (Ctx.input c) = nilV (1 : Nat) E8 (SV.view x_1 (1 : Nat) (Enc.enc (encInt IntKind.u64)) (List.take (List.length ([] ++ ys)) (List.drop (0 : Nat) ([] ++ ys))))) True))) True) (And True ((true : Bool) = true)))))))) True)))))))) True))) True)))) (by kernel_rfl) ?_
  have hL : List.take ([] ++ c.input).length (List.drop 0 ([] ++ c.input)) = c.input := by rw [List.nil_append, List.drop_zero, List.take_length]
  repeat' refine And.intro ?_ ?_
  all_goals first
    | exact rfl
    | exact trivial
    | exact ⟨c.input, rfl, by omega, fun cap2 k => ⟨⟨by omega, by simpa using k, fun _ => rfl, fun x1 => ⟨x1, ⟨⟨⟨rfl, rfl, by rw [hL]; rfl, trivial⟩, trivial⟩, trivial, rfl⟩⟩⟩, trivial⟩⟩
end Go.Proofs.Ytgbikcniediomaa
