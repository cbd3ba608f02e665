/- An inbox's small functions. -/
import Derived.Test.YtgbikcniediomaaTab4
import Derived.Test.YtgbikcniediomaaSx24
import Derived.Test.YtgbikcniediomaaSxZ
namespace Go.Proofs.Ytgbikcniediomaa
open Go Go.Sx
set_option linter.unusedVariables false
set_option linter.unusedSimpArgs false
set_option maxRecDepth 100000
set_option maxHeartbeats 4000000

abbrev int (n : Int) : M := .one (.v (.int .i64 n))
abbrev u64 (n : Int) : M := .one (.v (.int .u64 n))
abbrev bool (b : Bool) : M := .one (.v (.bool b))
abbrev EB : Enc Int := encInt .u8
abbrev eB : Int → List SV := (encInt .u8).enc
abbrev byV (x : Value) (l : List Int) : M := .one (.view x 1 eB l)
abbrev mA (n s t : Int) (v : List Int) (g : Int) (x : Value) (d : List Int) : List SV := [.v (.int .u64 n), .v (.int .u64 s), .v (.int .u64 t), .ints .u64 4 v, .v (.int .u64 g), .view x 1 eB d]
structure CapT (n : Nat) where
  cap : Nat
  h : n ≤ cap
theorem inum_spec (n : Int) : SFun Try.prog 19 [int n] (int n) := by
  refine SFun.inm [] SOK.nil [] MSOK.nil tok mixed [] IOK.nil true [] [] Try.call19 Try.func19 rfl (by rfl) ?_
  refine Eq.mp (α := (And (M.one (SV.v (Value.int IntKind.i64 n)) = M.one (SV.v (Value.int IntKind.i64 n))) ((true : Bool) = true))) (by kernel_rfl) ?_
  repeat' first | exact trivial | refine And.intro ?_ ?_ | with_reducible refine bif_dt (by assumption) ?_ | with_reducible refine bif_df (by assumption) ?_ | with_reducible refine bif_dec (fun _ => ?_) (fun _ => ?_) | with_reducible refine bif_not ?_ | with_reducible refine bif_and ?_ | with_reducible refine bif_or ?_ | with_reducible refine bif_t (by assumption) ?_ | with_reducible refine bif_f (by assumption) ?_ | with_reducible refine bif_t (beq_self_eq_true _) ?_ | with_reducible refine bif_b (fun _ => ?_) (fun _ => ?_) | with_reducible refine ⟨_, Eq.refl (List.map _ _), ?_⟩ | (with_reducible refine Exists.intro (by omega) ?_) | rfl | (intro h0; omega) | omega
def inumT : List M → (M → Prop) → Prop
  | [.one (.v (.int .i64 n))], K => K (int n)
  | _, _ => False
theorem inum_ok : POK Try.prog 19 inumT := by
  intro ms K h
  unfold inumT at h ⊢
  split at h
  · exact ⟨_, h, (inum_spec _), rfl, fun _ hk => hk⟩
  · exact h.elim

def rightM (g : Int) (n : Nat) : Bool := decide (g ≤ 65536) && decide (n ≤ 64)
theorem mright_spec (n s t : Int) (v : List Int) (g : Int) (x : Value) (d : List Int) : SFun Try.prog 32 [.agg (mA n s t v g x d)] (bool (rightM g d.length)) := by
  refine SFun.inm [] SOK.nil [] MSOK.nil tok mixed [(47, ⟨Try.f47, true, [], []⟩)] (IOK.cons Try.func47 Try.call47 IOK.nil) true [] [] Try.call32 Try.func32 rfl (by rfl) ?_
  refine Eq.mp (α := (@Bool.rec (fun _ => Prop) (And (M.one (SV.v (Value.bool false)) = M.one (SV.v (Value.bool (rightM g (List.length d))))) ((true : Bool) = true)) (And (M.one (SV.v (Value.bool (decide ((↑(List.length d) : Int) ≤ (64 : Int))))) = M.one (SV.v (Value.bool (rightM g (List.length d))))) ((true : Bool) = true)) (decide (g ≤ (65536 : Int))))) (by kernel_rfl) ?_
  refine bif_dec (fun h => ?_) (fun h => ?_)
  · unfold rightM
    rw [decide_eq_true h, Bool.true_and, show decide ((d.length : Int) ≤ 64) = decide (d.length ≤ 64) from decide_eq_decide.2 (by omega)]
    exact ⟨rfl, rfl⟩
  · unfold rightM
    rw [decide_eq_false h]
    exact ⟨rfl, rfl⟩
def mrightT : List M → (M → Prop) → Prop
  | [.agg [.v (.int .u64 n_), .v (.int .u64 s), .v (.int .u64 t), .ints .u64 4 v, .v (.int .u64 g), .view x0 es0 en0 l0]], K => bif Nat.beq es0 1 then ∃ d : List (Int), l0.map en0 = d.map eB ∧ (K (bool (rightM g d.length))) else False
  | _, _ => False
theorem mright_ok : POK Try.prog 32 mrightT := by
  intro ms K h
  unfold mrightT at h ⊢
  split at h
  · obtain ⟨hb0, d, he0, h0⟩ := cond_false_elim (b := Nat.beq _ _) h
    have hs0 := Nat.eq_of_beq_eq_true hb0
    subst hs0
    exact ⟨_, h0, (mright_spec _ _ _ _ _ _ _).seen (.cons (.agg (.refl (.refl (.refl (.refl (.refl (.view he0 .nil))))))) .nil), rfl, fun _ hk => by show cond _ _ _; refine (show cond true _ _ from ⟨_, he0, ?_⟩); exact hk⟩
  · exact h.elim

theorem cloneB_spec (y : Value) {l : List Int} (h : l.length ≤ 100000000) : SMem Try.prog 35 [byV y l] 0 [] (fun x : Value => ⟨0, byV x l, []⟩) := by
  refine SMem.inf 1 EB [] SOK.nil [] MSOK.nil tok mixed [] IOK.nil true [] [] Try.call35 Try.func35 rfl (by rfl) ?_
  refine Eq.mp (α := (@Bool.rec (fun _ => Prop) (And ((0 : Nat) = (0 : Nat)) (And ((0 : Nat) = (0 : Nat)) (∃ ys : List Int, (And (List.map (Enc.enc (encInt IntKind.u8)) ys = List.map eB l) (And (((0 : Nat) + List.length ys) * (1 : Nat) ≤ (150000000000000 : Nat)) (∀ cap2 : Nat, (∀ a : (0 : Nat) + List.length ys ≤ cap2, (And ((0 : Nat) + List.length ([] ++ ys) ≤ List.length ([] ++ ys)) (And (List.length ([] ++ ys) ≤ cap2) (And (∀ y_1 : Int, ((true : Bool) = true)) (∀ x : Value, (∃ o : Value, (And (And (SV.view o (1 : Nat) eB l = nilV (1 : Nat) EB (SV.view x (1 : Nat) (Enc.enc (encInt IntKind.u8)) (List.take (List.length ([] ++ ys)) (List.drop (0 : Nat) ([] ++ ys))))) True) (And True ((true : Bool) = true))))))))))))))) (∃ o : Value, (And (And (SV.view o (1 : Nat) eB l = nilV (1 : Nat) EB (SV.v (Value.slice none (0 : Nat) (0 : Nat)))) True) (And True ((true : Bool) = true)))) (isNilV y && List.isEmpty l))) (by kernel_rfl) ?_
  simp only [List.nil_append, List.drop_zero, List.take_length, Nat.zero_add]
  refine bif_b (fun h1 => ?_) (fun h1 => ?_)
  · simp only [Bool.and_eq_true, List.isEmpty_iff] at h1
    obtain ⟨_, rfl⟩ := h1
    exact ⟨.slice none 0 0, ⟨rfl, trivial⟩, trivial, trivial⟩
  · exact ⟨trivial, trivial, l, rfl, by omega, fun c hc => ⟨Nat.le_refl _, hc, fun _ => trivial, fun x => ⟨x, ⟨rfl, trivial⟩, trivial, trivial⟩⟩⟩
def cloneBT : MT := fun ms n h K => match ms with
  | [.one (.view vx0 ve0 en0 vl0)] => bif Nat.beq ve0 1 && noDup [] then ∃ l : List (Int), vl0.map en0 = l.map eB ∧ (l.length ≤ 100000000) ∧ (∀ x : Value, K (n + 0) (byV x l) ([] ++ delL [] h)) else False
  | _ => False
theorem cloneB_mono : MMono cloneBT := by
  intro ms n h K K' hkk hk
  unfold cloneBT at hk ⊢
  split at hk
  · rename_i vx0 ve0 va0 en0 vl0
    obtain ⟨hb, y0, z0, h1, h2⟩ := cond_false_elim hk
    rw [hb]
    exact ⟨y0, z0, h1, fun o => hkk _ _ _ (h2 o)⟩
  · exact hk.elim
theorem cloneB_ok : MOK Try.prog 35 cloneBT := by
  refine ⟨?_, cloneB_mono⟩
  intro ms n hB K hk
  unfold cloneBT at hk
  split at hk
  · rename_i vx0 ve0 va0 en0 vl0
    obtain ⟨hb, l, he0, h, hk2⟩ := cond_false_elim hk
    clear hk
    simp only [Bool.and_eq_true] at hb
    obtain ⟨hc0, hnd⟩ := hb
    have hs0 := Nat.eq_of_beq_eq_true hc0
    subst hs0
    refine SCall.seen ?_ (.cons (.view he0) .nil)
    exact (cloneB_spec _ h).use (fun _ => 0) rfl rfl trivial (by exact hnd) (fun j hj => absurd hj (Nat.not_lt_zero j)) (fun o => hk2 o)
  · exact hk.elim

theorem copied_spec (n s t : Int) (v : List Int) (g : Int) (x : Value) {d : List Int} (h : d.length ≤ 100000000) : SMem Try.prog 33 [.agg (mA n s t v g x d)] 0 [] (fun y : Value => ⟨0, .agg (mA n s t v g y d), []⟩) := by
  refine SMem.inm [] SOK.nil [(35, cloneBT)] (MSOK.cons cloneB_ok MSOK.nil) tok mixed [] IOK.nil true [] [] Try.call33 Try.func33 rfl (by rfl) ?_
  refine Eq.mp (α := (∃ l : List Int, (And (List.map eB d = List.map eB l) (And (List.length l ≤ (100000000 : Nat)) (∀ x_1 : Value, (∃ o : Value, (And (And (And (n = n) (And (s = s) (And (t = t) (And (v = v) (And (g = g) (And (SV.view o (1 : Nat) eB d = SV.view x_1 (1 : Nat) eB l) True)))))) True) (And True ((true : Bool) = true))))))))) (by kernel_rfl) ?_
  exact ⟨d, rfl, h, fun y => ⟨y, ⟨⟨rfl, rfl, rfl, rfl, rfl, rfl, trivial⟩, trivial⟩, trivial, rfl⟩⟩
def copiedT : MT := fun ms n h K => match ms with
  | [.agg [.v (.int .u64 n_), .v (.int .u64 s), .v (.int .u64 t), .ints .u64 4 v, .v (.int .u64 g), .view vx0 ve0 en0 vl0]] => bif Nat.beq ve0 1 && noDup [] then ∃ d : List (Int), vl0.map en0 = d.map eB ∧ (d.length ≤ 100000000) ∧ (∀ y : Value, K (n + 0) (.agg (mA n_ s t v g y d)) ([] ++ delL [] h)) else False
  | _ => False
theorem copied_mono : MMono copiedT := by
  intro ms n h K K' hkk hk
  unfold copiedT at hk ⊢
  split at hk
  · rename_i n_ s t v g vx0 ve0 va0 en0 vl0
    obtain ⟨hb, y0, z0, h1, h2⟩ := cond_false_elim hk
    rw [hb]
    exact ⟨y0, z0, h1, fun o => hkk _ _ _ (h2 o)⟩
  · exact hk.elim
theorem copied_ok : MOK Try.prog 33 copiedT := by
  refine ⟨?_, copied_mono⟩
  intro ms n hB K hk
  unfold copiedT at hk
  split at hk
  · rename_i n_ s t v g vx0 ve0 va0 en0 vl0
    obtain ⟨hb, d, he0, h, hk2⟩ := cond_false_elim hk
    clear hk
    simp only [Bool.and_eq_true] at hb
    obtain ⟨hc0, hnd⟩ := hb
    have hs0 := Nat.eq_of_beq_eq_true hc0
    subst hs0
    refine SCall.seen ?_ (.cons (.agg (.refl (.refl (.refl (.refl (.refl (.view he0 .nil))))))) .nil)
    exact (copied_spec _ _ _ _ _ _ h).use (fun _ => 0) rfl rfl trivial (by exact hnd) (fun j hj => absurd hj (Nat.not_lt_zero j)) (fun o => hk2 o)
  · exact hk.elim

abbrev MsF : List RK := [.int .u64, .int .u64, .int .u64, .ints .u64 4, .int .u64, .sl 1 [.int .u8]]
abbrev MTy := RK.TL MsF
def EM : Enc MTy := encRec MsF
abbrev BTy := RK.TL [.sl 1 [.int .u8]]
def EBl : Enc BTy := encRec [.sl 1 [.int .u8]]
abbrev BkF : List RK := [.sl 9 MsF, .sl 1 [.sl 1 [.int .u8]]]
abbrev KTy := RK.TL BkF
def EK : Enc KTy := encRec BkF
abbrev inH (L : List KTy) (cp : Nat) (ms : List MTy) (bs : List BTy) (q : Int) : Bs :=
  [(0, .cells [.nslc 3 2 L.length cp, .ch 1, .ch 2, .v (.int .u64 q)]), (1, .chan 8 true EM ms), (2, .chan 8 false EBl bs), (3, .row 2 EK L cp)]
theorem new_spec : SMem Try.prog 15 [] 0 [] (fun _ : Unit => ⟨4, .one (.ptr 0 0), inH [] 0 [] [] 0⟩) := by
  refine SMem.inm [] SOK.nil [] MSOK.nil tok mixed [] IOK.nil true [] [] Try.call15 Try.func15 rfl (by rfl) ?_
  refine Eq.mp (α := (And (And (And (∃ o : Unit, (And (And (And ((true : Bool) = true) ((0 : Nat) = (0 : Nat))) True) (And (And (And (And ((true : Bool) = true) (And ((0 : Nat) = (0 : Nat)) ((0 : Nat) = (0 : Nat)))) (And ((true : Bool) = true) (And ((true : Bool) = true) (And ((0 : Int) = (0 : Int)) True)))) (And ((true : Bool) = true) (And (And ((8 : Nat) = Int.toNat (8 : Int)) (And ((TI.agg { kind := TK.str [((0 : Nat), (23 : Nat)), ((1 : Nat), (23 : Nat)), ((2 : Nat), (23 : Nat)), ((3 : Nat), (55 : Nat)), ((7 : Nat), (23 : Nat)), ((8 : Nat), (56 : Nat))], size := (9 : Nat), bytes := (88 : Nat), zero := [SV.v (Value.int IntKind.u64 (0 : Int)), SV.v (Value.int IntKind.u64 (0 : Int)), SV.v (Value.int IntKind.u64 (0 : Int)), SV.ints IntKind.u64 (4 : Nat) (List.replicate (4 : Nat) (0 : Int)), SV.v (Value.int IntKind.u64 (0 : Int)), SV.v (Value.slice none (0 : Nat) (0 : Nat))], eqm := (0 : Nat), el := { α := RK.TL [RK.int IntKind.u64, RK.int IntKind.u64, RK.int IntKind.u64, RK.ints IntKind.u64 (4 : Nat), RK.int IntKind.u64, RK.sl (1 : Nat) [RK.int IntKind.u8]], E := encRec [RK.int IntKind.u64, RK.int IntKind.u64, RK.int IntKind.u64, RK.ints IntKind.u64 (4 : Nat), RK.int IntKind.u64, RK.sl (1 : Nat) [RK.int IntKind.u8]] } } : Bool) = TI.agg { kind := TK.str [((0 : Nat), (23 : Nat)), ((1 : Nat), (23 : Nat)), ((2 : Nat), (23 : Nat)), ((3 : Nat), (55 : Nat)), ((7 : Nat), (23 : Nat)), ((8 : Nat), (56 : Nat))], size := (9 : Nat), bytes := (88 : Nat), zero := [SV.v (Value.int IntKind.u64 (0 : Int)), SV.v (Value.int IntKind.u64 (0 : Int)), SV.v (Value.int IntKind.u64 (0 : Int)), SV.ints IntKind.u64 (4 : Nat) (List.replicate (4 : Nat) (0 : Int)), SV.v (Value.int IntKind.u64 (0 : Int)), SV.v (Value.slice none (0 : Nat) (0 : Nat))], eqm := (0 : Nat), el := { α := RK.TL [RK.int IntKind.u64, RK.int IntKind.u64, RK.int IntKind.u64, RK.ints IntKind.u64 (4 : Nat), RK.int IntKind.u64, RK.sl (1 : Nat) [RK.int IntKind.u8]], E := encRec [RK.int IntKind.u64, RK.int IntKind.u64, RK.int IntKind.u64, RK.ints IntKind.u64 (4 : Nat), RK.int IntKind.u64, RK.sl (1 : Nat) [RK.int IntKind.u8]] } }) (List.map (Enc.enc EM) [] = List.map (Enc.enc (encRec [RK.int IntKind.u64, RK.int IntKind.u64, RK.int IntKind.u64, RK.ints IntKind.u64 (4 : Nat), RK.int IntKind.u64, RK.sl (1 : Nat) [RK.int IntKind.u8]])) []))) (And ((true : Bool) = true) (And (And ((8 : Nat) = Int.toNat (8 : Int)) (And ((TI.agg { kind := TK.sl (5 : Nat), size := (1 : Nat), bytes := (24 : Nat), zero := [SV.v (Value.slice none (0 : Nat) (0 : Nat))], eqm := (0 : Nat), el := { α := RK.TL [RK.sl (1 : Nat) [RK.int IntKind.u8]], E := encRec [RK.sl (1 : Nat) [RK.int IntKind.u8]] } } : Bool) = TI.agg { kind := TK.sl (5 : Nat), size := (1 : Nat), bytes := (24 : Nat), zero := [SV.v (Value.slice none (0 : Nat) (0 : Nat))], eqm := (0 : Nat), el := { α := RK.TL [RK.sl (1 : Nat) [RK.int IntKind.u8]], E := encRec [RK.sl (1 : Nat) [RK.int IntKind.u8]] } }) (List.map (Enc.enc EBl) [] = List.map (Enc.enc (encRec [RK.sl (1 : Nat) [RK.int IntKind.u8]])) []))) (And ((true : Bool) = true) (And (And ((true : Bool) = true) (And ((0 : Nat) = (0 : Nat)) (And (List.map (Enc.enc EK) [] = List.map (Enc.enc EK) []) (∀ x : KTy, (∀ a : x ∈ [], (∀ s : SV, (∀ a_1 : s ∈ Enc.enc EK x, ((SV.isPure s : Bool) = (true))))))))) (And ((true : Bool) = true) True)))))))) ((true : Bool) = true)))) True) True) (And (And (And (∃ o : Unit, (And (And (And ((true : Bool) = true) ((0 : Nat) = (0 : Nat))) True) (And (And (And (And ((true : Bool) = true) (And ((0 : Nat) = (0 : Nat)) ((0 : Nat) = (0 : Nat)))) (And ((true : Bool) = true) (And ((true : Bool) = true) (And ((0 : Int) = (0 : Int)) True)))) (And ((true : Bool) = true) (And (And ((8 : Nat) = Int.toNat (8 : Int)) (And ((TI.agg { kind := TK.str [((0 : Nat), (23 : Nat)), ((1 : Nat), (23 : Nat)), ((2 : Nat), (23 : Nat)), ((3 : Nat), (55 : Nat)), ((7 : Nat), (23 : Nat)), ((8 : Nat), (56 : Nat))], size := (9 : Nat), bytes := (88 : Nat), zero := [SV.v (Value.int IntKind.u64 (0 : Int)), SV.v (Value.int IntKind.u64 (0 : Int)), SV.v (Value.int IntKind.u64 (0 : Int)), SV.ints IntKind.u64 (4 : Nat) (List.replicate (4 : Nat) (0 : Int)), SV.v (Value.int IntKind.u64 (0 : Int)), SV.v (Value.slice none (0 : Nat) (0 : Nat))], eqm := (0 : Nat), el := { α := RK.TL [RK.int IntKind.u64, RK.int IntKind.u64, RK.int IntKind.u64, RK.ints IntKind.u64 (4 : Nat), RK.int IntKind.u64, RK.sl (1 : Nat) [RK.int IntKind.u8]], E := encRec [RK.int IntKind.u64, RK.int IntKind.u64, RK.int IntKind.u64, RK.ints IntKind.u64 (4 : Nat), RK.int IntKind.u64, RK.sl (1 : Nat) [RK.int IntKind.u8]] } } : Bool) = TI.agg { kind := TK.str [((0 : Nat), (23 : Nat)), ((1 : Nat), (23 : Nat)), ((2 : Nat), (23 : Nat)), ((3 : Nat), (55 : Nat)), ((7 : Nat), (23 : Nat)), ((8 : Nat), (56 : Nat))], size := (9 : Nat), bytes := (88 : Nat), zero := [SV.v (Value.int IntKind.u64 (0 : Int)), SV.v (Value.int IntKind.u64 (0 : Int)), SV.v (Value.int IntKind.u64 (0 : Int)), SV.ints IntKind.u64 (4 : Nat) (List.replicate (4 : Nat) (0 : Int)), SV.v (Value.int IntKind.u64 (0 : Int)), SV.v (Value.slice none (0 : Nat) (0 : Nat))], eqm := (0 : Nat), el := { α := RK.TL [RK.int IntKind.u64, RK.int IntKind.u64, RK.int IntKind.u64, RK.ints IntKind.u64 (4 : Nat), RK.int IntKind.u64, RK.sl (1 : Nat) [RK.int IntKind.u8]], E := encRec [RK.int IntKind.u64, RK.int IntKind.u64, RK.int IntKind.u64, RK.ints IntKind.u64 (4 : Nat), RK.int IntKind.u64, RK.sl (1 : Nat) [RK.int IntKind.u8]] } }) (List.map (Enc.enc EM) [] = List.map (Enc.enc (encRec [RK.int IntKind.u64, RK.int IntKind.u64, RK.int IntKind.u64, RK.ints IntKind.u64 (4 : Nat), RK.int IntKind.u64, RK.sl (1 : Nat) [RK.int IntKind.u8]])) []))) (And ((true : Bool) = true) (And (And ((8 : Nat) = Int.toNat (8 : Int)) (And ((TI.agg { kind := TK.sl (5 : Nat), size := (1 : Nat), bytes := (24 : Nat), zero := [SV.v (Value.slice none (0 : Nat) (0 : Nat))], eqm := (0 : Nat), el := { α := RK.TL [RK.sl (1 : Nat) [RK.int IntKind.u8]], E := encRec [RK.sl (1 : Nat) [RK.int IntKind.u8]] } } : Bool) = TI.agg { kind := TK.sl (5 : Nat), size := (1 : Nat), bytes := (24 : Nat), zero := [SV.v (Value.slice none (0 : Nat) (0 : Nat))], eqm := (0 : Nat), el := { α := RK.TL [RK.sl (1 : Nat) [RK.int IntKind.u8]], E := encRec [RK.sl (1 : Nat) [RK.int IntKind.u8]] } }) (List.map (Enc.enc EBl) [] = List.map (Enc.enc (encRec [RK.sl (1 : Nat) [RK.int IntKind.u8]])) []))) (And ((true : Bool) = true) (And (And ((true : Bool) = true) (And ((0 : Nat) = (0 : Nat)) (And (List.map (Enc.enc EK) [] = List.map (Enc.enc EK) []) (∀ x : KTy, (∀ a : x ∈ [], (∀ s : SV, (∀ a_1 : s ∈ Enc.enc EK x, ((SV.isPure s : Bool) = (true))))))))) (And ((true : Bool) = true) True)))))))) ((true : Bool) = true)))) True) True) True))) (by kernel_rfl) ?_
  repeat' first | (refine ⟨(), ?_⟩) | trivial | exact fun x _ => Enc.pures EK x | exact trivial | refine And.intro ?_ ?_ | with_reducible refine bif_dt (by assumption) ?_ | with_reducible refine bif_df (by assumption) ?_ | with_reducible refine bif_dec (fun _ => ?_) (fun _ => ?_) | with_reducible refine bif_not ?_ | with_reducible refine bif_and ?_ | with_reducible refine bif_or ?_ | with_reducible refine bif_t (by assumption) ?_ | with_reducible refine bif_f (by assumption) ?_ | with_reducible refine bif_t (beq_self_eq_true _) ?_ | with_reducible refine bif_b (fun _ => ?_) (fun _ => ?_) | with_reducible refine ⟨_, Eq.refl (List.map _ _), ?_⟩ | (with_reducible refine Exists.intro (by omega) ?_) | rfl | (intro h0; omega) | omega
/-! ### What a message, a block holds -/
structure Msg where
  n : Int
  s : Int
  t : Int
  v : List Int
  g : Int
  d : List Int
def b1 (p : RK.TL [.int .u8]) : Int := Prod.fst (α := Int) (β := Unit) p
def mkI (n : Int) : RK.TL [.int .u8] := (n, ())
def mkL (l : List Int) : List (RK.TL [.int .u8]) := l.map mkI
theorem b1_mkL (l : List Int) : (mkL l).map b1 = l := by
  unfold mkL
  rw [List.map_map]
  exact List.map_id _
theorem encmk (l : List Int) : List.map eB l = List.map (RK.svs [.int .u8]) (mkL l) := by
  unfold mkL
  rw [List.map_map]
  rfl
def bl (y : BTy) : List Int := List.map b1 y.1.2
def ml (y : MTy) : Msg := ⟨y.1, y.2.1, y.2.2.1, y.2.2.2.1, y.2.2.2.2.1, List.map b1 y.2.2.2.2.2.1.2⟩
abbrev Blo := List Msg × List (List Int)
def kl (y : KTy) : Blo := (List.map ml y.1.2, List.map bl y.2.1.2)
def mkB (x : Value) (l : List Int) : BTy := ((x, mkL l), ())
def mkM (m : Msg) (x : Value) : MTy := (m.n, m.s, m.t, m.v, m.g, (x, mkL m.d), ())
theorem bl_mk (x : Value) (l : List Int) : bl (mkB x l) = l := b1_mkL l
theorem ml_mk (m : Msg) (x : Value) : ml (mkM m x) = m := by
  show Msg.mk m.n m.s m.t m.v m.g (List.map b1 (mkL m.d)) = m
  rw [b1_mkL]
structure IB where
  L : List Blo
  D : List Msg
  B : List (List Int)
  N : Int
def capOk (n cp : Nat) : Prop := n ≤ cp ∧ (n = 0 → cp = 0)
structure IBT (x : IB) where
  L : List KTy
  cp : Nat
  ms : List MTy
  bs : List BTy
  hL : L.map kl = x.L
  hm : ms.map ml = x.D
  hb : bs.map bl = x.B
  hc : capOk L.length cp
def IB.post (x : IB) (b : List Int) : IB × Int :=
  if 4096 < b.length then (x, 6) else if x.B.length < 8 then ({ x with B := x.B ++ [b] }, 0) else (x, 6)
theorem post_spec (y : Value) {b : List Int} {x : IB} (i : IBT x) : SMem Try.prog 20 [.one (.ptr 0 0), byV y b] 4 (inH i.L i.cp i.ms i.bs x.N) (fun o : IBT (x.post b).1 => ⟨4, int (x.post b).2, inH o.L o.cp o.ms o.bs (x.post b).1.N⟩) := by
  refine SMem.inm [] SOK.nil [(35, cloneBT)] (MSOK.cons cloneB_ok MSOK.nil) tok mixed [(31, ⟨Try.f31, true, [], []⟩)] (IOK.cons Try.func31 Try.call31 IOK.nil) true [] [] Try.call20 Try.func20 rfl (by rfl) ?_
  refine Eq.mp (α := (@Bool.rec (fun _ => Prop) (∃ l : List Int, (And (List.map eB b = List.map eB l) (And (List.length l ≤ (100000000 : Nat)) (∀ x_1 : Value, (@Bool.rec (fun _ => Prop) (∃ o : IBT (Prod.fst (IB.post x b)), (And (And (Prod.snd (IB.post x b) = (6 : Int)) True) (And (And (And (And ((true : Bool) = true) (And (List.length (IBT.L o) = List.length (IBT.L i)) (IBT.cp o = IBT.cp i))) (And ((true : Bool) = true) (And ((true : Bool) = true) (And (IB.N (Prod.fst (IB.post x b)) = IB.N x) True)))) (And ((true : Bool) = true) (And (And ((8 : Nat) = (8 : Nat)) (And ((true : Bool) = true) (List.map (Enc.enc EM) (IBT.ms o) = List.map (Enc.enc EM) (IBT.ms i)))) (And ((true : Bool) = true) (And (And ((8 : Nat) = (8 : Nat)) (And ((false : Bool) = false) (List.map (Enc.enc EBl) (IBT.bs o) = List.map (Enc.enc EBl) (IBT.bs i)))) (And ((true : Bool) = true) (And (And ((true : Bool) = true) (And (IBT.cp o = IBT.cp i) (And (List.map (Enc.enc EK) (IBT.L o) = List.map (Enc.enc EK) (IBT.L i)) (∀ x_2 : KTy, (∀ a : x_2 ∈ IBT.L o, (∀ s : SV, (∀ a_1 : s ∈ Enc.enc EK x_2, ((SV.isPure s : Bool) = (true))))))))) (And ((true : Bool) = true) True)))))))) ((true : Bool) = true)))) (∃ l' : List (RK.TL [RK.int IntKind.u8]), (And (List.map eB l = List.map (RK.svs [RK.int IntKind.u8]) l') (∃ o : IBT (Prod.fst (IB.post x b)), (And (And (Prod.snd (IB.post x b) = (0 : Int)) True) (And (And (And (And ((true : Bool) = true) (And (List.length (IBT.L o) = List.length (IBT.L i)) (IBT.cp o = IBT.cp i))) (And ((true : Bool) = true) (And ((true : Bool) = true) (And (IB.N (Prod.fst (IB.post x b)) = IB.N x) True)))) (And ((true : Bool) = true) (And (And ((8 : Nat) = (8 : Nat)) (And ((true : Bool) = true) (List.map (Enc.enc EM) (IBT.ms o) = List.map (Enc.enc EM) (IBT.ms i)))) (And ((true : Bool) = true) (And (And ((8 : Nat) = (8 : Nat)) (And ((false : Bool) = false) (List.map (Enc.enc EBl) (IBT.bs o) = List.map (Enc.enc EBl) (IBT.bs i ++ [Enc.of EBl ((x_1, l'), ())])))) (And ((true : Bool) = true) (And (And ((true : Bool) = true) (And (IBT.cp o = IBT.cp i) (And (List.map (Enc.enc EK) (IBT.L o) = List.map (Enc.enc EK) (IBT.L i)) (∀ x_2 : KTy, (∀ a : x_2 ∈ IBT.L o, (∀ s : SV, (∀ a_1 : s ∈ Enc.enc EK x_2, ((SV.isPure s : Bool) = (true))))))))) (And ((true : Bool) = true) True)))))))) ((true : Bool) = true)))))) (decide (List.length (IBT.bs i) < (8 : Nat)))))))) (∃ o : IBT (Prod.fst (IB.post x b)), (And (And (Prod.snd (IB.post x b) = (6 : Int)) True) (And (And (And (And ((true : Bool) = true) (And (List.length (IBT.L o) = List.length (IBT.L i)) (IBT.cp o = IBT.cp i))) (And ((true : Bool) = true) (And ((true : Bool) = true) (And (IB.N (Prod.fst (IB.post x b)) = IB.N x) True)))) (And ((true : Bool) = true) (And (And ((8 : Nat) = (8 : Nat)) (And ((true : Bool) = true) (List.map (Enc.enc EM) (IBT.ms o) = List.map (Enc.enc EM) (IBT.ms i)))) (And ((true : Bool) = true) (And (And ((8 : Nat) = (8 : Nat)) (And ((false : Bool) = false) (List.map (Enc.enc EBl) (IBT.bs o) = List.map (Enc.enc EBl) (IBT.bs i)))) (And ((true : Bool) = true) (And (And ((true : Bool) = true) (And (IBT.cp o = IBT.cp i) (And (List.map (Enc.enc EK) (IBT.L o) = List.map (Enc.enc EK) (IBT.L i)) (∀ x_1 : KTy, (∀ a : x_1 ∈ IBT.L o, (∀ s : SV, (∀ a_1 : s ∈ Enc.enc EK x_1, ((SV.isPure s : Bool) = (true))))))))) (And ((true : Bool) = true) True)))))))) ((true : Bool) = true)))) (decide ((4096 : Int) < (↑(List.length b) : Int))))) (by kernel_rfl) ?_
  have hlen : i.bs.length = x.B.length := by rw [← i.hb, List.length_map]
  unfold IB.post
  refine bif_dec (fun h => ?_) (fun h => ?_)
  · rw [if_pos (show 4096 < b.length by omega)]
    refine ⟨i, ?_⟩
    repeat' first | exact fun x _ => Enc.pures EK x | exact trivial | refine And.intro ?_ ?_ | with_reducible refine bif_dt (by assumption) ?_ | with_reducible refine bif_df (by assumption) ?_ | with_reducible refine bif_dec (fun _ => ?_) (fun _ => ?_) | with_reducible refine bif_not ?_ | with_reducible refine bif_and ?_ | with_reducible refine bif_or ?_ | with_reducible refine bif_t (by assumption) ?_ | with_reducible refine bif_f (by assumption) ?_ | with_reducible refine bif_t (beq_self_eq_true _) ?_ | with_reducible refine bif_b (fun _ => ?_) (fun _ => ?_) | with_reducible refine ⟨_, Eq.refl (List.map _ _), ?_⟩ | (with_reducible refine Exists.intro (by omega) ?_) | rfl | (intro h0; omega) | omega
  rw [if_neg (show ¬ 4096 < b.length by omega)]
  refine ⟨b, rfl, by omega, fun z => bif_dec (fun h2 => ?_) (fun h2 => ?_)⟩
  · rw [if_pos (show x.B.length < 8 by omega)]
    refine ⟨mkL b, encmk b, ⟨i.L, i.cp, i.ms, i.bs ++ [mkB z b], i.hL, i.hm, by rw [List.map_append, i.hb, List.map_cons, bl_mk]; rfl, i.hc⟩, ?_⟩
    repeat' first | exact fun x _ => Enc.pures EK x | exact trivial | refine And.intro ?_ ?_ | with_reducible refine bif_dt (by assumption) ?_ | with_reducible refine bif_df (by assumption) ?_ | with_reducible refine bif_dec (fun _ => ?_) (fun _ => ?_) | with_reducible refine bif_not ?_ | with_reducible refine bif_and ?_ | with_reducible refine bif_or ?_ | with_reducible refine bif_t (by assumption) ?_ | with_reducible refine bif_f (by assumption) ?_ | with_reducible refine bif_t (beq_self_eq_true _) ?_ | with_reducible refine bif_b (fun _ => ?_) (fun _ => ?_) | with_reducible refine ⟨_, Eq.refl (List.map _ _), ?_⟩ | (with_reducible refine Exists.intro (by omega) ?_) | rfl | (intro h0; omega) | omega
  · rw [if_neg (show ¬ x.B.length < 8 by omega)]
    refine ⟨i, ?_⟩
    repeat' first | exact fun x _ => Enc.pures EK x | exact trivial | refine And.intro ?_ ?_ | with_reducible refine bif_dt (by assumption) ?_ | with_reducible refine bif_df (by assumption) ?_ | with_reducible refine bif_dec (fun _ => ?_) (fun _ => ?_) | with_reducible refine bif_not ?_ | with_reducible refine bif_and ?_ | with_reducible refine bif_or ?_ | with_reducible refine bif_t (by assumption) ?_ | with_reducible refine bif_f (by assumption) ?_ | with_reducible refine bif_t (beq_self_eq_true _) ?_ | with_reducible refine bif_b (fun _ => ?_) (fun _ => ?_) | with_reducible refine ⟨_, Eq.refl (List.map _ _), ?_⟩ | (with_reducible refine Exists.intro (by omega) ?_) | rfl | (intro h0; omega) | omega
def IB.deposit (x : IB) (m : Msg) : IB × Int × Int :=
  if rightM m.g m.d.length = true then (if x.D.length < 8 then ({ x with D := x.D ++ [{ m with n := x.N }], N := IntKind.u64.wrap (x.N + 1) }, x.N, 0) else (x, 0, 6)) else (x, 0, 1)
theorem deposit_spec (m : Msg) (y : Value) {x : IB} (i : IBT x) : SMem Try.prog 17 [.one (.ptr 0 0), .agg (mA m.n m.s m.t m.v m.g y m.d)] 4 (inH i.L i.cp i.ms i.bs x.N)
    (fun o : IBT (x.deposit m).1 => ⟨4, .tup [u64 (x.deposit m).2.1, int (x.deposit m).2.2], inH o.L o.cp o.ms o.bs (x.deposit m).1.N⟩) := by
  refine SMem.inm [(32, mrightT)] (SOK.cons mright_ok SOK.nil) [(33, copiedT)] (MSOK.cons copied_ok MSOK.nil) tok mixed [(31, ⟨Try.f31, true, [], []⟩)] (IOK.cons Try.func31 Try.call31 IOK.nil) true [] [] Try.call17 Try.func17 rfl (by rfl) ?_
  refine Eq.mp (α := (∃ d : List Int, (And (List.map eB (Msg.d m) = List.map eB d) (@Bool.rec (fun _ => Prop) (∃ d_1 : List Int, (And (List.map eB (Msg.d m) = List.map eB d_1) (And (List.length d_1 ≤ (100000000 : Nat)) (∀ y_1 : Value, (@Bool.rec (fun _ => Prop) (∃ o : IBT (Prod.fst (IB.deposit x m)), (And (And (And (Prod.fst (Prod.snd (IB.deposit x m)) = (0 : Int)) (And (Prod.snd (Prod.snd (IB.deposit x m)) = (6 : Int)) True)) True) (And (And (And (And ((true : Bool) = true) (And (List.length (IBT.L o) = List.length (IBT.L i)) (IBT.cp o = IBT.cp i))) (And ((true : Bool) = true) (And ((true : Bool) = true) (And (IB.N (Prod.fst (IB.deposit x m)) = IB.N x) True)))) (And ((true : Bool) = true) (And (And ((8 : Nat) = (8 : Nat)) (And ((true : Bool) = true) (List.map (Enc.enc EM) (IBT.ms o) = List.map (Enc.enc EM) (IBT.ms i)))) (And ((true : Bool) = true) (And (And ((8 : Nat) = (8 : Nat)) (And ((false : Bool) = false) (List.map (Enc.enc EBl) (IBT.bs o) = List.map (Enc.enc EBl) (IBT.bs i)))) (And ((true : Bool) = true) (And (And ((true : Bool) = true) (And (IBT.cp o = IBT.cp i) (And (List.map (Enc.enc EK) (IBT.L o) = List.map (Enc.enc EK) (IBT.L i)) (∀ x_1 : KTy, (∀ a : x_1 ∈ IBT.L o, (∀ s : SV, (∀ a_1 : s ∈ Enc.enc EK x_1, ((SV.isPure s : Bool) = (true))))))))) (And ((true : Bool) = true) True)))))))) ((true : Bool) = true)))) (∃ l' : List (RK.TL [RK.int IntKind.u8]), (And (List.map eB d_1 = List.map (RK.svs [RK.int IntKind.u8]) l') (∃ o : IBT (Prod.fst (IB.deposit x m)), (And (And (And (Prod.fst (Prod.snd (IB.deposit x m)) = IB.N x) (And (Prod.snd (Prod.snd (IB.deposit x m)) = (0 : Int)) True)) True) (And (And (And (And ((true : Bool) = true) (And (List.length (IBT.L o) = List.length (IBT.L i)) (IBT.cp o = IBT.cp i))) (And ((true : Bool) = true) (And ((true : Bool) = true) (And (IB.N (Prod.fst (IB.deposit x m)) = IntKind.wrap IntKind.u64 (IB.N x + (1 : Int))) True)))) (And ((true : Bool) = true) (And (And ((8 : Nat) = (8 : Nat)) (And ((true : Bool) = true) (List.map (Enc.enc EM) (IBT.ms o) = List.map (Enc.enc EM) (IBT.ms i ++ [Enc.of EM (IB.N x, Msg.s m, Msg.t m, Msg.v m, Msg.g m, (y_1, l'), ())])))) (And ((true : Bool) = true) (And (And ((8 : Nat) = (8 : Nat)) (And ((false : Bool) = false) (List.map (Enc.enc EBl) (IBT.bs o) = List.map (Enc.enc EBl) (IBT.bs i)))) (And ((true : Bool) = true) (And (And ((true : Bool) = true) (And (IBT.cp o = IBT.cp i) (And (List.map (Enc.enc EK) (IBT.L o) = List.map (Enc.enc EK) (IBT.L i)) (∀ x_1 : KTy, (∀ a : x_1 ∈ IBT.L o, (∀ s : SV, (∀ a_1 : s ∈ Enc.enc EK x_1, ((SV.isPure s : Bool) = (true))))))))) (And ((true : Bool) = true) True)))))))) ((true : Bool) = true)))))) (decide (List.length (IBT.ms i) < (8 : Nat)))))))) (∃ o : IBT (Prod.fst (IB.deposit x m)), (And (And (And (Prod.fst (Prod.snd (IB.deposit x m)) = (0 : Int)) (And (Prod.snd (Prod.snd (IB.deposit x m)) = (1 : Int)) True)) True) (And (And (And (And ((true : Bool) = true) (And (List.length (IBT.L o) = List.length (IBT.L i)) (IBT.cp o = IBT.cp i))) (And ((true : Bool) = true) (And ((true : Bool) = true) (And (IB.N (Prod.fst (IB.deposit x m)) = IB.N x) True)))) (And ((true : Bool) = true) (And (And ((8 : Nat) = (8 : Nat)) (And ((true : Bool) = true) (List.map (Enc.enc EM) (IBT.ms o) = List.map (Enc.enc EM) (IBT.ms i)))) (And ((true : Bool) = true) (And (And ((8 : Nat) = (8 : Nat)) (And ((false : Bool) = false) (List.map (Enc.enc EBl) (IBT.bs o) = List.map (Enc.enc EBl) (IBT.bs i)))) (And ((true : Bool) = true) (And (And ((true : Bool) = true) (And (IBT.cp o = IBT.cp i) (And (List.map (Enc.enc EK) (IBT.L o) = List.map (Enc.enc EK) (IBT.L i)) (∀ x_1 : KTy, (∀ a : x_1 ∈ IBT.L o, (∀ s : SV, (∀ a_1 : s ∈ Enc.enc EK x_1, ((SV.isPure s : Bool) = (true))))))))) (And ((true : Bool) = true) True)))))))) ((true : Bool) = true)))) (!rightM (Msg.g m) (List.length d)))))) (by kernel_rfl) ?_
  have hlen : i.ms.length = x.D.length := by rw [← i.hm, List.length_map]
  unfold IB.deposit
  refine ⟨m.d, rfl, ?_⟩
  cases hr : rightM m.g m.d.length with
  | false =>
    rw [if_neg (by decide)]
    refine ⟨i, ?_⟩
    repeat' first | exact fun x _ => Enc.pures EK x | exact trivial | refine And.intro ?_ ?_ | with_reducible refine bif_dt (by assumption) ?_ | with_reducible refine bif_df (by assumption) ?_ | with_reducible refine bif_dec (fun _ => ?_) (fun _ => ?_) | with_reducible refine bif_not ?_ | with_reducible refine bif_and ?_ | with_reducible refine bif_or ?_ | with_reducible refine bif_t (by assumption) ?_ | with_reducible refine bif_f (by assumption) ?_ | with_reducible refine bif_t (beq_self_eq_true _) ?_ | with_reducible refine bif_b (fun _ => ?_) (fun _ => ?_) | with_reducible refine ⟨_, Eq.refl (List.map _ _), ?_⟩ | (with_reducible refine Exists.intro (by omega) ?_) | rfl | (intro h0; omega) | omega
  | true =>
    rw [if_pos rfl]
    have hd : m.d.length ≤ 64 := by
      unfold rightM at hr
      simp only [Bool.and_eq_true, decide_eq_true_eq] at hr
      exact hr.2
    refine ⟨m.d, rfl, by omega, fun z => bif_dec (fun h2 => ?_) (fun h2 => ?_)⟩
    · rw [if_pos (show x.D.length < 8 by omega)]
      refine ⟨mkL m.d, encmk m.d, ⟨i.L, i.cp, i.ms ++ [mkM { m with n := x.N } z], i.bs, i.hL, by rw [List.map_append, i.hm, List.map_cons, ml_mk]; rfl, i.hb, i.hc⟩, ?_⟩
      repeat' first | exact fun x _ => Enc.pures EK x | exact trivial | refine And.intro ?_ ?_ | with_reducible refine bif_dt (by assumption) ?_ | with_reducible refine bif_df (by assumption) ?_ | with_reducible refine bif_dec (fun _ => ?_) (fun _ => ?_) | with_reducible refine bif_not ?_ | with_reducible refine bif_and ?_ | with_reducible refine bif_or ?_ | with_reducible refine bif_t (by assumption) ?_ | with_reducible refine bif_f (by assumption) ?_ | with_reducible refine bif_t (beq_self_eq_true _) ?_ | with_reducible refine bif_b (fun _ => ?_) (fun _ => ?_) | with_reducible refine ⟨_, Eq.refl (List.map _ _), ?_⟩ | (with_reducible refine Exists.intro (by omega) ?_) | rfl | (intro h0; omega) | omega
    · rw [if_neg (show ¬ x.D.length < 8 by omega)]
      refine ⟨i, ?_⟩
      repeat' first | exact fun x _ => Enc.pures EK x | exact trivial | refine And.intro ?_ ?_ | with_reducible refine bif_dt (by assumption) ?_ | with_reducible refine bif_df (by assumption) ?_ | with_reducible refine bif_dec (fun _ => ?_) (fun _ => ?_) | with_reducible refine bif_not ?_ | with_reducible refine bif_and ?_ | with_reducible refine bif_or ?_ | with_reducible refine bif_t (by assumption) ?_ | with_reducible refine bif_f (by assumption) ?_ | with_reducible refine bif_t (beq_self_eq_true _) ?_ | with_reducible refine bif_b (fun _ => ?_) (fun _ => ?_) | with_reducible refine ⟨_, Eq.refl (List.map _ _), ?_⟩ | (with_reducible refine Exists.intro (by omega) ?_) | rfl | (intro h0; omega) | omega
open Go Go.Sx

structure AlT (α : Type) (l : List α) where
  i : Nat
  cap : Nat
  hi : i ≤ l.length
  hc : i ≤ cap
theorem take_next {α : Type} {l : List α} {i : Nat} (hi : i < l.length) (hd : 0 < (l.drop i).length) : l.take i ++ [(l.drop i)[0]] = l.take (i + 1) := by
  rw [List.take_add_one, List.getElem?_eq_getElem hi, List.getElem_drop]
  simp
theorem drop_next {α : Type} (l : List α) (i : Nat) : (l.drop i).drop 1 = l.drop (i + 1) := by rw [List.drop_drop]
theorem castM (y : MTy) : castL (encRec MsF) EM (List.take 1 (List.drop 0 [(encRec MsF).of y])) = [y] := castL_self _ _ rfl
theorem castBl (y : BTy) : castL (encRec [.sl 1 [.int .u8]]) EBl (List.take 1 (List.drop 0 [(encRec [.sl 1 [.int .u8]]).of y])) = [y] := castL_self _ _ rfl
theorem allM_spec (ms : List MTy) (h : ms.length ≤ 1000) : SMem Try.prog 36 [.one (.ch 0)] 1 [(0, .chan 8 true EM ms)] (fun c : CapT ms.length => ⟨2, .one (.nslc 1 9 ms.length c.cap), [(0, .chan 8 true EM []), (1, .row 9 EM ms c.cap)]⟩) := by
  refine SMem.inm [] SOK.nil [] MSOK.nil tok mixed [] IOK.nil false [(1, ⟨AlT MTy ms, fun p => ⟨2, [(0, .one (.ch 0)), (2, .one (.nslc 1 9 p.i p.cap))], [(0, .chan 8 true EM (ms.drop p.i)), (1, .row 9 EM (ms.take p.i) p.cap)]⟩, fun p => ms.length - p.i, fun _ _ => True⟩)] [] Try.call36 Try.func36 rfl (by rfl) ?_
  refine Eq.mp (α := (∃ i0 : AlT MTy ms, (And (And True (And (And ((true : Bool) = true) (And (And ((true : Bool) = true) (And (AlT.i i0 = (0 : Nat)) (AlT.cap i0 = (0 : Nat)))) True)) (And (And (And ((8 : Nat) = (8 : Nat)) (And ((true : Bool) = true) (List.map (Enc.enc EM) (List.drop (AlT.i i0) ms) = List.map (Enc.enc EM) ms))) (And ((true : Bool) = true) (And (And ((true : Bool) = true) (And (AlT.cap i0 = (0 : Nat)) (And (List.map (Enc.enc EM) (List.take (AlT.i i0) ms) = List.map (Enc.enc EM) []) (∀ x : MTy, (∀ a : x ∈ List.take (AlT.i i0) ms, (∀ s : SV, (∀ a_1 : s ∈ Enc.enc EM x, ((SV.isPure s : Bool) = (true))))))))) (And ((true : Bool) = true) True)))) ((true : Bool) = true)))) (∀ i : AlT MTy ms, (∀ a : True, (@Bool.rec (fun _ => Prop) (∃ hl : (0 : Nat) < List.length (List.drop (AlT.i i) ms), (∃ l' : List (RK.TL [RK.int IntKind.u8]), (And (List.map (RK.svs._f [RK.int IntKind.u8] ⟨⟨RK.sv._f (RK.int IntKind.u8) PUnit.unit, PUnit.unit⟩, RK.svs._f [] PUnit.unit, PUnit.unit⟩) (Prod.snd (Prod.fst (Prod.snd (Prod.snd (Prod.snd (Prod.snd (Prod.snd (List.drop (AlT.i i) ms)[(0 : Nat)]))))))) = List.map (RK.svs [RK.int IntKind.u8]) l') (And (AlT.i i = List.length (List.take (AlT.i i) ms)) (And (AlT.cap i = AlT.cap i) (And ((0 : Nat) + (1 : Nat) ≤ (1 : Nat)) (And ((List.length (List.take (AlT.i i) ms) + (1 : Nat)) * (88 : Nat) ≤ (150000000000000 : Nat)) (∀ cap2 : Nat, (∀ a_1 : List.length (List.take (AlT.i i) ms) + (1 : Nat) ≤ cap2, (∃ i' : AlT MTy ms, (And (And (List.length ms - AlT.i i' < List.length ms - AlT.i i) True) (And (And ((true : Bool) = true) (And (And ((true : Bool) = true) (And (AlT.i i' = List.length (List.take (AlT.i i) ms ++ castL (encRec [RK.int IntKind.u64, RK.int IntKind.u64, RK.int IntKind.u64, RK.ints IntKind.u64 (4 : Nat), RK.int IntKind.u64, RK.sl (1 : Nat) [RK.int IntKind.u8]]) EM (List.take (1 : Nat) (List.drop (0 : Nat) [Enc.of (encRec [RK.int IntKind.u64, RK.int IntKind.u64, RK.int IntKind.u64, RK.ints IntKind.u64 (4 : Nat), RK.int IntKind.u64, RK.sl (1 : Nat) [RK.int IntKind.u8]]) (Prod.fst (List.drop (AlT.i i) ms)[(0 : Nat)], Prod.fst (Prod.snd (List.drop (AlT.i i) ms)[(0 : Nat)]), Prod.fst (Prod.snd (Prod.snd (List.drop (AlT.i i) ms)[(0 : Nat)])), Prod.fst (Prod.snd (Prod.snd (Prod.snd (List.drop (AlT.i i) ms)[(0 : Nat)]))), Prod.fst (Prod.snd (Prod.snd (Prod.snd (Prod.snd (List.drop (AlT.i i) ms)[(0 : Nat)])))), (Prod.fst (Prod.fst (Prod.snd (Prod.snd (Prod.snd (Prod.snd (Prod.snd (List.drop (AlT.i i) ms)[(0 : Nat)])))))), l'), ())])))) (AlT.cap i' = cap2))) True)) (And (And (And ((8 : Nat) = (8 : Nat)) (And ((true : Bool) = true) (List.map (Enc.enc EM) (List.drop (AlT.i i') ms) = List.map (Enc.enc EM) (List.drop (1 : Nat) (List.drop (AlT.i i) ms))))) (And ((true : Bool) = true) (And (And ((true : Bool) = true) (And (AlT.cap i' = cap2) (And (List.map (Enc.enc EM) (List.take (AlT.i i') ms) = List.map (Enc.enc EM) (List.take (AlT.i i) ms ++ castL (encRec [RK.int IntKind.u64, RK.int IntKind.u64, RK.int IntKind.u64, RK.ints IntKind.u64 (4 : Nat), RK.int IntKind.u64, RK.sl (1 : Nat) [RK.int IntKind.u8]]) EM (List.take (1 : Nat) (List.drop (0 : Nat) [Enc.of (encRec [RK.int IntKind.u64, RK.int IntKind.u64, RK.int IntKind.u64, RK.ints IntKind.u64 (4 : Nat), RK.int IntKind.u64, RK.sl (1 : Nat) [RK.int IntKind.u8]]) (Prod.fst (List.drop (AlT.i i) ms)[(0 : Nat)], Prod.fst (Prod.snd (List.drop (AlT.i i) ms)[(0 : Nat)]), Prod.fst (Prod.snd (Prod.snd (List.drop (AlT.i i) ms)[(0 : Nat)])), Prod.fst (Prod.snd (Prod.snd (Prod.snd (List.drop (AlT.i i) ms)[(0 : Nat)]))), Prod.fst (Prod.snd (Prod.snd (Prod.snd (Prod.snd (List.drop (AlT.i i) ms)[(0 : Nat)])))), (Prod.fst (Prod.fst (Prod.snd (Prod.snd (Prod.snd (Prod.snd (Prod.snd (List.drop (AlT.i i) ms)[(0 : Nat)])))))), l'), ())])))) (∀ x : MTy, (∀ a_2 : x ∈ List.take (AlT.i i') ms, (∀ s : SV, (∀ a_3 : s ∈ Enc.enc EM x, ((SV.isPure s : Bool) = (true))))))))) (And ((true : Bool) = true) True)))) ((true : Bool) = true)))))))))))))) (∃ o : CapT (List.length ms), (And (And (And ((true : Bool) = true) (And (List.length ms = AlT.i i) (CapT.cap o = AlT.cap i))) True) (And (And (And ((8 : Nat) = (8 : Nat)) (And ((true : Bool) = true) (List.map (Enc.enc EM) [] = List.map (Enc.enc EM) (List.drop (AlT.i i) ms)))) (And ((true : Bool) = true) (And (And ((true : Bool) = true) (And (CapT.cap o = AlT.cap i) (And (List.map (Enc.enc EM) ms = List.map (Enc.enc EM) (List.take (AlT.i i) ms)) (∀ x : MTy, (∀ a_1 : x ∈ ms, (∀ s : SV, (∀ a_2 : s ∈ Enc.enc EM x, ((SV.isPure s : Bool) = (true))))))))) (And ((true : Bool) = true) True)))) ((true : Bool) = true)))) (List.isEmpty (List.drop (AlT.i i) ms)))))))) (by kernel_rfl) ?_
  refine ⟨⟨0, 0, Nat.zero_le _, Nat.le_refl _⟩, ?_, ?_⟩
  ·
    repeat' first | exact fun x _ => Enc.pures EM x | exact trivial | refine And.intro ?_ ?_ | with_reducible refine bif_dt (by assumption) ?_ | with_reducible refine bif_df (by assumption) ?_ | with_reducible refine bif_dec (fun _ => ?_) (fun _ => ?_) | with_reducible refine bif_not ?_ | with_reducible refine bif_and ?_ | with_reducible refine bif_or ?_ | with_reducible refine bif_t (by assumption) ?_ | with_reducible refine bif_f (by assumption) ?_ | with_reducible refine bif_t (beq_self_eq_true _) ?_ | with_reducible refine bif_b (fun _ => ?_) (fun _ => ?_) | with_reducible refine ⟨_, Eq.refl (List.map _ _), ?_⟩ | (with_reducible refine Exists.intro (by omega) ?_) | rfl | (intro h0; omega) | omega
  rintro ⟨i, cap, hi, hc⟩ -
  dsimp only
  have hlen : (ms.take i).length = i := by rw [List.length_take]; omega
  refine bif_b (fun h1 => ?_) (fun h1 => ?_)
  · have h2 := List.isEmpty_iff.1 h1
    have h3 : i = ms.length := by have := congrArg List.length h2; rw [List.length_drop, List.length_nil] at this; omega
    subst h3
    refine ⟨⟨cap, hc⟩, ?_⟩
    rw [h2, List.take_length]
    repeat' first | exact fun x _ => Enc.pures EM x | exact trivial | refine And.intro ?_ ?_ | with_reducible refine bif_dt (by assumption) ?_ | with_reducible refine bif_df (by assumption) ?_ | with_reducible refine bif_dec (fun _ => ?_) (fun _ => ?_) | with_reducible refine bif_not ?_ | with_reducible refine bif_and ?_ | with_reducible refine bif_or ?_ | with_reducible refine bif_t (by assumption) ?_ | with_reducible refine bif_f (by assumption) ?_ | with_reducible refine bif_t (beq_self_eq_true _) ?_ | with_reducible refine bif_b (fun _ => ?_) (fun _ => ?_) | with_reducible refine ⟨_, Eq.refl (List.map _ _), ?_⟩ | (with_reducible refine Exists.intro (by omega) ?_) | rfl | (intro h0; omega) | omega
  · have hi' : i < ms.length := by
      refine Classical.byContradiction fun hn => ?_
      rw [List.drop_eq_nil_iff.2 (by omega)] at h1
      cases h1
    have hd : 0 < (ms.drop i).length := by rw [List.length_drop]; omega
    refine ⟨hd, _, rfl, hlen.symm, rfl, by omega, by omega, fun cap2 k2 => ?_⟩
    have e1 := (congrArg (ms.take i ++ ·) (castM (ms.drop i)[0])).trans (take_next hi' hd)
    have e2 := drop_next ms i
    refine ⟨⟨i + 1, cap2, hi', by omega⟩, ⟨show ms.length - (i + 1) < ms.length - i by omega, trivial⟩, ?_⟩
    repeat' first | exact fun x _ => Enc.pures EM x | exact congrArg (List.map EM.enc) e1.symm | exact congrArg (List.map EM.enc) e2.symm | (rw [List.length_append, hlen]; rfl) | exact trivial | refine And.intro ?_ ?_ | with_reducible refine bif_dt (by assumption) ?_ | with_reducible refine bif_df (by assumption) ?_ | with_reducible refine bif_dec (fun _ => ?_) (fun _ => ?_) | with_reducible refine bif_not ?_ | with_reducible refine bif_and ?_ | with_reducible refine bif_or ?_ | with_reducible refine bif_t (by assumption) ?_ | with_reducible refine bif_f (by assumption) ?_ | with_reducible refine bif_t (beq_self_eq_true _) ?_ | with_reducible refine bif_b (fun _ => ?_) (fun _ => ?_) | with_reducible refine ⟨_, Eq.refl (List.map _ _), ?_⟩ | (with_reducible refine Exists.intro (by omega) ?_) | rfl | (intro h0; omega) | omega
theorem allM_row {ms : List MTy} {c1 : Nat} (h : c1 = 8 ∧ ms.length ≤ 1000) : SMem Try.prog 36 [.one (.ch 0)] 1 [(0, .chan c1 true EM ms)] (fun c : CapT ms.length => ⟨2, .one (.nslc 1 9 ms.length c.cap), [(0, .chan 8 true EM []), (1, .row 9 EM ms c.cap)]⟩) := by
  obtain ⟨rfl, h⟩ := h
  exact allM_spec ms h
def allMT : MT := fun ms n h K => match ms with
  | [.one (.ch P0)] => (match get h P0 with
    | some (.chan c1 true wn0 wl0) => bif noDup [P0] then ∃ ms : List (MTy), wl0.map wn0.enc = ms.map (EM).enc ∧ (c1 = 8 ∧ ms.length ≤ 1000) ∧ (∀ c : CapT ms.length, K (n + 1) (.one (.nslc n 9 ms.length c.cap)) ([(P0, .chan 8 true EM []), (n, .row 9 EM ms c.cap)] ++ delL [P0] h)) else False
    | _ => False)
  | _ => False
theorem allM_mono : MMono allMT := by
  intro ms n h K K' hkk hk
  unfold allMT at hk ⊢
  split at hk
  · rename_i P0
    split at hk
    · rename_i c1 wa0 wn0 wl0 hg0
      try simp only [hg0]
      obtain ⟨hb, y0, z0, h1, h2⟩ := cond_false_elim hk
      rw [hb]
      exact ⟨y0, z0, h1, fun o => hkk _ _ _ (h2 o)⟩
    · exact hk.elim
  · exact hk.elim
theorem allM_ok : MOK Try.prog 36 allMT := by
  refine ⟨?_, allM_mono⟩
  intro ms n hB K hk
  unfold allMT at hk
  split at hk
  · rename_i P0
    split at hk
    · rename_i c1 wa0 wn0 wl0 hg0
      obtain ⟨hb, ms, hl0, h, hk2⟩ := cond_false_elim hk
      clear hk
      have hnd := hb
      refine SCall.seen ?_ (.cons (.refl _) .nil)
      exact (allM_row h).use (fun j => match j with | 0 => P0 | _ => 0) rfl rfl ⟨by show (match get hB P0 with | some b0 => Blk.imp _ _ _ b0 | none => False); rw [hg0]; exact ⟨rfl, rfl, hl0.symm⟩, rfl, trivial⟩ (by exact hnd) (fun j hj => by cases j with
          | zero => exact ⟨_, rfl⟩
          | succ j => omega) (fun o => hk2 o)
    · exact hk.elim
  · exact hk.elim

theorem allB_spec (ms : List BTy) (h : ms.length ≤ 1000) : SMem Try.prog 37 [.one (.ch 0)] 1 [(0, .chan 8 false EBl ms)] (fun c : CapT ms.length => ⟨2, .one (.nslc 1 1 ms.length c.cap), [(0, .chan 8 false EBl []), (1, .row 1 EBl ms c.cap)]⟩) := by
  refine SMem.inm [] SOK.nil [] MSOK.nil tok mixed [] IOK.nil false [(1, ⟨AlT BTy ms, fun p => ⟨2, [(0, .one (.ch 0)), (2, .one (.nslc 1 1 p.i p.cap))], [(0, .chan 8 false EBl (ms.drop p.i)), (1, .row 1 EBl (ms.take p.i) p.cap)]⟩, fun p => ms.length - p.i, fun _ _ => True⟩)] [] Try.call37 Try.func37 rfl (by rfl) ?_
  refine Eq.mp (α := (∃ i0 : AlT BTy ms, (And (And True (And (And ((true : Bool) = true) (And (And ((true : Bool) = true) (And (AlT.i i0 = (0 : Nat)) (AlT.cap i0 = (0 : Nat)))) True)) (And (And (And ((8 : Nat) = (8 : Nat)) (And ((false : Bool) = false) (List.map (Enc.enc EBl) (List.drop (AlT.i i0) ms) = List.map (Enc.enc EBl) ms))) (And ((true : Bool) = true) (And (And ((true : Bool) = true) (And (AlT.cap i0 = (0 : Nat)) (And (List.map (Enc.enc EBl) (List.take (AlT.i i0) ms) = List.map (Enc.enc EBl) []) (∀ x : BTy, (∀ a : x ∈ List.take (AlT.i i0) ms, (∀ s : SV, (∀ a_1 : s ∈ Enc.enc EBl x, ((SV.isPure s : Bool) = (true))))))))) (And ((true : Bool) = true) True)))) ((true : Bool) = true)))) (∀ i : AlT BTy ms, (∀ a : True, (@Bool.rec (fun _ => Prop) (∃ hl : (0 : Nat) < List.length (List.drop (AlT.i i) ms), (∃ l' : List (RK.TL [RK.int IntKind.u8]), (And (List.map (RK.svs._f [RK.int IntKind.u8] ⟨⟨RK.sv._f (RK.int IntKind.u8) PUnit.unit, PUnit.unit⟩, RK.svs._f [] PUnit.unit, PUnit.unit⟩) (Prod.snd (Prod.fst (List.drop (AlT.i i) ms)[(0 : Nat)])) = List.map (RK.svs [RK.int IntKind.u8]) l') (And (AlT.i i = List.length (List.take (AlT.i i) ms)) (And (AlT.cap i = AlT.cap i) (And ((0 : Nat) + (1 : Nat) ≤ (1 : Nat)) (And ((List.length (List.take (AlT.i i) ms) + (1 : Nat)) * (24 : Nat) ≤ (150000000000000 : Nat)) (∀ cap2 : Nat, (∀ a_1 : List.length (List.take (AlT.i i) ms) + (1 : Nat) ≤ cap2, (∃ i' : AlT BTy ms, (And (And (List.length ms - AlT.i i' < List.length ms - AlT.i i) True) (And (And ((true : Bool) = true) (And (And ((true : Bool) = true) (And (AlT.i i' = List.length (List.take (AlT.i i) ms ++ castL (encRec [RK.sl (1 : Nat) [RK.int IntKind.u8]]) EBl (List.take (1 : Nat) (List.drop (0 : Nat) [Enc.of (encRec [RK.sl (1 : Nat) [RK.int IntKind.u8]]) ((Prod.fst (Prod.fst (List.drop (AlT.i i) ms)[(0 : Nat)]), l'), ())])))) (AlT.cap i' = cap2))) True)) (And (And (And ((8 : Nat) = (8 : Nat)) (And ((false : Bool) = false) (List.map (Enc.enc EBl) (List.drop (AlT.i i') ms) = List.map (Enc.enc EBl) (List.drop (1 : Nat) (List.drop (AlT.i i) ms))))) (And ((true : Bool) = true) (And (And ((true : Bool) = true) (And (AlT.cap i' = cap2) (And (List.map (Enc.enc EBl) (List.take (AlT.i i') ms) = List.map (Enc.enc EBl) (List.take (AlT.i i) ms ++ castL (encRec [RK.sl (1 : Nat) [RK.int IntKind.u8]]) EBl (List.take (1 : Nat) (List.drop (0 : Nat) [Enc.of (encRec [RK.sl (1 : Nat) [RK.int IntKind.u8]]) ((Prod.fst (Prod.fst (List.drop (AlT.i i) ms)[(0 : Nat)]), l'), ())])))) (∀ x : BTy, (∀ a_2 : x ∈ List.take (AlT.i i') ms, (∀ s : SV, (∀ a_3 : s ∈ Enc.enc EBl x, ((SV.isPure s : Bool) = (true))))))))) (And ((true : Bool) = true) True)))) ((true : Bool) = true)))))))))))))) (∃ o : CapT (List.length ms), (And (And (And ((true : Bool) = true) (And (List.length ms = AlT.i i) (CapT.cap o = AlT.cap i))) True) (And (And (And ((8 : Nat) = (8 : Nat)) (And ((false : Bool) = false) (List.map (Enc.enc EBl) [] = List.map (Enc.enc EBl) (List.drop (AlT.i i) ms)))) (And ((true : Bool) = true) (And (And ((true : Bool) = true) (And (CapT.cap o = AlT.cap i) (And (List.map (Enc.enc EBl) ms = List.map (Enc.enc EBl) (List.take (AlT.i i) ms)) (∀ x : BTy, (∀ a_1 : x ∈ ms, (∀ s : SV, (∀ a_2 : s ∈ Enc.enc EBl x, ((SV.isPure s : Bool) = (true))))))))) (And ((true : Bool) = true) True)))) ((true : Bool) = true)))) (List.isEmpty (List.drop (AlT.i i) ms)))))))) (by kernel_rfl) ?_
  refine ⟨⟨0, 0, Nat.zero_le _, Nat.le_refl _⟩, ?_, ?_⟩
  ·
    repeat' first | exact fun x _ => Enc.pures EBl x | exact trivial | refine And.intro ?_ ?_ | with_reducible refine bif_dt (by assumption) ?_ | with_reducible refine bif_df (by assumption) ?_ | with_reducible refine bif_dec (fun _ => ?_) (fun _ => ?_) | with_reducible refine bif_not ?_ | with_reducible refine bif_and ?_ | with_reducible refine bif_or ?_ | with_reducible refine bif_t (by assumption) ?_ | with_reducible refine bif_f (by assumption) ?_ | with_reducible refine bif_t (beq_self_eq_true _) ?_ | with_reducible refine bif_b (fun _ => ?_) (fun _ => ?_) | with_reducible refine ⟨_, Eq.refl (List.map _ _), ?_⟩ | (with_reducible refine Exists.intro (by omega) ?_) | rfl | (intro h0; omega) | omega
  rintro ⟨i, cap, hi, hc⟩ -
  dsimp only
  have hlen : (ms.take i).length = i := by rw [List.length_take]; omega
  refine bif_b (fun h1 => ?_) (fun h1 => ?_)
  · have h2 := List.isEmpty_iff.1 h1
    have h3 : i = ms.length := by have := congrArg List.length h2; rw [List.length_drop, List.length_nil] at this; omega
    subst h3
    refine ⟨⟨cap, hc⟩, ?_⟩
    rw [h2, List.take_length]
    repeat' first | exact fun x _ => Enc.pures EBl x | exact trivial | refine And.intro ?_ ?_ | with_reducible refine bif_dt (by assumption) ?_ | with_reducible refine bif_df (by assumption) ?_ | with_reducible refine bif_dec (fun _ => ?_) (fun _ => ?_) | with_reducible refine bif_not ?_ | with_reducible refine bif_and ?_ | with_reducible refine bif_or ?_ | with_reducible refine bif_t (by assumption) ?_ | with_reducible refine bif_f (by assumption) ?_ | with_reducible refine bif_t (beq_self_eq_true _) ?_ | with_reducible refine bif_b (fun _ => ?_) (fun _ => ?_) | with_reducible refine ⟨_, Eq.refl (List.map _ _), ?_⟩ | (with_reducible refine Exists.intro (by omega) ?_) | rfl | (intro h0; omega) | omega
  · have hi' : i < ms.length := by
      refine Classical.byContradiction fun hn => ?_
      rw [List.drop_eq_nil_iff.2 (by omega)] at h1
      cases h1
    have hd : 0 < (ms.drop i).length := by rw [List.length_drop]; omega
    refine ⟨hd, _, rfl, hlen.symm, rfl, by omega, by omega, fun cap2 k2 => ?_⟩
    have e1 := (congrArg (ms.take i ++ ·) (castBl (ms.drop i)[0])).trans (take_next hi' hd)
    have e2 := drop_next ms i
    refine ⟨⟨i + 1, cap2, hi', by omega⟩, ⟨show ms.length - (i + 1) < ms.length - i by omega, trivial⟩, ?_⟩
    repeat' first | exact fun x _ => Enc.pures EBl x | exact congrArg (List.map EBl.enc) e1.symm | exact congrArg (List.map EBl.enc) e2.symm | (rw [List.length_append, hlen]; rfl) | exact trivial | refine And.intro ?_ ?_ | with_reducible refine bif_dt (by assumption) ?_ | with_reducible refine bif_df (by assumption) ?_ | with_reducible refine bif_dec (fun _ => ?_) (fun _ => ?_) | with_reducible refine bif_not ?_ | with_reducible refine bif_and ?_ | with_reducible refine bif_or ?_ | with_reducible refine bif_t (by assumption) ?_ | with_reducible refine bif_f (by assumption) ?_ | with_reducible refine bif_t (beq_self_eq_true _) ?_ | with_reducible refine bif_b (fun _ => ?_) (fun _ => ?_) | with_reducible refine ⟨_, Eq.refl (List.map _ _), ?_⟩ | (with_reducible refine Exists.intro (by omega) ?_) | rfl | (intro h0; omega) | omega
theorem allB_row {ms : List BTy} {c1 : Nat} (h : c1 = 8 ∧ ms.length ≤ 1000) : SMem Try.prog 37 [.one (.ch 0)] 1 [(0, .chan c1 false EBl ms)] (fun c : CapT ms.length => ⟨2, .one (.nslc 1 1 ms.length c.cap), [(0, .chan 8 false EBl []), (1, .row 1 EBl ms c.cap)]⟩) := by
  obtain ⟨rfl, h⟩ := h
  exact allB_spec ms h
def allBT : MT := fun ms n h K => match ms with
  | [.one (.ch P0)] => (match get h P0 with
    | some (.chan c1 false wn0 wl0) => bif noDup [P0] then ∃ ms : List (BTy), wl0.map wn0.enc = ms.map (EBl).enc ∧ (c1 = 8 ∧ ms.length ≤ 1000) ∧ (∀ c : CapT ms.length, K (n + 1) (.one (.nslc n 1 ms.length c.cap)) ([(P0, .chan 8 false EBl []), (n, .row 1 EBl ms c.cap)] ++ delL [P0] h)) else False
    | _ => False)
  | _ => False
theorem allB_mono : MMono allBT := by
  intro ms n h K K' hkk hk
  unfold allBT at hk ⊢
  split at hk
  · rename_i P0
    split at hk
    · rename_i c1 wa0 wn0 wl0 hg0
      try simp only [hg0]
      obtain ⟨hb, y0, z0, h1, h2⟩ := cond_false_elim hk
      rw [hb]
      exact ⟨y0, z0, h1, fun o => hkk _ _ _ (h2 o)⟩
    · exact hk.elim
  · exact hk.elim
theorem allB_ok : MOK Try.prog 37 allBT := by
  refine ⟨?_, allB_mono⟩
  intro ms n hB K hk
  unfold allBT at hk
  split at hk
  · rename_i P0
    split at hk
    · rename_i c1 wa0 wn0 wl0 hg0
      obtain ⟨hb, ms, hl0, h, hk2⟩ := cond_false_elim hk
      clear hk
      have hnd := hb
      refine SCall.seen ?_ (.cons (.refl _) .nil)
      exact (allB_row h).use (fun j => match j with | 0 => P0 | _ => 0) rfl rfl ⟨by show (match get hB P0 with | some b0 => Blk.imp _ _ _ b0 | none => False); rw [hg0]; exact ⟨rfl, rfl, hl0.symm⟩, rfl, trivial⟩ (by exact hnd) (fun j hj => by cases j with
          | zero => exact ⟨_, rfl⟩
          | succ j => omega) (fun o => hk2 o)
    · exact hk.elim
  · exact hk.elim

open Go Go.Sx

def mkK (ms : List MTy) (bs : List BTy) (x1 x2 : Value) : KTy := ((x1, ms), (x2, bs), ())
theorem castK (y : KTy) : castL (encRec BkF) EK (List.take 1 (List.drop 0 [(encRec BkF).of y])) = [y] := castL_self _ _ rfl
theorem kl_mk (ms : List MTy) (bs : List BTy) (x1 x2 : Value) : kl (mkK ms bs x1 x2) = (ms.map ml, bs.map bl) := rfl
theorem height_spec {x : IB} (i : IBT x) : SMem Try.prog 25 [.one (.ptr 0 0)] 4 (inH i.L i.cp i.ms i.bs x.N) (fun _ : Unit => ⟨4, int x.L.length, inH i.L i.cp i.ms i.bs x.N⟩) := by
  refine SMem.inm [] SOK.nil [] MSOK.nil tok mixed [(31, ⟨Try.f31, true, [], []⟩)] (IOK.cons Try.func31 Try.call31 IOK.nil) true [] [] Try.call25 Try.func25 rfl (by rfl) ?_
  refine Eq.mp (α := (∃ o : Unit, (And (And ((↑(List.length (IB.L x)) : Int) = (↑(List.length (IBT.L i)) : Int)) True) (And (And (And (And ((true : Bool) = true) (And (List.length (IBT.L i) = List.length (IBT.L i)) (IBT.cp i = IBT.cp i))) (And ((true : Bool) = true) (And ((true : Bool) = true) (And (IB.N x = IB.N x) True)))) (And ((true : Bool) = true) (And (And ((8 : Nat) = (8 : Nat)) (And ((true : Bool) = true) (List.map (Enc.enc EM) (IBT.ms i) = List.map (Enc.enc EM) (IBT.ms i)))) (And ((true : Bool) = true) (And (And ((8 : Nat) = (8 : Nat)) (And ((false : Bool) = false) (List.map (Enc.enc EBl) (IBT.bs i) = List.map (Enc.enc EBl) (IBT.bs i)))) (And ((true : Bool) = true) (And (And ((true : Bool) = true) (And (IBT.cp i = IBT.cp i) (And (List.map (Enc.enc EK) (IBT.L i) = List.map (Enc.enc EK) (IBT.L i)) (∀ x_1 : KTy, (∀ a : x_1 ∈ IBT.L i, (∀ s : SV, (∀ a_1 : s ∈ Enc.enc EK x_1, ((SV.isPure s : Bool) = (true))))))))) (And ((true : Bool) = true) True)))))))) ((true : Bool) = true))))) (by kernel_rfl) ?_
  refine ⟨(), ?_⟩
  rw [← i.hL, List.length_map]
  repeat' first | exact fun x _ => Enc.pures EK x | exact trivial | refine And.intro ?_ ?_ | with_reducible refine bif_dt (by assumption) ?_ | with_reducible refine bif_df (by assumption) ?_ | with_reducible refine bif_dec (fun _ => ?_) (fun _ => ?_) | with_reducible refine bif_not ?_ | with_reducible refine bif_and ?_ | with_reducible refine bif_or ?_ | with_reducible refine bif_t (by assumption) ?_ | with_reducible refine bif_f (by assumption) ?_ | with_reducible refine bif_t (beq_self_eq_true _) ?_ | with_reducible refine bif_b (fun _ => ?_) (fun _ => ?_) | with_reducible refine ⟨_, Eq.refl (List.map _ _), ?_⟩ | (with_reducible refine Exists.intro (by omega) ?_) | rfl | (intro h0; omega) | omega
theorem queue_spec {x : IB} (i : IBT x) : SMem Try.prog 26 [.one (.ptr 0 0)] 4 (inH i.L i.cp i.ms i.bs x.N) (fun _ : Unit => ⟨4, u64 x.N, inH i.L i.cp i.ms i.bs x.N⟩) := by
  refine SMem.inm [] SOK.nil [] MSOK.nil tok mixed [(31, ⟨Try.f31, true, [], []⟩)] (IOK.cons Try.func31 Try.call31 IOK.nil) true [] [] Try.call26 Try.func26 rfl (by rfl) ?_
  refine Eq.mp (α := (∃ o : Unit, (And (And (IB.N x = IB.N x) True) (And (And (And (And ((true : Bool) = true) (And (List.length (IBT.L i) = List.length (IBT.L i)) (IBT.cp i = IBT.cp i))) (And ((true : Bool) = true) (And ((true : Bool) = true) (And (IB.N x = IB.N x) True)))) (And ((true : Bool) = true) (And (And ((8 : Nat) = (8 : Nat)) (And ((true : Bool) = true) (List.map (Enc.enc EM) (IBT.ms i) = List.map (Enc.enc EM) (IBT.ms i)))) (And ((true : Bool) = true) (And (And ((8 : Nat) = (8 : Nat)) (And ((false : Bool) = false) (List.map (Enc.enc EBl) (IBT.bs i) = List.map (Enc.enc EBl) (IBT.bs i)))) (And ((true : Bool) = true) (And (And ((true : Bool) = true) (And (IBT.cp i = IBT.cp i) (And (List.map (Enc.enc EK) (IBT.L i) = List.map (Enc.enc EK) (IBT.L i)) (∀ x_1 : KTy, (∀ a : x_1 ∈ IBT.L i, (∀ s : SV, (∀ a_1 : s ∈ Enc.enc EK x_1, ((SV.isPure s : Bool) = (true))))))))) (And ((true : Bool) = true) True)))))))) ((true : Bool) = true))))) (by kernel_rfl) ?_
  refine ⟨(), ?_⟩
  repeat' first | exact fun x _ => Enc.pures EK x | exact trivial | refine And.intro ?_ ?_ | with_reducible refine bif_dt (by assumption) ?_ | with_reducible refine bif_df (by assumption) ?_ | with_reducible refine bif_dec (fun _ => ?_) (fun _ => ?_) | with_reducible refine bif_not ?_ | with_reducible refine bif_and ?_ | with_reducible refine bif_or ?_ | with_reducible refine bif_t (by assumption) ?_ | with_reducible refine bif_f (by assumption) ?_ | with_reducible refine bif_t (beq_self_eq_true _) ?_ | with_reducible refine bif_b (fun _ => ?_) (fun _ => ?_) | with_reducible refine ⟨_, Eq.refl (List.map _ _), ?_⟩ | (with_reducible refine Exists.intro (by omega) ?_) | rfl | (intro h0; omega) | omega
abbrev inR (L : List KTy) (cp : Nat) (ms : List MTy) (bs : List BTy) (q : Int) : Bs :=
  [(0, .cells [.nslc 4 2 L.length cp, .ch 1, .ch 2, .v (.int .u64 q)]), (1, .chan 8 true EM ms), (2, .chan 8 false EBl bs), (4, .row 2 EK L cp)]
def IB.close (x : IB) : IB × Int × Int :=
  if 4096 ≤ x.L.length then (x, 0, 6) else ({ x with L := x.L ++ [(x.D, x.B)], D := [], B := [] }, ((x.L.length + 1 : Nat) : Int), 0)
theorem close_spec {x : IB} (i : IBT x) (h1 : x.D.length ≤ 8) (h2 : x.B.length ≤ 8) : SMem Try.prog 22 [.one (.ptr 0 0)] 4 (inH i.L i.cp i.ms i.bs x.N) (fun o : IBT x.close.1 => ⟨5, .tup [int x.close.2.1, int x.close.2.2], inR o.L o.cp o.ms o.bs x.close.1.N⟩) := by
  refine SMem.inm [] SOK.nil [(36, allMT), (37, allBT)] (MSOK.cons allM_ok (MSOK.cons allB_ok MSOK.nil)) tok mixed [(31, ⟨Try.f31, true, [], []⟩)] (IOK.cons Try.func31 Try.call31 IOK.nil) true [] [] Try.call22 Try.func22 rfl (by rfl) ?_
  refine Eq.mp (α := (@Bool.rec (fun _ => Prop) (And (And (∃ ms : List MTy, (And (List.map (Enc.enc EM) (IBT.ms i) = List.map (Enc.enc EM) ms) (And (And ((8 : Nat) = (8 : Nat)) (List.length ms ≤ (1000 : Nat))) (∀ c : CapT (List.length ms), (And (∃ ms_1 : List BTy, (And (List.map (Enc.enc EBl) (IBT.bs i) = List.map (Enc.enc EBl) ms_1) (And (And ((8 : Nat) = (8 : Nat)) (List.length ms_1 ≤ (1000 : Nat))) (∀ c_1 : CapT (List.length ms_1), (And (And (List.length ms ≤ List.length ms) (And (List.length ms ≤ CapT.cap c) (And (CapT.cap c = CapT.cap c) (And (∀ y : MTy, ((true : Bool) = true)) (∀ x_1 : Value, (And (List.length ms_1 ≤ List.length ms_1) (And (List.length ms_1 ≤ CapT.cap c_1) (And (CapT.cap c_1 = CapT.cap c_1) (And (∀ y : BTy, ((true : Bool) = true)) (∀ x_2 : Value, (∃ l' : List (RK.TL [RK.int IntKind.u64, RK.int IntKind.u64, RK.int IntKind.u64, RK.ints IntKind.u64 (4 : Nat), RK.int IntKind.u64, RK.sl (1 : Nat) [RK.int IntKind.u8]]), (And (List.map (Enc.enc EM) (List.take (List.length ms) ms) = List.map (RK.svs [RK.int IntKind.u64, RK.int IntKind.u64, RK.int IntKind.u64, RK.ints IntKind.u64 (4 : Nat), RK.int IntKind.u64, RK.sl (1 : Nat) [RK.int IntKind.u8]]) l') (∃ l'_1 : List (RK.TL [RK.sl (1 : Nat) [RK.int IntKind.u8]]), (And (List.map (Enc.enc EBl) (List.take (List.length ms_1) ms_1) = List.map (RK.svs [RK.sl (1 : Nat) [RK.int IntKind.u8]]) l'_1) (And (And (List.length (IBT.L i) = List.length (IBT.L i)) (And (IBT.cp i = IBT.cp i) (And ((0 : Nat) + (1 : Nat) ≤ (1 : Nat)) (And ((List.length (IBT.L i) + (1 : Nat)) * (48 : Nat) ≤ (150000000000000 : Nat)) (∀ cap2 : Nat, (∀ a : List.length (IBT.L i) + (1 : Nat) ≤ cap2, (And (∃ o : IBT (Prod.fst (IB.close x)), (And (And (And (Prod.fst (Prod.snd (IB.close x)) = (↑(List.length (IBT.L i ++ castL (encRec [RK.sl (9 : Nat) [RK.int IntKind.u64, RK.int IntKind.u64, RK.int IntKind.u64, RK.ints IntKind.u64 (4 : Nat), RK.int IntKind.u64, RK.sl (1 : Nat) [RK.int IntKind.u8]], RK.sl (1 : Nat) [RK.sl (1 : Nat) [RK.int IntKind.u8]]]) EK (List.take (1 : Nat) (List.drop (0 : Nat) [Enc.of (encRec [RK.sl (9 : Nat) [RK.int IntKind.u64, RK.int IntKind.u64, RK.int IntKind.u64, RK.ints IntKind.u64 (4 : Nat), RK.int IntKind.u64, RK.sl (1 : Nat) [RK.int IntKind.u8]], RK.sl (1 : Nat) [RK.sl (1 : Nat) [RK.int IntKind.u8]]]) ((x_1, l'), (x_2, l'_1), ())])))) : Int)) (And (Prod.snd (Prod.snd (IB.close x)) = (0 : Int)) True)) True) (And (And (And (And ((true : Bool) = true) (And (List.length (IBT.L o) = List.length (IBT.L i ++ castL (encRec [RK.sl (9 : Nat) [RK.int IntKind.u64, RK.int IntKind.u64, RK.int IntKind.u64, RK.ints IntKind.u64 (4 : Nat), RK.int IntKind.u64, RK.sl (1 : Nat) [RK.int IntKind.u8]], RK.sl (1 : Nat) [RK.sl (1 : Nat) [RK.int IntKind.u8]]]) EK (List.take (1 : Nat) (List.drop (0 : Nat) [Enc.of (encRec [RK.sl (9 : Nat) [RK.int IntKind.u64, RK.int IntKind.u64, RK.int IntKind.u64, RK.ints IntKind.u64 (4 : Nat), RK.int IntKind.u64, RK.sl (1 : Nat) [RK.int IntKind.u8]], RK.sl (1 : Nat) [RK.sl (1 : Nat) [RK.int IntKind.u8]]]) ((x_1, l'), (x_2, l'_1), ())])))) (IBT.cp o = cap2))) (And ((true : Bool) = true) (And ((true : Bool) = true) (And (IB.N (Prod.fst (IB.close x)) = IB.N x) True)))) (And ((true : Bool) = true) (And (And ((8 : Nat) = (8 : Nat)) (And ((true : Bool) = true) (List.map (Enc.enc EM) (IBT.ms o) = List.map (Enc.enc EM) []))) (And ((true : Bool) = true) (And (And ((8 : Nat) = (8 : Nat)) (And ((false : Bool) = false) (List.map (Enc.enc EBl) (IBT.bs o) = List.map (Enc.enc EBl) []))) (And ((true : Bool) = true) (And (And ((true : Bool) = true) (And (IBT.cp o = cap2) (And (List.map (Enc.enc EK) (IBT.L o) = List.map (Enc.enc EK) (IBT.L i ++ castL (encRec [RK.sl (9 : Nat) [RK.int IntKind.u64, RK.int IntKind.u64, RK.int IntKind.u64, RK.ints IntKind.u64 (4 : Nat), RK.int IntKind.u64, RK.sl (1 : Nat) [RK.int IntKind.u8]], RK.sl (1 : Nat) [RK.sl (1 : Nat) [RK.int IntKind.u8]]]) EK (List.take (1 : Nat) (List.drop (0 : Nat) [Enc.of (encRec [RK.sl (9 : Nat) [RK.int IntKind.u64, RK.int IntKind.u64, RK.int IntKind.u64, RK.ints IntKind.u64 (4 : Nat), RK.int IntKind.u64, RK.sl (1 : Nat) [RK.int IntKind.u8]], RK.sl (1 : Nat) [RK.sl (1 : Nat) [RK.int IntKind.u8]]]) ((x_1, l'), (x_2, l'_1), ())])))) (∀ x_3 : KTy, (∀ a_1 : x_3 ∈ IBT.L o, (∀ s : SV, (∀ a_2 : s ∈ Enc.enc EK x_3, ((SV.isPure s : Bool) = (true))))))))) (And ((true : Bool) = true) True)))))))) ((true : Bool) = true)))) True))))))) True))))))))))))))) True))))) True))))) (And (And (∃ ms : List MTy, (And (List.map (Enc.enc EM) (IBT.ms i) = List.map (Enc.enc EM) ms) (And (And ((8 : Nat) = (8 : Nat)) (List.length ms ≤ (1000 : Nat))) (∀ c : CapT (List.length ms), (And (∃ ms_1 : List BTy, (And (List.map (Enc.enc EBl) (IBT.bs i) = List.map (Enc.enc EBl) ms_1) (And (And ((8 : Nat) = (8 : Nat)) (List.length ms_1 ≤ (1000 : Nat))) (∀ c_1 : CapT (List.length ms_1), (And (And (List.length ms ≤ List.length ms) (And (List.length ms ≤ CapT.cap c) (And (CapT.cap c = CapT.cap c) (And (∀ y : MTy, ((true : Bool) = true)) (∀ x_1 : Value, (And (List.length ms_1 ≤ List.length ms_1) (And (List.length ms_1 ≤ CapT.cap c_1) (And (CapT.cap c_1 = CapT.cap c_1) (And (∀ y : BTy, ((true : Bool) = true)) (∀ x_2 : Value, (∃ l' : List (RK.TL [RK.int IntKind.u64, RK.int IntKind.u64, RK.int IntKind.u64, RK.ints IntKind.u64 (4 : Nat), RK.int IntKind.u64, RK.sl (1 : Nat) [RK.int IntKind.u8]]), (And (List.map (Enc.enc EM) (List.take (List.length ms) ms) = List.map (RK.svs [RK.int IntKind.u64, RK.int IntKind.u64, RK.int IntKind.u64, RK.ints IntKind.u64 (4 : Nat), RK.int IntKind.u64, RK.sl (1 : Nat) [RK.int IntKind.u8]]) l') (∃ l'_1 : List (RK.TL [RK.sl (1 : Nat) [RK.int IntKind.u8]]), (And (List.map (Enc.enc EBl) (List.take (List.length ms_1) ms_1) = List.map (RK.svs [RK.sl (1 : Nat) [RK.int IntKind.u8]]) l'_1) (And (And (List.length (IBT.L i) = List.length (IBT.L i)) (And (IBT.cp i = IBT.cp i) (And ((0 : Nat) + (1 : Nat) ≤ (1 : Nat)) (And ((List.length (IBT.L i) + (1 : Nat)) * (48 : Nat) ≤ (150000000000000 : Nat)) (∀ cap2 : Nat, (∀ a : List.length (IBT.L i) + (1 : Nat) ≤ cap2, (And (∃ o : IBT (Prod.fst (IB.close x)), (And (And (And (Prod.fst (Prod.snd (IB.close x)) = (↑(List.length (IBT.L i ++ castL (encRec [RK.sl (9 : Nat) [RK.int IntKind.u64, RK.int IntKind.u64, RK.int IntKind.u64, RK.ints IntKind.u64 (4 : Nat), RK.int IntKind.u64, RK.sl (1 : Nat) [RK.int IntKind.u8]], RK.sl (1 : Nat) [RK.sl (1 : Nat) [RK.int IntKind.u8]]]) EK (List.take (1 : Nat) (List.drop (0 : Nat) [Enc.of (encRec [RK.sl (9 : Nat) [RK.int IntKind.u64, RK.int IntKind.u64, RK.int IntKind.u64, RK.ints IntKind.u64 (4 : Nat), RK.int IntKind.u64, RK.sl (1 : Nat) [RK.int IntKind.u8]], RK.sl (1 : Nat) [RK.sl (1 : Nat) [RK.int IntKind.u8]]]) ((x_1, l'), (x_2, l'_1), ())])))) : Int)) (And (Prod.snd (Prod.snd (IB.close x)) = (0 : Int)) True)) True) (And (And (And (And ((true : Bool) = true) (And (List.length (IBT.L o) = List.length (IBT.L i ++ castL (encRec [RK.sl (9 : Nat) [RK.int IntKind.u64, RK.int IntKind.u64, RK.int IntKind.u64, RK.ints IntKind.u64 (4 : Nat), RK.int IntKind.u64, RK.sl (1 : Nat) [RK.int IntKind.u8]], RK.sl (1 : Nat) [RK.sl (1 : Nat) [RK.int IntKind.u8]]]) EK (List.take (1 : Nat) (List.drop (0 : Nat) [Enc.of (encRec [RK.sl (9 : Nat) [RK.int IntKind.u64, RK.int IntKind.u64, RK.int IntKind.u64, RK.ints IntKind.u64 (4 : Nat), RK.int IntKind.u64, RK.sl (1 : Nat) [RK.int IntKind.u8]], RK.sl (1 : Nat) [RK.sl (1 : Nat) [RK.int IntKind.u8]]]) ((x_1, l'), (x_2, l'_1), ())])))) (IBT.cp o = cap2))) (And ((true : Bool) = true) (And ((true : Bool) = true) (And (IB.N (Prod.fst (IB.close x)) = IB.N x) True)))) (And ((true : Bool) = true) (And (And ((8 : Nat) = (8 : Nat)) (And ((true : Bool) = true) (List.map (Enc.enc EM) (IBT.ms o) = List.map (Enc.enc EM) []))) (And ((true : Bool) = true) (And (And ((8 : Nat) = (8 : Nat)) (And ((false : Bool) = false) (List.map (Enc.enc EBl) (IBT.bs o) = List.map (Enc.enc EBl) []))) (And ((true : Bool) = true) (And (And ((true : Bool) = true) (And (IBT.cp o = cap2) (And (List.map (Enc.enc EK) (IBT.L o) = List.map (Enc.enc EK) (IBT.L i ++ castL (encRec [RK.sl (9 : Nat) [RK.int IntKind.u64, RK.int IntKind.u64, RK.int IntKind.u64, RK.ints IntKind.u64 (4 : Nat), RK.int IntKind.u64, RK.sl (1 : Nat) [RK.int IntKind.u8]], RK.sl (1 : Nat) [RK.sl (1 : Nat) [RK.int IntKind.u8]]]) EK (List.take (1 : Nat) (List.drop (0 : Nat) [Enc.of (encRec [RK.sl (9 : Nat) [RK.int IntKind.u64, RK.int IntKind.u64, RK.int IntKind.u64, RK.ints IntKind.u64 (4 : Nat), RK.int IntKind.u64, RK.sl (1 : Nat) [RK.int IntKind.u8]], RK.sl (1 : Nat) [RK.sl (1 : Nat) [RK.int IntKind.u8]]]) ((x_1, l'), (x_2, l'_1), ())])))) (∀ x_3 : KTy, (∀ a_1 : x_3 ∈ IBT.L o, (∀ s : SV, (∀ a_2 : s ∈ Enc.enc EK x_3, ((SV.isPure s : Bool) = (true))))))))) (And ((true : Bool) = true) True)))))))) ((true : Bool) = true)))) True))))))) True))))))))))))))) True))))) True))))) True) True)) (And (∃ ms : List MTy, (And (List.map (Enc.enc EM) (IBT.ms i) = List.map (Enc.enc EM) ms) (And (And ((8 : Nat) = (8 : Nat)) (List.length ms ≤ (1000 : Nat))) (∀ c : CapT (List.length ms), (And (And (∃ ms_1 : List BTy, (And (List.map (Enc.enc EBl) (IBT.bs i) = List.map (Enc.enc EBl) ms_1) (And (And ((8 : Nat) = (8 : Nat)) (List.length ms_1 ≤ (1000 : Nat))) (∀ c_1 : CapT (List.length ms_1), (And (And (List.length ms ≤ List.length ms) (And (List.length ms ≤ CapT.cap c) (And (CapT.cap c = CapT.cap c) (And (∀ y : MTy, ((true : Bool) = true)) (∀ x_1 : Value, (And (List.length ms_1 ≤ List.length ms_1) (And (List.length ms_1 ≤ CapT.cap c_1) (And (CapT.cap c_1 = CapT.cap c_1) (And (∀ y : BTy, ((true : Bool) = true)) (∀ x_2 : Value, (∃ l' : List (RK.TL [RK.int IntKind.u64, RK.int IntKind.u64, RK.int IntKind.u64, RK.ints IntKind.u64 (4 : Nat), RK.int IntKind.u64, RK.sl (1 : Nat) [RK.int IntKind.u8]]), (And (List.map (Enc.enc EM) (List.take (List.length ms) ms) = List.map (RK.svs [RK.int IntKind.u64, RK.int IntKind.u64, RK.int IntKind.u64, RK.ints IntKind.u64 (4 : Nat), RK.int IntKind.u64, RK.sl (1 : Nat) [RK.int IntKind.u8]]) l') (∃ l'_1 : List (RK.TL [RK.sl (1 : Nat) [RK.int IntKind.u8]]), (And (List.map (Enc.enc EBl) (List.take (List.length ms_1) ms_1) = List.map (RK.svs [RK.sl (1 : Nat) [RK.int IntKind.u8]]) l'_1) (And (And (List.length (IBT.L i) = List.length (IBT.L i)) (And (IBT.cp i = IBT.cp i) (And ((0 : Nat) + (1 : Nat) ≤ (1 : Nat)) (And ((List.length (IBT.L i) + (1 : Nat)) * (48 : Nat) ≤ (150000000000000 : Nat)) (∀ cap2 : Nat, (∀ a : List.length (IBT.L i) + (1 : Nat) ≤ cap2, (And (∃ o : IBT (Prod.fst (IB.close x)), (And (And (And (Prod.fst (Prod.snd (IB.close x)) = (↑(List.length (IBT.L i ++ castL (encRec [RK.sl (9 : Nat) [RK.int IntKind.u64, RK.int IntKind.u64, RK.int IntKind.u64, RK.ints IntKind.u64 (4 : Nat), RK.int IntKind.u64, RK.sl (1 : Nat) [RK.int IntKind.u8]], RK.sl (1 : Nat) [RK.sl (1 : Nat) [RK.int IntKind.u8]]]) EK (List.take (1 : Nat) (List.drop (0 : Nat) [Enc.of (encRec [RK.sl (9 : Nat) [RK.int IntKind.u64, RK.int IntKind.u64, RK.int IntKind.u64, RK.ints IntKind.u64 (4 : Nat), RK.int IntKind.u64, RK.sl (1 : Nat) [RK.int IntKind.u8]], RK.sl (1 : Nat) [RK.sl (1 : Nat) [RK.int IntKind.u8]]]) ((x_1, l'), (x_2, l'_1), ())])))) : Int)) (And (Prod.snd (Prod.snd (IB.close x)) = (0 : Int)) True)) True) (And (And (And (And ((true : Bool) = true) (And (List.length (IBT.L o) = List.length (IBT.L i ++ castL (encRec [RK.sl (9 : Nat) [RK.int IntKind.u64, RK.int IntKind.u64, RK.int IntKind.u64, RK.ints IntKind.u64 (4 : Nat), RK.int IntKind.u64, RK.sl (1 : Nat) [RK.int IntKind.u8]], RK.sl (1 : Nat) [RK.sl (1 : Nat) [RK.int IntKind.u8]]]) EK (List.take (1 : Nat) (List.drop (0 : Nat) [Enc.of (encRec [RK.sl (9 : Nat) [RK.int IntKind.u64, RK.int IntKind.u64, RK.int IntKind.u64, RK.ints IntKind.u64 (4 : Nat), RK.int IntKind.u64, RK.sl (1 : Nat) [RK.int IntKind.u8]], RK.sl (1 : Nat) [RK.sl (1 : Nat) [RK.int IntKind.u8]]]) ((x_1, l'), (x_2, l'_1), ())])))) (IBT.cp o = cap2))) (And ((true : Bool) = true) (And ((true : Bool) = true) (And (IB.N (Prod.fst (IB.close x)) = IB.N x) True)))) (And ((true : Bool) = true) (And (And ((8 : Nat) = (8 : Nat)) (And ((true : Bool) = true) (List.map (Enc.enc EM) (IBT.ms o) = List.map (Enc.enc EM) []))) (And ((true : Bool) = true) (And (And ((8 : Nat) = (8 : Nat)) (And ((false : Bool) = false) (List.map (Enc.enc EBl) (IBT.bs o) = List.map (Enc.enc EBl) []))) (And ((true : Bool) = true) (And (And ((true : Bool) = true) (And (IBT.cp o = cap2) (And (List.map (Enc.enc EK) (IBT.L o) = List.map (Enc.enc EK) (IBT.L i ++ castL (encRec [RK.sl (9 : Nat) [RK.int IntKind.u64, RK.int IntKind.u64, RK.int IntKind.u64, RK.ints IntKind.u64 (4 : Nat), RK.int IntKind.u64, RK.sl (1 : Nat) [RK.int IntKind.u8]], RK.sl (1 : Nat) [RK.sl (1 : Nat) [RK.int IntKind.u8]]]) EK (List.take (1 : Nat) (List.drop (0 : Nat) [Enc.of (encRec [RK.sl (9 : Nat) [RK.int IntKind.u64, RK.int IntKind.u64, RK.int IntKind.u64, RK.ints IntKind.u64 (4 : Nat), RK.int IntKind.u64, RK.sl (1 : Nat) [RK.int IntKind.u8]], RK.sl (1 : Nat) [RK.sl (1 : Nat) [RK.int IntKind.u8]]]) ((x_1, l'), (x_2, l'_1), ())])))) (∀ x_3 : KTy, (∀ a_1 : x_3 ∈ IBT.L o, (∀ s : SV, (∀ a_2 : s ∈ Enc.enc EK x_3, ((SV.isPure s : Bool) = (true))))))))) (And ((true : Bool) = true) True)))))))) ((true : Bool) = true)))) True))))))) True))))))))))))))) True))))) True) (And (∃ ms_1 : List BTy, (And (List.map (Enc.enc EBl) (IBT.bs i) = List.map (Enc.enc EBl) ms_1) (And (And ((8 : Nat) = (8 : Nat)) (List.length ms_1 ≤ (1000 : Nat))) (∀ c_1 : CapT (List.length ms_1), (And (And (And (List.length ms ≤ List.length ms) (And (List.length ms ≤ CapT.cap c) (And (CapT.cap c = CapT.cap c) (And (∀ y : MTy, ((true : Bool) = true)) (∀ x_1 : Value, (And (List.length ms_1 ≤ List.length ms_1) (And (List.length ms_1 ≤ CapT.cap c_1) (And (CapT.cap c_1 = CapT.cap c_1) (And (∀ y : BTy, ((true : Bool) = true)) (∀ x_2 : Value, (∃ l' : List (RK.TL [RK.int IntKind.u64, RK.int IntKind.u64, RK.int IntKind.u64, RK.ints IntKind.u64 (4 : Nat), RK.int IntKind.u64, RK.sl (1 : Nat) [RK.int IntKind.u8]]), (And (List.map (Enc.enc EM) (List.take (List.length ms) ms) = List.map (RK.svs [RK.int IntKind.u64, RK.int IntKind.u64, RK.int IntKind.u64, RK.ints IntKind.u64 (4 : Nat), RK.int IntKind.u64, RK.sl (1 : Nat) [RK.int IntKind.u8]]) l') (∃ l'_1 : List (RK.TL [RK.sl (1 : Nat) [RK.int IntKind.u8]]), (And (List.map (Enc.enc EBl) (List.take (List.length ms_1) ms_1) = List.map (RK.svs [RK.sl (1 : Nat) [RK.int IntKind.u8]]) l'_1) (And (And (List.length (IBT.L i) = List.length (IBT.L i)) (And (IBT.cp i = IBT.cp i) (And ((0 : Nat) + (1 : Nat) ≤ (1 : Nat)) (And ((List.length (IBT.L i) + (1 : Nat)) * (48 : Nat) ≤ (150000000000000 : Nat)) (∀ cap2 : Nat, (∀ a : List.length (IBT.L i) + (1 : Nat) ≤ cap2, (And (∃ o : IBT (Prod.fst (IB.close x)), (And (And (And (Prod.fst (Prod.snd (IB.close x)) = (↑(List.length (IBT.L i ++ castL (encRec [RK.sl (9 : Nat) [RK.int IntKind.u64, RK.int IntKind.u64, RK.int IntKind.u64, RK.ints IntKind.u64 (4 : Nat), RK.int IntKind.u64, RK.sl (1 : Nat) [RK.int IntKind.u8]], RK.sl (1 : Nat) [RK.sl (1 : Nat) [RK.int IntKind.u8]]]) EK (List.take (1 : Nat) (List.drop (0 : Nat) [Enc.of (encRec [RK.sl (9 : Nat) [RK.int IntKind.u64, RK.int IntKind.u64, RK.int IntKind.u64, RK.ints IntKind.u64 (4 : Nat), RK.int IntKind.u64, RK.sl (1 : Nat) [RK.int IntKind.u8]], RK.sl (1 : Nat) [RK.sl (1 : Nat) [RK.int IntKind.u8]]]) ((x_1, l'), (x_2, l'_1), ())])))) : Int)) (And (Prod.snd (Prod.snd (IB.close x)) = (0 : Int)) True)) True) (And (And (And (And ((true : Bool) = true) (And (List.length (IBT.L o) = List.length (IBT.L i ++ castL (encRec [RK.sl (9 : Nat) [RK.int IntKind.u64, RK.int IntKind.u64, RK.int IntKind.u64, RK.ints IntKind.u64 (4 : Nat), RK.int IntKind.u64, RK.sl (1 : Nat) [RK.int IntKind.u8]], RK.sl (1 : Nat) [RK.sl (1 : Nat) [RK.int IntKind.u8]]]) EK (List.take (1 : Nat) (List.drop (0 : Nat) [Enc.of (encRec [RK.sl (9 : Nat) [RK.int IntKind.u64, RK.int IntKind.u64, RK.int IntKind.u64, RK.ints IntKind.u64 (4 : Nat), RK.int IntKind.u64, RK.sl (1 : Nat) [RK.int IntKind.u8]], RK.sl (1 : Nat) [RK.sl (1 : Nat) [RK.int IntKind.u8]]]) ((x_1, l'), (x_2, l'_1), ())])))) (IBT.cp o = cap2))) (And ((true : Bool) = true) (And ((true : Bool) = true) (And (IB.N (Prod.fst (IB.close x)) = IB.N x) True)))) (And ((true : Bool) = true) (And (And ((8 : Nat) = (8 : Nat)) (And ((true : Bool) = true) (List.map (Enc.enc EM) (IBT.ms o) = List.map (Enc.enc EM) []))) (And ((true : Bool) = true) (And (And ((8 : Nat) = (8 : Nat)) (And ((false : Bool) = false) (List.map (Enc.enc EBl) (IBT.bs o) = List.map (Enc.enc EBl) []))) (And ((true : Bool) = true) (And (And ((true : Bool) = true) (And (IBT.cp o = cap2) (And (List.map (Enc.enc EK) (IBT.L o) = List.map (Enc.enc EK) (IBT.L i ++ castL (encRec [RK.sl (9 : Nat) [RK.int IntKind.u64, RK.int IntKind.u64, RK.int IntKind.u64, RK.ints IntKind.u64 (4 : Nat), RK.int IntKind.u64, RK.sl (1 : Nat) [RK.int IntKind.u8]], RK.sl (1 : Nat) [RK.sl (1 : Nat) [RK.int IntKind.u8]]]) EK (List.take (1 : Nat) (List.drop (0 : Nat) [Enc.of (encRec [RK.sl (9 : Nat) [RK.int IntKind.u64, RK.int IntKind.u64, RK.int IntKind.u64, RK.ints IntKind.u64 (4 : Nat), RK.int IntKind.u64, RK.sl (1 : Nat) [RK.int IntKind.u8]], RK.sl (1 : Nat) [RK.sl (1 : Nat) [RK.int IntKind.u8]]]) ((x_1, l'), (x_2, l'_1), ())])))) (∀ x_3 : KTy, (∀ a_1 : x_3 ∈ IBT.L o, (∀ s : SV, (∀ a_2 : s ∈ Enc.enc EK x_3, ((SV.isPure s : Bool) = (true))))))))) (And ((true : Bool) = true) True)))))))) ((true : Bool) = true)))) True))))))) True))))))))))))))) True) (And (And (List.length ms ≤ List.length ms) (And (List.length ms ≤ CapT.cap c) (And (CapT.cap c = CapT.cap c) (And (∀ y : MTy, ((true : Bool) = true)) (∀ x_1 : Value, (And (List.length ms_1 ≤ List.length ms_1) (And (List.length ms_1 ≤ CapT.cap c_1) (And (CapT.cap c_1 = CapT.cap c_1) (And (∀ y : BTy, ((true : Bool) = true)) (∀ x_2 : Value, (∃ l' : List (RK.TL [RK.int IntKind.u64, RK.int IntKind.u64, RK.int IntKind.u64, RK.ints IntKind.u64 (4 : Nat), RK.int IntKind.u64, RK.sl (1 : Nat) [RK.int IntKind.u8]]), (And (List.map (Enc.enc EM) (List.take (List.length ms) ms) = List.map (RK.svs [RK.int IntKind.u64, RK.int IntKind.u64, RK.int IntKind.u64, RK.ints IntKind.u64 (4 : Nat), RK.int IntKind.u64, RK.sl (1 : Nat) [RK.int IntKind.u8]]) l') (∃ l'_1 : List (RK.TL [RK.sl (1 : Nat) [RK.int IntKind.u8]]), (And (List.map (Enc.enc EBl) (List.take (List.length ms_1) ms_1) = List.map (RK.svs [RK.sl (1 : Nat) [RK.int IntKind.u8]]) l'_1) (And (And (List.length (IBT.L i) = List.length (IBT.L i)) (And (IBT.cp i = IBT.cp i) (And ((0 : Nat) + (1 : Nat) ≤ (1 : Nat)) (And ((List.length (IBT.L i) + (1 : Nat)) * (48 : Nat) ≤ (150000000000000 : Nat)) (∀ cap2 : Nat, (∀ a : List.length (IBT.L i) + (1 : Nat) ≤ cap2, (And (∃ o : IBT (Prod.fst (IB.close x)), (And (And (And (Prod.fst (Prod.snd (IB.close x)) = (↑(List.length (IBT.L i ++ castL (encRec [RK.sl (9 : Nat) [RK.int IntKind.u64, RK.int IntKind.u64, RK.int IntKind.u64, RK.ints IntKind.u64 (4 : Nat), RK.int IntKind.u64, RK.sl (1 : Nat) [RK.int IntKind.u8]], RK.sl (1 : Nat) [RK.sl (1 : Nat) [RK.int IntKind.u8]]]) EK (List.take (1 : Nat) (List.drop (0 : Nat) [Enc.of (encRec [RK.sl (9 : Nat) [RK.int IntKind.u64, RK.int IntKind.u64, RK.int IntKind.u64, RK.ints IntKind.u64 (4 : Nat), RK.int IntKind.u64, RK.sl (1 : Nat) [RK.int IntKind.u8]], RK.sl (1 : Nat) [RK.sl (1 : Nat) [RK.int IntKind.u8]]]) ((x_1, l'), (x_2, l'_1), ())])))) : Int)) (And (Prod.snd (Prod.snd (IB.close x)) = (0 : Int)) True)) True) (And (And (And (And ((true : Bool) = true) (And (List.length (IBT.L o) = List.length (IBT.L i ++ castL (encRec [RK.sl (9 : Nat) [RK.int IntKind.u64, RK.int IntKind.u64, RK.int IntKind.u64, RK.ints IntKind.u64 (4 : Nat), RK.int IntKind.u64, RK.sl (1 : Nat) [RK.int IntKind.u8]], RK.sl (1 : Nat) [RK.sl (1 : Nat) [RK.int IntKind.u8]]]) EK (List.take (1 : Nat) (List.drop (0 : Nat) [Enc.of (encRec [RK.sl (9 : Nat) [RK.int IntKind.u64, RK.int IntKind.u64, RK.int IntKind.u64, RK.ints IntKind.u64 (4 : Nat), RK.int IntKind.u64, RK.sl (1 : Nat) [RK.int IntKind.u8]], RK.sl (1 : Nat) [RK.sl (1 : Nat) [RK.int IntKind.u8]]]) ((x_1, l'), (x_2, l'_1), ())])))) (IBT.cp o = cap2))) (And ((true : Bool) = true) (And ((true : Bool) = true) (And (IB.N (Prod.fst (IB.close x)) = IB.N x) True)))) (And ((true : Bool) = true) (And (And ((8 : Nat) = (8 : Nat)) (And ((true : Bool) = true) (List.map (Enc.enc EM) (IBT.ms o) = List.map (Enc.enc EM) []))) (And ((true : Bool) = true) (And (And ((8 : Nat) = (8 : Nat)) (And ((false : Bool) = false) (List.map (Enc.enc EBl) (IBT.bs o) = List.map (Enc.enc EBl) []))) (And ((true : Bool) = true) (And (And ((true : Bool) = true) (And (IBT.cp o = cap2) (And (List.map (Enc.enc EK) (IBT.L o) = List.map (Enc.enc EK) (IBT.L i ++ castL (encRec [RK.sl (9 : Nat) [RK.int IntKind.u64, RK.int IntKind.u64, RK.int IntKind.u64, RK.ints IntKind.u64 (4 : Nat), RK.int IntKind.u64, RK.sl (1 : Nat) [RK.int IntKind.u8]], RK.sl (1 : Nat) [RK.sl (1 : Nat) [RK.int IntKind.u8]]]) EK (List.take (1 : Nat) (List.drop (0 : Nat) [Enc.of (encRec [RK.sl (9 : Nat) [RK.int IntKind.u64, RK.int IntKind.u64, RK.int IntKind.u64, RK.ints IntKind.u64 (4 : Nat), RK.int IntKind.u64, RK.sl (1 : Nat) [RK.int IntKind.u8]], RK.sl (1 : Nat) [RK.sl (1 : Nat) [RK.int IntKind.u8]]]) ((x_1, l'), (x_2, l'_1), ())])))) (∀ x_3 : KTy, (∀ a_1 : x_3 ∈ IBT.L o, (∀ s : SV, (∀ a_2 : s ∈ Enc.enc EK x_3, ((SV.isPure s : Bool) = (true))))))))) (And ((true : Bool) = true) True)))))))) ((true : Bool) = true)))) True))))))) True))))))))))))))) True)))))) True)))))) (And (And (And (∃ ms : List MTy, (And (List.map (Enc.enc EM) (IBT.ms i) = List.map (Enc.enc EM) ms) (And (And ((8 : Nat) = (8 : Nat)) (List.length ms ≤ (1000 : Nat))) (∀ c : CapT (List.length ms), (And (∃ ms_1 : List BTy, (And (List.map (Enc.enc EBl) (IBT.bs i) = List.map (Enc.enc EBl) ms_1) (And (And ((8 : Nat) = (8 : Nat)) (List.length ms_1 ≤ (1000 : Nat))) (∀ c_1 : CapT (List.length ms_1), (And (And (List.length ms ≤ List.length ms) (And (List.length ms ≤ CapT.cap c) (And (CapT.cap c = CapT.cap c) (And (∀ y : MTy, ((true : Bool) = true)) (∀ x_1 : Value, (And (List.length ms_1 ≤ List.length ms_1) (And (List.length ms_1 ≤ CapT.cap c_1) (And (CapT.cap c_1 = CapT.cap c_1) (And (∀ y : BTy, ((true : Bool) = true)) (∀ x_2 : Value, (∃ l' : List (RK.TL [RK.int IntKind.u64, RK.int IntKind.u64, RK.int IntKind.u64, RK.ints IntKind.u64 (4 : Nat), RK.int IntKind.u64, RK.sl (1 : Nat) [RK.int IntKind.u8]]), (And (List.map (Enc.enc EM) (List.take (List.length ms) ms) = List.map (RK.svs [RK.int IntKind.u64, RK.int IntKind.u64, RK.int IntKind.u64, RK.ints IntKind.u64 (4 : Nat), RK.int IntKind.u64, RK.sl (1 : Nat) [RK.int IntKind.u8]]) l') (∃ l'_1 : List (RK.TL [RK.sl (1 : Nat) [RK.int IntKind.u8]]), (And (List.map (Enc.enc EBl) (List.take (List.length ms_1) ms_1) = List.map (RK.svs [RK.sl (1 : Nat) [RK.int IntKind.u8]]) l'_1) (And (And (List.length (IBT.L i) = List.length (IBT.L i)) (And (IBT.cp i = IBT.cp i) (And ((0 : Nat) + (1 : Nat) ≤ (1 : Nat)) (And ((List.length (IBT.L i) + (1 : Nat)) * (48 : Nat) ≤ (150000000000000 : Nat)) (∀ cap2 : Nat, (∀ a : List.length (IBT.L i) + (1 : Nat) ≤ cap2, (And (∃ o : IBT (Prod.fst (IB.close x)), (And (And (And (Prod.fst (Prod.snd (IB.close x)) = (↑(List.length (IBT.L i ++ castL (encRec [RK.sl (9 : Nat) [RK.int IntKind.u64, RK.int IntKind.u64, RK.int IntKind.u64, RK.ints IntKind.u64 (4 : Nat), RK.int IntKind.u64, RK.sl (1 : Nat) [RK.int IntKind.u8]], RK.sl (1 : Nat) [RK.sl (1 : Nat) [RK.int IntKind.u8]]]) EK (List.take (1 : Nat) (List.drop (0 : Nat) [Enc.of (encRec [RK.sl (9 : Nat) [RK.int IntKind.u64, RK.int IntKind.u64, RK.int IntKind.u64, RK.ints IntKind.u64 (4 : Nat), RK.int IntKind.u64, RK.sl (1 : Nat) [RK.int IntKind.u8]], RK.sl (1 : Nat) [RK.sl (1 : Nat) [RK.int IntKind.u8]]]) ((x_1, l'), (x_2, l'_1), ())])))) : Int)) (And (Prod.snd (Prod.snd (IB.close x)) = (0 : Int)) True)) True) (And (And (And (And ((true : Bool) = true) (And (List.length (IBT.L o) = List.length (IBT.L i ++ castL (encRec [RK.sl (9 : Nat) [RK.int IntKind.u64, RK.int IntKind.u64, RK.int IntKind.u64, RK.ints IntKind.u64 (4 : Nat), RK.int IntKind.u64, RK.sl (1 : Nat) [RK.int IntKind.u8]], RK.sl (1 : Nat) [RK.sl (1 : Nat) [RK.int IntKind.u8]]]) EK (List.take (1 : Nat) (List.drop (0 : Nat) [Enc.of (encRec [RK.sl (9 : Nat) [RK.int IntKind.u64, RK.int IntKind.u64, RK.int IntKind.u64, RK.ints IntKind.u64 (4 : Nat), RK.int IntKind.u64, RK.sl (1 : Nat) [RK.int IntKind.u8]], RK.sl (1 : Nat) [RK.sl (1 : Nat) [RK.int IntKind.u8]]]) ((x_1, l'), (x_2, l'_1), ())])))) (IBT.cp o = cap2))) (And ((true : Bool) = true) (And ((true : Bool) = true) (And (IB.N (Prod.fst (IB.close x)) = IB.N x) True)))) (And ((true : Bool) = true) (And (And ((8 : Nat) = (8 : Nat)) (And ((true : Bool) = true) (List.map (Enc.enc EM) (IBT.ms o) = List.map (Enc.enc EM) []))) (And ((true : Bool) = true) (And (And ((8 : Nat) = (8 : Nat)) (And ((false : Bool) = false) (List.map (Enc.enc EBl) (IBT.bs o) = List.map (Enc.enc EBl) []))) (And ((true : Bool) = true) (And (And ((true : Bool) = true) (And (IBT.cp o = cap2) (And (List.map (Enc.enc EK) (IBT.L o) = List.map (Enc.enc EK) (IBT.L i ++ castL (encRec [RK.sl (9 : Nat) [RK.int IntKind.u64, RK.int IntKind.u64, RK.int IntKind.u64, RK.ints IntKind.u64 (4 : Nat), RK.int IntKind.u64, RK.sl (1 : Nat) [RK.int IntKind.u8]], RK.sl (1 : Nat) [RK.sl (1 : Nat) [RK.int IntKind.u8]]]) EK (List.take (1 : Nat) (List.drop (0 : Nat) [Enc.of (encRec [RK.sl (9 : Nat) [RK.int IntKind.u64, RK.int IntKind.u64, RK.int IntKind.u64, RK.ints IntKind.u64 (4 : Nat), RK.int IntKind.u64, RK.sl (1 : Nat) [RK.int IntKind.u8]], RK.sl (1 : Nat) [RK.sl (1 : Nat) [RK.int IntKind.u8]]]) ((x_1, l'), (x_2, l'_1), ())])))) (∀ x_3 : KTy, (∀ a_1 : x_3 ∈ IBT.L o, (∀ s : SV, (∀ a_2 : s ∈ Enc.enc EK x_3, ((SV.isPure s : Bool) = (true))))))))) (And ((true : Bool) = true) True)))))))) ((true : Bool) = true)))) True))))))) True))))))))))))))) True))))) True))))) True) (And (∃ ms : List MTy, (And (List.map (Enc.enc EM) (IBT.ms i) = List.map (Enc.enc EM) ms) (And (And ((8 : Nat) = (8 : Nat)) (List.length ms ≤ (1000 : Nat))) (∀ c : CapT (List.length ms), (And (And (∃ ms_1 : List BTy, (And (List.map (Enc.enc EBl) (IBT.bs i) = List.map (Enc.enc EBl) ms_1) (And (And ((8 : Nat) = (8 : Nat)) (List.length ms_1 ≤ (1000 : Nat))) (∀ c_1 : CapT (List.length ms_1), (And (And (List.length ms ≤ List.length ms) (And (List.length ms ≤ CapT.cap c) (And (CapT.cap c = CapT.cap c) (And (∀ y : MTy, ((true : Bool) = true)) (∀ x_1 : Value, (And (List.length ms_1 ≤ List.length ms_1) (And (List.length ms_1 ≤ CapT.cap c_1) (And (CapT.cap c_1 = CapT.cap c_1) (And (∀ y : BTy, ((true : Bool) = true)) (∀ x_2 : Value, (∃ l' : List (RK.TL [RK.int IntKind.u64, RK.int IntKind.u64, RK.int IntKind.u64, RK.ints IntKind.u64 (4 : Nat), RK.int IntKind.u64, RK.sl (1 : Nat) [RK.int IntKind.u8]]), (And (List.map (Enc.enc EM) (List.take (List.length ms) ms) = List.map (RK.svs [RK.int IntKind.u64, RK.int IntKind.u64, RK.int IntKind.u64, RK.ints IntKind.u64 (4 : Nat), RK.int IntKind.u64, RK.sl (1 : Nat) [RK.int IntKind.u8]]) l') (∃ l'_1 : List (RK.TL [RK.sl (1 : Nat) [RK.int IntKind.u8]]), (And (List.map (Enc.enc EBl) (List.take (List.length ms_1) ms_1) = List.map (RK.svs [RK.sl (1 : Nat) [RK.int IntKind.u8]]) l'_1) (And (And (List.length (IBT.L i) = List.length (IBT.L i)) (And (IBT.cp i = IBT.cp i) (And ((0 : Nat) + (1 : Nat) ≤ (1 : Nat)) (And ((List.length (IBT.L i) + (1 : Nat)) * (48 : Nat) ≤ (150000000000000 : Nat)) (∀ cap2 : Nat, (∀ a : List.length (IBT.L i) + (1 : Nat) ≤ cap2, (And (∃ o : IBT (Prod.fst (IB.close x)), (And (And (And (Prod.fst (Prod.snd (IB.close x)) = (↑(List.length (IBT.L i ++ castL (encRec [RK.sl (9 : Nat) [RK.int IntKind.u64, RK.int IntKind.u64, RK.int IntKind.u64, RK.ints IntKind.u64 (4 : Nat), RK.int IntKind.u64, RK.sl (1 : Nat) [RK.int IntKind.u8]], RK.sl (1 : Nat) [RK.sl (1 : Nat) [RK.int IntKind.u8]]]) EK (List.take (1 : Nat) (List.drop (0 : Nat) [Enc.of (encRec [RK.sl (9 : Nat) [RK.int IntKind.u64, RK.int IntKind.u64, RK.int IntKind.u64, RK.ints IntKind.u64 (4 : Nat), RK.int IntKind.u64, RK.sl (1 : Nat) [RK.int IntKind.u8]], RK.sl (1 : Nat) [RK.sl (1 : Nat) [RK.int IntKind.u8]]]) ((x_1, l'), (x_2, l'_1), ())])))) : Int)) (And (Prod.snd (Prod.snd (IB.close x)) = (0 : Int)) True)) True) (And (And (And (And ((true : Bool) = true) (And (List.length (IBT.L o) = List.length (IBT.L i ++ castL (encRec [RK.sl (9 : Nat) [RK.int IntKind.u64, RK.int IntKind.u64, RK.int IntKind.u64, RK.ints IntKind.u64 (4 : Nat), RK.int IntKind.u64, RK.sl (1 : Nat) [RK.int IntKind.u8]], RK.sl (1 : Nat) [RK.sl (1 : Nat) [RK.int IntKind.u8]]]) EK (List.take (1 : Nat) (List.drop (0 : Nat) [Enc.of (encRec [RK.sl (9 : Nat) [RK.int IntKind.u64, RK.int IntKind.u64, RK.int IntKind.u64, RK.ints IntKind.u64 (4 : Nat), RK.int IntKind.u64, RK.sl (1 : Nat) [RK.int IntKind.u8]], RK.sl (1 : Nat) [RK.sl (1 : Nat) [RK.int IntKind.u8]]]) ((x_1, l'), (x_2, l'_1), ())])))) (IBT.cp o = cap2))) (And ((true : Bool) = true) (And ((true : Bool) = true) (And (IB.N (Prod.fst (IB.close x)) = IB.N x) True)))) (And ((true : Bool) = true) (And (And ((8 : Nat) = (8 : Nat)) (And ((true : Bool) = true) (List.map (Enc.enc EM) (IBT.ms o) = List.map (Enc.enc EM) []))) (And ((true : Bool) = true) (And (And ((8 : Nat) = (8 : Nat)) (And ((false : Bool) = false) (List.map (Enc.enc EBl) (IBT.bs o) = List.map (Enc.enc EBl) []))) (And ((true : Bool) = true) (And (And ((true : Bool) = true) (And (IBT.cp o = cap2) (And (List.map (Enc.enc EK) (IBT.L o) = List.map (Enc.enc EK) (IBT.L i ++ castL (encRec [RK.sl (9 : Nat) [RK.int IntKind.u64, RK.int IntKind.u64, RK.int IntKind.u64, RK.ints IntKind.u64 (4 : Nat), RK.int IntKind.u64, RK.sl (1 : Nat) [RK.int IntKind.u8]], RK.sl (1 : Nat) [RK.sl (1 : Nat) [RK.int IntKind.u8]]]) EK (List.take (1 : Nat) (List.drop (0 : Nat) [Enc.of (encRec [RK.sl (9 : Nat) [RK.int IntKind.u64, RK.int IntKind.u64, RK.int IntKind.u64, RK.ints IntKind.u64 (4 : Nat), RK.int IntKind.u64, RK.sl (1 : Nat) [RK.int IntKind.u8]], RK.sl (1 : Nat) [RK.sl (1 : Nat) [RK.int IntKind.u8]]]) ((x_1, l'), (x_2, l'_1), ())])))) (∀ x_3 : KTy, (∀ a_1 : x_3 ∈ IBT.L o, (∀ s : SV, (∀ a_2 : s ∈ Enc.enc EK x_3, ((SV.isPure s : Bool) = (true))))))))) (And ((true : Bool) = true) True)))))))) ((true : Bool) = true)))) True))))))) True))))))))))))))) True))))) True) (And (∃ ms_1 : List BTy, (And (List.map (Enc.enc EBl) (IBT.bs i) = List.map (Enc.enc EBl) ms_1) (And (And ((8 : Nat) = (8 : Nat)) (List.length ms_1 ≤ (1000 : Nat))) (∀ c_1 : CapT (List.length ms_1), (And (And (And (List.length ms ≤ List.length ms) (And (List.length ms ≤ CapT.cap c) (And (CapT.cap c = CapT.cap c) (And (∀ y : MTy, ((true : Bool) = true)) (∀ x_1 : Value, (And (List.length ms_1 ≤ List.length ms_1) (And (List.length ms_1 ≤ CapT.cap c_1) (And (CapT.cap c_1 = CapT.cap c_1) (And (∀ y : BTy, ((true : Bool) = true)) (∀ x_2 : Value, (∃ l' : List (RK.TL [RK.int IntKind.u64, RK.int IntKind.u64, RK.int IntKind.u64, RK.ints IntKind.u64 (4 : Nat), RK.int IntKind.u64, RK.sl (1 : Nat) [RK.int IntKind.u8]]), (And (List.map (Enc.enc EM) (List.take (List.length ms) ms) = List.map (RK.svs [RK.int IntKind.u64, RK.int IntKind.u64, RK.int IntKind.u64, RK.ints IntKind.u64 (4 : Nat), RK.int IntKind.u64, RK.sl (1 : Nat) [RK.int IntKind.u8]]) l') (∃ l'_1 : List (RK.TL [RK.sl (1 : Nat) [RK.int IntKind.u8]]), (And (List.map (Enc.enc EBl) (List.take (List.length ms_1) ms_1) = List.map (RK.svs [RK.sl (1 : Nat) [RK.int IntKind.u8]]) l'_1) (And (And (List.length (IBT.L i) = List.length (IBT.L i)) (And (IBT.cp i = IBT.cp i) (And ((0 : Nat) + (1 : Nat) ≤ (1 : Nat)) (And ((List.length (IBT.L i) + (1 : Nat)) * (48 : Nat) ≤ (150000000000000 : Nat)) (∀ cap2 : Nat, (∀ a : List.length (IBT.L i) + (1 : Nat) ≤ cap2, (And (∃ o : IBT (Prod.fst (IB.close x)), (And (And (And (Prod.fst (Prod.snd (IB.close x)) = (↑(List.length (IBT.L i ++ castL (encRec [RK.sl (9 : Nat) [RK.int IntKind.u64, RK.int IntKind.u64, RK.int IntKind.u64, RK.ints IntKind.u64 (4 : Nat), RK.int IntKind.u64, RK.sl (1 : Nat) [RK.int IntKind.u8]], RK.sl (1 : Nat) [RK.sl (1 : Nat) [RK.int IntKind.u8]]]) EK (List.take (1 : Nat) (List.drop (0 : Nat) [Enc.of (encRec [RK.sl (9 : Nat) [RK.int IntKind.u64, RK.int IntKind.u64, RK.int IntKind.u64, RK.ints IntKind.u64 (4 : Nat), RK.int IntKind.u64, RK.sl (1 : Nat) [RK.int IntKind.u8]], RK.sl (1 : Nat) [RK.sl (1 : Nat) [RK.int IntKind.u8]]]) ((x_1, l'), (x_2, l'_1), ())])))) : Int)) (And (Prod.snd (Prod.snd (IB.close x)) = (0 : Int)) True)) True) (And (And (And (And ((true : Bool) = true) (And (List.length (IBT.L o) = List.length (IBT.L i ++ castL (encRec [RK.sl (9 : Nat) [RK.int IntKind.u64, RK.int IntKind.u64, RK.int IntKind.u64, RK.ints IntKind.u64 (4 : Nat), RK.int IntKind.u64, RK.sl (1 : Nat) [RK.int IntKind.u8]], RK.sl (1 : Nat) [RK.sl (1 : Nat) [RK.int IntKind.u8]]]) EK (List.take (1 : Nat) (List.drop (0 : Nat) [Enc.of (encRec [RK.sl (9 : Nat) [RK.int IntKind.u64, RK.int IntKind.u64, RK.int IntKind.u64, RK.ints IntKind.u64 (4 : Nat), RK.int IntKind.u64, RK.sl (1 : Nat) [RK.int IntKind.u8]], RK.sl (1 : Nat) [RK.sl (1 : Nat) [RK.int IntKind.u8]]]) ((x_1, l'), (x_2, l'_1), ())])))) (IBT.cp o = cap2))) (And ((true : Bool) = true) (And ((true : Bool) = true) (And (IB.N (Prod.fst (IB.close x)) = IB.N x) True)))) (And ((true : Bool) = true) (And (And ((8 : Nat) = (8 : Nat)) (And ((true : Bool) = true) (List.map (Enc.enc EM) (IBT.ms o) = List.map (Enc.enc EM) []))) (And ((true : Bool) = true) (And (And ((8 : Nat) = (8 : Nat)) (And ((false : Bool) = false) (List.map (Enc.enc EBl) (IBT.bs o) = List.map (Enc.enc EBl) []))) (And ((true : Bool) = true) (And (And ((true : Bool) = true) (And (IBT.cp o = cap2) (And (List.map (Enc.enc EK) (IBT.L o) = List.map (Enc.enc EK) (IBT.L i ++ castL (encRec [RK.sl (9 : Nat) [RK.int IntKind.u64, RK.int IntKind.u64, RK.int IntKind.u64, RK.ints IntKind.u64 (4 : Nat), RK.int IntKind.u64, RK.sl (1 : Nat) [RK.int IntKind.u8]], RK.sl (1 : Nat) [RK.sl (1 : Nat) [RK.int IntKind.u8]]]) EK (List.take (1 : Nat) (List.drop (0 : Nat) [Enc.of (encRec [RK.sl (9 : Nat) [RK.int IntKind.u64, RK.int IntKind.u64, RK.int IntKind.u64, RK.ints IntKind.u64 (4 : Nat), RK.int IntKind.u64, RK.sl (1 : Nat) [RK.int IntKind.u8]], RK.sl (1 : Nat) [RK.sl (1 : Nat) [RK.int IntKind.u8]]]) ((x_1, l'), (x_2, l'_1), ())])))) (∀ x_3 : KTy, (∀ a_1 : x_3 ∈ IBT.L o, (∀ s : SV, (∀ a_2 : s ∈ Enc.enc EK x_3, ((SV.isPure s : Bool) = (true))))))))) (And ((true : Bool) = true) True)))))))) ((true : Bool) = true)))) True))))))) True))))))))))))))) True) (And (And (List.length ms ≤ List.length ms) (And (List.length ms ≤ CapT.cap c) (And (CapT.cap c = CapT.cap c) (And (∀ y : MTy, ((true : Bool) = true)) (∀ x_1 : Value, (And (List.length ms_1 ≤ List.length ms_1) (And (List.length ms_1 ≤ CapT.cap c_1) (And (CapT.cap c_1 = CapT.cap c_1) (And (∀ y : BTy, ((true : Bool) = true)) (∀ x_2 : Value, (∃ l' : List (RK.TL [RK.int IntKind.u64, RK.int IntKind.u64, RK.int IntKind.u64, RK.ints IntKind.u64 (4 : Nat), RK.int IntKind.u64, RK.sl (1 : Nat) [RK.int IntKind.u8]]), (And (List.map (Enc.enc EM) (List.take (List.length ms) ms) = List.map (RK.svs [RK.int IntKind.u64, RK.int IntKind.u64, RK.int IntKind.u64, RK.ints IntKind.u64 (4 : Nat), RK.int IntKind.u64, RK.sl (1 : Nat) [RK.int IntKind.u8]]) l') (∃ l'_1 : List (RK.TL [RK.sl (1 : Nat) [RK.int IntKind.u8]]), (And (List.map (Enc.enc EBl) (List.take (List.length ms_1) ms_1) = List.map (RK.svs [RK.sl (1 : Nat) [RK.int IntKind.u8]]) l'_1) (And (And (List.length (IBT.L i) = List.length (IBT.L i)) (And (IBT.cp i = IBT.cp i) (And ((0 : Nat) + (1 : Nat) ≤ (1 : Nat)) (And ((List.length (IBT.L i) + (1 : Nat)) * (48 : Nat) ≤ (150000000000000 : Nat)) (∀ cap2 : Nat, (∀ a : List.length (IBT.L i) + (1 : Nat) ≤ cap2, (And (∃ o : IBT (Prod.fst (IB.close x)), (And (And (And (Prod.fst (Prod.snd (IB.close x)) = (↑(List.length (IBT.L i ++ castL (encRec [RK.sl (9 : Nat) [RK.int IntKind.u64, RK.int IntKind.u64, RK.int IntKind.u64, RK.ints IntKind.u64 (4 : Nat), RK.int IntKind.u64, RK.sl (1 : Nat) [RK.int IntKind.u8]], RK.sl (1 : Nat) [RK.sl (1 : Nat) [RK.int IntKind.u8]]]) EK (List.take (1 : Nat) (List.drop (0 : Nat) [Enc.of (encRec [RK.sl (9 : Nat) [RK.int IntKind.u64, RK.int IntKind.u64, RK.int IntKind.u64, RK.ints IntKind.u64 (4 : Nat), RK.int IntKind.u64, RK.sl (1 : Nat) [RK.int IntKind.u8]], RK.sl (1 : Nat) [RK.sl (1 : Nat) [RK.int IntKind.u8]]]) ((x_1, l'), (x_2, l'_1), ())])))) : Int)) (And (Prod.snd (Prod.snd (IB.close x)) = (0 : Int)) True)) True) (And (And (And (And ((true : Bool) = true) (And (List.length (IBT.L o) = List.length (IBT.L i ++ castL (encRec [RK.sl (9 : Nat) [RK.int IntKind.u64, RK.int IntKind.u64, RK.int IntKind.u64, RK.ints IntKind.u64 (4 : Nat), RK.int IntKind.u64, RK.sl (1 : Nat) [RK.int IntKind.u8]], RK.sl (1 : Nat) [RK.sl (1 : Nat) [RK.int IntKind.u8]]]) EK (List.take (1 : Nat) (List.drop (0 : Nat) [Enc.of (encRec [RK.sl (9 : Nat) [RK.int IntKind.u64, RK.int IntKind.u64, RK.int IntKind.u64, RK.ints IntKind.u64 (4 : Nat), RK.int IntKind.u64, RK.sl (1 : Nat) [RK.int IntKind.u8]], RK.sl (1 : Nat) [RK.sl (1 : Nat) [RK.int IntKind.u8]]]) ((x_1, l'), (x_2, l'_1), ())])))) (IBT.cp o = cap2))) (And ((true : Bool) = true) (And ((true : Bool) = true) (And (IB.N (Prod.fst (IB.close x)) = IB.N x) True)))) (And ((true : Bool) = true) (And (And ((8 : Nat) = (8 : Nat)) (And ((true : Bool) = true) (List.map (Enc.enc EM) (IBT.ms o) = List.map (Enc.enc EM) []))) (And ((true : Bool) = true) (And (And ((8 : Nat) = (8 : Nat)) (And ((false : Bool) = false) (List.map (Enc.enc EBl) (IBT.bs o) = List.map (Enc.enc EBl) []))) (And ((true : Bool) = true) (And (And ((true : Bool) = true) (And (IBT.cp o = cap2) (And (List.map (Enc.enc EK) (IBT.L o) = List.map (Enc.enc EK) (IBT.L i ++ castL (encRec [RK.sl (9 : Nat) [RK.int IntKind.u64, RK.int IntKind.u64, RK.int IntKind.u64, RK.ints IntKind.u64 (4 : Nat), RK.int IntKind.u64, RK.sl (1 : Nat) [RK.int IntKind.u8]], RK.sl (1 : Nat) [RK.sl (1 : Nat) [RK.int IntKind.u8]]]) EK (List.take (1 : Nat) (List.drop (0 : Nat) [Enc.of (encRec [RK.sl (9 : Nat) [RK.int IntKind.u64, RK.int IntKind.u64, RK.int IntKind.u64, RK.ints IntKind.u64 (4 : Nat), RK.int IntKind.u64, RK.sl (1 : Nat) [RK.int IntKind.u8]], RK.sl (1 : Nat) [RK.sl (1 : Nat) [RK.int IntKind.u8]]]) ((x_1, l'), (x_2, l'_1), ())])))) (∀ x_3 : KTy, (∀ a_1 : x_3 ∈ IBT.L o, (∀ s : SV, (∀ a_2 : s ∈ Enc.enc EK x_3, ((SV.isPure s : Bool) = (true))))))))) (And ((true : Bool) = true) True)))))))) ((true : Bool) = true)))) True))))))) True))))))))))))))) True)))))) True)))))) True)) True))) (∃ o : IBT (Prod.fst (IB.close x)), (And (And (And (Prod.fst (Prod.snd (IB.close x)) = (0 : Int)) (And (Prod.snd (Prod.snd (IB.close x)) = (6 : Int)) True)) True) (And (And (And (And ((true : Bool) = true) (And (List.length (IBT.L o) = List.length (IBT.L i)) (IBT.cp o = IBT.cp i))) (And ((true : Bool) = true) (And ((true : Bool) = true) (And (IB.N (Prod.fst (IB.close x)) = IB.N x) True)))) (And ((true : Bool) = true) (And (And ((8 : Nat) = (8 : Nat)) (And ((true : Bool) = true) (List.map (Enc.enc EM) (IBT.ms o) = List.map (Enc.enc EM) (IBT.ms i)))) (And ((true : Bool) = true) (And (And ((8 : Nat) = (8 : Nat)) (And ((false : Bool) = false) (List.map (Enc.enc EBl) (IBT.bs o) = List.map (Enc.enc EBl) (IBT.bs i)))) (And ((true : Bool) = true) (And (And ((true : Bool) = true) (And (IBT.cp o = IBT.cp i) (And (List.map (Enc.enc EK) (IBT.L o) = List.map (Enc.enc EK) (IBT.L i)) (∀ x_1 : KTy, (∀ a : x_1 ∈ IBT.L o, (∀ s : SV, (∀ a_1 : s ∈ Enc.enc EK x_1, ((SV.isPure s : Bool) = (true))))))))) (And ((true : Bool) = true) True)))))))) ((true : Bool) = true)))) (decide ((4096 : Int) ≤ (↑(List.length (IBT.L i)) : Int))))) (by kernel_rfl) ?_
  have hm := congrArg List.length i.hm
  have hb := congrArg List.length i.hb
  have hL := congrArg List.length i.hL
  rw [List.length_map] at hm hb hL
  unfold IB.close
  refine bif_dec (fun h => ?_) (fun h => ?_)
  · rw [if_pos (show 4096 ≤ x.L.length by omega)]
    refine ⟨i, ?_⟩
    repeat' first | exact fun x _ => Enc.pures EK x | exact trivial | refine And.intro ?_ ?_ | with_reducible refine bif_dt (by assumption) ?_ | with_reducible refine bif_df (by assumption) ?_ | with_reducible refine bif_dec (fun _ => ?_) (fun _ => ?_) | with_reducible refine bif_not ?_ | with_reducible refine bif_and ?_ | with_reducible refine bif_or ?_ | with_reducible refine bif_t (by assumption) ?_ | with_reducible refine bif_f (by assumption) ?_ | with_reducible refine bif_t (beq_self_eq_true _) ?_ | with_reducible refine bif_b (fun _ => ?_) (fun _ => ?_) | with_reducible refine ⟨_, Eq.refl (List.map _ _), ?_⟩ | (with_reducible refine Exists.intro (by omega) ?_) | rfl | (intro h0; omega) | omega
  · rw [if_neg (show ¬ 4096 ≤ x.L.length by omega)]
    have hk : ∀ x1 x2 : Value, List.map kl (i.L ++ [mkK (List.take i.ms.length i.ms) (List.take i.bs.length i.bs) x1 x2]) = x.L ++ [(x.D, x.B)] := fun x1 x2 => by
      rw [List.map_append, i.hL, List.take_length, List.take_length, List.map_cons, kl_mk, i.hm, i.hb]
      rfl
    have hc : ∀ x1 x2 : Value, _ := fun x1 x2 => castK (mkK (List.take i.ms.length i.ms) (List.take i.bs.length i.bs) x1 x2)
    have hn : ∀ x1 x2 : Value, (i.L ++ [mkK (List.take i.ms.length i.ms) (List.take i.bs.length i.bs) x1 x2]).length = x.L.length + 1 := fun x1 x2 => by rw [List.length_append, hL]; rfl
    repeat' first | exact (show (noDup _ && _ && _) = true from by kernel_rfl) | refine ⟨i.ms, rfl, ⟨rfl, by omega⟩, fun c => ?_⟩ | refine ⟨i.bs, rfl, ⟨rfl, by omega⟩, fun c1 => ?_⟩ | refine ⟨Nat.le_refl _, c.h, rfl, fun _ => rfl, fun x1 => ⟨Nat.le_refl _, c1.h, rfl, fun _ => rfl, fun x2 => ⟨List.take i.ms.length i.ms, rfl, List.take i.bs.length i.bs, rfl, ⟨⟨rfl, rfl, by omega, by omega, fun cap2 k2 => ?_⟩, trivial⟩⟩⟩⟩ | refine ⟨⟨i.L ++ [mkK (List.take i.ms.length i.ms) (List.take i.bs.length i.bs) x1 x2], cap2, [], [], hk _ _, rfl, rfl, ⟨by rw [List.length_append]; exact k2, fun h9 => by rw [List.length_append] at h9; exact absurd h9 (Nat.succ_ne_zero _)⟩⟩, ?_⟩ | exact congrArg (fun l => (i.L ++ l).length) (hc _ _).symm | exact congrArg (fun l => List.map EK.enc (i.L ++ l)) (hc _ _).symm | exact (congrArg Nat.cast ((congrArg (fun l => (i.L ++ l).length) (hc x1 x2)).trans (hn x1 x2))).symm | exact fun x _ => Enc.pures EK x | exact trivial | refine And.intro ?_ ?_ | with_reducible refine bif_dt (by assumption) ?_ | with_reducible refine bif_df (by assumption) ?_ | with_reducible refine bif_dec (fun _ => ?_) (fun _ => ?_) | with_reducible refine bif_not ?_ | with_reducible refine bif_and ?_ | with_reducible refine bif_or ?_ | with_reducible refine bif_t (by assumption) ?_ | with_reducible refine bif_f (by assumption) ?_ | with_reducible refine bif_t (beq_self_eq_true _) ?_ | with_reducible refine bif_b (fun _ => ?_) (fun _ => ?_) | with_reducible refine ⟨_, Eq.refl (List.map _ _), ?_⟩ | (with_reducible refine Exists.intro (by omega) ?_) | rfl | (intro h0; omega) | omega
open Go Go.Sx

theorem wrap64 {x : Int} (h1 : -9223372036854775808 ≤ x) (h2 : x < 9223372036854775808) : IntKind.i64.wrap x = x := by
  simp [IntKind.wrap, IntKind.bits, IntKind.signed]
  omega
theorem b1_enc (l : List (RK.TL [.int .u8])) : List.map eB (List.map b1 l) = List.map (RK.svs [.int .u8]) l := by
  rw [List.map_map]
  rfl
abbrev bkA (x : Value) (ms : List MTy) (y : Value) (bs : List BTy) : List SV := [.view x 9 EM.enc ms, .view y 1 EBl.enc bs]
structure KcT (ms : List MTy) (bs : List BTy) where
  x : Value
  ms' : List MTy
  y : Value
  bs' : List BTy
  hm : ms'.map ml = ms.map ml
  hb : bs'.map bl = bs.map bl
structure K1T (ms : List MTy) (bs : List BTy) where
  i : Nat
  cap : Nat
  r : List MTy
  hi : i ≤ ms.length
  hc : r.length ≤ cap
  he : r.map ml = (ms.take i).map ml
structure K2T (ms : List MTy) (bs : List BTy) where
  cap : Nat
  r : List MTy
  hc : r.length ≤ cap
  he : r.map ml = ms.map ml
  i : Nat
  cap2 : Nat
  r2 : List BTy
  hi : i ≤ bs.length
  hc2 : r2.length ≤ cap2
  he2 : r2.map bl = (bs.take i).map bl
theorem bcopied_spec (x y : Value) {ms : List MTy} {bs : List BTy} (h1 : ms.length ≤ 1000) (h2 : bs.length ≤ 1000) (h3 : ∀ m ∈ ms, (ml m).d.length ≤ 100000000) (h4 : ∀ b ∈ bs, (bl b).length ≤ 100000000) :
    SMem Try.prog 39 [.agg (bkA x ms y bs)] 0 [] (fun o : KcT ms bs => ⟨0, .agg (bkA o.x o.ms' o.y o.bs'), []⟩) := by
  refine SMem.inf 9 EM [] SOK.nil [(33, copiedT), (35, cloneBT)] (MSOK.cons copied_ok (MSOK.cons cloneB_ok MSOK.nil)) tok mixed [] IOK.nil false [(2, ⟨K1T ms bs, fun p => ⟨3, [(8, .one (.view x 9 EM.enc ms)), (9, int ms.length), (10, int p.i), (1, .one (.ptr 0 0)), (2, .one (.ptr 1 0))], [(0, .cells (bkA x ms y bs)), (1, .cells [.nslc 2 9 p.r.length p.cap, .v (.slice none 0 0)]), (2, .row 9 EM p.r p.cap)]⟩, fun p => ms.length - p.i, fun _ _ => True⟩), (7, ⟨K2T ms bs, fun p => ⟨4, [(23, .one (.view y 1 EBl.enc bs)), (24, int bs.length), (25, int p.i), (2, .one (.ptr 1 0))], [(0, .cells (bkA x ms y bs)), (1, .cells [.nslc 2 9 p.r.length p.cap, .nslc 3 1 p.r2.length p.cap2]), (2, .row 9 EM p.r p.cap), (3, .row 1 EBl p.r2 p.cap2)]⟩, fun p => bs.length - p.i, fun _ _ => True⟩)] [] Try.call39 Try.func39 rfl (by rfl) ?_
  refine Eq.mp (α := (∃ i0 : K1T ms bs, (And (And True (And (And (SV.view x (9 : Nat) (Enc.enc EM) ms = SV.view x (9 : Nat) (Enc.enc EM) ms) (And ((↑(List.length ms) : Int) = (↑(List.length ms) : Int)) (And ((↑(K1T.i i0) : Int) = (0 : Int)) (And (And ((true : Bool) = true) ((0 : Nat) = (0 : Nat))) (And (And ((true : Bool) = true) ((0 : Nat) = (0 : Nat))) True))))) (And (And (And (SV.view x (9 : Nat) (Enc.enc EM) ms = SV.view x (9 : Nat) (Enc.enc EM) ms) (And (SV.view y (1 : Nat) (Enc.enc EBl) bs = SV.view y (1 : Nat) (Enc.enc EBl) bs) True)) (And ((true : Bool) = true) (And (And (And ((true : Bool) = true) (And (List.length (K1T.r i0) = (0 : Nat)) (K1T.cap i0 = (0 : Nat)))) (And (Value.slice none (0 : Nat) (0 : Nat) = Value.slice none (0 : Nat) (0 : Nat)) True)) (And ((true : Bool) = true) (And (And ((true : Bool) = true) (And (K1T.cap i0 = (0 : Nat)) (And (List.map (Enc.enc EM) (K1T.r i0) = List.map (Enc.enc EM) []) (∀ x_1 : MTy, (∀ a : x_1 ∈ K1T.r i0, (∀ s : SV, (∀ a_1 : s ∈ Enc.enc EM x_1, ((SV.isPure s : Bool) = (true))))))))) (And ((true : Bool) = true) True)))))) ((true : Bool) = true)))) (∀ i : K1T ms bs, (∀ a : True, (@Bool.rec (fun _ => Prop) (∃ i0_1 : K2T ms bs, (And (And True (And (And (SV.view y (1 : Nat) (Enc.enc EBl) bs = SV.view y (1 : Nat) (Enc.enc EBl) bs) (And ((↑(List.length bs) : Int) = (↑(List.length bs) : Int)) (And ((↑(K2T.i i0_1) : Int) = (0 : Int)) (And (And ((true : Bool) = true) ((0 : Nat) = (0 : Nat))) True)))) (And (And (And (SV.view x (9 : Nat) (Enc.enc EM) ms = SV.view x (9 : Nat) (Enc.enc EM) ms) (And (SV.view y (1 : Nat) (Enc.enc EBl) bs = SV.view y (1 : Nat) (Enc.enc EBl) bs) True)) (And ((true : Bool) = true) (And (And (And ((true : Bool) = true) (And (List.length (K2T.r i0_1) = List.length (K1T.r i)) (K2T.cap i0_1 = K1T.cap i))) (And (And ((true : Bool) = true) (And (List.length (K2T.r2 i0_1) = (0 : Nat)) (K2T.cap2 i0_1 = (0 : Nat)))) True)) (And ((true : Bool) = true) (And (And ((true : Bool) = true) (And (K2T.cap i0_1 = K1T.cap i) (And (List.map (Enc.enc EM) (K2T.r i0_1) = List.map (Enc.enc EM) (K1T.r i)) (∀ x_1 : MTy, (∀ a_1 : x_1 ∈ K2T.r i0_1, (∀ s : SV, (∀ a_2 : s ∈ Enc.enc EM x_1, ((SV.isPure s : Bool) = (true))))))))) (And ((true : Bool) = true) (And (And ((true : Bool) = true) (And (K2T.cap2 i0_1 = (0 : Nat)) (And (List.map (Enc.enc EBl) (K2T.r2 i0_1) = List.map (Enc.enc EBl) []) (∀ x_1 : BTy, (∀ a_1 : x_1 ∈ K2T.r2 i0_1, (∀ s : SV, (∀ a_2 : s ∈ Enc.enc EBl x_1, ((SV.isPure s : Bool) = (true))))))))) (And ((true : Bool) = true) True)))))))) ((true : Bool) = true)))) (∀ i_1 : K2T ms bs, (∀ a_1 : True, (@Bool.rec (fun _ => Prop) (And (List.length (K2T.r i_1) ≤ List.length (K2T.r i_1)) (And (List.length (K2T.r i_1) ≤ K2T.cap i_1) (And (K2T.cap i_1 = K2T.cap i_1) (And (∀ y_1 : MTy, ((true : Bool) = true)) (∀ x_1 : Value, (And (List.length (K2T.r2 i_1) ≤ List.length (K2T.r2 i_1)) (And (List.length (K2T.r2 i_1) ≤ K2T.cap2 i_1) (And (K2T.cap2 i_1 = K2T.cap2 i_1) (And (∀ y_1 : BTy, ((true : Bool) = true)) (∀ x_2 : Value, (∃ o : KcT ms bs, (And (And (And (SV.view (KcT.x o) (9 : Nat) (Enc.enc EM) (KcT.ms' o) = nilV (9 : Nat) EM (SV.view x_1 (9 : Nat) (Enc.enc EM) (List.take (List.length (K2T.r i_1)) (K2T.r i_1)))) (And (SV.view (KcT.y o) (1 : Nat) (Enc.enc EBl) (KcT.bs' o) = nilV (9 : Nat) EM (SV.view x_2 (1 : Nat) (Enc.enc EBl) (List.take (List.length (K2T.r2 i_1)) (K2T.r2 i_1)))) True)) True) (And True ((true : Bool) = true)))))))))))))) (And ((0 : Int) ≤ (↑(K2T.i i_1) : Int)) (∃ hk : Int.toNat (↑(K2T.i i_1) : Int) < List.length bs, (And (And (∃ l : List Int, (And (List.map (RK.svs._f [RK.int IntKind.u8] ⟨⟨RK.sv._f (RK.int IntKind.u8) PUnit.unit, PUnit.unit⟩, RK.svs._f [] PUnit.unit, PUnit.unit⟩) (Prod.snd (Prod.fst bs[Int.toNat (↑(K2T.i i_1) : Int)])) = List.map eB l) (And (List.length l ≤ (100000000 : Nat)) (∀ x_1 : Value, (And (∃ l' : List (RK.TL [RK.int IntKind.u8]), (And (List.map eB l = List.map (RK.svs [RK.int IntKind.u8]) l') (And (And (List.length (K2T.r2 i_1) = List.length (K2T.r2 i_1)) (And (K2T.cap2 i_1 = K2T.cap2 i_1) (And ((0 : Nat) + (1 : Nat) ≤ (1 : Nat)) (And ((List.length (K2T.r2 i_1) + (1 : Nat)) * (24 : Nat) ≤ (150000000000000 : Nat)) (∀ cap2 : Nat, (∀ a_2 : List.length (K2T.r2 i_1) + (1 : Nat) ≤ cap2, (And (∃ i' : K2T ms bs, (And (And (List.length bs - K2T.i i' < List.length bs - K2T.i i_1) True) (And (And (SV.view y (1 : Nat) (Enc.enc EBl) bs = SV.view y (1 : Nat) (Enc.enc EBl) bs) (And ((↑(List.length bs) : Int) = (↑(List.length bs) : Int)) (And ((↑(K2T.i i') : Int) = IntKind.wrap IntKind.i64 ((↑(K2T.i i_1) : Int) + (1 : Int))) (And (And ((true : Bool) = true) ((0 : Nat) = (0 : Nat))) True)))) (And (And (And (SV.view x (9 : Nat) (Enc.enc EM) ms = SV.view x (9 : Nat) (Enc.enc EM) ms) (And (SV.view y (1 : Nat) (Enc.enc EBl) bs = SV.view y (1 : Nat) (Enc.enc EBl) bs) True)) (And ((true : Bool) = true) (And (And (And ((true : Bool) = true) (And (List.length (K2T.r i') = List.length (K2T.r i_1)) (K2T.cap i' = K2T.cap i_1))) (And (And ((true : Bool) = true) (And (List.length (K2T.r2 i') = List.length (K2T.r2 i_1 ++ castL (encRec [RK.sl (1 : Nat) [RK.int IntKind.u8]]) EBl (List.take (1 : Nat) (List.drop (0 : Nat) [Enc.of (encRec [RK.sl (1 : Nat) [RK.int IntKind.u8]]) ((x_1, l'), ())])))) (K2T.cap2 i' = cap2))) True)) (And ((true : Bool) = true) (And (And ((true : Bool) = true) (And (K2T.cap i' = K2T.cap i_1) (And (List.map (Enc.enc EM) (K2T.r i') = List.map (Enc.enc EM) (K2T.r i_1)) (∀ x_2 : MTy, (∀ a_3 : x_2 ∈ K2T.r i', (∀ s : SV, (∀ a_4 : s ∈ Enc.enc EM x_2, ((SV.isPure s : Bool) = (true))))))))) (And ((true : Bool) = true) (And (And ((true : Bool) = true) (And (K2T.cap2 i' = cap2) (And (List.map (Enc.enc EBl) (K2T.r2 i') = List.map (Enc.enc EBl) (K2T.r2 i_1 ++ castL (encRec [RK.sl (1 : Nat) [RK.int IntKind.u8]]) EBl (List.take (1 : Nat) (List.drop (0 : Nat) [Enc.of (encRec [RK.sl (1 : Nat) [RK.int IntKind.u8]]) ((x_1, l'), ())])))) (∀ x_2 : BTy, (∀ a_3 : x_2 ∈ K2T.r2 i', (∀ s : SV, (∀ a_4 : s ∈ Enc.enc EBl x_2, ((SV.isPure s : Bool) = (true))))))))) (And ((true : Bool) = true) True)))))))) ((true : Bool) = true))))) True))))))) True))) True))))) True) (And (∃ l : List Int, (And (List.map (RK.svs._f [RK.int IntKind.u8] ⟨⟨RK.sv._f (RK.int IntKind.u8) PUnit.unit, PUnit.unit⟩, RK.svs._f [] PUnit.unit, PUnit.unit⟩) (Prod.snd (Prod.fst bs[Int.toNat (↑(K2T.i i_1) : Int)])) = List.map eB l) (And (List.length l ≤ (100000000 : Nat)) (∀ x_1 : Value, (And (And (∃ l' : List (RK.TL [RK.int IntKind.u8]), (And (List.map eB l = List.map (RK.svs [RK.int IntKind.u8]) l') (And (And (List.length (K2T.r2 i_1) = List.length (K2T.r2 i_1)) (And (K2T.cap2 i_1 = K2T.cap2 i_1) (And ((0 : Nat) + (1 : Nat) ≤ (1 : Nat)) (And ((List.length (K2T.r2 i_1) + (1 : Nat)) * (24 : Nat) ≤ (150000000000000 : Nat)) (∀ cap2 : Nat, (∀ a_2 : List.length (K2T.r2 i_1) + (1 : Nat) ≤ cap2, (And (∃ i' : K2T ms bs, (And (And (List.length bs - K2T.i i' < List.length bs - K2T.i i_1) True) (And (And (SV.view y (1 : Nat) (Enc.enc EBl) bs = SV.view y (1 : Nat) (Enc.enc EBl) bs) (And ((↑(List.length bs) : Int) = (↑(List.length bs) : Int)) (And ((↑(K2T.i i') : Int) = IntKind.wrap IntKind.i64 ((↑(K2T.i i_1) : Int) + (1 : Int))) (And (And ((true : Bool) = true) ((0 : Nat) = (0 : Nat))) True)))) (And (And (And (SV.view x (9 : Nat) (Enc.enc EM) ms = SV.view x (9 : Nat) (Enc.enc EM) ms) (And (SV.view y (1 : Nat) (Enc.enc EBl) bs = SV.view y (1 : Nat) (Enc.enc EBl) bs) True)) (And ((true : Bool) = true) (And (And (And ((true : Bool) = true) (And (List.length (K2T.r i') = List.length (K2T.r i_1)) (K2T.cap i' = K2T.cap i_1))) (And (And ((true : Bool) = true) (And (List.length (K2T.r2 i') = List.length (K2T.r2 i_1 ++ castL (encRec [RK.sl (1 : Nat) [RK.int IntKind.u8]]) EBl (List.take (1 : Nat) (List.drop (0 : Nat) [Enc.of (encRec [RK.sl (1 : Nat) [RK.int IntKind.u8]]) ((x_1, l'), ())])))) (K2T.cap2 i' = cap2))) True)) (And ((true : Bool) = true) (And (And ((true : Bool) = true) (And (K2T.cap i' = K2T.cap i_1) (And (List.map (Enc.enc EM) (K2T.r i') = List.map (Enc.enc EM) (K2T.r i_1)) (∀ x_2 : MTy, (∀ a_3 : x_2 ∈ K2T.r i', (∀ s : SV, (∀ a_4 : s ∈ Enc.enc EM x_2, ((SV.isPure s : Bool) = (true))))))))) (And ((true : Bool) = true) (And (And ((true : Bool) = true) (And (K2T.cap2 i' = cap2) (And (List.map (Enc.enc EBl) (K2T.r2 i') = List.map (Enc.enc EBl) (K2T.r2 i_1 ++ castL (encRec [RK.sl (1 : Nat) [RK.int IntKind.u8]]) EBl (List.take (1 : Nat) (List.drop (0 : Nat) [Enc.of (encRec [RK.sl (1 : Nat) [RK.int IntKind.u8]]) ((x_1, l'), ())])))) (∀ x_2 : BTy, (∀ a_3 : x_2 ∈ K2T.r2 i', (∀ s : SV, (∀ a_4 : s ∈ Enc.enc EBl x_2, ((SV.isPure s : Bool) = (true))))))))) (And ((true : Bool) = true) True)))))))) ((true : Bool) = true))))) True))))))) True))) True) (And (∃ l' : List (RK.TL [RK.int IntKind.u8]), (And (List.map eB l = List.map (RK.svs [RK.int IntKind.u8]) l') (And (And (List.length (K2T.r2 i_1) = List.length (K2T.r2 i_1)) (And (K2T.cap2 i_1 = K2T.cap2 i_1) (And ((0 : Nat) + (1 : Nat) ≤ (1 : Nat)) (And ((List.length (K2T.r2 i_1) + (1 : Nat)) * (24 : Nat) ≤ (150000000000000 : Nat)) (∀ cap2 : Nat, (∀ a_2 : List.length (K2T.r2 i_1) + (1 : Nat) ≤ cap2, (And (∃ i' : K2T ms bs, (And (And (List.length bs - K2T.i i' < List.length bs - K2T.i i_1) True) (And (And (SV.view y (1 : Nat) (Enc.enc EBl) bs = SV.view y (1 : Nat) (Enc.enc EBl) bs) (And ((↑(List.length bs) : Int) = (↑(List.length bs) : Int)) (And ((↑(K2T.i i') : Int) = IntKind.wrap IntKind.i64 ((↑(K2T.i i_1) : Int) + (1 : Int))) (And (And ((true : Bool) = true) ((0 : Nat) = (0 : Nat))) True)))) (And (And (And (SV.view x (9 : Nat) (Enc.enc EM) ms = SV.view x (9 : Nat) (Enc.enc EM) ms) (And (SV.view y (1 : Nat) (Enc.enc EBl) bs = SV.view y (1 : Nat) (Enc.enc EBl) bs) True)) (And ((true : Bool) = true) (And (And (And ((true : Bool) = true) (And (List.length (K2T.r i') = List.length (K2T.r i_1)) (K2T.cap i' = K2T.cap i_1))) (And (And ((true : Bool) = true) (And (List.length (K2T.r2 i') = List.length (K2T.r2 i_1 ++ castL (encRec [RK.sl (1 : Nat) [RK.int IntKind.u8]]) EBl (List.take (1 : Nat) (List.drop (0 : Nat) [Enc.of (encRec [RK.sl (1 : Nat) [RK.int IntKind.u8]]) ((x_1, l'), ())])))) (K2T.cap2 i' = cap2))) True)) (And ((true : Bool) = true) (And (And ((true : Bool) = true) (And (K2T.cap i' = K2T.cap i_1) (And (List.map (Enc.enc EM) (K2T.r i') = List.map (Enc.enc EM) (K2T.r i_1)) (∀ x_2 : MTy, (∀ a_3 : x_2 ∈ K2T.r i', (∀ s : SV, (∀ a_4 : s ∈ Enc.enc EM x_2, ((SV.isPure s : Bool) = (true))))))))) (And ((true : Bool) = true) (And (And ((true : Bool) = true) (And (K2T.cap2 i' = cap2) (And (List.map (Enc.enc EBl) (K2T.r2 i') = List.map (Enc.enc EBl) (K2T.r2 i_1 ++ castL (encRec [RK.sl (1 : Nat) [RK.int IntKind.u8]]) EBl (List.take (1 : Nat) (List.drop (0 : Nat) [Enc.of (encRec [RK.sl (1 : Nat) [RK.int IntKind.u8]]) ((x_1, l'), ())])))) (∀ x_2 : BTy, (∀ a_3 : x_2 ∈ K2T.r2 i', (∀ s : SV, (∀ a_4 : s ∈ Enc.enc EBl x_2, ((SV.isPure s : Bool) = (true))))))))) (And ((true : Bool) = true) True)))))))) ((true : Bool) = true))))) True))))))) True))) True)))))) True)))) (decide ((↑(K2T.i i_1) : Int) < (↑(List.length bs) : Int)))))))) (And ((0 : Int) ≤ (↑(K1T.i i) : Int)) (∃ hk : Int.toNat (↑(K1T.i i) : Int) < List.length ms, (And (And (∃ d : List Int, (And (List.map (RK.svs._f [RK.int IntKind.u8] ⟨⟨RK.sv._f (RK.int IntKind.u8) PUnit.unit, PUnit.unit⟩, RK.svs._f [] PUnit.unit, PUnit.unit⟩) (Prod.snd (Prod.fst (Prod.snd (Prod.snd (Prod.snd (Prod.snd (Prod.snd ms[Int.toNat (↑(K1T.i i) : Int)]))))))) = List.map eB d) (And (List.length d ≤ (100000000 : Nat)) (∀ y_1 : Value, (And (∃ l' : List (RK.TL [RK.int IntKind.u8]), (And (List.map eB d = List.map (RK.svs [RK.int IntKind.u8]) l') (And (And (List.length (K1T.r i) = List.length (K1T.r i)) (And (K1T.cap i = K1T.cap i) (And ((0 : Nat) + (1 : Nat) ≤ (1 : Nat)) (And ((List.length (K1T.r i) + (1 : Nat)) * (88 : Nat) ≤ (150000000000000 : Nat)) (∀ cap2 : Nat, (∀ a_1 : List.length (K1T.r i) + (1 : Nat) ≤ cap2, (And (∃ i' : K1T ms bs, (And (And (List.length ms - K1T.i i' < List.length ms - K1T.i i) True) (And (And (SV.view x (9 : Nat) (Enc.enc EM) ms = SV.view x (9 : Nat) (Enc.enc EM) ms) (And ((↑(List.length ms) : Int) = (↑(List.length ms) : Int)) (And ((↑(K1T.i i') : Int) = IntKind.wrap IntKind.i64 ((↑(K1T.i i) : Int) + (1 : Int))) (And (And ((true : Bool) = true) ((0 : Nat) = (0 : Nat))) (And (And ((true : Bool) = true) ((0 : Nat) = (0 : Nat))) True))))) (And (And (And (SV.view x (9 : Nat) (Enc.enc EM) ms = SV.view x (9 : Nat) (Enc.enc EM) ms) (And (SV.view y (1 : Nat) (Enc.enc EBl) bs = SV.view y (1 : Nat) (Enc.enc EBl) bs) True)) (And ((true : Bool) = true) (And (And (And ((true : Bool) = true) (And (List.length (K1T.r i') = List.length (K1T.r i ++ castL (encRec [RK.int IntKind.u64, RK.int IntKind.u64, RK.int IntKind.u64, RK.ints IntKind.u64 (4 : Nat), RK.int IntKind.u64, RK.sl (1 : Nat) [RK.int IntKind.u8]]) EM (List.take (1 : Nat) (List.drop (0 : Nat) [Enc.of (encRec [RK.int IntKind.u64, RK.int IntKind.u64, RK.int IntKind.u64, RK.ints IntKind.u64 (4 : Nat), RK.int IntKind.u64, RK.sl (1 : Nat) [RK.int IntKind.u8]]) (Prod.fst ms[Int.toNat (↑(K1T.i i) : Int)], Prod.fst (Prod.snd ms[Int.toNat (↑(K1T.i i) : Int)]), Prod.fst (Prod.snd (Prod.snd ms[Int.toNat (↑(K1T.i i) : Int)])), Prod.fst (Prod.snd (Prod.snd (Prod.snd ms[Int.toNat (↑(K1T.i i) : Int)]))), Prod.fst (Prod.snd (Prod.snd (Prod.snd (Prod.snd ms[Int.toNat (↑(K1T.i i) : Int)])))), (y_1, l'), ())])))) (K1T.cap i' = cap2))) (And (Value.slice none (0 : Nat) (0 : Nat) = Value.slice none (0 : Nat) (0 : Nat)) True)) (And ((true : Bool) = true) (And (And ((true : Bool) = true) (And (K1T.cap i' = cap2) (And (List.map (Enc.enc EM) (K1T.r i') = List.map (Enc.enc EM) (K1T.r i ++ castL (encRec [RK.int IntKind.u64, RK.int IntKind.u64, RK.int IntKind.u64, RK.ints IntKind.u64 (4 : Nat), RK.int IntKind.u64, RK.sl (1 : Nat) [RK.int IntKind.u8]]) EM (List.take (1 : Nat) (List.drop (0 : Nat) [Enc.of (encRec [RK.int IntKind.u64, RK.int IntKind.u64, RK.int IntKind.u64, RK.ints IntKind.u64 (4 : Nat), RK.int IntKind.u64, RK.sl (1 : Nat) [RK.int IntKind.u8]]) (Prod.fst ms[Int.toNat (↑(K1T.i i) : Int)], Prod.fst (Prod.snd ms[Int.toNat (↑(K1T.i i) : Int)]), Prod.fst (Prod.snd (Prod.snd ms[Int.toNat (↑(K1T.i i) : Int)])), Prod.fst (Prod.snd (Prod.snd (Prod.snd ms[Int.toNat (↑(K1T.i i) : Int)]))), Prod.fst (Prod.snd (Prod.snd (Prod.snd (Prod.snd ms[Int.toNat (↑(K1T.i i) : Int)])))), (y_1, l'), ())])))) (∀ x_1 : MTy, (∀ a_2 : x_1 ∈ K1T.r i', (∀ s : SV, (∀ a_3 : s ∈ Enc.enc EM x_1, ((SV.isPure s : Bool) = (true))))))))) (And ((true : Bool) = true) True)))))) ((true : Bool) = true))))) True))))))) True))) True))))) True) (And (∃ d : List Int, (And (List.map (RK.svs._f [RK.int IntKind.u8] ⟨⟨RK.sv._f (RK.int IntKind.u8) PUnit.unit, PUnit.unit⟩, RK.svs._f [] PUnit.unit, PUnit.unit⟩) (Prod.snd (Prod.fst (Prod.snd (Prod.snd (Prod.snd (Prod.snd (Prod.snd ms[Int.toNat (↑(K1T.i i) : Int)]))))))) = List.map eB d) (And (List.length d ≤ (100000000 : Nat)) (∀ y_1 : Value, (And (And (∃ l' : List (RK.TL [RK.int IntKind.u8]), (And (List.map eB d = List.map (RK.svs [RK.int IntKind.u8]) l') (And (And (List.length (K1T.r i) = List.length (K1T.r i)) (And (K1T.cap i = K1T.cap i) (And ((0 : Nat) + (1 : Nat) ≤ (1 : Nat)) (And ((List.length (K1T.r i) + (1 : Nat)) * (88 : Nat) ≤ (150000000000000 : Nat)) (∀ cap2 : Nat, (∀ a_1 : List.length (K1T.r i) + (1 : Nat) ≤ cap2, (And (∃ i' : K1T ms bs, (And (And (List.length ms - K1T.i i' < List.length ms - K1T.i i) True) (And (And (SV.view x (9 : Nat) (Enc.enc EM) ms = SV.view x (9 : Nat) (Enc.enc EM) ms) (And ((↑(List.length ms) : Int) = (↑(List.length ms) : Int)) (And ((↑(K1T.i i') : Int) = IntKind.wrap IntKind.i64 ((↑(K1T.i i) : Int) + (1 : Int))) (And (And ((true : Bool) = true) ((0 : Nat) = (0 : Nat))) (And (And ((true : Bool) = true) ((0 : Nat) = (0 : Nat))) True))))) (And (And (And (SV.view x (9 : Nat) (Enc.enc EM) ms = SV.view x (9 : Nat) (Enc.enc EM) ms) (And (SV.view y (1 : Nat) (Enc.enc EBl) bs = SV.view y (1 : Nat) (Enc.enc EBl) bs) True)) (And ((true : Bool) = true) (And (And (And ((true : Bool) = true) (And (List.length (K1T.r i') = List.length (K1T.r i ++ castL (encRec [RK.int IntKind.u64, RK.int IntKind.u64, RK.int IntKind.u64, RK.ints IntKind.u64 (4 : Nat), RK.int IntKind.u64, RK.sl (1 : Nat) [RK.int IntKind.u8]]) EM (List.take (1 : Nat) (List.drop (0 : Nat) [Enc.of (encRec [RK.int IntKind.u64, RK.int IntKind.u64, RK.int IntKind.u64, RK.ints IntKind.u64 (4 : Nat), RK.int IntKind.u64, RK.sl (1 : Nat) [RK.int IntKind.u8]]) (Prod.fst ms[Int.toNat (↑(K1T.i i) : Int)], Prod.fst (Prod.snd ms[Int.toNat (↑(K1T.i i) : Int)]), Prod.fst (Prod.snd (Prod.snd ms[Int.toNat (↑(K1T.i i) : Int)])), Prod.fst (Prod.snd (Prod.snd (Prod.snd ms[Int.toNat (↑(K1T.i i) : Int)]))), Prod.fst (Prod.snd (Prod.snd (Prod.snd (Prod.snd ms[Int.toNat (↑(K1T.i i) : Int)])))), (y_1, l'), ())])))) (K1T.cap i' = cap2))) (And (Value.slice none (0 : Nat) (0 : Nat) = Value.slice none (0 : Nat) (0 : Nat)) True)) (And ((true : Bool) = true) (And (And ((true : Bool) = true) (And (K1T.cap i' = cap2) (And (List.map (Enc.enc EM) (K1T.r i') = List.map (Enc.enc EM) (K1T.r i ++ castL (encRec [RK.int IntKind.u64, RK.int IntKind.u64, RK.int IntKind.u64, RK.ints IntKind.u64 (4 : Nat), RK.int IntKind.u64, RK.sl (1 : Nat) [RK.int IntKind.u8]]) EM (List.take (1 : Nat) (List.drop (0 : Nat) [Enc.of (encRec [RK.int IntKind.u64, RK.int IntKind.u64, RK.int IntKind.u64, RK.ints IntKind.u64 (4 : Nat), RK.int IntKind.u64, RK.sl (1 : Nat) [RK.int IntKind.u8]]) (Prod.fst ms[Int.toNat (↑(K1T.i i) : Int)], Prod.fst (Prod.snd ms[Int.toNat (↑(K1T.i i) : Int)]), Prod.fst (Prod.snd (Prod.snd ms[Int.toNat (↑(K1T.i i) : Int)])), Prod.fst (Prod.snd (Prod.snd (Prod.snd ms[Int.toNat (↑(K1T.i i) : Int)]))), Prod.fst (Prod.snd (Prod.snd (Prod.snd (Prod.snd ms[Int.toNat (↑(K1T.i i) : Int)])))), (y_1, l'), ())])))) (∀ x_1 : MTy, (∀ a_2 : x_1 ∈ K1T.r i', (∀ s : SV, (∀ a_3 : s ∈ Enc.enc EM x_1, ((SV.isPure s : Bool) = (true))))))))) (And ((true : Bool) = true) True)))))) ((true : Bool) = true))))) True))))))) True))) True) (And (∃ l' : List (RK.TL [RK.int IntKind.u8]), (And (List.map eB d = List.map (RK.svs [RK.int IntKind.u8]) l') (And (And (List.length (K1T.r i) = List.length (K1T.r i)) (And (K1T.cap i = K1T.cap i) (And ((0 : Nat) + (1 : Nat) ≤ (1 : Nat)) (And ((List.length (K1T.r i) + (1 : Nat)) * (88 : Nat) ≤ (150000000000000 : Nat)) (∀ cap2 : Nat, (∀ a_1 : List.length (K1T.r i) + (1 : Nat) ≤ cap2, (And (∃ i' : K1T ms bs, (And (And (List.length ms - K1T.i i' < List.length ms - K1T.i i) True) (And (And (SV.view x (9 : Nat) (Enc.enc EM) ms = SV.view x (9 : Nat) (Enc.enc EM) ms) (And ((↑(List.length ms) : Int) = (↑(List.length ms) : Int)) (And ((↑(K1T.i i') : Int) = IntKind.wrap IntKind.i64 ((↑(K1T.i i) : Int) + (1 : Int))) (And (And ((true : Bool) = true) ((0 : Nat) = (0 : Nat))) (And (And ((true : Bool) = true) ((0 : Nat) = (0 : Nat))) True))))) (And (And (And (SV.view x (9 : Nat) (Enc.enc EM) ms = SV.view x (9 : Nat) (Enc.enc EM) ms) (And (SV.view y (1 : Nat) (Enc.enc EBl) bs = SV.view y (1 : Nat) (Enc.enc EBl) bs) True)) (And ((true : Bool) = true) (And (And (And ((true : Bool) = true) (And (List.length (K1T.r i') = List.length (K1T.r i ++ castL (encRec [RK.int IntKind.u64, RK.int IntKind.u64, RK.int IntKind.u64, RK.ints IntKind.u64 (4 : Nat), RK.int IntKind.u64, RK.sl (1 : Nat) [RK.int IntKind.u8]]) EM (List.take (1 : Nat) (List.drop (0 : Nat) [Enc.of (encRec [RK.int IntKind.u64, RK.int IntKind.u64, RK.int IntKind.u64, RK.ints IntKind.u64 (4 : Nat), RK.int IntKind.u64, RK.sl (1 : Nat) [RK.int IntKind.u8]]) (Prod.fst ms[Int.toNat (↑(K1T.i i) : Int)], Prod.fst (Prod.snd ms[Int.toNat (↑(K1T.i i) : Int)]), Prod.fst (Prod.snd (Prod.snd ms[Int.toNat (↑(K1T.i i) : Int)])), Prod.fst (Prod.snd (Prod.snd (Prod.snd ms[Int.toNat (↑(K1T.i i) : Int)]))), Prod.fst (Prod.snd (Prod.snd (Prod.snd (Prod.snd ms[Int.toNat (↑(K1T.i i) : Int)])))), (y_1, l'), ())])))) (K1T.cap i' = cap2))) (And (Value.slice none (0 : Nat) (0 : Nat) = Value.slice none (0 : Nat) (0 : Nat)) True)) (And ((true : Bool) = true) (And (And ((true : Bool) = true) (And (K1T.cap i' = cap2) (And (List.map (Enc.enc EM) (K1T.r i') = List.map (Enc.enc EM) (K1T.r i ++ castL (encRec [RK.int IntKind.u64, RK.int IntKind.u64, RK.int IntKind.u64, RK.ints IntKind.u64 (4 : Nat), RK.int IntKind.u64, RK.sl (1 : Nat) [RK.int IntKind.u8]]) EM (List.take (1 : Nat) (List.drop (0 : Nat) [Enc.of (encRec [RK.int IntKind.u64, RK.int IntKind.u64, RK.int IntKind.u64, RK.ints IntKind.u64 (4 : Nat), RK.int IntKind.u64, RK.sl (1 : Nat) [RK.int IntKind.u8]]) (Prod.fst ms[Int.toNat (↑(K1T.i i) : Int)], Prod.fst (Prod.snd ms[Int.toNat (↑(K1T.i i) : Int)]), Prod.fst (Prod.snd (Prod.snd ms[Int.toNat (↑(K1T.i i) : Int)])), Prod.fst (Prod.snd (Prod.snd (Prod.snd ms[Int.toNat (↑(K1T.i i) : Int)]))), Prod.fst (Prod.snd (Prod.snd (Prod.snd (Prod.snd ms[Int.toNat (↑(K1T.i i) : Int)])))), (y_1, l'), ())])))) (∀ x_1 : MTy, (∀ a_2 : x_1 ∈ K1T.r i', (∀ s : SV, (∀ a_3 : s ∈ Enc.enc EM x_1, ((SV.isPure s : Bool) = (true))))))))) (And ((true : Bool) = true) True)))))) ((true : Bool) = true))))) True))))))) True))) True)))))) True)))) (decide ((↑(K1T.i i) : Int) < (↑(List.length ms) : Int))))))))) (by kernel_rfl) ?_
  have hst : ∀ {r : List MTy} {i : Nat} (hi : i < ms.length) (he : r.map ml = (ms.take i).map ml) (z : Value), (r ++ [mkM (ml ms[i]) z]).map ml = (ms.take (i + 1)).map ml := fun {r i} hi he z => by
    rw [List.map_append, he, List.take_add_one, List.getElem?_eq_getElem hi, List.map_append, List.map_cons, ml_mk]
    rfl
  have hst2 : ∀ {r : List BTy} {i : Nat} (hi : i < bs.length) (he : r.map bl = (bs.take i).map bl) (z : Value), (r ++ [mkB z (bl bs[i])]).map bl = (bs.take (i + 1)).map bl := fun {r i} hi he z => by
    rw [List.map_append, he, List.take_add_one, List.getElem?_eq_getElem hi, List.map_append, List.map_cons, bl_mk]
    rfl
  refine ⟨⟨0, 0, [], Nat.zero_le _, Nat.le_refl _, rfl⟩, ?_, ?_⟩
  ·
    repeat' first | exact fun x _ => Enc.pures EM x | exact fun x _ => Enc.pures EBl x | exact trivial | refine And.intro ?_ ?_ | with_reducible refine bif_dt (by assumption) ?_ | with_reducible refine bif_df (by assumption) ?_ | with_reducible refine bif_dec (fun _ => ?_) (fun _ => ?_) | with_reducible refine bif_not ?_ | with_reducible refine bif_and ?_ | with_reducible refine bif_or ?_ | with_reducible refine bif_t (by assumption) ?_ | with_reducible refine bif_f (by assumption) ?_ | with_reducible refine bif_t (beq_self_eq_true _) ?_ | with_reducible refine bif_b (fun _ => ?_) (fun _ => ?_) | with_reducible refine ⟨_, Eq.refl (List.map _ _), ?_⟩ | (with_reducible refine Exists.intro (by omega) ?_) | rfl | (intro h0; omega) | omega
  rintro ⟨i, cap, r, hi, hc, he⟩ -
  dsimp only
  refine bif_dec (fun g1 => ?_) (fun g1 => ?_)
  · have hi' : i < ms.length := by omega
    have hr := congrArg List.length he
    rw [List.length_map, List.length_map, List.length_take] at hr
    have hw : IntKind.i64.wrap ((i : Int) + 1) = ((i + 1 : Nat) : Int) := by rw [wrap64 (by omega) (by omega)]; rfl
    simp only [Int.toNat_natCast, hw]
    have hd := h3 _ (List.getElem_mem hi')
    repeat' first | exact fun x _ => Enc.pures EM x | exact fun x _ => Enc.pures EBl x | refine ⟨(ml ms[i]).d, (b1_enc _).symm, hd, fun z => ?_⟩ | refine ⟨mkL (ml ms[i]).d, encmk _, ?_⟩ | refine fun (cap2 : Nat) (k2 : r.length + 1 ≤ cap2) => ?_ | refine ⟨⟨i + 1, cap2, r ++ [mkM (ml ms[i]) z], hi', by rw [List.length_append]; exact k2, hst hi' he z⟩, ⟨show ms.length - (i + 1) < ms.length - i by omega, trivial⟩, ?_⟩ | exact congrArg (fun l => (r ++ l).length) (castM (mkM (ml ms[i]) z)).symm | exact congrArg (fun l => List.map EM.enc (r ++ l)) (castM (mkM (ml ms[i]) z)).symm | exact trivial | refine And.intro ?_ ?_ | with_reducible refine bif_dt (by assumption) ?_ | with_reducible refine bif_df (by assumption) ?_ | with_reducible refine bif_dec (fun _ => ?_) (fun _ => ?_) | with_reducible refine bif_not ?_ | with_reducible refine bif_and ?_ | with_reducible refine bif_or ?_ | with_reducible refine bif_t (by assumption) ?_ | with_reducible refine bif_f (by assumption) ?_ | with_reducible refine bif_t (beq_self_eq_true _) ?_ | with_reducible refine bif_b (fun _ => ?_) (fun _ => ?_) | with_reducible refine ⟨_, Eq.refl (List.map _ _), ?_⟩ | (with_reducible refine Exists.intro (by omega) ?_) | rfl | (intro h0; omega) | omega
  · have hil : i = ms.length := by omega
    subst hil
    rw [List.take_length] at he
    refine ⟨⟨cap, r, hc, he, 0, 0, [], Nat.zero_le _, Nat.le_refl _, rfl⟩, ?_, ?_⟩
    ·
      repeat' first | exact fun x _ => Enc.pures EM x | exact fun x _ => Enc.pures EBl x | exact trivial | refine And.intro ?_ ?_ | with_reducible refine bif_dt (by assumption) ?_ | with_reducible refine bif_df (by assumption) ?_ | with_reducible refine bif_dec (fun _ => ?_) (fun _ => ?_) | with_reducible refine bif_not ?_ | with_reducible refine bif_and ?_ | with_reducible refine bif_or ?_ | with_reducible refine bif_t (by assumption) ?_ | with_reducible refine bif_f (by assumption) ?_ | with_reducible refine bif_t (beq_self_eq_true _) ?_ | with_reducible refine bif_b (fun _ => ?_) (fun _ => ?_) | with_reducible refine ⟨_, Eq.refl (List.map _ _), ?_⟩ | (with_reducible refine Exists.intro (by omega) ?_) | rfl | (intro h0; omega) | omega
    clear hi hc he g1
    rintro ⟨cap, r, hc, he, i, cap2, r2, hi, hc2, he2⟩ -
    dsimp only
    refine bif_dec (fun g1 => ?_) (fun g1 => ?_)
    · have hi' : i < bs.length := by omega
      have hr := congrArg List.length he2
      rw [List.length_map, List.length_map, List.length_take] at hr
      have hw : IntKind.i64.wrap ((i : Int) + 1) = ((i + 1 : Nat) : Int) := by rw [wrap64 (by omega) (by omega)]; rfl
      simp only [Int.toNat_natCast, hw]
      have hd := h4 _ (List.getElem_mem hi')
      repeat' first | exact fun x _ => Enc.pures EM x | exact fun x _ => Enc.pures EBl x | refine ⟨bl bs[i], (b1_enc _).symm, hd, fun z => ?_⟩ | refine ⟨mkL (bl bs[i]), encmk _, ?_⟩ | refine fun (cap3 : Nat) (k3 : r2.length + 1 ≤ cap3) => ?_ | refine ⟨⟨cap, r, hc, he, i + 1, cap3, r2 ++ [mkB z (bl bs[i])], hi', by rw [List.length_append]; exact k3, hst2 hi' he2 z⟩, ⟨show bs.length - (i + 1) < bs.length - i by omega, trivial⟩, ?_⟩ | exact congrArg (fun l => (r2 ++ l).length) (castBl (mkB z (bl bs[i]))).symm | exact congrArg (fun l => List.map EBl.enc (r2 ++ l)) (castBl (mkB z (bl bs[i]))).symm | exact trivial | refine And.intro ?_ ?_ | with_reducible refine bif_dt (by assumption) ?_ | with_reducible refine bif_df (by assumption) ?_ | with_reducible refine bif_dec (fun _ => ?_) (fun _ => ?_) | with_reducible refine bif_not ?_ | with_reducible refine bif_and ?_ | with_reducible refine bif_or ?_ | with_reducible refine bif_t (by assumption) ?_ | with_reducible refine bif_f (by assumption) ?_ | with_reducible refine bif_t (beq_self_eq_true _) ?_ | with_reducible refine bif_b (fun _ => ?_) (fun _ => ?_) | with_reducible refine ⟨_, Eq.refl (List.map _ _), ?_⟩ | (with_reducible refine Exists.intro (by omega) ?_) | rfl | (intro h0; omega) | omega
    · have hil : i = bs.length := by omega
      subst hil
      rw [List.take_length] at he2
      exact ⟨Nat.le_refl _, hc, rfl, fun _ => rfl, fun x1 => ⟨Nat.le_refl _, hc2, rfl, fun _ => rfl, fun x2 => ⟨⟨x1, List.take r.length r, x2, List.take r2.length r2, by rw [List.take_length]; exact he, by rw [List.take_length]; exact he2⟩, ⟨⟨rfl, rfl, trivial⟩, trivial⟩, trivial, rfl⟩⟩⟩
def bcopiedT : MT := fun ms n h K => match ms with
  | [.agg [.view vx0 ve0 en0 vl0, .view vx1 ve1 en1 vl1]] => bif Nat.beq ve0 9 && Nat.beq ve1 1 && noDup [] then ∃ ms : List (MTy), vl0.map en0 = ms.map EM.enc ∧ ∃ bs : List (BTy), vl1.map en1 = bs.map EBl.enc ∧ ((ms.length ≤ 1000 ∧ bs.length ≤ 1000 ∧ (∀ m ∈ ms, (ml m).d.length ≤ 100000000) ∧ ∀ b ∈ bs, (bl b).length ≤ 100000000)) ∧ (∀ o : KcT ms bs, K (n + 0) (.agg (bkA o.x o.ms' o.y o.bs')) ([] ++ delL [] h)) else False
  | _ => False
theorem bcopied_mono : MMono bcopiedT := by
  intro ms n h K K' hkk hk
  unfold bcopiedT at hk ⊢
  split at hk
  · rename_i vx0 ve0 va0 en0 vl0 vx1 ve1 va1 en1 vl1
    obtain ⟨hb, y0, z0, y1, z1, h1, h2⟩ := cond_false_elim hk
    rw [hb]
    exact ⟨y0, z0, y1, z1, h1, fun o => hkk _ _ _ (h2 o)⟩
  · exact hk.elim
theorem bcopied_ok : MOK Try.prog 39 bcopiedT := by
  refine ⟨?_, bcopied_mono⟩
  intro ms n hB K hk
  unfold bcopiedT at hk
  split at hk
  · rename_i vx0 ve0 va0 en0 vl0 vx1 ve1 va1 en1 vl1
    obtain ⟨hb, ms, he0, bs, he1, h, hk2⟩ := cond_false_elim hk
    clear hk
    simp only [Bool.and_eq_true] at hb
    obtain ⟨⟨hc0, hc1⟩, hnd⟩ := hb
    have hs0 := Nat.eq_of_beq_eq_true hc0
    subst hs0
    have hs1 := Nat.eq_of_beq_eq_true hc1
    subst hs1
    refine SCall.seen ?_ (.cons (.agg (.view he0 (.view he1 .nil))) .nil)
    exact (bcopied_spec _ _ h.1 h.2.1 h.2.2.1 h.2.2.2).use (fun _ => 0) rfl rfl trivial (by exact hnd) (fun j hj => absurd hj (Nat.not_lt_zero j)) (fun o => hk2 o)
  · exact hk.elim

open Go Go.Sx

def okB (b : Blo) : Prop := b.1.length ≤ 8 ∧ b.2.length ≤ 8 ∧ (∀ m ∈ b.1, m.d.length ≤ 64) ∧ ∀ x ∈ b.2, x.length ≤ 4096
def blockB (L : List Blo) (n : Int) : Bool := decide (1 ≤ n) && decide (n ≤ L.length)
def blockF (L : List Blo) (n : Int) : Blo := if blockB L n = true then L.getD (n - 1).toNat ([], []) else ([], [])
structure BkT (b : Blo) where
  x : Value
  ms : List MTy
  y : Value
  bs : List BTy
  hm : ms.map ml = b.1
  hb : bs.map bl = b.2
theorem block_spec (n : Int) {x : IB} (i : IBT x) (h : ∀ b ∈ x.L, okB b) (hl : x.L.length ≤ 4096) : SMem Try.prog 27 [.one (.ptr 0 0), int n] 4 (inH i.L i.cp i.ms i.bs x.N)
    (fun o : BkT (blockF x.L n) => ⟨4, .tup [.agg (bkA o.x o.ms o.y o.bs), bool (blockB x.L n)], inH i.L i.cp i.ms i.bs x.N⟩) := by
  refine SMem.inc BkF [] SOK.nil [(39, bcopiedT)] (MSOK.cons bcopied_ok MSOK.nil) tok mixed [(31, ⟨Try.f31, true, [], []⟩)] (IOK.cons Try.func31 Try.call31 IOK.nil) true [] [] Try.call27 Try.func27 rfl (by rfl) ?_
  refine Eq.mp (α := (@Bool.rec (fun _ => Prop) (@Bool.rec (fun _ => Prop) (And ((0 : Int) ≤ IntKind.wrap IntKind.i64 (n - (1 : Int))) (And (Int.toNat (IntKind.wrap IntKind.i64 (n - (1 : Int))) < List.length (IBT.L i)) (∃ hi : Int.toNat (IntKind.wrap IntKind.i64 (n - (1 : Int))) < List.length (IBT.L i), (∃ ms : List MTy, (And (List.map (RK.svs._f [RK.int IntKind.u64, RK.int IntKind.u64, RK.int IntKind.u64, RK.ints IntKind.u64 (4 : Nat), RK.int IntKind.u64, RK.sl (1 : Nat) [RK.int IntKind.u8]] ⟨⟨RK.sv._f (RK.int IntKind.u64) PUnit.unit, PUnit.unit⟩, RK.svs._f [RK.int IntKind.u64, RK.int IntKind.u64, RK.ints IntKind.u64 (4 : Nat), RK.int IntKind.u64, RK.sl (1 : Nat) [RK.int IntKind.u8]] ⟨⟨RK.sv._f (RK.int IntKind.u64) PUnit.unit, PUnit.unit⟩, RK.svs._f [RK.int IntKind.u64, RK.ints IntKind.u64 (4 : Nat), RK.int IntKind.u64, RK.sl (1 : Nat) [RK.int IntKind.u8]] ⟨⟨RK.sv._f (RK.int IntKind.u64) PUnit.unit, PUnit.unit⟩, RK.svs._f [RK.ints IntKind.u64 (4 : Nat), RK.int IntKind.u64, RK.sl (1 : Nat) [RK.int IntKind.u8]] ⟨⟨RK.sv._f (RK.ints IntKind.u64 (4 : Nat)) PUnit.unit, PUnit.unit⟩, RK.svs._f [RK.int IntKind.u64, RK.sl (1 : Nat) [RK.int IntKind.u8]] ⟨⟨RK.sv._f (RK.int IntKind.u64) PUnit.unit, PUnit.unit⟩, RK.svs._f [RK.sl (1 : Nat) [RK.int IntKind.u8]] ⟨⟨RK.sv._f (RK.sl (1 : Nat) [RK.int IntKind.u8]) ⟨RK.svs._f [RK.int IntKind.u8] ⟨⟨RK.sv._f (RK.int IntKind.u8) PUnit.unit, PUnit.unit⟩, RK.svs._f [] PUnit.unit, PUnit.unit⟩, ⟨RK.sv._f (RK.int IntKind.u8) PUnit.unit, PUnit.unit⟩, RK.svs._f [] PUnit.unit, PUnit.unit⟩, RK.svs._f [RK.int IntKind.u8] ⟨⟨RK.sv._f (RK.int IntKind.u8) PUnit.unit, PUnit.unit⟩, RK.svs._f [] PUnit.unit, PUnit.unit⟩, ⟨RK.sv._f (RK.int IntKind.u8) PUnit.unit, PUnit.unit⟩, RK.svs._f [] PUnit.unit, PUnit.unit⟩, RK.svs._f [] PUnit.unit, PUnit.unit⟩, ⟨RK.sv._f (RK.sl (1 : Nat) [RK.int IntKind.u8]) ⟨RK.svs._f [RK.int IntKind.u8] ⟨⟨RK.sv._f (RK.int IntKind.u8) PUnit.unit, PUnit.unit⟩, RK.svs._f [] PUnit.unit, PUnit.unit⟩, ⟨RK.sv._f (RK.int IntKind.u8) PUnit.unit, PUnit.unit⟩, RK.svs._f [] PUnit.unit, PUnit.unit⟩, RK.svs._f [RK.int IntKind.u8] ⟨⟨RK.sv._f (RK.int IntKind.u8) PUnit.unit, PUnit.unit⟩, RK.svs._f [] PUnit.unit, PUnit.unit⟩, ⟨RK.sv._f (RK.int IntKind.u8) PUnit.unit, PUnit.unit⟩, RK.svs._f [] PUnit.unit, PUnit.unit⟩, RK.svs._f [] PUnit.unit, PUnit.unit⟩, ⟨RK.sv._f (RK.int IntKind.u64) PUnit.unit, PUnit.unit⟩, RK.svs._f [RK.sl (1 : Nat) [RK.int IntKind.u8]] ⟨⟨RK.sv._f (RK.sl (1 : Nat) [RK.int IntKind.u8]) ⟨RK.svs._f [RK.int IntKind.u8] ⟨⟨RK.sv._f (RK.int IntKind.u8) PUnit.unit, PUnit.unit⟩, RK.svs._f [] PUnit.unit, PUnit.unit⟩, ⟨RK.sv._f (RK.int IntKind.u8) PUnit.unit, PUnit.unit⟩, RK.svs._f [] PUnit.unit, PUnit.unit⟩, RK.svs._f [RK.int IntKind.u8] ⟨⟨RK.sv._f (RK.int IntKind.u8) PUnit.unit, PUnit.unit⟩, RK.svs._f [] PUnit.unit, PUnit.unit⟩, ⟨RK.sv._f (RK.int IntKind.u8) PUnit.unit, PUnit.unit⟩, RK.svs._f [] PUnit.unit, PUnit.unit⟩, RK.svs._f [] PUnit.unit, PUnit.unit⟩, ⟨RK.sv._f (RK.sl (1 : Nat) [RK.int IntKind.u8]) ⟨RK.svs._f [RK.int IntKind.u8] ⟨⟨RK.sv._f (RK.int IntKind.u8) PUnit.unit, PUnit.unit⟩, RK.svs._f [] PUnit.unit, PUnit.unit⟩, ⟨RK.sv._f (RK.int IntKind.u8) PUnit.unit, PUnit.unit⟩, RK.svs._f [] PUnit.unit, PUnit.unit⟩, RK.svs._f [RK.int IntKind.u8] ⟨⟨RK.sv._f (RK.int IntKind.u8) PUnit.unit, PUnit.unit⟩, RK.svs._f [] PUnit.unit, PUnit.unit⟩, ⟨RK.sv._f (RK.int IntKind.u8) PUnit.unit, PUnit.unit⟩, RK.svs._f [] PUnit.unit, PUnit.unit⟩, RK.svs._f [] PUnit.unit, PUnit.unit⟩, ⟨RK.sv._f (RK.ints IntKind.u64 (4 : Nat)) PUnit.unit, PUnit.unit⟩, RK.svs._f [RK.int IntKind.u64, RK.sl (1 : Nat) [RK.int IntKind.u8]] ⟨⟨RK.sv._f (RK.int IntKind.u64) PUnit.unit, PUnit.unit⟩, RK.svs._f [RK.sl (1 : Nat) [RK.int IntKind.u8]] ⟨⟨RK.sv._f (RK.sl (1 : Nat) [RK.int IntKind.u8]) ⟨RK.svs._f [RK.int IntKind.u8] ⟨⟨RK.sv._f (RK.int IntKind.u8) PUnit.unit, PUnit.unit⟩, RK.svs._f [] PUnit.unit, PUnit.unit⟩, ⟨RK.sv._f (RK.int IntKind.u8) PUnit.unit, PUnit.unit⟩, RK.svs._f [] PUnit.unit, PUnit.unit⟩, RK.svs._f [RK.int IntKind.u8] ⟨⟨RK.sv._f (RK.int IntKind.u8) PUnit.unit, PUnit.unit⟩, RK.svs._f [] PUnit.unit, PUnit.unit⟩, ⟨RK.sv._f (RK.int IntKind.u8) PUnit.unit, PUnit.unit⟩, RK.svs._f [] PUnit.unit, PUnit.unit⟩, RK.svs._f [] PUnit.unit, PUnit.unit⟩, ⟨RK.sv._f (RK.sl (1 : Nat) [RK.int IntKind.u8]) ⟨RK.svs._f [RK.int IntKind.u8] ⟨⟨RK.sv._f (RK.int IntKind.u8) PUnit.unit, PUnit.unit⟩, RK.svs._f [] PUnit.unit, PUnit.unit⟩, ⟨RK.sv._f (RK.int IntKind.u8) PUnit.unit, PUnit.unit⟩, RK.svs._f [] PUnit.unit, PUnit.unit⟩, RK.svs._f [RK.int IntKind.u8] ⟨⟨RK.sv._f (RK.int IntKind.u8) PUnit.unit, PUnit.unit⟩, RK.svs._f [] PUnit.unit, PUnit.unit⟩, ⟨RK.sv._f (RK.int IntKind.u8) PUnit.unit, PUnit.unit⟩, RK.svs._f [] PUnit.unit, PUnit.unit⟩, RK.svs._f [] PUnit.unit, PUnit.unit⟩, ⟨RK.sv._f (RK.int IntKind.u64) PUnit.unit, PUnit.unit⟩, RK.svs._f [RK.sl (1 : Nat) [RK.int IntKind.u8]] ⟨⟨RK.sv._f (RK.sl (1 : Nat) [RK.int IntKind.u8]) ⟨RK.svs._f [RK.int IntKind.u8] ⟨⟨RK.sv._f (RK.int IntKind.u8) PUnit.unit, PUnit.unit⟩, RK.svs._f [] PUnit.unit, PUnit.unit⟩, ⟨RK.sv._f (RK.int IntKind.u8) PUnit.unit, PUnit.unit⟩, RK.svs._f [] PUnit.unit, PUnit.unit⟩, RK.svs._f [RK.int IntKind.u8] ⟨⟨RK.sv._f (RK.int IntKind.u8) PUnit.unit, PUnit.unit⟩, RK.svs._f [] PUnit.unit, PUnit.unit⟩, ⟨RK.sv._f (RK.int IntKind.u8) PUnit.unit, PUnit.unit⟩, RK.svs._f [] PUnit.unit, PUnit.unit⟩, RK.svs._f [] PUnit.unit, PUnit.unit⟩, ⟨RK.sv._f (RK.sl (1 : Nat) [RK.int IntKind.u8]) ⟨RK.svs._f [RK.int IntKind.u8] ⟨⟨RK.sv._f (RK.int IntKind.u8) PUnit.unit, PUnit.unit⟩, RK.svs._f [] PUnit.unit, PUnit.unit⟩, ⟨RK.sv._f (RK.int IntKind.u8) PUnit.unit, PUnit.unit⟩, RK.svs._f [] PUnit.unit, PUnit.unit⟩, RK.svs._f [RK.int IntKind.u8] ⟨⟨RK.sv._f (RK.int IntKind.u8) PUnit.unit, PUnit.unit⟩, RK.svs._f [] PUnit.unit, PUnit.unit⟩, ⟨RK.sv._f (RK.int IntKind.u8) PUnit.unit, PUnit.unit⟩, RK.svs._f [] PUnit.unit, PUnit.unit⟩, RK.svs._f [] PUnit.unit, PUnit.unit⟩, ⟨RK.sv._f (RK.int IntKind.u64) PUnit.unit, PUnit.unit⟩, RK.svs._f [RK.ints IntKind.u64 (4 : Nat), RK.int IntKind.u64, RK.sl (1 : Nat) [RK.int IntKind.u8]] ⟨⟨RK.sv._f (RK.ints IntKind.u64 (4 : Nat)) PUnit.unit, PUnit.unit⟩, RK.svs._f [RK.int IntKind.u64, RK.sl (1 : Nat) [RK.int IntKind.u8]] ⟨⟨RK.sv._f (RK.int IntKind.u64) PUnit.unit, PUnit.unit⟩, RK.svs._f [RK.sl (1 : Nat) [RK.int IntKind.u8]] ⟨⟨RK.sv._f (RK.sl (1 : Nat) [RK.int IntKind.u8]) ⟨RK.svs._f [RK.int IntKind.u8] ⟨⟨RK.sv._f (RK.int IntKind.u8) PUnit.unit, PUnit.unit⟩, RK.svs._f [] PUnit.unit, PUnit.unit⟩, ⟨RK.sv._f (RK.int IntKind.u8) PUnit.unit, PUnit.unit⟩, RK.svs._f [] PUnit.unit, PUnit.unit⟩, RK.svs._f [RK.int IntKind.u8] ⟨⟨RK.sv._f (RK.int IntKind.u8) PUnit.unit, PUnit.unit⟩, RK.svs._f [] PUnit.unit, PUnit.unit⟩, ⟨RK.sv._f (RK.int IntKind.u8) PUnit.unit, PUnit.unit⟩, RK.svs._f [] PUnit.unit, PUnit.unit⟩, RK.svs._f [] PUnit.unit, PUnit.unit⟩, ⟨RK.sv._f (RK.sl (1 : Nat) [RK.int IntKind.u8]) ⟨RK.svs._f [RK.int IntKind.u8] ⟨⟨RK.sv._f (RK.int IntKind.u8) PUnit.unit, PUnit.unit⟩, RK.svs._f [] PUnit.unit, PUnit.unit⟩, ⟨RK.sv._f (RK.int IntKind.u8) PUnit.unit, PUnit.unit⟩, RK.svs._f [] PUnit.unit, PUnit.unit⟩, RK.svs._f [RK.int IntKind.u8] ⟨⟨RK.sv._f (RK.int IntKind.u8) PUnit.unit, PUnit.unit⟩, RK.svs._f [] PUnit.unit, PUnit.unit⟩, ⟨RK.sv._f (RK.int IntKind.u8) PUnit.unit, PUnit.unit⟩, RK.svs._f [] PUnit.unit, PUnit.unit⟩, RK.svs._f [] PUnit.unit, PUnit.unit⟩, ⟨RK.sv._f (RK.int IntKind.u64) PUnit.unit, PUnit.unit⟩, RK.svs._f [RK.sl (1 : Nat) [RK.int IntKind.u8]] ⟨⟨RK.sv._f (RK.sl (1 : Nat) [RK.int IntKind.u8]) ⟨RK.svs._f [RK.int IntKind.u8] ⟨⟨RK.sv._f (RK.int IntKind.u8) PUnit.unit, PUnit.unit⟩, RK.svs._f [] PUnit.unit, PUnit.unit⟩, ⟨RK.sv._f (RK.int IntKind.u8) PUnit.unit, PUnit.unit⟩, RK.svs._f [] PUnit.unit, PUnit.unit⟩, RK.svs._f [RK.int IntKind.u8] ⟨⟨RK.sv._f (RK.int IntKind.u8) PUnit.unit, PUnit.unit⟩, RK.svs._f [] PUnit.unit, PUnit.unit⟩, ⟨RK.sv._f (RK.int IntKind.u8) PUnit.unit, PUnit.unit⟩, RK.svs._f [] PUnit.unit, PUnit.unit⟩, RK.svs._f [] PUnit.unit, PUnit.unit⟩, ⟨RK.sv._f (RK.sl (1 : Nat) [RK.int IntKind.u8]) ⟨RK.svs._f [RK.int IntKind.u8] ⟨⟨RK.sv._f (RK.int IntKind.u8) PUnit.unit, PUnit.unit⟩, RK.svs._f [] PUnit.unit, PUnit.unit⟩, ⟨RK.sv._f (RK.int IntKind.u8) PUnit.unit, PUnit.unit⟩, RK.svs._f [] PUnit.unit, PUnit.unit⟩, RK.svs._f [RK.int IntKind.u8] ⟨⟨RK.sv._f (RK.int IntKind.u8) PUnit.unit, PUnit.unit⟩, RK.svs._f [] PUnit.unit, PUnit.unit⟩, ⟨RK.sv._f (RK.int IntKind.u8) PUnit.unit, PUnit.unit⟩, RK.svs._f [] PUnit.unit, PUnit.unit⟩, RK.svs._f [] PUnit.unit, PUnit.unit⟩, ⟨RK.sv._f (RK.ints IntKind.u64 (4 : Nat)) PUnit.unit, PUnit.unit⟩, RK.svs._f [RK.int IntKind.u64, RK.sl (1 : Nat) [RK.int IntKind.u8]] ⟨⟨RK.sv._f (RK.int IntKind.u64) PUnit.unit, PUnit.unit⟩, RK.svs._f [RK.sl (1 : Nat) [RK.int IntKind.u8]] ⟨⟨RK.sv._f (RK.sl (1 : Nat) [RK.int IntKind.u8]) ⟨RK.svs._f [RK.int IntKind.u8] ⟨⟨RK.sv._f (RK.int IntKind.u8) PUnit.unit, PUnit.unit⟩, RK.svs._f [] PUnit.unit, PUnit.unit⟩, ⟨RK.sv._f (RK.int IntKind.u8) PUnit.unit, PUnit.unit⟩, RK.svs._f [] PUnit.unit, PUnit.unit⟩, RK.svs._f [RK.int IntKind.u8] ⟨⟨RK.sv._f (RK.int IntKind.u8) PUnit.unit, PUnit.unit⟩, RK.svs._f [] PUnit.unit, PUnit.unit⟩, ⟨RK.sv._f (RK.int IntKind.u8) PUnit.unit, PUnit.unit⟩, RK.svs._f [] PUnit.unit, PUnit.unit⟩, RK.svs._f [] PUnit.unit, PUnit.unit⟩, ⟨RK.sv._f (RK.sl (1 : Nat) [RK.int IntKind.u8]) ⟨RK.svs._f [RK.int IntKind.u8] ⟨⟨RK.sv._f (RK.int IntKind.u8) PUnit.unit, PUnit.unit⟩, RK.svs._f [] PUnit.unit, PUnit.unit⟩, ⟨RK.sv._f (RK.int IntKind.u8) PUnit.unit, PUnit.unit⟩, RK.svs._f [] PUnit.unit, PUnit.unit⟩, RK.svs._f [RK.int IntKind.u8] ⟨⟨RK.sv._f (RK.int IntKind.u8) PUnit.unit, PUnit.unit⟩, RK.svs._f [] PUnit.unit, PUnit.unit⟩, ⟨RK.sv._f (RK.int IntKind.u8) PUnit.unit, PUnit.unit⟩, RK.svs._f [] PUnit.unit, PUnit.unit⟩, RK.svs._f [] PUnit.unit, PUnit.unit⟩, ⟨RK.sv._f (RK.int IntKind.u64) PUnit.unit, PUnit.unit⟩, RK.svs._f [RK.sl (1 : Nat) [RK.int IntKind.u8]] ⟨⟨RK.sv._f (RK.sl (1 : Nat) [RK.int IntKind.u8]) ⟨RK.svs._f [RK.int IntKind.u8] ⟨⟨RK.sv._f (RK.int IntKind.u8) PUnit.unit, PUnit.unit⟩, RK.svs._f [] PUnit.unit, PUnit.unit⟩, ⟨RK.sv._f (RK.int IntKind.u8) PUnit.unit, PUnit.unit⟩, RK.svs._f [] PUnit.unit, PUnit.unit⟩, RK.svs._f [RK.int IntKind.u8] ⟨⟨RK.sv._f (RK.int IntKind.u8) PUnit.unit, PUnit.unit⟩, RK.svs._f [] PUnit.unit, PUnit.unit⟩, ⟨RK.sv._f (RK.int IntKind.u8) PUnit.unit, PUnit.unit⟩, RK.svs._f [] PUnit.unit, PUnit.unit⟩, RK.svs._f [] PUnit.unit, PUnit.unit⟩, ⟨RK.sv._f (RK.sl (1 : Nat) [RK.int IntKind.u8]) ⟨RK.svs._f [RK.int IntKind.u8] ⟨⟨RK.sv._f (RK.int IntKind.u8) PUnit.unit, PUnit.unit⟩, RK.svs._f [] PUnit.unit, PUnit.unit⟩, ⟨RK.sv._f (RK.int IntKind.u8) PUnit.unit, PUnit.unit⟩, RK.svs._f [] PUnit.unit, PUnit.unit⟩, RK.svs._f [RK.int IntKind.u8] ⟨⟨RK.sv._f (RK.int IntKind.u8) PUnit.unit, PUnit.unit⟩, RK.svs._f [] PUnit.unit, PUnit.unit⟩, ⟨RK.sv._f (RK.int IntKind.u8) PUnit.unit, PUnit.unit⟩, RK.svs._f [] PUnit.unit, PUnit.unit⟩, RK.svs._f [] PUnit.unit, PUnit.unit⟩, ⟨RK.sv._f (RK.int IntKind.u64) PUnit.unit, PUnit.unit⟩, RK.svs._f [RK.int IntKind.u64, RK.ints IntKind.u64 (4 : Nat), RK.int IntKind.u64, RK.sl (1 : Nat) [RK.int IntKind.u8]] ⟨⟨RK.sv._f (RK.int IntKind.u64) PUnit.unit, PUnit.unit⟩, RK.svs._f [RK.ints IntKind.u64 (4 : Nat), RK.int IntKind.u64, RK.sl (1 : Nat) [RK.int IntKind.u8]] ⟨⟨RK.sv._f (RK.ints IntKind.u64 (4 : Nat)) PUnit.unit, PUnit.unit⟩, RK.svs._f [RK.int IntKind.u64, RK.sl (1 : Nat) [RK.int IntKind.u8]] ⟨⟨RK.sv._f (RK.int IntKind.u64) PUnit.unit, PUnit.unit⟩, RK.svs._f [RK.sl (1 : Nat) [RK.int IntKind.u8]] ⟨⟨RK.sv._f (RK.sl (1 : Nat) [RK.int IntKind.u8]) ⟨RK.svs._f [RK.int IntKind.u8] ⟨⟨RK.sv._f (RK.int IntKind.u8) PUnit.unit, PUnit.unit⟩, RK.svs._f [] PUnit.unit, PUnit.unit⟩, ⟨RK.sv._f (RK.int IntKind.u8) PUnit.unit, PUnit.unit⟩, RK.svs._f [] PUnit.unit, PUnit.unit⟩, RK.svs._f [RK.int IntKind.u8] ⟨⟨RK.sv._f (RK.int IntKind.u8) PUnit.unit, PUnit.unit⟩, RK.svs._f [] PUnit.unit, PUnit.unit⟩, ⟨RK.sv._f (RK.int IntKind.u8) PUnit.unit, PUnit.unit⟩, RK.svs._f [] PUnit.unit, PUnit.unit⟩, RK.svs._f [] PUnit.unit, PUnit.unit⟩, ⟨RK.sv._f (RK.sl (1 : Nat) [RK.int IntKind.u8]) ⟨RK.svs._f [RK.int IntKind.u8] ⟨⟨RK.sv._f (RK.int IntKind.u8) PUnit.unit, PUnit.unit⟩, RK.svs._f [] PUnit.unit, PUnit.unit⟩, ⟨RK.sv._f (RK.int IntKind.u8) PUnit.unit, PUnit.unit⟩, RK.svs._f [] PUnit.unit, PUnit.unit⟩, RK.svs._f [RK.int IntKind.u8] ⟨⟨RK.sv._f (RK.int IntKind.u8) PUnit.unit, PUnit.unit⟩, RK.svs._f [] PUnit.unit, PUnit.unit⟩, ⟨RK.sv._f (RK.int IntKind.u8) PUnit.unit, PUnit.unit⟩, RK.svs._f [] PUnit.unit, PUnit.unit⟩, RK.svs._f [] PUnit.unit, PUnit.unit⟩, ⟨RK.sv._f (RK.int IntKind.u64) PUnit.unit, PUnit.unit⟩, RK.svs._f [RK.sl (1 : Nat) [RK.int IntKind.u8]] ⟨⟨RK.sv._f (RK.sl (1 : Nat) [RK.int IntKind.u8]) ⟨RK.svs._f [RK.int IntKind.u8] ⟨⟨RK.sv._f (RK.int IntKind.u8) PUnit.unit, PUnit.unit⟩, RK.svs._f [] PUnit.unit, PUnit.unit⟩, ⟨RK.sv._f (RK.int IntKind.u8) PUnit.unit, PUnit.unit⟩, RK.svs._f [] PUnit.unit, PUnit.unit⟩, RK.svs._f [RK.int IntKind.u8] ⟨⟨RK.sv._f (RK.int IntKind.u8) PUnit.unit, PUnit.unit⟩, RK.svs._f [] PUnit.unit, PUnit.unit⟩, ⟨RK.sv._f (RK.int IntKind.u8) PUnit.unit, PUnit.unit⟩, RK.svs._f [] PUnit.unit, PUnit.unit⟩, RK.svs._f [] PUnit.unit, PUnit.unit⟩, ⟨RK.sv._f (RK.sl (1 : Nat) [RK.int IntKind.u8]) ⟨RK.svs._f [RK.int IntKind.u8] ⟨⟨RK.sv._f (RK.int IntKind.u8) PUnit.unit, PUnit.unit⟩, RK.svs._f [] PUnit.unit, PUnit.unit⟩, ⟨RK.sv._f (RK.int IntKind.u8) PUnit.unit, PUnit.unit⟩, RK.svs._f [] PUnit.unit, PUnit.unit⟩, RK.svs._f [RK.int IntKind.u8] ⟨⟨RK.sv._f (RK.int IntKind.u8) PUnit.unit, PUnit.unit⟩, RK.svs._f [] PUnit.unit, PUnit.unit⟩, ⟨RK.sv._f (RK.int IntKind.u8) PUnit.unit, PUnit.unit⟩, RK.svs._f [] PUnit.unit, PUnit.unit⟩, RK.svs._f [] PUnit.unit, PUnit.unit⟩, ⟨RK.sv._f (RK.ints IntKind.u64 (4 : Nat)) PUnit.unit, PUnit.unit⟩, RK.svs._f [RK.int IntKind.u64, RK.sl (1 : Nat) [RK.int IntKind.u8]] ⟨⟨RK.sv._f (RK.int IntKind.u64) PUnit.unit, PUnit.unit⟩, RK.svs._f [RK.sl (1 : Nat) [RK.int IntKind.u8]] ⟨⟨RK.sv._f (RK.sl (1 : Nat) [RK.int IntKind.u8]) ⟨RK.svs._f [RK.int IntKind.u8] ⟨⟨RK.sv._f (RK.int IntKind.u8) PUnit.unit, PUnit.unit⟩, RK.svs._f [] PUnit.unit, PUnit.unit⟩, ⟨RK.sv._f (RK.int IntKind.u8) PUnit.unit, PUnit.unit⟩, RK.svs._f [] PUnit.unit, PUnit.unit⟩, RK.svs._f [RK.int IntKind.u8] ⟨⟨RK.sv._f (RK.int IntKind.u8) PUnit.unit, PUnit.unit⟩, RK.svs._f [] PUnit.unit, PUnit.unit⟩, ⟨RK.sv._f (RK.int IntKind.u8) PUnit.unit, PUnit.unit⟩, RK.svs._f [] PUnit.unit, PUnit.unit⟩, RK.svs._f [] PUnit.unit, PUnit.unit⟩, ⟨RK.sv._f (RK.sl (1 : Nat) [RK.int IntKind.u8]) ⟨RK.svs._f [RK.int IntKind.u8] ⟨⟨RK.sv._f (RK.int IntKind.u8) PUnit.unit, PUnit.unit⟩, RK.svs._f [] PUnit.unit, PUnit.unit⟩, ⟨RK.sv._f (RK.int IntKind.u8) PUnit.unit, PUnit.unit⟩, RK.svs._f [] PUnit.unit, PUnit.unit⟩, RK.svs._f [RK.int IntKind.u8] ⟨⟨RK.sv._f (RK.int IntKind.u8) PUnit.unit, PUnit.unit⟩, RK.svs._f [] PUnit.unit, PUnit.unit⟩, ⟨RK.sv._f (RK.int IntKind.u8) PUnit.unit, PUnit.unit⟩, RK.svs._f [] PUnit.unit, PUnit.unit⟩, RK.svs._f [] PUnit.unit, PUnit.unit⟩, ⟨RK.sv._f (RK.int IntKind.u64) PUnit.unit, PUnit.unit⟩, RK.svs._f [RK.sl (1 : Nat) [RK.int IntKind.u8]] ⟨⟨RK.sv._f (RK.sl (1 : Nat) [RK.int IntKind.u8]) ⟨RK.svs._f [RK.int IntKind.u8] ⟨⟨RK.sv._f (RK.int IntKind.u8) PUnit.unit, PUnit.unit⟩, RK.svs._f [] PUnit.unit, PUnit.unit⟩, ⟨RK.sv._f (RK.int IntKind.u8) PUnit.unit, PUnit.unit⟩, RK.svs._f [] PUnit.unit, PUnit.unit⟩, RK.svs._f [RK.int IntKind.u8] ⟨⟨RK.sv._f (RK.int IntKind.u8) PUnit.unit, PUnit.unit⟩, RK.svs._f [] PUnit.unit, PUnit.unit⟩, ⟨RK.sv._f (RK.int IntKind.u8) PUnit.unit, PUnit.unit⟩, RK.svs._f [] PUnit.unit, PUnit.unit⟩, RK.svs._f [] PUnit.unit, PUnit.unit⟩, ⟨RK.sv._f (RK.sl (1 : Nat) [RK.int IntKind.u8]) ⟨RK.svs._f [RK.int IntKind.u8] ⟨⟨RK.sv._f (RK.int IntKind.u8) PUnit.unit, PUnit.unit⟩, RK.svs._f [] PUnit.unit, PUnit.unit⟩, ⟨RK.sv._f (RK.int IntKind.u8) PUnit.unit, PUnit.unit⟩, RK.svs._f [] PUnit.unit, PUnit.unit⟩, RK.svs._f [RK.int IntKind.u8] ⟨⟨RK.sv._f (RK.int IntKind.u8) PUnit.unit, PUnit.unit⟩, RK.svs._f [] PUnit.unit, PUnit.unit⟩, ⟨RK.sv._f (RK.int IntKind.u8) PUnit.unit, PUnit.unit⟩, RK.svs._f [] PUnit.unit, PUnit.unit⟩, RK.svs._f [] PUnit.unit, PUnit.unit⟩, ⟨RK.sv._f (RK.int IntKind.u64) PUnit.unit, PUnit.unit⟩, RK.svs._f [RK.ints IntKind.u64 (4 : Nat), RK.int IntKind.u64, RK.sl (1 : Nat) [RK.int IntKind.u8]] ⟨⟨RK.sv._f (RK.ints IntKind.u64 (4 : Nat)) PUnit.unit, PUnit.unit⟩, RK.svs._f [RK.int IntKind.u64, RK.sl (1 : Nat) [RK.int IntKind.u8]] ⟨⟨RK.sv._f (RK.int IntKind.u64) PUnit.unit, PUnit.unit⟩, RK.svs._f [RK.sl (1 : Nat) [RK.int IntKind.u8]] ⟨⟨RK.sv._f (RK.sl (1 : Nat) [RK.int IntKind.u8]) ⟨RK.svs._f [RK.int IntKind.u8] ⟨⟨RK.sv._f (RK.int IntKind.u8) PUnit.unit, PUnit.unit⟩, RK.svs._f [] PUnit.unit, PUnit.unit⟩, ⟨RK.sv._f (RK.int IntKind.u8) PUnit.unit, PUnit.unit⟩, RK.svs._f [] PUnit.unit, PUnit.unit⟩, RK.svs._f [RK.int IntKind.u8] ⟨⟨RK.sv._f (RK.int IntKind.u8) PUnit.unit, PUnit.unit⟩, RK.svs._f [] PUnit.unit, PUnit.unit⟩, ⟨RK.sv._f (RK.int IntKind.u8) PUnit.unit, PUnit.unit⟩, RK.svs._f [] PUnit.unit, PUnit.unit⟩, RK.svs._f [] PUnit.unit, PUnit.unit⟩, ⟨RK.sv._f (RK.sl (1 : Nat) [RK.int IntKind.u8]) ⟨RK.svs._f [RK.int IntKind.u8] ⟨⟨RK.sv._f (RK.int IntKind.u8) PUnit.unit, PUnit.unit⟩, RK.svs._f [] PUnit.unit, PUnit.unit⟩, ⟨RK.sv._f (RK.int IntKind.u8) PUnit.unit, PUnit.unit⟩, RK.svs._f [] PUnit.unit, PUnit.unit⟩, RK.svs._f [RK.int IntKind.u8] ⟨⟨RK.sv._f (RK.int IntKind.u8) PUnit.unit, PUnit.unit⟩, RK.svs._f [] PUnit.unit, PUnit.unit⟩, ⟨RK.sv._f (RK.int IntKind.u8) PUnit.unit, PUnit.unit⟩, RK.svs._f [] PUnit.unit, PUnit.unit⟩, RK.svs._f [] PUnit.unit, PUnit.unit⟩, ⟨RK.sv._f (RK.int IntKind.u64) PUnit.unit, PUnit.unit⟩, RK.svs._f [RK.sl (1 : Nat) [RK.int IntKind.u8]] ⟨⟨RK.sv._f (RK.sl (1 : Nat) [RK.int IntKind.u8]) ⟨RK.svs._f [RK.int IntKind.u8] ⟨⟨RK.sv._f (RK.int IntKind.u8) PUnit.unit, PUnit.unit⟩, RK.svs._f [] PUnit.unit, PUnit.unit⟩, ⟨RK.sv._f (RK.int IntKind.u8) PUnit.unit, PUnit.unit⟩, RK.svs._f [] PUnit.unit, PUnit.unit⟩, RK.svs._f [RK.int IntKind.u8] ⟨⟨RK.sv._f (RK.int IntKind.u8) PUnit.unit, PUnit.unit⟩, RK.svs._f [] PUnit.unit, PUnit.unit⟩, ⟨RK.sv._f (RK.int IntKind.u8) PUnit.unit, PUnit.unit⟩, RK.svs._f [] PUnit.unit, PUnit.unit⟩, RK.svs._f [] PUnit.unit, PUnit.unit⟩, ⟨RK.sv._f (RK.sl (1 : Nat) [RK.int IntKind.u8]) ⟨RK.svs._f [RK.int IntKind.u8] ⟨⟨RK.sv._f (RK.int IntKind.u8) PUnit.unit, PUnit.unit⟩, RK.svs._f [] PUnit.unit, PUnit.unit⟩, ⟨RK.sv._f (RK.int IntKind.u8) PUnit.unit, PUnit.unit⟩, RK.svs._f [] PUnit.unit, PUnit.unit⟩, RK.svs._f [RK.int IntKind.u8] ⟨⟨RK.sv._f (RK.int IntKind.u8) PUnit.unit, PUnit.unit⟩, RK.svs._f [] PUnit.unit, PUnit.unit⟩, ⟨RK.sv._f (RK.int IntKind.u8) PUnit.unit, PUnit.unit⟩, RK.svs._f [] PUnit.unit, PUnit.unit⟩, RK.svs._f [] PUnit.unit, PUnit.unit⟩, ⟨RK.sv._f (RK.ints IntKind.u64 (4 : Nat)) PUnit.unit, PUnit.unit⟩, RK.svs._f [RK.int IntKind.u64, RK.sl (1 : Nat) [RK.int IntKind.u8]] ⟨⟨RK.sv._f (RK.int IntKind.u64) PUnit.unit, PUnit.unit⟩, RK.svs._f [RK.sl (1 : Nat) [RK.int IntKind.u8]] ⟨⟨RK.sv._f (RK.sl (1 : Nat) [RK.int IntKind.u8]) ⟨RK.svs._f [RK.int IntKind.u8] ⟨⟨RK.sv._f (RK.int IntKind.u8) PUnit.unit, PUnit.unit⟩, RK.svs._f [] PUnit.unit, PUnit.unit⟩, ⟨RK.sv._f (RK.int IntKind.u8) PUnit.unit, PUnit.unit⟩, RK.svs._f [] PUnit.unit, PUnit.unit⟩, RK.svs._f [RK.int IntKind.u8] ⟨⟨RK.sv._f (RK.int IntKind.u8) PUnit.unit, PUnit.unit⟩, RK.svs._f [] PUnit.unit, PUnit.unit⟩, ⟨RK.sv._f (RK.int IntKind.u8) PUnit.unit, PUnit.unit⟩, RK.svs._f [] PUnit.unit, PUnit.unit⟩, RK.svs._f [] PUnit.unit, PUnit.unit⟩, ⟨RK.sv._f (RK.sl (1 : Nat) [RK.int IntKind.u8]) ⟨RK.svs._f [RK.int IntKind.u8] ⟨⟨RK.sv._f (RK.int IntKind.u8) PUnit.unit, PUnit.unit⟩, RK.svs._f [] PUnit.unit, PUnit.unit⟩, ⟨RK.sv._f (RK.int IntKind.u8) PUnit.unit, PUnit.unit⟩, RK.svs._f [] PUnit.unit, PUnit.unit⟩, RK.svs._f [RK.int IntKind.u8] ⟨⟨RK.sv._f (RK.int IntKind.u8) PUnit.unit, PUnit.unit⟩, RK.svs._f [] PUnit.unit, PUnit.unit⟩, ⟨RK.sv._f (RK.int IntKind.u8) PUnit.unit, PUnit.unit⟩, RK.svs._f [] PUnit.unit, PUnit.unit⟩, RK.svs._f [] PUnit.unit, PUnit.unit⟩, ⟨RK.sv._f (RK.int IntKind.u64) PUnit.unit, PUnit.unit⟩, RK.svs._f [RK.sl (1 : Nat) [RK.int IntKind.u8]] ⟨⟨RK.sv._f (RK.sl (1 : Nat) [RK.int IntKind.u8]) ⟨RK.svs._f [RK.int IntKind.u8] ⟨⟨RK.sv._f (RK.int IntKind.u8) PUnit.unit, PUnit.unit⟩, RK.svs._f [] PUnit.unit, PUnit.unit⟩, ⟨RK.sv._f (RK.int IntKind.u8) PUnit.unit, PUnit.unit⟩, RK.svs._f [] PUnit.unit, PUnit.unit⟩, RK.svs._f [RK.int IntKind.u8] ⟨⟨RK.sv._f (RK.int IntKind.u8) PUnit.unit, PUnit.unit⟩, RK.svs._f [] PUnit.unit, PUnit.unit⟩, ⟨RK.sv._f (RK.int IntKind.u8) PUnit.unit, PUnit.unit⟩, RK.svs._f [] PUnit.unit, PUnit.unit⟩, RK.svs._f [] PUnit.unit, PUnit.unit⟩, ⟨RK.sv._f (RK.sl (1 : Nat) [RK.int IntKind.u8]) ⟨RK.svs._f [RK.int IntKind.u8] ⟨⟨RK.sv._f (RK.int IntKind.u8) PUnit.unit, PUnit.unit⟩, RK.svs._f [] PUnit.unit, PUnit.unit⟩, ⟨RK.sv._f (RK.int IntKind.u8) PUnit.unit, PUnit.unit⟩, RK.svs._f [] PUnit.unit, PUnit.unit⟩, RK.svs._f [RK.int IntKind.u8] ⟨⟨RK.sv._f (RK.int IntKind.u8) PUnit.unit, PUnit.unit⟩, RK.svs._f [] PUnit.unit, PUnit.unit⟩, ⟨RK.sv._f (RK.int IntKind.u8) PUnit.unit, PUnit.unit⟩, RK.svs._f [] PUnit.unit, PUnit.unit⟩, RK.svs._f [] PUnit.unit, PUnit.unit⟩) (Prod.snd (Prod.fst (IBT.L i)[Int.toNat (IntKind.wrap IntKind.i64 (n - (1 : Int)))])) = List.map (Enc.enc EM) ms) (∃ bs : List BTy, (And (List.map (RK.svs._f [RK.sl (1 : Nat) [RK.int IntKind.u8]] ⟨⟨RK.sv._f (RK.sl (1 : Nat) [RK.int IntKind.u8]) ⟨RK.svs._f [RK.int IntKind.u8] ⟨⟨RK.sv._f (RK.int IntKind.u8) PUnit.unit, PUnit.unit⟩, RK.svs._f [] PUnit.unit, PUnit.unit⟩, ⟨RK.sv._f (RK.int IntKind.u8) PUnit.unit, PUnit.unit⟩, RK.svs._f [] PUnit.unit, PUnit.unit⟩, RK.svs._f [RK.int IntKind.u8] ⟨⟨RK.sv._f (RK.int IntKind.u8) PUnit.unit, PUnit.unit⟩, RK.svs._f [] PUnit.unit, PUnit.unit⟩, ⟨RK.sv._f (RK.int IntKind.u8) PUnit.unit, PUnit.unit⟩, RK.svs._f [] PUnit.unit, PUnit.unit⟩, RK.svs._f [] PUnit.unit, PUnit.unit⟩) (Prod.snd (Prod.fst (Prod.snd (IBT.L i)[Int.toNat (IntKind.wrap IntKind.i64 (n - (1 : Int)))]))) = List.map (Enc.enc EBl) bs) (And (And (List.length ms ≤ (1000 : Nat)) (And (List.length bs ≤ (1000 : Nat)) (And (∀ m : MTy, (∀ a : m ∈ ms, (List.length (Msg.d (ml m)) ≤ (100000000 : Nat)))) (∀ b : BTy, (∀ a : b ∈ bs, (List.length (bl b) ≤ (100000000 : Nat))))))) (∀ o : KcT ms bs, (∃ o_1 : BkT (blockF (IB.L x) n), (And (And (And (And (SV.view (BkT.x o_1) (9 : Nat) (Enc.enc EM) (BkT.ms o_1) = nilV (9 : Nat) (encRec MsF) (SV.view (KcT.x o) (9 : Nat) (Enc.enc EM) (KcT.ms' o))) (And (SV.view (BkT.y o_1) (1 : Nat) (Enc.enc EBl) (BkT.bs o_1) = nilV (1 : Nat) (encRec [RK.sl (1 : Nat) [RK.int IntKind.u8]]) (SV.view (KcT.y o) (1 : Nat) (Enc.enc EBl) (KcT.bs' o))) True)) (And ((blockB (IB.L x) n : Bool) = (true)) True)) True) (And (And (And (And ((true : Bool) = true) (And (List.length (IBT.L i) = List.length (IBT.L i)) (IBT.cp i = IBT.cp i))) (And ((true : Bool) = true) (And ((true : Bool) = true) (And (IB.N x = IB.N x) True)))) (And ((true : Bool) = true) (And (And ((8 : Nat) = (8 : Nat)) (And ((true : Bool) = true) (List.map (Enc.enc EM) (IBT.ms i) = List.map (Enc.enc EM) (IBT.ms i)))) (And ((true : Bool) = true) (And (And ((8 : Nat) = (8 : Nat)) (And ((false : Bool) = false) (List.map (Enc.enc EBl) (IBT.bs i) = List.map (Enc.enc EBl) (IBT.bs i)))) (And ((true : Bool) = true) (And (And ((true : Bool) = true) (And (IBT.cp i = IBT.cp i) (And (List.map (Enc.enc EK) (IBT.L i) = List.map (Enc.enc EK) (IBT.L i)) (∀ x_1 : KTy, (∀ a : x_1 ∈ IBT.L i, (∀ s : SV, (∀ a_1 : s ∈ Enc.enc EK x_1, ((SV.isPure s : Bool) = (true))))))))) (And ((true : Bool) = true) True)))))))) ((true : Bool) = true))))))))))))) (∃ o : BkT (blockF (IB.L x) n), (And (And (And (And (SV.view (BkT.x o) (9 : Nat) (Enc.enc EM) (BkT.ms o) = nilV (9 : Nat) (encRec MsF) (SV.v (Value.slice none (0 : Nat) (0 : Nat)))) (And (SV.view (BkT.y o) (1 : Nat) (Enc.enc EBl) (BkT.bs o) = nilV (1 : Nat) (encRec [RK.sl (1 : Nat) [RK.int IntKind.u8]]) (SV.v (Value.slice none (0 : Nat) (0 : Nat)))) True)) (And ((blockB (IB.L x) n : Bool) = (false)) True)) True) (And (And (And (And ((true : Bool) = true) (And (List.length (IBT.L i) = List.length (IBT.L i)) (IBT.cp i = IBT.cp i))) (And ((true : Bool) = true) (And ((true : Bool) = true) (And (IB.N x = IB.N x) True)))) (And ((true : Bool) = true) (And (And ((8 : Nat) = (8 : Nat)) (And ((true : Bool) = true) (List.map (Enc.enc EM) (IBT.ms i) = List.map (Enc.enc EM) (IBT.ms i)))) (And ((true : Bool) = true) (And (And ((8 : Nat) = (8 : Nat)) (And ((false : Bool) = false) (List.map (Enc.enc EBl) (IBT.bs i) = List.map (Enc.enc EBl) (IBT.bs i)))) (And ((true : Bool) = true) (And (And ((true : Bool) = true) (And (IBT.cp i = IBT.cp i) (And (List.map (Enc.enc EK) (IBT.L i) = List.map (Enc.enc EK) (IBT.L i)) (∀ x_1 : KTy, (∀ a : x_1 ∈ IBT.L i, (∀ s : SV, (∀ a_1 : s ∈ Enc.enc EK x_1, ((SV.isPure s : Bool) = (true))))))))) (And ((true : Bool) = true) True)))))))) ((true : Bool) = true)))) (decide ((↑(List.length (IBT.L i)) : Int) < n))) (∃ o : BkT (blockF (IB.L x) n), (And (And (And (And (SV.view (BkT.x o) (9 : Nat) (Enc.enc EM) (BkT.ms o) = nilV (9 : Nat) (encRec MsF) (SV.v (Value.slice none (0 : Nat) (0 : Nat)))) (And (SV.view (BkT.y o) (1 : Nat) (Enc.enc EBl) (BkT.bs o) = nilV (1 : Nat) (encRec [RK.sl (1 : Nat) [RK.int IntKind.u8]]) (SV.v (Value.slice none (0 : Nat) (0 : Nat)))) True)) (And ((blockB (IB.L x) n : Bool) = (false)) True)) True) (And (And (And (And ((true : Bool) = true) (And (List.length (IBT.L i) = List.length (IBT.L i)) (IBT.cp i = IBT.cp i))) (And ((true : Bool) = true) (And ((true : Bool) = true) (And (IB.N x = IB.N x) True)))) (And ((true : Bool) = true) (And (And ((8 : Nat) = (8 : Nat)) (And ((true : Bool) = true) (List.map (Enc.enc EM) (IBT.ms i) = List.map (Enc.enc EM) (IBT.ms i)))) (And ((true : Bool) = true) (And (And ((8 : Nat) = (8 : Nat)) (And ((false : Bool) = false) (List.map (Enc.enc EBl) (IBT.bs i) = List.map (Enc.enc EBl) (IBT.bs i)))) (And ((true : Bool) = true) (And (And ((true : Bool) = true) (And (IBT.cp i = IBT.cp i) (And (List.map (Enc.enc EK) (IBT.L i) = List.map (Enc.enc EK) (IBT.L i)) (∀ x_1 : KTy, (∀ a : x_1 ∈ IBT.L i, (∀ s : SV, (∀ a_1 : s ∈ Enc.enc EK x_1, ((SV.isPure s : Bool) = (true))))))))) (And ((true : Bool) = true) True)))))))) ((true : Bool) = true)))) (decide (n < (1 : Int))))) (by kernel_rfl) ?_
  have hL : i.L.length = x.L.length := by have := congrArg List.length i.hL; rwa [List.length_map] at this
  have no : ¬ (1 ≤ n ∧ n ≤ (x.L.length : Int)) → blockB x.L n = false := fun hn => by
    unfold blockB
    rw [← Bool.decide_and]
    exact decide_eq_false hn
  have nof : blockB x.L n = false → blockF x.L n = ([], []) := fun hb => by unfold blockF; rw [hb]; rfl
  refine bif_dec (fun g1 => ?_) (fun g1 => ?_)
  · have hb := no (by omega)
    rw [nof hb, hb]
    refine ⟨⟨.slice none 0 0, [], .slice none 0 0, [], rfl, rfl⟩, ?_⟩
    repeat' first | exact fun x _ => Enc.pures EK x | exact trivial | refine And.intro ?_ ?_ | with_reducible refine bif_dt (by assumption) ?_ | with_reducible refine bif_df (by assumption) ?_ | with_reducible refine bif_dec (fun _ => ?_) (fun _ => ?_) | with_reducible refine bif_not ?_ | with_reducible refine bif_and ?_ | with_reducible refine bif_or ?_ | with_reducible refine bif_t (by assumption) ?_ | with_reducible refine bif_f (by assumption) ?_ | with_reducible refine bif_t (beq_self_eq_true _) ?_ | with_reducible refine bif_b (fun _ => ?_) (fun _ => ?_) | with_reducible refine ⟨_, Eq.refl (List.map _ _), ?_⟩ | (with_reducible refine Exists.intro (by omega) ?_) | rfl | (intro h0; omega) | omega
  refine bif_dec (fun g2 => ?_) (fun g2 => ?_)
  · have hb := no (by omega)
    rw [nof hb, hb]
    refine ⟨⟨.slice none 0 0, [], .slice none 0 0, [], rfl, rfl⟩, ?_⟩
    repeat' first | exact fun x _ => Enc.pures EK x | exact trivial | refine And.intro ?_ ?_ | with_reducible refine bif_dt (by assumption) ?_ | with_reducible refine bif_df (by assumption) ?_ | with_reducible refine bif_dec (fun _ => ?_) (fun _ => ?_) | with_reducible refine bif_not ?_ | with_reducible refine bif_and ?_ | with_reducible refine bif_or ?_ | with_reducible refine bif_t (by assumption) ?_ | with_reducible refine bif_f (by assumption) ?_ | with_reducible refine bif_t (beq_self_eq_true _) ?_ | with_reducible refine bif_b (fun _ => ?_) (fun _ => ?_) | with_reducible refine ⟨_, Eq.refl (List.map _ _), ?_⟩ | (with_reducible refine Exists.intro (by omega) ?_) | rfl | (intro h0; omega) | omega
  have hw : IntKind.i64.wrap (n - 1) = (((n - 1).toNat : Nat) : Int) := by rw [wrap64 (by omega) (by omega)]; omega
  generalize hj : (n - 1).toNat = j at hw
  have hj' : j < i.L.length := by omega
  have hb : blockB x.L n = true := by
    unfold blockB
    rw [← Bool.decide_and]
    exact decide_eq_true ⟨by omega, by omega⟩
  have hjx : j < x.L.length := by omega
  have hkl : x.L[j] = kl i.L[j] := by
    have := congrArg (fun l => l[j]?) i.hL
    simp only [List.getElem?_map, List.getElem?_eq_getElem hj', List.getElem?_eq_getElem hjx, Option.map_some, Option.some.injEq] at this
    exact this.symm
  have hf : blockF x.L n = kl i.L[j] := by
    unfold blockF
    rw [if_pos hb, hj, List.getD_eq_getElem?_getD, List.getElem?_eq_getElem hjx, hkl]
    rfl
  have ok := h _ (List.getElem_mem hjx)
  rw [hkl] at ok
  obtain ⟨o1, o2, o3, o4⟩ := ok
  have l1 : i.L[j].1.2.length ≤ 8 := by have : (List.map ml i.L[j].1.2).length ≤ 8 := o1; rwa [List.length_map] at this
  have l2 : i.L[j].2.1.2.length ≤ 8 := by have : (List.map bl i.L[j].2.1.2).length ≤ 8 := o2; rwa [List.length_map] at this
  rw [hf, hb]
  simp only [hw, Int.toNat_natCast]
  refine ⟨by omega, hj', hj', i.L[j].1.2, rfl, i.L[j].2.1.2, rfl, ⟨by omega, by omega, fun m hm => by have := o3 _ (List.mem_map_of_mem hm); omega, fun b hb => by have := o4 _ (List.mem_map_of_mem hb); omega⟩, fun o => ⟨⟨o.x, o.ms', o.y, o.bs', o.hm, o.hb⟩, ?_⟩⟩
  repeat' first | exact fun x _ => Enc.pures EK x | exact trivial | refine And.intro ?_ ?_ | with_reducible refine bif_dt (by assumption) ?_ | with_reducible refine bif_df (by assumption) ?_ | with_reducible refine bif_dec (fun _ => ?_) (fun _ => ?_) | with_reducible refine bif_not ?_ | with_reducible refine bif_and ?_ | with_reducible refine bif_or ?_ | with_reducible refine bif_t (by assumption) ?_ | with_reducible refine bif_f (by assumption) ?_ | with_reducible refine bif_t (beq_self_eq_true _) ?_ | with_reducible refine bif_b (fun _ => ?_) (fun _ => ?_) | with_reducible refine ⟨_, Eq.refl (List.map _ _), ?_⟩ | (with_reducible refine Exists.intro (by omega) ?_) | rfl | (intro h0; omega) | omega
open Go Go.Sx

def inewT : MT := fun ms n h K => match ms with
  | [] => bif true then (True) ∧ (∀ o : Unit, K (n + 4) (.one (.ptr n 0)) ([(n, .cells [.nslc (n + 3) 2 0 0, .ch (n + 1), .ch (n + 2), .v (.int .u64 0)]), (n + 1, .chan 8 true EM []), (n + 2, .chan 8 false EBl []), (n + 3, .row 2 EK [] 0)] ++ delL [] h)) else False
  | _ => False
theorem inew_mono : MMono inewT := by
  intro ms n h K K' hkk hk
  unfold inewT at hk ⊢
  split at hk
  · obtain ⟨hb, h1, h2⟩ := cond_false_elim hk
    rw [hb]
    exact ⟨h1, fun o => hkk _ _ _ (h2 o)⟩
  · exact hk.elim
theorem inew_ok : MOK Try.prog 15 inewT := by
  refine ⟨?_, inew_mono⟩
  intro ms n hB K hk
  unfold inewT at hk
  split at hk
  · obtain ⟨hb, h, hk2⟩ := cond_false_elim hk
    clear hk
    have hnd : noDup [] = true := rfl
    refine SCall.seen ?_ .nil
    exact (new_spec).use (fun _ => 0) rfl rfl trivial (by exact hnd) (fun j hj => absurd hj (Nat.not_lt_zero j)) (fun o => hk2 o)
  · exact hk.elim

theorem deposit_row (n_ s t : Int) (v : List Int) (g : Int) (y : Value) (d : List Int) {x : IB} {L : List KTy} {ms : List MTy} {bs : List BTy} {len cap cp c1 c2 : Nat} (h : (len = L.length ∧ cap = cp ∧ capOk L.length cp ∧ c1 = 8 ∧ c2 = 8 ∧ L.map kl = x.L ∧ ms.map ml = x.D ∧ bs.map bl = x.B)) : SMem Try.prog 17 [.one (.ptr 0 0), .agg (mA n_ s t v g y d)] 4 [(0, .cells [.nslc 3 2 len cap, .ch 1, .ch 2, .v (.int .u64 x.N)]), (1, .chan c1 true EM ms), (2, .chan c2 false EBl bs), (3, .row 2 EK L cp)]
    (fun o : IBT (x.deposit ⟨n_, s, t, v, g, d⟩).1 => ⟨4, .tup [u64 (x.deposit ⟨n_, s, t, v, g, d⟩).2.1, int (x.deposit ⟨n_, s, t, v, g, d⟩).2.2], inH o.L o.cp o.ms o.bs (x.deposit ⟨n_, s, t, v, g, d⟩).1.N⟩) := by
  obtain ⟨rfl, rfl, h1, rfl, rfl, h2, h3, h4⟩ := h
  exact deposit_spec ⟨n_, s, t, v, g, d⟩ y ⟨L, cap, ms, bs, h2, h3, h4, h1⟩
theorem post_row (y : Value) (b : List Int) {x : IB} {L : List KTy} {ms : List MTy} {bs : List BTy} {len cap cp c1 c2 : Nat} (h : (len = L.length ∧ cap = cp ∧ capOk L.length cp ∧ c1 = 8 ∧ c2 = 8 ∧ L.map kl = x.L ∧ ms.map ml = x.D ∧ bs.map bl = x.B)) : SMem Try.prog 20 [.one (.ptr 0 0), byV y b] 4 [(0, .cells [.nslc 3 2 len cap, .ch 1, .ch 2, .v (.int .u64 x.N)]), (1, .chan c1 true EM ms), (2, .chan c2 false EBl bs), (3, .row 2 EK L cp)]
    (fun o : IBT (x.post b).1 => ⟨4, int (x.post b).2, inH o.L o.cp o.ms o.bs (x.post b).1.N⟩) := by
  obtain ⟨rfl, rfl, h1, rfl, rfl, h2, h3, h4⟩ := h
  exact post_spec y (b := b) ⟨L, cap, ms, bs, h2, h3, h4, h1⟩
theorem close_row  {x : IB} {L : List KTy} {ms : List MTy} {bs : List BTy} {len cap cp c1 c2 : Nat} (h : (len = L.length ∧ cap = cp ∧ capOk L.length cp ∧ c1 = 8 ∧ c2 = 8 ∧ L.map kl = x.L ∧ ms.map ml = x.D ∧ bs.map bl = x.B ∧ x.D.length ≤ 8 ∧ x.B.length ≤ 8)) : SMem Try.prog 22 [.one (.ptr 0 0)] 4 [(0, .cells [.nslc 3 2 len cap, .ch 1, .ch 2, .v (.int .u64 x.N)]), (1, .chan c1 true EM ms), (2, .chan c2 false EBl bs), (3, .row 2 EK L cp)]
    (fun o : IBT x.close.1 => ⟨5, .tup [int x.close.2.1, int x.close.2.2], inR o.L o.cp o.ms o.bs x.close.1.N⟩) := by
  obtain ⟨rfl, rfl, h1, rfl, rfl, h2, h3, h4, h5, h6⟩ := h
  exact close_spec ⟨L, cap, ms, bs, h2, h3, h4, h1⟩ h5 h6
def idepositT : MT := fun ms n h K => match ms with
  | [.one (.ptr P0 0), .agg [.v (.int .u64 n_), .v (.int .u64 s), .v (.int .u64 t), .ints .u64 4 v, .v (.int .u64 g), .view vx0 ve0 en0 vl0]] => (match get h P0 with
    | some (.cells [.nslc P3 2 len cap, .ch P1, .ch P2, .v (.int .u64 q)]) => (match get h P1 with
    | some (.chan c1 true wn1 wl1) => (match get h P2 with
    | some (.chan c2 false wn2 wl2) => (match get h P3 with
    | some (.row we3 wn3 wl3 cp) => bif Nat.beq ve0 1 && Nat.beq we3 2 && noDup [P0, P1, P2, P3] then ∃ d : List (Int), vl0.map en0 = d.map eB ∧ ∃ ms : List (MTy), wl1.map wn1.enc = ms.map (EM).enc ∧ ∃ bs : List (BTy), wl2.map wn2.enc = bs.map (EBl).enc ∧ ∃ L : List (KTy), wl3.map wn3.enc = L.map (EK).enc ∧ ∃ (x : IB), ((q = x.N) ∧ (len = L.length ∧ cap = cp ∧ capOk L.length cp ∧ c1 = 8 ∧ c2 = 8 ∧ L.map kl = x.L ∧ ms.map ml = x.D ∧ bs.map bl = x.B)) ∧ (∀ o : IBT (x.deposit ⟨n_, s, t, v, g, d⟩).1, K (n + 0) (.tup [u64 (x.deposit ⟨n_, s, t, v, g, d⟩).2.1, int (x.deposit ⟨n_, s, t, v, g, d⟩).2.2]) ([(P0, .cells [.nslc P3 2 o.L.length o.cp, .ch P1, .ch P2, .v (.int .u64 (x.deposit ⟨n_, s, t, v, g, d⟩).1.N)]), (P1, .chan 8 true EM o.ms), (P2, .chan 8 false EBl o.bs), (P3, .row 2 EK o.L o.cp)] ++ delL [P0, P1, P2, P3] h)) else False
    | _ => False)
    | _ => False)
    | _ => False)
    | _ => False)
  | _ => False
theorem ideposit_mono : MMono idepositT := by
  intro ms n h K K' hkk hk
  unfold idepositT at hk ⊢
  split at hk
  · rename_i P0 n_ s t v g vx0 ve0 va0 en0 vl0
    split at hk
    · rename_i P3 len cap P1 P2 q hg0
      try simp only [hg0]
      split at hk
      · rename_i c1 wa1 wn1 wl1 hg1
        try simp only [hg1]
        split at hk
        · rename_i c2 wa2 wn2 wl2 hg2
          try simp only [hg2]
          split at hk
          · rename_i we3 wa3 wn3 wl3 cp hg3
            try simp only [hg3]
            obtain ⟨hb, y0, z0, y1, z1, y2, z2, y3, z3, q0, h1, h2⟩ := cond_false_elim hk
            rw [hb]
            exact ⟨y0, z0, y1, z1, y2, z2, y3, z3, q0, h1, fun o => hkk _ _ _ (h2 o)⟩
          · exact hk.elim
        · exact hk.elim
      · exact hk.elim
    · exact hk.elim
  · exact hk.elim
theorem ideposit_ok : MOK Try.prog 17 idepositT := by
  refine ⟨?_, ideposit_mono⟩
  intro ms n hB K hk
  unfold idepositT at hk
  split at hk
  · rename_i P0 n_ s t v g vx0 ve0 va0 en0 vl0
    split at hk
    · rename_i P3 len cap P1 P2 q hg0
      split at hk
      · rename_i c1 wa1 wn1 wl1 hg1
        split at hk
        · rename_i c2 wa2 wn2 wl2 hg2
          split at hk
          · rename_i we3 wa3 wn3 wl3 cp hg3
            obtain ⟨hb, d, he0, ms, hl1, bs, hl2, L, hl3, x, h, hk2⟩ := cond_false_elim hk
            clear hk
            obtain ⟨rfl, h⟩ := h
            simp only [Bool.and_eq_true] at hb
            obtain ⟨⟨hc0, hc1⟩, hnd⟩ := hb
            have hs0 := Nat.eq_of_beq_eq_true hc0
            subst hs0
            have hs1 := Nat.eq_of_beq_eq_true hc1
            subst hs1
            refine SCall.seen ?_ (.cons (.refl _) (.cons (.agg (.refl (.refl (.refl (.refl (.refl (.view he0 .nil))))))) .nil))
            exact (deposit_row n_ s t v g _ d h).use (fun j => match j with | 0 => P0 | 1 => P1 | 2 => P2 | 3 => P3 | _ => 0) rfl rfl ⟨by show (match get hB P0 with | some b0 => Blk.imp _ _ _ b0 | none => False); rw [hg0]; exact ⟨rfl, rfl⟩, rfl, ⟨by show (match get hB P1 with | some b0 => Blk.imp _ _ _ b0 | none => False); rw [hg1]; exact ⟨rfl, rfl, hl1.symm⟩, rfl, ⟨by show (match get hB P2 with | some b0 => Blk.imp _ _ _ b0 | none => False); rw [hg2]; exact ⟨rfl, rfl, hl2.symm⟩, rfl, ⟨by show (match get hB P3 with | some b0 => Blk.imp _ _ _ b0 | none => False); rw [hg3]; exact ⟨rfl, rfl, hl3.symm, fun y _ => Enc.pures _ y⟩, rfl, trivial⟩⟩⟩⟩ (by exact hnd) (fun j hj => by cases j with
                | zero => exact ⟨_, rfl⟩
                | succ j => cases j with
                 | zero => exact ⟨_, rfl⟩
                 | succ j => cases j with
                  | zero => exact ⟨_, rfl⟩
                  | succ j => cases j with
                   | zero => exact ⟨_, rfl⟩
                   | succ j => omega) (fun o => hk2 o)
          · exact hk.elim
        · exact hk.elim
      · exact hk.elim
    · exact hk.elim
  · exact hk.elim

def ipostT : MT := fun ms n h K => match ms with
  | [.one (.ptr P0 0), .one (.view vx0 ve0 en0 vl0)] => (match get h P0 with
    | some (.cells [.nslc P3 2 len cap, .ch P1, .ch P2, .v (.int .u64 q)]) => (match get h P1 with
    | some (.chan c1 true wn1 wl1) => (match get h P2 with
    | some (.chan c2 false wn2 wl2) => (match get h P3 with
    | some (.row we3 wn3 wl3 cp) => bif Nat.beq ve0 1 && Nat.beq we3 2 && noDup [P0, P1, P2, P3] then ∃ b : List (Int), vl0.map en0 = b.map eB ∧ ∃ ms : List (MTy), wl1.map wn1.enc = ms.map (EM).enc ∧ ∃ bs : List (BTy), wl2.map wn2.enc = bs.map (EBl).enc ∧ ∃ L : List (KTy), wl3.map wn3.enc = L.map (EK).enc ∧ ∃ (x : IB), ((q = x.N) ∧ (len = L.length ∧ cap = cp ∧ capOk L.length cp ∧ c1 = 8 ∧ c2 = 8 ∧ L.map kl = x.L ∧ ms.map ml = x.D ∧ bs.map bl = x.B)) ∧ (∀ o : IBT (x.post b).1, K (n + 0) (int (x.post b).2) ([(P0, .cells [.nslc P3 2 o.L.length o.cp, .ch P1, .ch P2, .v (.int .u64 (x.post b).1.N)]), (P1, .chan 8 true EM o.ms), (P2, .chan 8 false EBl o.bs), (P3, .row 2 EK o.L o.cp)] ++ delL [P0, P1, P2, P3] h)) else False
    | _ => False)
    | _ => False)
    | _ => False)
    | _ => False)
  | _ => False
theorem ipost_mono : MMono ipostT := by
  intro ms n h K K' hkk hk
  unfold ipostT at hk ⊢
  split at hk
  · rename_i P0 vx0 ve0 va0 en0 vl0
    split at hk
    · rename_i P3 len cap P1 P2 q hg0
      try simp only [hg0]
      split at hk
      · rename_i c1 wa1 wn1 wl1 hg1
        try simp only [hg1]
        split at hk
        · rename_i c2 wa2 wn2 wl2 hg2
          try simp only [hg2]
          split at hk
          · rename_i we3 wa3 wn3 wl3 cp hg3
            try simp only [hg3]
            obtain ⟨hb, y0, z0, y1, z1, y2, z2, y3, z3, q0, h1, h2⟩ := cond_false_elim hk
            rw [hb]
            exact ⟨y0, z0, y1, z1, y2, z2, y3, z3, q0, h1, fun o => hkk _ _ _ (h2 o)⟩
          · exact hk.elim
        · exact hk.elim
      · exact hk.elim
    · exact hk.elim
  · exact hk.elim
theorem ipost_ok : MOK Try.prog 20 ipostT := by
  refine ⟨?_, ipost_mono⟩
  intro ms n hB K hk
  unfold ipostT at hk
  split at hk
  · rename_i P0 vx0 ve0 va0 en0 vl0
    split at hk
    · rename_i P3 len cap P1 P2 q hg0
      split at hk
      · rename_i c1 wa1 wn1 wl1 hg1
        split at hk
        · rename_i c2 wa2 wn2 wl2 hg2
          split at hk
          · rename_i we3 wa3 wn3 wl3 cp hg3
            obtain ⟨hb, b, he0, ms, hl1, bs, hl2, L, hl3, x, h, hk2⟩ := cond_false_elim hk
            clear hk
            obtain ⟨rfl, h⟩ := h
            simp only [Bool.and_eq_true] at hb
            obtain ⟨⟨hc0, hc1⟩, hnd⟩ := hb
            have hs0 := Nat.eq_of_beq_eq_true hc0
            subst hs0
            have hs1 := Nat.eq_of_beq_eq_true hc1
            subst hs1
            refine SCall.seen ?_ (.cons (.refl _) (.cons (.view he0) .nil))
            exact (post_row _ b h).use (fun j => match j with | 0 => P0 | 1 => P1 | 2 => P2 | 3 => P3 | _ => 0) rfl rfl ⟨by show (match get hB P0 with | some b0 => Blk.imp _ _ _ b0 | none => False); rw [hg0]; exact ⟨rfl, rfl⟩, rfl, ⟨by show (match get hB P1 with | some b0 => Blk.imp _ _ _ b0 | none => False); rw [hg1]; exact ⟨rfl, rfl, hl1.symm⟩, rfl, ⟨by show (match get hB P2 with | some b0 => Blk.imp _ _ _ b0 | none => False); rw [hg2]; exact ⟨rfl, rfl, hl2.symm⟩, rfl, ⟨by show (match get hB P3 with | some b0 => Blk.imp _ _ _ b0 | none => False); rw [hg3]; exact ⟨rfl, rfl, hl3.symm, fun y _ => Enc.pures _ y⟩, rfl, trivial⟩⟩⟩⟩ (by exact hnd) (fun j hj => by cases j with
                | zero => exact ⟨_, rfl⟩
                | succ j => cases j with
                 | zero => exact ⟨_, rfl⟩
                 | succ j => cases j with
                  | zero => exact ⟨_, rfl⟩
                  | succ j => cases j with
                   | zero => exact ⟨_, rfl⟩
                   | succ j => omega) (fun o => hk2 o)
          · exact hk.elim
        · exact hk.elim
      · exact hk.elim
    · exact hk.elim
  · exact hk.elim

def icloseT : MT := fun ms n h K => match ms with
  | [.one (.ptr P0 0)] => (match get h P0 with
    | some (.cells [.nslc P3 2 len cap, .ch P1, .ch P2, .v (.int .u64 q)]) => (match get h P1 with
    | some (.chan c1 true wn1 wl1) => (match get h P2 with
    | some (.chan c2 false wn2 wl2) => (match get h P3 with
    | some (.row we3 wn3 wl3 cp) => bif Nat.beq we3 2 && noDup [P0, P1, P2, P3] then ∃ ms : List (MTy), wl1.map wn1.enc = ms.map (EM).enc ∧ ∃ bs : List (BTy), wl2.map wn2.enc = bs.map (EBl).enc ∧ ∃ L : List (KTy), wl3.map wn3.enc = L.map (EK).enc ∧ ∃ (x : IB), ((q = x.N) ∧ (len = L.length ∧ cap = cp ∧ capOk L.length cp ∧ c1 = 8 ∧ c2 = 8 ∧ L.map kl = x.L ∧ ms.map ml = x.D ∧ bs.map bl = x.B ∧ x.D.length ≤ 8 ∧ x.B.length ≤ 8)) ∧ (∀ o : IBT x.close.1, K (n + 1) (.tup [int x.close.2.1, int x.close.2.2]) ([(P0, .cells [.nslc n 2 o.L.length o.cp, .ch P1, .ch P2, .v (.int .u64 x.close.1.N)]), (P1, .chan 8 true EM o.ms), (P2, .chan 8 false EBl o.bs), (n, .row 2 EK o.L o.cp)] ++ delL [P0, P1, P2, P3] h)) else False
    | _ => False)
    | _ => False)
    | _ => False)
    | _ => False)
  | _ => False
theorem iclose_mono : MMono icloseT := by
  intro ms n h K K' hkk hk
  unfold icloseT at hk ⊢
  split at hk
  · rename_i P0
    split at hk
    · rename_i P3 len cap P1 P2 q hg0
      try simp only [hg0]
      split at hk
      · rename_i c1 wa1 wn1 wl1 hg1
        try simp only [hg1]
        split at hk
        · rename_i c2 wa2 wn2 wl2 hg2
          try simp only [hg2]
          split at hk
          · rename_i we3 wa3 wn3 wl3 cp hg3
            try simp only [hg3]
            obtain ⟨hb, y0, z0, y1, z1, y2, z2, q0, h1, h2⟩ := cond_false_elim hk
            rw [hb]
            exact ⟨y0, z0, y1, z1, y2, z2, q0, h1, fun o => hkk _ _ _ (h2 o)⟩
          · exact hk.elim
        · exact hk.elim
      · exact hk.elim
    · exact hk.elim
  · exact hk.elim
theorem iclose_ok : MOK Try.prog 22 icloseT := by
  refine ⟨?_, iclose_mono⟩
  intro ms n hB K hk
  unfold icloseT at hk
  split at hk
  · rename_i P0
    split at hk
    · rename_i P3 len cap P1 P2 q hg0
      split at hk
      · rename_i c1 wa1 wn1 wl1 hg1
        split at hk
        · rename_i c2 wa2 wn2 wl2 hg2
          split at hk
          · rename_i we3 wa3 wn3 wl3 cp hg3
            obtain ⟨hb, ms, hl1, bs, hl2, L, hl3, x, h, hk2⟩ := cond_false_elim hk
            clear hk
            obtain ⟨rfl, h⟩ := h
            simp only [Bool.and_eq_true] at hb
            obtain ⟨hc0, hnd⟩ := hb
            have hs0 := Nat.eq_of_beq_eq_true hc0
            subst hs0
            refine SCall.seen ?_ (.cons (.refl _) .nil)
            exact (close_row h).use (fun j => match j with | 0 => P0 | 1 => P1 | 2 => P2 | 3 => P3 | _ => 0) rfl rfl ⟨by show (match get hB P0 with | some b0 => Blk.imp _ _ _ b0 | none => False); rw [hg0]; exact ⟨rfl, rfl⟩, rfl, ⟨by show (match get hB P1 with | some b0 => Blk.imp _ _ _ b0 | none => False); rw [hg1]; exact ⟨rfl, rfl, hl1.symm⟩, rfl, ⟨by show (match get hB P2 with | some b0 => Blk.imp _ _ _ b0 | none => False); rw [hg2]; exact ⟨rfl, rfl, hl2.symm⟩, rfl, ⟨by show (match get hB P3 with | some b0 => Blk.imp _ _ _ b0 | none => False); rw [hg3]; exact ⟨rfl, rfl, hl3.symm, fun y _ => Enc.pures _ y⟩, rfl, trivial⟩⟩⟩⟩ (by exact hnd) (fun j hj => by cases j with
                | zero => exact ⟨_, rfl⟩
                | succ j => cases j with
                 | zero => exact ⟨_, rfl⟩
                 | succ j => cases j with
                  | zero => exact ⟨_, rfl⟩
                  | succ j => cases j with
                   | zero => exact ⟨_, rfl⟩
                   | succ j => omega) (fun o => hk2 o)
          · exact hk.elim
        · exact hk.elim
      · exact hk.elim
    · exact hk.elim
  · exact hk.elim

open Go Go.Sx

theorem height_row  {x : IB} {L : List KTy} {ms : List MTy} {bs : List BTy} {len cap cp c1 c2 : Nat} (h : (len = L.length ∧ cap = cp ∧ capOk L.length cp ∧ c1 = 8 ∧ c2 = 8 ∧ L.map kl = x.L ∧ ms.map ml = x.D ∧ bs.map bl = x.B)) : SMem Try.prog 25 [.one (.ptr 0 0)] 4 [(0, .cells [.nslc 3 2 len cap, .ch 1, .ch 2, .v (.int .u64 x.N)]), (1, .chan c1 true EM ms), (2, .chan c2 false EBl bs), (3, .row 2 EK L cp)]
    (fun o : Unit => ⟨4, int x.L.length, inH L cp ms bs x.N⟩) := by
  obtain ⟨rfl, rfl, h1, rfl, rfl, h2, h3, h4⟩ := h
  exact height_spec ⟨L, cap, ms, bs, h2, h3, h4, h1⟩
theorem queue_row  {x : IB} {L : List KTy} {ms : List MTy} {bs : List BTy} {len cap cp c1 c2 : Nat} (h : (len = L.length ∧ cap = cp ∧ capOk L.length cp ∧ c1 = 8 ∧ c2 = 8 ∧ L.map kl = x.L ∧ ms.map ml = x.D ∧ bs.map bl = x.B)) : SMem Try.prog 26 [.one (.ptr 0 0)] 4 [(0, .cells [.nslc 3 2 len cap, .ch 1, .ch 2, .v (.int .u64 x.N)]), (1, .chan c1 true EM ms), (2, .chan c2 false EBl bs), (3, .row 2 EK L cp)]
    (fun o : Unit => ⟨4, u64 x.N, inH L cp ms bs x.N⟩) := by
  obtain ⟨rfl, rfl, h1, rfl, rfl, h2, h3, h4⟩ := h
  exact queue_spec ⟨L, cap, ms, bs, h2, h3, h4, h1⟩
theorem block_row (n_ : Int) {x : IB} {L : List KTy} {ms : List MTy} {bs : List BTy} {len cap cp c1 c2 : Nat} (h : (len = L.length ∧ cap = cp ∧ capOk L.length cp ∧ c1 = 8 ∧ c2 = 8 ∧ L.map kl = x.L ∧ ms.map ml = x.D ∧ bs.map bl = x.B ∧ (∀ b ∈ x.L, okB b) ∧ x.L.length ≤ 4096)) : SMem Try.prog 27 [.one (.ptr 0 0), int n_] 4 [(0, .cells [.nslc 3 2 len cap, .ch 1, .ch 2, .v (.int .u64 x.N)]), (1, .chan c1 true EM ms), (2, .chan c2 false EBl bs), (3, .row 2 EK L cp)]
    (fun o : BkT (blockF x.L n_) => ⟨4, .tup [.agg (bkA o.x o.ms o.y o.bs), bool (blockB x.L n_)], inH L cp ms bs x.N⟩) := by
  obtain ⟨rfl, rfl, h1, rfl, rfl, h2, h3, h4, h5, h6⟩ := h
  exact block_spec n_ ⟨L, cap, ms, bs, h2, h3, h4, h1⟩ h5 h6
def iheightT : MT := fun ms n h K => match ms with
  | [.one (.ptr P0 0)] => (match get h P0 with
    | some (.cells [.nslc P3 2 len cap, .ch P1, .ch P2, .v (.int .u64 q)]) => (match get h P1 with
    | some (.chan c1 true wn1 wl1) => (match get h P2 with
    | some (.chan c2 false wn2 wl2) => (match get h P3 with
    | some (.row we3 wn3 wl3 cp) => bif Nat.beq we3 2 && noDup [P0, P1, P2, P3] then ∃ ms : List (MTy), wl1.map wn1.enc = ms.map (EM).enc ∧ ∃ bs : List (BTy), wl2.map wn2.enc = bs.map (EBl).enc ∧ ∃ L : List (KTy), wl3.map wn3.enc = L.map (EK).enc ∧ ∃ (x : IB), ((q = x.N) ∧ (len = L.length ∧ cap = cp ∧ capOk L.length cp ∧ c1 = 8 ∧ c2 = 8 ∧ L.map kl = x.L ∧ ms.map ml = x.D ∧ bs.map bl = x.B)) ∧ (∀ o : Unit, K (n + 0) (int x.L.length) ([(P0, .cells [.nslc P3 2 L.length cp, .ch P1, .ch P2, .v (.int .u64 q)]), (P1, .chan 8 true EM ms), (P2, .chan 8 false EBl bs), (P3, .row 2 EK L cp)] ++ delL [P0, P1, P2, P3] h)) else False
    | _ => False)
    | _ => False)
    | _ => False)
    | _ => False)
  | _ => False
theorem iheight_mono : MMono iheightT := by
  intro ms n h K K' hkk hk
  unfold iheightT at hk ⊢
  split at hk
  · rename_i P0
    split at hk
    · rename_i P3 len cap P1 P2 q hg0
      try simp only [hg0]
      split at hk
      · rename_i c1 wa1 wn1 wl1 hg1
        try simp only [hg1]
        split at hk
        · rename_i c2 wa2 wn2 wl2 hg2
          try simp only [hg2]
          split at hk
          · rename_i we3 wa3 wn3 wl3 cp hg3
            try simp only [hg3]
            obtain ⟨hb, y0, z0, y1, z1, y2, z2, q0, h1, h2⟩ := cond_false_elim hk
            rw [hb]
            exact ⟨y0, z0, y1, z1, y2, z2, q0, h1, fun o => hkk _ _ _ (h2 o)⟩
          · exact hk.elim
        · exact hk.elim
      · exact hk.elim
    · exact hk.elim
  · exact hk.elim
theorem iheight_ok : MOK Try.prog 25 iheightT := by
  refine ⟨?_, iheight_mono⟩
  intro ms n hB K hk
  unfold iheightT at hk
  split at hk
  · rename_i P0
    split at hk
    · rename_i P3 len cap P1 P2 q hg0
      split at hk
      · rename_i c1 wa1 wn1 wl1 hg1
        split at hk
        · rename_i c2 wa2 wn2 wl2 hg2
          split at hk
          · rename_i we3 wa3 wn3 wl3 cp hg3
            obtain ⟨hb, ms, hl1, bs, hl2, L, hl3, x, h, hk2⟩ := cond_false_elim hk
            clear hk
            obtain ⟨rfl, h⟩ := h
            simp only [Bool.and_eq_true] at hb
            obtain ⟨hc0, hnd⟩ := hb
            have hs0 := Nat.eq_of_beq_eq_true hc0
            subst hs0
            refine SCall.seen ?_ (.cons (.refl _) .nil)
            exact (height_row h).use (fun j => match j with | 0 => P0 | 1 => P1 | 2 => P2 | 3 => P3 | _ => 0) rfl rfl ⟨by show (match get hB P0 with | some b0 => Blk.imp _ _ _ b0 | none => False); rw [hg0]; exact ⟨rfl, rfl⟩, rfl, ⟨by show (match get hB P1 with | some b0 => Blk.imp _ _ _ b0 | none => False); rw [hg1]; exact ⟨rfl, rfl, hl1.symm⟩, rfl, ⟨by show (match get hB P2 with | some b0 => Blk.imp _ _ _ b0 | none => False); rw [hg2]; exact ⟨rfl, rfl, hl2.symm⟩, rfl, ⟨by show (match get hB P3 with | some b0 => Blk.imp _ _ _ b0 | none => False); rw [hg3]; exact ⟨rfl, rfl, hl3.symm, fun y _ => Enc.pures _ y⟩, rfl, trivial⟩⟩⟩⟩ (by exact hnd) (fun j hj => by cases j with
                | zero => exact ⟨_, rfl⟩
                | succ j => cases j with
                 | zero => exact ⟨_, rfl⟩
                 | succ j => cases j with
                  | zero => exact ⟨_, rfl⟩
                  | succ j => cases j with
                   | zero => exact ⟨_, rfl⟩
                   | succ j => omega) (fun o => hk2 o)
          · exact hk.elim
        · exact hk.elim
      · exact hk.elim
    · exact hk.elim
  · exact hk.elim

def iqueueT : MT := fun ms n h K => match ms with
  | [.one (.ptr P0 0)] => (match get h P0 with
    | some (.cells [.nslc P3 2 len cap, .ch P1, .ch P2, .v (.int .u64 q)]) => (match get h P1 with
    | some (.chan c1 true wn1 wl1) => (match get h P2 with
    | some (.chan c2 false wn2 wl2) => (match get h P3 with
    | some (.row we3 wn3 wl3 cp) => bif Nat.beq we3 2 && noDup [P0, P1, P2, P3] then ∃ ms : List (MTy), wl1.map wn1.enc = ms.map (EM).enc ∧ ∃ bs : List (BTy), wl2.map wn2.enc = bs.map (EBl).enc ∧ ∃ L : List (KTy), wl3.map wn3.enc = L.map (EK).enc ∧ ∃ (x : IB), ((q = x.N) ∧ (len = L.length ∧ cap = cp ∧ capOk L.length cp ∧ c1 = 8 ∧ c2 = 8 ∧ L.map kl = x.L ∧ ms.map ml = x.D ∧ bs.map bl = x.B)) ∧ (∀ o : Unit, K (n + 0) (u64 x.N) ([(P0, .cells [.nslc P3 2 L.length cp, .ch P1, .ch P2, .v (.int .u64 q)]), (P1, .chan 8 true EM ms), (P2, .chan 8 false EBl bs), (P3, .row 2 EK L cp)] ++ delL [P0, P1, P2, P3] h)) else False
    | _ => False)
    | _ => False)
    | _ => False)
    | _ => False)
  | _ => False
theorem iqueue_mono : MMono iqueueT := by
  intro ms n h K K' hkk hk
  unfold iqueueT at hk ⊢
  split at hk
  · rename_i P0
    split at hk
    · rename_i P3 len cap P1 P2 q hg0
      try simp only [hg0]
      split at hk
      · rename_i c1 wa1 wn1 wl1 hg1
        try simp only [hg1]
        split at hk
        · rename_i c2 wa2 wn2 wl2 hg2
          try simp only [hg2]
          split at hk
          · rename_i we3 wa3 wn3 wl3 cp hg3
            try simp only [hg3]
            obtain ⟨hb, y0, z0, y1, z1, y2, z2, q0, h1, h2⟩ := cond_false_elim hk
            rw [hb]
            exact ⟨y0, z0, y1, z1, y2, z2, q0, h1, fun o => hkk _ _ _ (h2 o)⟩
          · exact hk.elim
        · exact hk.elim
      · exact hk.elim
    · exact hk.elim
  · exact hk.elim
theorem iqueue_ok : MOK Try.prog 26 iqueueT := by
  refine ⟨?_, iqueue_mono⟩
  intro ms n hB K hk
  unfold iqueueT at hk
  split at hk
  · rename_i P0
    split at hk
    · rename_i P3 len cap P1 P2 q hg0
      split at hk
      · rename_i c1 wa1 wn1 wl1 hg1
        split at hk
        · rename_i c2 wa2 wn2 wl2 hg2
          split at hk
          · rename_i we3 wa3 wn3 wl3 cp hg3
            obtain ⟨hb, ms, hl1, bs, hl2, L, hl3, x, h, hk2⟩ := cond_false_elim hk
            clear hk
            obtain ⟨rfl, h⟩ := h
            simp only [Bool.and_eq_true] at hb
            obtain ⟨hc0, hnd⟩ := hb
            have hs0 := Nat.eq_of_beq_eq_true hc0
            subst hs0
            refine SCall.seen ?_ (.cons (.refl _) .nil)
            exact (queue_row h).use (fun j => match j with | 0 => P0 | 1 => P1 | 2 => P2 | 3 => P3 | _ => 0) rfl rfl ⟨by show (match get hB P0 with | some b0 => Blk.imp _ _ _ b0 | none => False); rw [hg0]; exact ⟨rfl, rfl⟩, rfl, ⟨by show (match get hB P1 with | some b0 => Blk.imp _ _ _ b0 | none => False); rw [hg1]; exact ⟨rfl, rfl, hl1.symm⟩, rfl, ⟨by show (match get hB P2 with | some b0 => Blk.imp _ _ _ b0 | none => False); rw [hg2]; exact ⟨rfl, rfl, hl2.symm⟩, rfl, ⟨by show (match get hB P3 with | some b0 => Blk.imp _ _ _ b0 | none => False); rw [hg3]; exact ⟨rfl, rfl, hl3.symm, fun y _ => Enc.pures _ y⟩, rfl, trivial⟩⟩⟩⟩ (by exact hnd) (fun j hj => by cases j with
                | zero => exact ⟨_, rfl⟩
                | succ j => cases j with
                 | zero => exact ⟨_, rfl⟩
                 | succ j => cases j with
                  | zero => exact ⟨_, rfl⟩
                  | succ j => cases j with
                   | zero => exact ⟨_, rfl⟩
                   | succ j => omega) (fun o => hk2 o)
          · exact hk.elim
        · exact hk.elim
      · exact hk.elim
    · exact hk.elim
  · exact hk.elim

def iblockT : MT := fun ms n h K => match ms with
  | [.one (.ptr P0 0), .one (.v (.int .i64 n_))] => (match get h P0 with
    | some (.cells [.nslc P3 2 len cap, .ch P1, .ch P2, .v (.int .u64 q)]) => (match get h P1 with
    | some (.chan c1 true wn1 wl1) => (match get h P2 with
    | some (.chan c2 false wn2 wl2) => (match get h P3 with
    | some (.row we3 wn3 wl3 cp) => bif Nat.beq we3 2 && noDup [P0, P1, P2, P3] then ∃ ms : List (MTy), wl1.map wn1.enc = ms.map (EM).enc ∧ ∃ bs : List (BTy), wl2.map wn2.enc = bs.map (EBl).enc ∧ ∃ L : List (KTy), wl3.map wn3.enc = L.map (EK).enc ∧ ∃ (x : IB), ((q = x.N) ∧ (len = L.length ∧ cap = cp ∧ capOk L.length cp ∧ c1 = 8 ∧ c2 = 8 ∧ L.map kl = x.L ∧ ms.map ml = x.D ∧ bs.map bl = x.B ∧ (∀ b ∈ x.L, okB b) ∧ x.L.length ≤ 4096)) ∧ (∀ o : BkT (blockF x.L n_), K (n + 0) (.tup [.agg (bkA o.x o.ms o.y o.bs), bool (blockB x.L n_)]) ([(P0, .cells [.nslc P3 2 L.length cp, .ch P1, .ch P2, .v (.int .u64 q)]), (P1, .chan 8 true EM ms), (P2, .chan 8 false EBl bs), (P3, .row 2 EK L cp)] ++ delL [P0, P1, P2, P3] h)) else False
    | _ => False)
    | _ => False)
    | _ => False)
    | _ => False)
  | _ => False
theorem iblock_mono : MMono iblockT := by
  intro ms n h K K' hkk hk
  unfold iblockT at hk ⊢
  split at hk
  · rename_i P0 n_
    split at hk
    · rename_i P3 len cap P1 P2 q hg0
      try simp only [hg0]
      split at hk
      · rename_i c1 wa1 wn1 wl1 hg1
        try simp only [hg1]
        split at hk
        · rename_i c2 wa2 wn2 wl2 hg2
          try simp only [hg2]
          split at hk
          · rename_i we3 wa3 wn3 wl3 cp hg3
            try simp only [hg3]
            obtain ⟨hb, y0, z0, y1, z1, y2, z2, q0, h1, h2⟩ := cond_false_elim hk
            rw [hb]
            exact ⟨y0, z0, y1, z1, y2, z2, q0, h1, fun o => hkk _ _ _ (h2 o)⟩
          · exact hk.elim
        · exact hk.elim
      · exact hk.elim
    · exact hk.elim
  · exact hk.elim
theorem iblock_ok : MOK Try.prog 27 iblockT := by
  refine ⟨?_, iblock_mono⟩
  intro ms n hB K hk
  unfold iblockT at hk
  split at hk
  · rename_i P0 n_
    split at hk
    · rename_i P3 len cap P1 P2 q hg0
      split at hk
      · rename_i c1 wa1 wn1 wl1 hg1
        split at hk
        · rename_i c2 wa2 wn2 wl2 hg2
          split at hk
          · rename_i we3 wa3 wn3 wl3 cp hg3
            obtain ⟨hb, ms, hl1, bs, hl2, L, hl3, x, h, hk2⟩ := cond_false_elim hk
            clear hk
            obtain ⟨rfl, h⟩ := h
            simp only [Bool.and_eq_true] at hb
            obtain ⟨hc0, hnd⟩ := hb
            have hs0 := Nat.eq_of_beq_eq_true hc0
            subst hs0
            refine SCall.seen ?_ (.cons (.refl _) (.cons (.refl _) .nil))
            exact (block_row n_ h).use (fun j => match j with | 0 => P0 | 1 => P1 | 2 => P2 | 3 => P3 | _ => 0) rfl rfl ⟨by show (match get hB P0 with | some b0 => Blk.imp _ _ _ b0 | none => False); rw [hg0]; exact ⟨rfl, rfl⟩, rfl, ⟨by show (match get hB P1 with | some b0 => Blk.imp _ _ _ b0 | none => False); rw [hg1]; exact ⟨rfl, rfl, hl1.symm⟩, rfl, ⟨by show (match get hB P2 with | some b0 => Blk.imp _ _ _ b0 | none => False); rw [hg2]; exact ⟨rfl, rfl, hl2.symm⟩, rfl, ⟨by show (match get hB P3 with | some b0 => Blk.imp _ _ _ b0 | none => False); rw [hg3]; exact ⟨rfl, rfl, hl3.symm, fun y _ => Enc.pures _ y⟩, rfl, trivial⟩⟩⟩⟩ (by exact hnd) (fun j hj => by cases j with
                | zero => exact ⟨_, rfl⟩
                | succ j => cases j with
                 | zero => exact ⟨_, rfl⟩
                 | succ j => cases j with
                  | zero => exact ⟨_, rfl⟩
                  | succ j => cases j with
                   | zero => exact ⟨_, rfl⟩
                   | succ j => omega) (fun o => hk2 o)
          · exact hk.elim
        · exact hk.elim
      · exact hk.elim
    · exact hk.elim
  · exact hk.elim

theorem SCall.nilled {P : Program} {f n : Nat} {ms ms' : List M} {h : Bs} {K : Nat → M → Bs → Prop} (s : SCall P f ms' n h K) (hd : ∀ σ, ms'.map (M.den σ) = ms.map (M.den σ)) (ho : ∀ {w av n}, (∀ m ∈ ms, M.Ok w av n m) → ∀ m ∈ ms', M.Ok w av n m) : SCall P f ms n h K := by
  refine ⟨fun B σ w sm hargs => ?_⟩
  rw [← hd σ]
  exact s.out B σ w sm (ho hargs)
def idepositNT : MT := fun ms n h K => match ms with
  | [a, .agg l] => idepositT [a, .agg (nilC MsF l)] n h K
  | ms => idepositT ms n h K
theorem idepositN_ok : MOK Try.prog 17 idepositNT := by
  refine ⟨fun args n h K hk => ?_, fun args n h K K' hkk hk => ?_⟩
  · unfold idepositNT at hk
    split at hk
    · rename_i a l
      refine SCall.nilled (ideposit_ok.ok _ _ _ _ hk) (fun σ => ?_) fun {w av n} ho m hm => ?_
      · simp only [List.map_cons, List.map_nil, M.den, nilC_den]
      · simp only [List.mem_cons, List.not_mem_nil, or_false] at hm
        rcases hm with rfl | rfl
        · exact ho _ (by simp)
        · have h1 := ho (.agg l) (by simp)
          cases h1 with
          | agg hl => exact .agg (nilC_ok MsF l hl)
    · exact ideposit_ok.ok _ _ _ _ hk
  · unfold idepositNT at hk ⊢
    split at hk
    · exact ideposit_ok.mono _ _ _ _ _ hkk hk
    · exact ideposit_ok.mono _ _ _ _ _ hkk hk
open Go Go.Sx

instance {k : IntKind} : BEq (RK.int k).T := inferInstanceAs (BEq Int)
theorem iknows_spec : SFun Try.prog 14 [] (bool true) := by
  refine SFun.inm [(19, inumT)] (SOK.cons inum_ok SOK.nil) [(15, inewT), (17, idepositNT), (20, ipostT), (22, icloseT), (27, iblockT), (26, iqueueT)] (MSOK.cons inew_ok (MSOK.cons idepositN_ok (MSOK.cons ipost_ok (MSOK.cons iclose_ok (MSOK.cons iblock_ok (MSOK.cons iqueue_ok MSOK.nil)))))) tok mixed [] IOK.nil true [] [] Try.call14 Try.func14 rfl (by rfl) ?_
  refine Eq.mp (α := (And True (∀ o : Unit, (∃ d : List Int, (And (List.map (Enc.enc (encRec [RK.int IntKind.u8])) [] = List.map eB d) (∃ ms : List MTy, (And (List.map (Enc.enc EM) [] = List.map (Enc.enc EM) ms) (∃ bs : List BTy, (And (List.map (Enc.enc EBl) [] = List.map (Enc.enc EBl) bs) (∃ L : List KTy, (And (List.map (Enc.enc EK) [] = List.map (Enc.enc EK) L) (∃ x : IB, (And (And ((0 : Int) = IB.N x) (And ((0 : Nat) = List.length L) (And ((0 : Nat) = (0 : Nat)) (And (And (List.length L ≤ (0 : Nat)) (∀ a : List.length L = (0 : Nat), ((0 : Nat) = (0 : Nat)))) (And ((8 : Nat) = (8 : Nat)) (And ((8 : Nat) = (8 : Nat)) (And (List.map kl L = IB.L x) (And (List.map ml ms = IB.D x) (List.map bl bs = IB.B x))))))))) (∀ o_1 : IBT (Prod.fst (IB.deposit x { n := (0 : Int), s := (0 : Int), t := (7 : Int), v := List.replicate (4 : Nat) (0 : Int), g := (0 : Int), d := d })), (And ((0 : Nat) < (1 : Nat)) (And ((0 : Nat) + (1 : Nat) ≤ (1 : Nat)) (And ((1 : Nat) ≤ (1 : Nat)) (And (∀ y : Int, ((true : Bool) = true)) (∀ x_1 : Value, (∃ b : List Int, (And (List.map (Enc.enc (encInt IntKind.u8)) (List.take (1 : Nat) (List.drop (0 : Nat) [Enc.of (encInt IntKind.u8) ((98 : Int), ())])) = List.map eB b) (∃ ms_1 : List MTy, (And (List.map (Enc.enc EM) (IBT.ms o_1) = List.map (Enc.enc EM) ms_1) (∃ bs_1 : List BTy, (And (List.map (Enc.enc EBl) (IBT.bs o_1) = List.map (Enc.enc EBl) bs_1) (∃ L_1 : List KTy, (And (List.map (Enc.enc EK) (IBT.L o_1) = List.map (Enc.enc EK) L_1) (∃ x_2 : IB, (And (And (IB.N (Prod.fst (IB.deposit x { n := (0 : Int), s := (0 : Int), t := (7 : Int), v := List.replicate (4 : Nat) (0 : Int), g := (0 : Int), d := d })) = IB.N x_2) (And (List.length (IBT.L o_1) = List.length L_1) (And (IBT.cp o_1 = IBT.cp o_1) (And (And (List.length L_1 ≤ IBT.cp o_1) (∀ a : List.length L_1 = (0 : Nat), (IBT.cp o_1 = (0 : Nat)))) (And ((8 : Nat) = (8 : Nat)) (And ((8 : Nat) = (8 : Nat)) (And (List.map kl L_1 = IB.L x_2) (And (List.map ml ms_1 = IB.D x_2) (List.map bl bs_1 = IB.B x_2))))))))) (∀ o_2 : IBT (Prod.fst (IB.post x_2 b)), (∃ ms_2 : List MTy, (And (List.map (Enc.enc EM) (IBT.ms o_2) = List.map (Enc.enc EM) ms_2) (∃ bs_2 : List BTy, (And (List.map (Enc.enc EBl) (IBT.bs o_2) = List.map (Enc.enc EBl) bs_2) (∃ L_2 : List KTy, (And (List.map (Enc.enc EK) (IBT.L o_2) = List.map (Enc.enc EK) L_2) (∃ x_3 : IB, (And (And (IB.N (Prod.fst (IB.post x_2 b)) = IB.N x_3) (And (List.length (IBT.L o_2) = List.length L_2) (And (IBT.cp o_2 = IBT.cp o_2) (And (And (List.length L_2 ≤ IBT.cp o_2) (∀ a : List.length L_2 = (0 : Nat), (IBT.cp o_2 = (0 : Nat)))) (And ((8 : Nat) = (8 : Nat)) (And ((8 : Nat) = (8 : Nat)) (And (List.map kl L_2 = IB.L x_3) (And (List.map ml ms_2 = IB.D x_3) (And (List.map bl bs_2 = IB.B x_3) (And (List.length (IB.D x_3) ≤ (8 : Nat)) (List.length (IB.B x_3) ≤ (8 : Nat)))))))))))) (∀ o_3 : IBT (Prod.fst (IB.close x_3)), (∃ ms_3 : List MTy, (And (List.map (Enc.enc EM) (IBT.ms o_3) = List.map (Enc.enc EM) ms_3) (∃ bs_3 : List BTy, (And (List.map (Enc.enc EBl) (IBT.bs o_3) = List.map (Enc.enc EBl) bs_3) (∃ L_3 : List KTy, (And (List.map (Enc.enc EK) (IBT.L o_3) = List.map (Enc.enc EK) L_3) (∃ x_4 : IB, (And (And (IB.N (Prod.fst (IB.close x_3)) = IB.N x_4) (And (List.length (IBT.L o_3) = List.length L_3) (And (IBT.cp o_3 = IBT.cp o_3) (And (And (List.length L_3 ≤ IBT.cp o_3) (∀ a : List.length L_3 = (0 : Nat), (IBT.cp o_3 = (0 : Nat)))) (And ((8 : Nat) = (8 : Nat)) (And ((8 : Nat) = (8 : Nat)) (And (List.map kl L_3 = IB.L x_4) (And (List.map ml ms_3 = IB.D x_4) (And (List.map bl bs_3 = IB.B x_4) (And (∀ b_1 : Blo, (∀ a : b_1 ∈ IB.L x_4, (And (List.length (Prod.fst b_1) ≤ (8 : Nat)) (And (List.length (Prod.snd b_1) ≤ (8 : Nat)) (And (∀ m : Msg, (∀ a_1 : m ∈ Prod.fst b_1, (List.length (Msg.d m) ≤ (64 : Nat)))) (∀ x_5 : List Int, (∀ a_1 : x_5 ∈ Prod.snd b_1, (List.length x_5 ≤ (4096 : Nat))))))))) (List.length (IB.L x_4) ≤ (4096 : Nat)))))))))))) (∀ o_4 : BkT (blockF (IB.L x_4) (1 : Int)), (@Bool.rec (fun _ => Prop) (And (M.one (SV.v (Value.bool false)) = M.one (SV.v (Value.bool true))) ((true : Bool) = true)) (@Bool.rec (fun _ => Prop) (And (M.one (SV.v (Value.bool false)) = M.one (SV.v (Value.bool true))) ((true : Bool) = true)) (@Bool.rec (fun _ => Prop) (And (M.one (SV.v (Value.bool false)) = M.one (SV.v (Value.bool true))) ((true : Bool) = true)) (@Bool.rec (fun _ => Prop) (And (M.one (SV.v (Value.bool false)) = M.one (SV.v (Value.bool true))) ((true : Bool) = true)) (@Bool.rec (fun _ => Prop) (And (M.one (SV.v (Value.bool false)) = M.one (SV.v (Value.bool true))) ((true : Bool) = true)) (And ((0 : Int) ≤ (0 : Int)) (∃ hk : Int.toNat (0 : Int) < List.length (BkT.ms o_4), (@Bool.rec (fun _ => Prop) (And (M.one (SV.v (Value.bool false)) = M.one (SV.v (Value.bool true))) ((true : Bool) = true)) (@Bool.rec (fun _ => Prop) (And (M.one (SV.v (Value.bool false)) = M.one (SV.v (Value.bool true))) ((true : Bool) = true)) (∃ ms_4 : List MTy, (And (List.map (Enc.enc EM) ms_3 = List.map (Enc.enc EM) ms_4) (∃ bs_4 : List BTy, (And (List.map (Enc.enc EBl) bs_3 = List.map (Enc.enc EBl) bs_4) (∃ L_4 : List KTy, (And (List.map (Enc.enc EK) L_3 = List.map (Enc.enc EK) L_4) (∃ x_5 : IB, (And (And (IB.N (Prod.fst (IB.close x_3)) = IB.N x_5) (And (List.length L_3 = List.length L_4) (And (IBT.cp o_3 = IBT.cp o_3) (And (And (List.length L_4 ≤ IBT.cp o_3) (∀ a : List.length L_4 = (0 : Nat), (IBT.cp o_3 = (0 : Nat)))) (And ((8 : Nat) = (8 : Nat)) (And ((8 : Nat) = (8 : Nat)) (And (List.map kl L_4 = IB.L x_5) (And (List.map ml ms_4 = IB.D x_5) (List.map bl bs_4 = IB.B x_5))))))))) (∀ o_5 : Unit, (And (M.one (SV.v (Value.bool (IB.N x_5 == (1 : Int)))) = M.one (SV.v (Value.bool true))) ((true : Bool) = true))))))))))) ((↑(List.length (BkT.bs o_4)) : Int) == (1 : Int))) (Prod.fst (Prod.snd (Prod.snd (BkT.ms o_4)[Int.toNat (0 : Int)])) == (7 : Int))))) ((↑(List.length (BkT.ms o_4)) : Int) == (1 : Int))) (blockB (IB.L x_4) (1 : Int))) (Prod.fst (Prod.snd (IB.close x_3)) == (1 : Int))) (Prod.fst (Prod.snd (IB.deposit x { n := (0 : Int), s := (0 : Int), t := (7 : Int), v := List.replicate (4 : Nat) (0 : Int), g := (0 : Int), d := d })) == (0 : Int))) (IntKind.wrap IntKind.i64 (IntKind.wrap IntKind.i64 (Prod.snd (Prod.snd (IB.deposit x { n := (0 : Int), s := (0 : Int), t := (7 : Int), v := List.replicate (4 : Nat) (0 : Int), g := (0 : Int), d := d })) + Prod.snd (IB.post x_2 b)) + Prod.snd (Prod.snd (IB.close x_3))) == (0 : Int))))))))))))))))))))))))))))))))))))))))))))))))))) (by kernel_rfl) ?_
  refine ⟨trivial, fun o => ⟨[], rfl, [], rfl, [], rfl, [], rfl, ⟨[], [], [], 0⟩, ⟨rfl, rfl, rfl, ⟨Nat.le_refl _, fun _ => rfl⟩, rfl, rfl, rfl, rfl, rfl⟩, fun o1 => ⟨by decide, by decide, by decide, fun _ => rfl, fun x1 => ⟨[98], rfl, o1.ms, rfl, o1.bs, rfl, o1.L, rfl, _, ⟨rfl, rfl, rfl, o1.hc, rfl, rfl, o1.hL, o1.hm, o1.hb⟩, fun o2 => ⟨o2.ms, rfl, o2.bs, rfl, o2.L, rfl, _, ⟨rfl, rfl, rfl, o2.hc, rfl, rfl, o2.hL, o2.hm, o2.hb, by decide, by decide⟩, fun o3 => ?_⟩⟩⟩⟩⟩
  refine ⟨o3.ms, rfl, o3.bs, rfl, o3.L, rfl, _, ⟨rfl, rfl, rfl, o3.hc, rfl, rfl, o3.hL, o3.hm, o3.hb, fun b hb => ?_, by decide⟩, fun o4 => ?_⟩
  · rcases List.mem_singleton.1 hb with rfl
    exact ⟨by decide, by decide, fun m hm => by rcases List.mem_singleton.1 hm with rfl; decide, fun z hz => by rcases List.mem_singleton.1 hz with rfl; decide⟩
  obtain ⟨X, ms, Y, bs, hm, hb⟩ := o4
  have hm2 : ms.map ml = [⟨0, 0, 7, List.replicate 4 0, 0, []⟩] := hm
  have hb2 : bs.map bl = [[98]] := hb
  have l2 : bs.length = 1 := by have := congrArg List.length hb2; rwa [List.length_map] at this
  obtain ⟨a, rfl⟩ : ∃ a, ms = [a] := by
    cases ms with
    | nil => cases hm2
    | cons a r =>
      have := congrArg List.length hm2
      rw [List.length_map, List.length_cons] at this
      cases r with
      | nil => exact ⟨a, rfl⟩
      | cons _ _ => simp at this
  have h7 : (ml a).t = 7 := congrArg (fun l : List Msg => (l.headD ⟨0, 0, 0, [], 0, []⟩).t) hm2
  with_reducible refine bif_t ?_ ?_
  · decide
  with_reducible refine bif_t ?_ ?_
  · decide
  with_reducible refine bif_t ?_ ?_
  · decide
  with_reducible refine bif_t ?_ ?_
  · decide
  with_reducible refine bif_t ?_ ?_
  · rfl
  refine ⟨by decide, Nat.succ_pos _, ?_⟩
  with_reducible refine bif_t ?_ ?_
  · show ((ml a).t == (7 : Int)) = true
    rw [h7]
    rfl
  with_reducible refine bif_t ?_ ?_
  · rw [l2]
    rfl
  exact ⟨o3.ms, rfl, o3.bs, rfl, o3.L, rfl, _, ⟨rfl, rfl, rfl, o3.hc, rfl, rfl, o3.hL, o3.hm, o3.hb⟩, fun _ => ⟨rfl, rfl⟩⟩
def iknowsT : List M → (M → Prop) → Prop
  | [], K => K (bool true)
  | _, _ => False
theorem iknows_ok : POK Try.prog 14 iknowsT := by
  intro ms K h
  unfold iknowsT at h ⊢
  split at h
  · exact ⟨_, h, (iknows_spec), rfl, fun _ hk => hk⟩
  · exact h.elim

open Go Go.Sx

theorem irmsg_spec (n s t : Int) (v : List Int) (g : Int) (x : Value) {d : List Int} (h : d.length ≤ 100000000) : SMem Try.prog 41 [.agg (mA n s t v g x d)] 0 [] (fun y : Value => ⟨0, .agg (mA n s t v g y d), []⟩) := by
  refine SMem.inf 1 EB [] SOK.nil [] MSOK.nil tok mixed [] IOK.nil true [] [] Try.call41 Try.func41 rfl (by rfl) ?_
  refine Eq.mp (α := (And (And (And ((0 : Nat) = (0 : Nat)) (And ((0 : Nat) = (0 : Nat)) (∃ ys : List Int, (And (List.map (Enc.enc (encInt IntKind.u8)) ys = List.map eB d) (And (((0 : Nat) + List.length ys) * (1 : Nat) ≤ (150000000000000 : Nat)) (∀ cap2 : Nat, (∀ a : (0 : Nat) + List.length ys ≤ cap2, (And (And ((0 : Nat) + List.length ([] ++ ys) ≤ List.length ([] ++ ys)) (And (List.length ([] ++ ys) ≤ cap2) (And (∀ y : Int, ((true : Bool) = true)) (∀ x_1 : Value, (∃ o : Value, (And (And (And (n = n) (And (s = s) (And (t = t) (And (v = v) (And (g = g) (And (SV.view o (1 : Nat) eB d = nilV (1 : Nat) EB (SV.view x_1 (1 : Nat) (Enc.enc (encInt IntKind.u8)) (List.take (List.length ([] ++ ys)) (List.drop (0 : Nat) ([] ++ ys))))) True)))))) True) (And True ((true : Bool) = true)))))))) True)))))))) True) True)) (by kernel_rfl) ?_
  refine ⟨⟨⟨rfl, rfl, d, rfl, by omega, fun cap2 h2 => ⟨⟨Nat.le_of_eq (Nat.zero_add _), Nat.le_trans (Nat.le_of_eq (Nat.zero_add _).symm) h2, fun _ => rfl, fun y => ⟨y, ⟨⟨rfl, rfl, rfl, rfl, rfl, ?_, trivial⟩, trivial⟩, trivial, rfl⟩⟩, trivial⟩⟩, trivial⟩, trivial⟩
  show SV.view y 1 eB d = SV.view y 1 eB (List.take d.length (List.drop 0 d))
  rw [List.drop_zero, List.take_length]
def irmsgT : MT := fun ms n h K => match ms with
  | [.agg [.v (.int .u64 n_), .v (.int .u64 s), .v (.int .u64 t), .ints .u64 4 v, .v (.int .u64 g), .view vx0 ve0 en0 vl0]] => bif Nat.beq ve0 1 && noDup [] then ∃ d : List (Int), vl0.map en0 = d.map eB ∧ (d.length ≤ 100000000) ∧ (∀ y : Value, K (n + 0) (.agg (mA n_ s t v g y d)) ([] ++ delL [] h)) else False
  | _ => False
theorem irmsg_mono : MMono irmsgT := by
  intro ms n h K K' hkk hk
  unfold irmsgT at hk ⊢
  split at hk
  · rename_i n_ s t v g vx0 ve0 va0 en0 vl0
    obtain ⟨hb, y0, z0, h1, h2⟩ := cond_false_elim hk
    rw [hb]
    exact ⟨y0, z0, h1, fun o => hkk _ _ _ (h2 o)⟩
  · exact hk.elim
theorem irmsg_ok : MOK Try.prog 41 irmsgT := by
  refine ⟨?_, irmsg_mono⟩
  intro ms n hB K hk
  unfold irmsgT at hk
  split at hk
  · rename_i n_ s t v g vx0 ve0 va0 en0 vl0
    obtain ⟨hb, d, he0, h, hk2⟩ := cond_false_elim hk
    clear hk
    simp only [Bool.and_eq_true] at hb
    obtain ⟨hc0, hnd⟩ := hb
    have hs0 := Nat.eq_of_beq_eq_true hc0
    subst hs0
    refine SCall.seen ?_ (.cons (.agg (.refl (.refl (.refl (.refl (.refl (.view he0 .nil))))))) .nil)
    exact (irmsg_spec _ _ _ _ _ _ h).use (fun _ => 0) rfl rfl trivial (by exact hnd) (fun j hj => absurd hj (Nat.not_lt_zero j)) (fun o => hk2 o)
  · exact hk.elim

theorem isame_spec (n s t : Int) (v : List Int) (g : Int) (x : Value) (d : List Int) (x' : Value) : SFun Try.prog 40 [.agg (mA n s t v g x d), .agg (mA n s t v g x' d)] (bool true) := by
  refine SFun.inm [] SOK.nil [] MSOK.nil tok mixed [] IOK.nil true [] [] Try.call40 Try.func40 rfl (by rfl) ?_
  refine Eq.mp (α := (@Bool.rec (fun _ => Prop) (And (M.one (SV.v (Value.bool false)) = M.one (SV.v (Value.bool true))) ((true : Bool) = true)) (@Bool.rec (fun _ => Prop) (And (M.one (SV.v (Value.bool false)) = M.one (SV.v (Value.bool true))) ((true : Bool) = true)) (@Bool.rec (fun _ => Prop) (And (M.one (SV.v (Value.bool false)) = M.one (SV.v (Value.bool true))) ((true : Bool) = true)) (@Bool.rec (fun _ => Prop) (And (M.one (SV.v (Value.bool false)) = M.one (SV.v (Value.bool true))) ((true : Bool) = true)) (@Bool.rec (fun _ => Prop) (And (M.one (SV.v (Value.bool false)) = M.one (SV.v (Value.bool true))) ((true : Bool) = true)) (And (∀ x_1 : Int, (∀ a : x_1 ∈ d, (∃ b : Int, (eB x_1 = [SV.v (Value.int IntKind.u8 b)])))) (And (∀ x_1 : Int, (∀ a : x_1 ∈ d, (∃ b : Int, (eB x_1 = [SV.v (Value.int IntKind.u8 b)])))) (And (M.one (SV.v (Value.bool (ByteArray.toList (strOfNums (bytesOf eB d)) == ByteArray.toList (strOfNums (bytesOf eB d))))) = M.one (SV.v (Value.bool true))) ((true : Bool) = true)))) (g == g)) (v == v)) (t == t)) (s == s)) (n == n))) (by kernel_rfl) ?_
  refine bif_t (beq_self_eq_true n) (bif_t (beq_self_eq_true s) (bif_t (beq_self_eq_true t) (bif_t (beq_self_eq_true v) (bif_t (beq_self_eq_true g) ?_))))
  refine ⟨fun y _ => ⟨y, rfl⟩, fun y _ => ⟨y, rfl⟩, ?_, rfl⟩
  rw [beq_self_eq_true]
theorem isame_row {n s t : Int} {v : List Int} {g : Int} {x : Value} {d : List Int} {n' s' t' : Int} {v' : List Int} {g' : Int} {x' : Value} {d' : List Int} (h : n = n' ∧ s = s' ∧ t = t' ∧ v = v' ∧ g = g' ∧ d = d') : SFun Try.prog 40 [.agg (mA n s t v g x d), .agg (mA n' s' t' v' g' x' d')] (bool true) := by
  obtain ⟨rfl, rfl, rfl, rfl, rfl, rfl⟩ := h
  exact isame_spec _ _ _ _ _ _ _ _
def isameT : List M → (M → Prop) → Prop
  | [.agg [.v (.int .u64 n), .v (.int .u64 s), .v (.int .u64 t), .ints .u64 4 v, .v (.int .u64 g), .view x0 es0 en0 l0], .agg [.v (.int .u64 n2), .v (.int .u64 s2), .v (.int .u64 t2), .ints .u64 4 v2, .v (.int .u64 g2), .view x1 es1 en1 l1]], K => bif Nat.beq es0 1 then ∃ d : List (Int), l0.map en0 = d.map eB ∧ (bif Nat.beq es1 1 then ∃ d2 : List (Int), l1.map en1 = d2.map eB ∧ ((n = n2 ∧ s = s2 ∧ t = t2 ∧ v = v2 ∧ g = g2 ∧ d = d2) ∧ K (bool true)) else False) else False
  | _, _ => False
theorem isame_ok : POK Try.prog 40 isameT := by
  intro ms K h
  unfold isameT at h ⊢
  split at h
  · obtain ⟨hb0, d, he0, h0⟩ := cond_false_elim (b := Nat.beq _ _) h
    have hs0 := Nat.eq_of_beq_eq_true hb0
    subst hs0
    obtain ⟨hb1, d2, he1, h1⟩ := cond_false_elim (b := Nat.beq _ _) h0
    have hs1 := Nat.eq_of_beq_eq_true hb1
    subst hs1
    exact ⟨_, h1.2, (isame_row h1.1).seen (.cons (.agg (.refl (.refl (.refl (.refl (.refl (.view he0 .nil))))))) (.cons (.agg (.refl (.refl (.refl (.refl (.refl (.view he1 .nil))))))) .nil)), rfl, fun _ hk => by show cond _ _ _; refine (show cond true _ _ from ⟨_, he0, ?_⟩); show cond _ _ _; refine (show cond true _ _ from ⟨_, he1, ?_⟩); exact ⟨h1.1, hk⟩⟩
  · exact h.elim

theorem wrap0 (i : Nat) (h : i < 9000000000000000000) : IntKind.i64.wrap ((i : Int) + 1) = ((i + 1 : Nat) : Int) := by rw [wrap64 (by omega) (by omega)]; rfl
abbrev OpF : List RK := [.int .i64, .int .u64, .int .u64, .int .u64, .ints .u64 4, .int .u64, .sl 1 [.int .u8], .sl 1 [.int .u8]]
abbrev OTy := RK.TL OpF
def EO : Enc OTy := encRec OpF
abbrev eO : OTy → List SV := EO.enc
def od (y : OTy) : List Int := List.map b1 y.2.2.2.2.2.2.1.2
def ob (y : OTy) : List Int := List.map b1 y.2.2.2.2.2.2.2.1.2
def longF (l : List OTy) : Bool := (l.take 200).any (fun y => decide (2000 < (od y).length) || decide (9000 < (ob y).length)) || decide (100 < l.length)
structure LoT (l : List OTy) where
  i : Nat
  h : i ≤ l.length ∧ i ≤ 200 ∧ (l.take i).any (fun y => decide (2000 < (od y).length) || decide (9000 < (ob y).length)) = false
theorem ilong_spec (x : Value) {l : List OTy} (hl : l.length ≤ 2000000000000) : SFun Try.prog 13 [.one (.view x 11 EO.enc l)] (bool (longF l)) := by
  refine SFun.inm [] SOK.nil [] MSOK.nil tok mixed [] IOK.nil false [(2, ⟨LoT l, fun p => ⟨0, [(0, .one (.view x 11 EO.enc l)), (2, bool false), (3, int p.i)], []⟩, fun p => l.length - p.i, fun _ _ => True⟩)] [] Try.call13 Try.func13 rfl (by rfl) ?_
  refine Eq.mp (α := (∃ i0 : LoT l, (And (And True (And (And (SV.view x (11 : Nat) (Enc.enc EO) l = SV.view x (11 : Nat) (Enc.enc EO) l) (And ((false : Bool) = false) (And ((↑(LoT.i i0) : Int) = (0 : Int)) True))) (And True ((true : Bool) = true)))) (∀ i : LoT l, (∀ a : True, (@Bool.rec (fun _ => Prop) (And (M.one (SV.v (Value.bool (decide ((100 : Int) < (↑(List.length l) : Int))))) = M.one (SV.v (Value.bool (longF l)))) ((true : Bool) = true)) (@Bool.rec (fun _ => Prop) (And (M.one (SV.v (Value.bool (decide ((100 : Int) < (↑(List.length l) : Int))))) = M.one (SV.v (Value.bool (longF l)))) ((true : Bool) = true)) (And ((0 : Int) ≤ (↑(LoT.i i) : Int)) (∃ hk : Int.toNat (↑(LoT.i i) : Int) < List.length l, (@Bool.rec (fun _ => Prop) (And ((0 : Int) ≤ (↑(LoT.i i) : Int)) (∃ hk_1 : Int.toNat (↑(LoT.i i) : Int) < List.length l, (@Bool.rec (fun _ => Prop) (∃ i' : LoT l, (And (And (List.length l - LoT.i i' < List.length l - LoT.i i) True) (And (And (SV.view x (11 : Nat) (Enc.enc EO) l = SV.view x (11 : Nat) (Enc.enc EO) l) (And ((false : Bool) = false) (And ((↑(LoT.i i') : Int) = IntKind.wrap IntKind.i64 ((↑(LoT.i i) : Int) + (1 : Int))) True))) (And True ((true : Bool) = true))))) (And (M.one (SV.v (Value.bool true)) = M.one (SV.v (Value.bool (longF l)))) ((true : Bool) = true)) (decide ((9000 : Int) < (↑(List.length (Prod.snd (Prod.fst (Prod.snd (Prod.snd (Prod.snd (Prod.snd (Prod.snd (Prod.snd (Prod.snd l[Int.toNat (↑(LoT.i i) : Int)])))))))))) : Int)))))) (And (M.one (SV.v (Value.bool true)) = M.one (SV.v (Value.bool (longF l)))) ((true : Bool) = true)) (decide ((2000 : Int) < (↑(List.length (Prod.snd (Prod.fst (Prod.snd (Prod.snd (Prod.snd (Prod.snd (Prod.snd (Prod.snd l[Int.toNat (↑(LoT.i i) : Int)]))))))))) : Int)))))) (decide ((↑(LoT.i i) : Int) < (200 : Int)))) (decide ((↑(LoT.i i) : Int) < (↑(List.length l) : Int))))))))) (by kernel_rfl) ?_
  refine ⟨⟨0, Nat.zero_le _, Nat.zero_le _, rfl⟩, ⟨trivial, ⟨rfl, rfl, rfl, trivial⟩, trivial, rfl⟩, ?_⟩
  rintro ⟨i, hi, hi2, ha⟩ -
  dsimp only
  have hf : ∀ j, j = i → (j = l.length ∨ j = 200) → longF l = decide (100 < (l.length : Int)) := fun j hj h => by
    unfold longF
    have e : l.take 200 = l.take i := by
      rcases h with h | h
      · rw [List.take_of_length_le (by omega), List.take_of_length_le (by omega)]
      · rw [← hj, h]
    rw [e, ha, Bool.false_or]
    exact decide_eq_decide.2 (by omega)
  have ht : ∀ (hk : i < l.length) (_ : i < 200), (2000 < (od l[i]).length ∨ 9000 < (ob l[i]).length) → longF l = true := fun hk h2 h => by
    unfold longF
    rw [Bool.or_eq_true, List.any_eq_true]
    refine .inl ⟨l[i], ?_, ?_⟩
    · rw [List.mem_take_iff_getElem]
      exact ⟨i, by omega, rfl⟩
    · rcases h with h | h
      · rw [decide_eq_true h, Bool.true_or]
      · rw [decide_eq_true h, Bool.or_true]
  have ed : ∀ y : OTy, (od y).length = y.2.2.2.2.2.2.1.2.length := fun y => List.length_map b1
  have eb : ∀ y : OTy, (ob y).length = y.2.2.2.2.2.2.2.1.2.length := fun y => List.length_map b1
  refine bif_dec (fun g1 => bif_dec (fun g2 => ?_) (fun g2 => ?_)) (fun g1 => ?_)
  · have hk : i < l.length := by omega
    refine ⟨by omega, hk, ?_⟩
    simp only [Int.toNat_natCast, wrap0 i (by omega)]
    refine bif_dec (fun g3 => ?_) (fun g3 => ⟨by omega, hk, bif_dec (fun g4 => ?_) (fun g4 => ?_)⟩)
    · rw [ht hk (by omega) (.inl (by rw [ed]; omega))]
      exact ⟨by trivial, by trivial⟩
    · rw [ht hk (by omega) (.inr (by rw [eb]; omega))]
      exact ⟨by trivial, by trivial⟩
    · refine ⟨⟨i + 1, hk, by omega, ?_⟩, ⟨show l.length - (i + 1) < l.length - i by omega, trivial⟩, ⟨by trivial, by trivial, by trivial, by trivial⟩, by trivial, by trivial⟩
      rw [List.take_add_one, List.getElem?_eq_getElem hk, List.any_append, ha, Bool.false_or]
      simp only [Option.toList_some, List.any_cons, List.any_nil, Bool.or_false, ed, eb]
      rw [decide_eq_false (show ¬ 2000 < _ by omega), decide_eq_false (show ¬ 9000 < _ by omega)]
      rfl
  · rw [hf i rfl (.inr (by omega))]
    exact ⟨rfl, rfl⟩
  · rw [hf i rfl (.inl (by omega))]
    exact ⟨rfl, rfl⟩
def ilongT : List M → (M → Prop) → Prop
  | [.one (.view x0 es0 en0 l0)], K => bif Nat.beq es0 11 then ∃ l : List (OTy), l0.map en0 = l.map eO ∧ (l.length ≤ 2000000000000 ∧ K (bool (longF l))) else False
  | _, _ => False
theorem ilong_ok : POK Try.prog 13 ilongT := by
  intro ms K h
  unfold ilongT at h ⊢
  split at h
  · obtain ⟨hb0, l, he0, h0⟩ := cond_false_elim (b := Nat.beq _ _) h
    have hs0 := Nat.eq_of_beq_eq_true hb0
    subst hs0
    exact ⟨_, h0.2, (ilong_spec _ h0.1).seen (.cons (.view he0) .nil), rfl, fun _ hk => by show cond _ _ _; refine (show cond true _ _ from ⟨_, he0, ?_⟩); exact ⟨h0.1, hk⟩⟩
  · exact h.elim

end Go.Proofs.Ytgbikcniediomaa
