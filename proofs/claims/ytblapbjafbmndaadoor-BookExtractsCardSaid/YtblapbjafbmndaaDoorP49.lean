/- The law BookChecks. -/
import Derived.Test.YtblapbjafbmndaaDoorP48
import Derived.Test.YtblapbjafbmndaaDoorSx24
namespace Go.Proofs.YtblapbjafbmndaaDoor
open Go Go.Sx Go.Sha
set_option linter.unusedVariables false
set_option linter.unusedSimpArgs false
set_option maxRecDepth 100000
set_option maxHeartbeats 4000000

structure EqT (a b : List Int) where
  i : Nat
  hi : i ≤ a.length
  hl : a.length = b.length
  he : a.take i = b.take i
theorem equal_spec (x y : Value) {a b : List Int} (ha : a.length ≤ 9223372036854775807) : SFun Tryd.prog 93 [byV x a, byV y b] (bool (decide (a = b))) := by
  refine SFun.inm [] SOK.nil [] MSOK.nil tok mixed [] IOK.nil false [(4, ⟨EqT a b, fun p => ⟨0, [(0, byV x a), (1, byV y b), (12, int a.length), (13, int p.i)], []⟩, fun p => a.length - p.i, fun _ _ => True⟩)] [] Tryd.call93 Tryd.func93 rfl (by rfl) ?_
  refine Eq.mp (α := (@Bool.rec (fun _ => Prop) (∃ i0 : EqT a b, (And (And True (And (And (SV.view x (1 : Nat) (Enc.enc (encInt IntKind.u8)) a = SV.view x (1 : Nat) (Enc.enc (encInt IntKind.u8)) a) (And (SV.view y (1 : Nat) (Enc.enc (encInt IntKind.u8)) b = SV.view y (1 : Nat) (Enc.enc (encInt IntKind.u8)) b) (And ((↑(List.length a) : Int) = (↑(List.length a) : Int)) (And ((↑(EqT.i i0) : Int) = (0 : Int)) True)))) (And True ((true : Bool) = true)))) (∀ i : EqT a b, (∀ a_1 : True, (@Bool.rec (fun _ => Prop) (And (M.one (SV.v (Value.bool true)) = M.one (SV.v (Value.bool (decide (a = b))))) ((true : Bool) = true)) (And ((0 : Int) ≤ (↑(EqT.i i) : Int)) (∃ hk : Int.toNat (↑(EqT.i i) : Int) < List.length a, (And ((0 : Int) ≤ (↑(EqT.i i) : Int)) (∃ hk_1 : Int.toNat (↑(EqT.i i) : Int) < List.length b, (@Bool.rec (fun _ => Prop) (∃ i' : EqT a b, (And (And (List.length a - EqT.i i' < List.length a - EqT.i i) True) (And (And (SV.view x (1 : Nat) (Enc.enc (encInt IntKind.u8)) a = SV.view x (1 : Nat) (Enc.enc (encInt IntKind.u8)) a) (And (SV.view y (1 : Nat) (Enc.enc (encInt IntKind.u8)) b = SV.view y (1 : Nat) (Enc.enc (encInt IntKind.u8)) b) (And ((↑(List.length a) : Int) = (↑(List.length a) : Int)) (And ((↑(EqT.i i') : Int) = IntKind.wrap IntKind.i64 ((↑(EqT.i i) : Int) + (1 : Int))) True)))) (And True ((true : Bool) = true))))) (And (M.one (SV.v (Value.bool false)) = M.one (SV.v (Value.bool (decide (a = b))))) ((true : Bool) = true)) (a[Int.toNat (↑(EqT.i i) : Int)] != b[Int.toNat (↑(EqT.i i) : Int)])))))) (decide ((↑(EqT.i i) : Int) < (↑(List.length a) : Int)))))))) (And (M.one (SV.v (Value.bool false)) = M.one (SV.v (Value.bool (decide (a = b))))) ((true : Bool) = true)) ((↑(List.length a) : Int) != (↑(List.length b) : Int)))) (by kernel_rfl) ?_
  have bneF : ∀ {a b : Int}, (a != b) = false → a = b := fun {a b} h => by simpa using h
  have bneT : ∀ {a b : Int}, (a != b) = true → a ≠ b := fun {a b} h => by simpa using h
  refine bif_b (fun h1 => ?_) (fun h1 => ?_)
  · rw [decide_eq_false (fun e => bneT h1 (by rw [e]))]
    repeat' first | exact trivial | refine And.intro ?_ ?_ | with_reducible refine bif_dt (by assumption) ?_ | with_reducible refine bif_df (by assumption) ?_ | with_reducible refine bif_dec (fun _ => ?_) (fun _ => ?_) | with_reducible refine bif_not ?_ | with_reducible refine bif_and ?_ | with_reducible refine bif_or ?_ | with_reducible refine bif_t (by assumption) ?_ | with_reducible refine bif_f (by assumption) ?_ | with_reducible refine bif_t (beq_self_eq_true _) ?_ | with_reducible refine bif_b (fun _ => ?_) (fun _ => ?_) | with_reducible refine ⟨_, Eq.refl (List.map _ _), ?_⟩ | (with_reducible refine Exists.intro (by omega) ?_) | rfl | (intro h0; omega) | omega
  have hl : a.length = b.length := by have := bneF h1; omega
  refine ⟨⟨0, Nat.zero_le _, hl, rfl⟩, ?_, ?_⟩
  ·
    repeat' first | exact trivial | refine And.intro ?_ ?_ | with_reducible refine bif_dt (by assumption) ?_ | with_reducible refine bif_df (by assumption) ?_ | with_reducible refine bif_dec (fun _ => ?_) (fun _ => ?_) | with_reducible refine bif_not ?_ | with_reducible refine bif_and ?_ | with_reducible refine bif_or ?_ | with_reducible refine bif_t (by assumption) ?_ | with_reducible refine bif_f (by assumption) ?_ | with_reducible refine bif_t (beq_self_eq_true _) ?_ | with_reducible refine bif_b (fun _ => ?_) (fun _ => ?_) | with_reducible refine ⟨_, Eq.refl (List.map _ _), ?_⟩ | (with_reducible refine Exists.intro (by omega) ?_) | rfl | (intro h0; omega) | omega
  rintro ⟨i, hi, _, he⟩ -
  dsimp only
  refine bif_dec (fun h2 => ?_) (fun h2 => ?_)
  · have ha' : i < a.length := by omega
    have hb' : i < b.length := by omega
    simp only [Int.toNat_natCast, inext (show i < 9223372036854775807 by omega)]
    refine ⟨by omega, ha', by omega, hb', bif_b (fun h3 => ?_) (fun h3 => ?_)⟩
    · have h4 := bneT h3
      rw [decide_eq_false (fun e => h4 (by subst e; rfl))]
      repeat' first | exact trivial | refine And.intro ?_ ?_ | with_reducible refine bif_dt (by assumption) ?_ | with_reducible refine bif_df (by assumption) ?_ | with_reducible refine bif_dec (fun _ => ?_) (fun _ => ?_) | with_reducible refine bif_not ?_ | with_reducible refine bif_and ?_ | with_reducible refine bif_or ?_ | with_reducible refine bif_t (by assumption) ?_ | with_reducible refine bif_f (by assumption) ?_ | with_reducible refine bif_t (beq_self_eq_true _) ?_ | with_reducible refine bif_b (fun _ => ?_) (fun _ => ?_) | with_reducible refine ⟨_, Eq.refl (List.map _ _), ?_⟩ | (with_reducible refine Exists.intro (by omega) ?_) | rfl | (intro h0; omega) | omega
    · have h4 := bneF h3
      refine ⟨⟨i + 1, ha', hl, by rw [List.take_add_one, List.take_add_one, he, List.getElem?_eq_getElem ha', List.getElem?_eq_getElem hb', h4]⟩, ⟨show a.length - (i + 1) < a.length - i by omega, trivial⟩, ?_⟩
      repeat' first | exact trivial | refine And.intro ?_ ?_ | with_reducible refine bif_dt (by assumption) ?_ | with_reducible refine bif_df (by assumption) ?_ | with_reducible refine bif_dec (fun _ => ?_) (fun _ => ?_) | with_reducible refine bif_not ?_ | with_reducible refine bif_and ?_ | with_reducible refine bif_or ?_ | with_reducible refine bif_t (by assumption) ?_ | with_reducible refine bif_f (by assumption) ?_ | with_reducible refine bif_t (beq_self_eq_true _) ?_ | with_reducible refine bif_b (fun _ => ?_) (fun _ => ?_) | with_reducible refine ⟨_, Eq.refl (List.map _ _), ?_⟩ | (with_reducible refine Exists.intro (by omega) ?_) | rfl | (intro h0; omega) | omega
  · have hil : i = a.length := by omega
    subst hil
    rw [List.take_length, hl, List.take_length] at he
    rw [decide_eq_true he]
    repeat' first | exact trivial | refine And.intro ?_ ?_ | with_reducible refine bif_dt (by assumption) ?_ | with_reducible refine bif_df (by assumption) ?_ | with_reducible refine bif_dec (fun _ => ?_) (fun _ => ?_) | with_reducible refine bif_not ?_ | with_reducible refine bif_and ?_ | with_reducible refine bif_or ?_ | with_reducible refine bif_t (by assumption) ?_ | with_reducible refine bif_f (by assumption) ?_ | with_reducible refine bif_t (beq_self_eq_true _) ?_ | with_reducible refine bif_b (fun _ => ?_) (fun _ => ?_) | with_reducible refine ⟨_, Eq.refl (List.map _ _), ?_⟩ | (with_reducible refine Exists.intro (by omega) ?_) | rfl | (intro h0; omega) | omega
def equalBT : List M → (M → Prop) → Prop
  | [.one (.view x0 es0 en0 l0), .one (.view x1 es1 en1 l1)], K => bif Nat.beq es0 1 then ∃ a : List (Int), l0.map en0 = a.map eB ∧ (bif Nat.beq es1 1 then ∃ b : List (Int), l1.map en1 = b.map eB ∧ (a.length ≤ 9223372036854775807 ∧ K (bool (decide (a = b)))) else False) else False
  | _, _ => False
theorem equalB_ok : POK Tryd.prog 93 equalBT := by
  intro ms K h
  unfold equalBT at h ⊢
  split at h
  · obtain ⟨hb0, a, he0, h0⟩ := cond_false_elim (b := Nat.beq _ _) h
    have hs0 := Nat.eq_of_beq_eq_true hb0
    subst hs0
    obtain ⟨hb1, b, he1, h1⟩ := cond_false_elim (b := Nat.beq _ _) h0
    have hs1 := Nat.eq_of_beq_eq_true hb1
    subst hs1
    exact ⟨_, h1.2, (equal_spec _ _ h1.1).seen (.cons (.view he0) (.cons (.view he1) .nil)), rfl, fun _ hk => by show cond _ _ _; refine (show cond true _ _ from ⟨_, he0, ?_⟩); show cond _ _ _; refine (show cond true _ _ from ⟨_, he1, ?_⟩); exact ⟨h1.1, hk⟩⟩
  · exact h.elim

/-- Unlike, with one digest? -/
noncomputable def chk (a b : List Int) : Bool := !decide (a = b) && (shaF a == shaF b)
theorem bcheck_spec (x y : Value) {a b : List Int} (ha : By a) (hb : By b) (h1 : a.length ≤ 140737488351232) (h2 : b.length ≤ 140737488351232) : SFun Tryd.prog 49 [byV x a, byV y b] (bool (chk a b)) := by
  refine SFun.inm [(93, equalBT), (17, sumT)] (SOK.cons equalB_ok (SOK.cons sum_ok SOK.nil)) [] MSOK.nil tok mixed [] IOK.nil true [] [] Tryd.call49 Tryd.func49 rfl (by rfl) ?_
  refine Eq.mp (α := (∃ a_1 : List Int, (And (List.map (Enc.enc (encInt IntKind.u8)) a = List.map eB a_1) (∃ b_1 : List Int, (And (List.map (Enc.enc (encInt IntKind.u8)) b = List.map eB b_1) (And (List.length a_1 ≤ (9223372036854775807 : Nat)) (@Bool.rec (fun _ => Prop) (And (M.one (SV.v (Value.bool false)) = M.one (SV.v (Value.bool (chk a b)))) ((true : Bool) = true)) (∃ b_2 : List Int, (And (List.map (Enc.enc (encInt IntKind.u8)) a = List.map eB b_2) (And (And (∀ x_1 : Int, (∀ a_2 : x_1 ∈ b_2, (And ((0 : Int) ≤ x_1) (x_1 < (256 : Int))))) (List.length b_2 ≤ (140737488351232 : Nat))) (∃ b_3 : List Int, (And (List.map (Enc.enc (encInt IntKind.u8)) b = List.map eB b_3) (And (And (∀ x_1 : Int, (∀ a_2 : x_1 ∈ b_3, (And ((0 : Int) ≤ x_1) (x_1 < (256 : Int))))) (List.length b_3 ≤ (140737488351232 : Nat))) (And (M.one (SV.v (Value.bool (shaF b_2 == shaF b_3))) = M.one (SV.v (Value.bool (chk a b)))) ((true : Bool) = true)))))))) (!decide (a_1 = b_1))))))))) (by kernel_rfl) ?_
  refine ⟨a, rfl, b, rfl, by omega, ?_⟩
  unfold chk
  cases decide (a = b) with
  | true => exact ⟨rfl, rfl⟩
  | false => exact ⟨a, rfl, ⟨ha, h1⟩, b, rfl, ⟨hb, h2⟩, rfl, rfl⟩
def bcheckT : List M → (M → Prop) → Prop
  | [.one (.view x0 es0 en0 l0), .one (.view x1 es1 en1 l1)], K => bif Nat.beq es0 1 then ∃ a : List (Int), l0.map en0 = a.map eB ∧ (bif Nat.beq es1 1 then ∃ b : List (Int), l1.map en1 = b.map eB ∧ ((By a ∧ By b ∧ a.length ≤ 140737488351232 ∧ b.length ≤ 140737488351232) ∧ K (bool (chk a b))) else False) else False
  | _, _ => False
theorem bcheck_ok : POK Tryd.prog 49 bcheckT := by
  intro ms K h
  unfold bcheckT at h ⊢
  split at h
  · obtain ⟨hb0, a, he0, h0⟩ := cond_false_elim (b := Nat.beq _ _) h
    have hs0 := Nat.eq_of_beq_eq_true hb0
    subst hs0
    obtain ⟨hb1, b, he1, h1⟩ := cond_false_elim (b := Nat.beq _ _) h0
    have hs1 := Nat.eq_of_beq_eq_true hb1
    subst hs1
    exact ⟨_, h1.2, (bcheck_spec _ _ h1.1.1 h1.1.2.1 h1.1.2.2.1 h1.1.2.2.2).seen (.cons (.view he0) (.cons (.view he1) .nil)), rfl, fun _ hk => by show cond _ _ _; refine (show cond true _ _ from ⟨_, he0, ?_⟩); show cond _ _ _; refine (show cond true _ _ from ⟨_, he1, ?_⟩); exact ⟨h1.1, hk⟩⟩
  · exact h.elim

end Go.Proofs.YtblapbjafbmndaaDoor
