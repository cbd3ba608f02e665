/- Frames, by the program and by the document. -/
import Derived.Test.YtblapbjafbmndaaDoorPA
import Derived.Test.YtblapbjafbmndaaDoorDD
import Derived.Test.YtblapbjafbmndaaDoorSx24
namespace Go.Proofs.YtblapbjafbmndaaDoor
open Go Go.Sx Go.Sha
set_option linter.unusedVariables false
set_option linter.unusedSimpArgs false
set_option maxRecDepth 100000
set_option maxHeartbeats 4000000

abbrev BTy : Type := RK.TL [.sl 1 [.int .u8]]
/-- The bytes of a row's place. -/
def b1 (p : RK.TL [.int .u8]) : Int := Prod.fst (α := Int) (β := Unit) p
def bsl (y : BTy) : List (RK.TL [.int .u8]) := y.1.2
def bl (y : BTy) : List Int := (bsl y).map b1
theorem inext {i : Nat} (h : i < 9223372036854775807) : IntKind.i64.wrap ((i : Int) + 1) = ((i + 1 : Nat) : Int) := by rw [wrap64 (by omega) (by omega)]; omega
end Go.Proofs.YtblapbjafbmndaaDoor

namespace Go.Proofs.YtblapbjafbmndaaDoor
open Go Go.Sx Go.Sha
set_option linter.unusedVariables false
set_option linter.unusedSimpArgs false
set_option maxRecDepth 100000
set_option maxHeartbeats 4000000

structure CapT (n : Nat) where
  cap : Nat
  h : n ≤ cap
theorem lent_spec (x : Value) {l : List Int} (hl : l.length ≤ 140737488351232) : SMem Tryd.prog 16 [byV x l] 0 []
    (fun c : CapT (l.length + 2) => ⟨1, .one (.slc 0 1 0 l.length c.cap), [(0, .row 1 (encInt .u8) (l ++ [55, 56]) c.cap)]⟩) := by
  refine SMem.inm [] SOK.nil [] MSOK.nil tok mixed [] IOK.nil true [] [] Tryd.call16 Tryd.func16 rfl (by rfl) ?_
  refine Eq.mp (α := (And ((0 : Nat) = (0 : Nat)) (And ((0 : Nat) = (0 : Nat)) (∃ ys : List Int, (And (List.map (Enc.enc (encInt IntKind.u8)) ys = List.map (Enc.enc (encInt IntKind.u8)) l) (And (((0 : Nat) + List.length ys) * (1 : Nat) ≤ (150000000000000 : Nat)) (∀ cap2 : Nat, (∀ a : (0 : Nat) + List.length ys ≤ cap2, (And (List.length ([] ++ ys) = List.length ([] ++ ys)) (And (cap2 = cap2) (And ((0 : Nat) + (2 : Nat) ≤ (2 : Nat)) (And ((List.length ([] ++ ys) + (2 : Nat)) * (1 : Nat) ≤ (150000000000000 : Nat)) (∀ cap2_1 : Nat, (∀ a_1 : List.length ([] ++ ys) + (2 : Nat) ≤ cap2_1, (And ((0 : Int) ≤ (↑(List.length l) : Int)) (And ((0 : Nat) ≤ Int.toNat (↑(List.length l) : Int)) (And (Int.toNat (↑(List.length l) : Int) ≤ cap2_1) (And (cap2_1 ≤ cap2_1) (∃ o : CapT (List.length l + (2 : Nat)), (And (And (And ((true : Bool) = true) (And ((0 : Nat) = if cap2_1 = (0 : Nat) then (0 : Nat) else (0 : Nat) + (0 : Nat)) (And (List.length l = Int.toNat (↑(List.length l) : Int) - (0 : Nat)) (CapT.cap o = cap2_1 - (0 : Nat))))) True) (And (And (And ((true : Bool) = true) (And (CapT.cap o = cap2_1) (And (List.map (Enc.enc (encInt IntKind.u8)) (l ++ [(55 : Int), (56 : Int)]) = List.map (Enc.enc (encInt IntKind.u8)) ([] ++ ys ++ castL (encInt IntKind.u8) (encInt IntKind.u8) (List.take (2 : Nat) (List.drop (0 : Nat) [Enc.of (encInt IntKind.u8) ((55 : Int), ()), Enc.of (encInt IntKind.u8) ((56 : Int), ())])))) (∀ x_1 : Int, (∀ a_2 : x_1 ∈ l ++ [(55 : Int), (56 : Int)], (∀ s : SV, (∀ a_3 : s ∈ Enc.enc (encInt IntKind.u8) x_1, ((SV.isPure s : Bool) = true)))))))) (And ((true : Bool) = true) True)) ((true : Bool) = true)))))))))))))))))))))) (by kernel_rfl) ?_
  have hw : IntKind.i64.wrap ((l.length : Int) + 2) = ((l.length + 2 : Nat) : Int) := by rw [wrap64 (by omega) (by omega)]; omega
  repeat (with_reducible refine And.intro (by first | exact trivial | omega | decide) ?_)
  refine ⟨l, rfl, by omega, fun c1 k1 => ?_⟩
  simp only [List.nil_append, List.drop_zero, castB, ofB, List.take_succ_cons, List.take_zero, Int.toNat_natCast, Nat.sub_zero, Nat.add_zero, ite_self]
  repeat (with_reducible refine And.intro (by first | exact trivial | omega | decide) ?_)
  intro c2 k2
  refine ⟨by omega, by omega, by omega, Nat.le_refl _, ⟨c2, by omega⟩, ?_⟩
  repeat' first | exact encB_pure _ | exact trivial | refine And.intro ?_ ?_ | with_reducible refine bif_dt (by assumption) ?_ | with_reducible refine bif_df (by assumption) ?_ | with_reducible refine bif_dec (fun _ => ?_) (fun _ => ?_) | with_reducible refine bif_not ?_ | with_reducible refine bif_and ?_ | with_reducible refine bif_or ?_ | with_reducible refine bif_t (by assumption) ?_ | with_reducible refine bif_f (by assumption) ?_ | with_reducible refine bif_t (beq_self_eq_true _) ?_ | with_reducible refine bif_b (fun _ => ?_) (fun _ => ?_) | with_reducible refine ⟨_, Eq.refl (List.map _ _), ?_⟩ | (with_reducible refine Exists.intro (by omega) ?_) | rfl | (intro h0; omega) | omega
def lentT : MT := fun ms n h K => match ms with
  | [.one (.view vx0 ve0 en0 vl0)] => bif Nat.beq ve0 1 && noDup [] then ∃ l : List (Int), vl0.map en0 = l.map eB ∧ (l.length ≤ 140737488351232) ∧ (∀ c : CapT (l.length + 2), K (n + 1) (.one (.slc n 1 0 l.length c.cap)) ([(n, .row 1 (encInt .u8) (l ++ [55, 56]) c.cap)] ++ delL [] h)) else False
  | _ => False
theorem lent_mono : MMono lentT := by
  intro ms n h K K' hkk hk
  unfold lentT at hk ⊢
  split at hk
  · rename_i vx0 ve0 va0 en0 vl0
    obtain ⟨hb, y0, z0, h1, h2⟩ := cond_false_elim hk
    rw [hb]
    exact ⟨y0, z0, h1, fun o => hkk _ _ _ (h2 o)⟩
  · exact hk.elim
theorem lent_ok : MOK Tryd.prog 16 lentT := by
  refine ⟨?_, lent_mono⟩
  intro ms n hB K hk
  unfold lentT at hk
  split at hk
  · rename_i vx0 ve0 va0 en0 vl0
    obtain ⟨hb, l, he0, h, hk2⟩ := cond_false_elim hk
    clear hk
    simp only [Bool.and_eq_true] at hb
    obtain ⟨hc0, hnd⟩ := hb
    have hs0 := Nat.eq_of_beq_eq_true hc0
    subst hs0
    refine SCall.seen ?_ (.cons (.view he0) .nil)
    exact (lent_spec _ h).use (fun _ => 0) rfl rfl trivial hnd (fun j hj => absurd hj (Nat.not_lt_zero j)) (fun o => hk2 o)
  · exact hk.elim

end Go.Proofs.YtblapbjafbmndaaDoor

namespace Go.Proofs.YtblapbjafbmndaaDoor
open Go Go.Sx Go.Sha
set_option linter.unusedVariables false
set_option linter.unusedSimpArgs false
set_option maxRecDepth 100000
set_option maxHeartbeats 4000000

/-- Rows with the same bytes. -/
structure PiT (l : List BTy) where
  i : Nat
  r : List BTy
  cap : Nat
  hi : i ≤ l.length
  hc : r.length ≤ cap
  he : r.map bl = (l.take i).map bl
structure PaT (l : List BTy) where
  y : Value
  r : List BTy
  he : r.map bl = l.map bl
theorem PiT.len {l : List BTy} (o : PiT l) : o.r.length = o.i := by
  have := congrArg List.length o.he
  have h := o.hi
  simp at this
  omega
theorem PaT.len {l : List BTy} (o : PaT l) : o.r.length = l.length := by have := congrArg List.length o.he; simpa using this
end Go.Proofs.YtblapbjafbmndaaDoor
