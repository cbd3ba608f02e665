/- What must come; bytes with marked room behind them; the law DigestSums. -/
import Derived.Test.YtblapbjafbmndaaDoorP7
import Derived.Test.YtblapbjafbmndaaDoorSx24
namespace Go.Proofs.YtblapbjafbmndaaDoor
open Go Go.Sx Go.Sha
set_option linter.unusedVariables false
set_option linter.unusedSimpArgs false
set_option maxRecDepth 100000
set_option maxHeartbeats 4000000

theorem strEq {s t : ByteArray} (h : sl s = sl t) : (s.toList == t.toList) = true := by
  rw [beq_sl]
  exact decide_eq_true h
theorem knows_spec : SFun Tryd.prog 15 [] (bool true) := by
  refine SFun.inm [(17, sumT)] (SOK.cons sum_ok SOK.nil) [(21, frameT)] (MSOK.cons frame_ok MSOK.nil) tok mixed [] IOK.nil true [] [] Tryd.call15 Tryd.func15 rfl (by rfl) ?_
  refine Eq.mp (α := (And ((0 : Nat) < (3 : Nat)) (And ((0 : Nat) + (3 : Nat) ≤ (3 : Nat)) (And ((3 : Nat) ≤ (3 : Nat)) (And (∀ y : Int, ((true : Bool) = true)) (∀ x : Value, (∃ b : List Int, (And (List.map (Enc.enc (encInt IntKind.u8)) (List.take (3 : Nat) (List.drop (0 : Nat) [Enc.of (encInt IntKind.u8) ((97 : Int), ()), Enc.of (encInt IntKind.u8) ((98 : Int), ()), Enc.of (encInt IntKind.u8) ((99 : Int), ())])) = List.map eB b) (And (And (∀ x_1 : Int, (∀ a : x_1 ∈ b, (And ((0 : Int) ≤ x_1) (x_1 < (256 : Int))))) (List.length b ≤ (140737488351232 : Nat))) (And ((0 : Int) ≤ (0 : Int)) (And (Int.toNat (0 : Int) < (32 : Nat)) (And (Int.toNat (0 : Int) < (32 : Nat)) (@Bool.rec (fun _ => Prop) (And (M.one (SV.v (Value.bool false)) = M.one (SV.v (Value.bool true))) ((true : Bool) = true)) (And ((0 : Int) ≤ (1 : Int)) (And (Int.toNat (1 : Int) < (32 : Nat)) (And (Int.toNat (1 : Int) < (32 : Nat)) (@Bool.rec (fun _ => Prop) (And (M.one (SV.v (Value.bool false)) = M.one (SV.v (Value.bool true))) ((true : Bool) = true)) (And ((0 : Int) ≤ (31 : Int)) (And (Int.toNat (31 : Int) < (32 : Nat)) (And (Int.toNat (31 : Int) < (32 : Nat)) (@Bool.rec (fun _ => Prop) (And (M.one (SV.v (Value.bool false)) = M.one (SV.v (Value.bool true))) ((true : Bool) = true)) (And ((0 : Nat) + (1 : Nat) ≤ (1 : Nat)) (And ((1 : Nat) ≤ (1 : Nat)) (And (∀ y : Int, ((true : Bool) = true)) (∀ x_1 : Value, (∃ l' : List (RK.TL [RK.int IntKind.u8]), (And (List.map (Enc.enc (encInt IntKind.u8)) (List.take (1 : Nat) (List.drop (0 : Nat) [Enc.of (encInt IntKind.u8) ((7 : Int), ())])) = List.map (RK.svs [RK.int IntKind.u8]) l') (And ((0 : Nat) + (1 : Nat) ≤ (1 : Nat)) (And ((1 : Nat) ≤ (1 : Nat)) (And (∀ y : RK.TL [RK.sl (1 : Nat) [RK.int IntKind.u8]], ((true : Bool) = true)) (∀ x_2 : Value, (∃ l : List BTy, (And (List.map (Enc.enc (encRec [RK.sl (1 : Nat) [RK.int IntKind.u8]])) (List.take (1 : Nat) (List.drop (0 : Nat) [Enc.of (encRec [RK.sl (1 : Nat) [RK.int IntKind.u8]]) ((x_1, l'), ())])) = List.map eBl l) (And (And (List.length (List.flatMap fB l) ≤ (140000000000000 : Nat)) (ByteArray.size { data := #[(97 : UInt8), (98 : UInt8)] } ≤ (140737488351232 : Nat))) (∀ y : Value, (And (∀ x_3 : Int, (∀ a : x_3 ∈ frm { data := #[(97 : UInt8), (98 : UInt8)] } l, (∃ b_1 : Int, (Enc.enc (encInt IntKind.u8) x_3 = [SV.v (Value.int IntKind.u8 b_1)])))) (And (M.one (SV.v (Value.bool (ByteArray.toList (strOfNums (bytesOf (Enc.enc (encInt IntKind.u8)) (frm { data := #[(97 : UInt8), (98 : UInt8)] } l))) == ByteArray.toList { data := #[(2 : UInt8), (97 : UInt8), (98 : UInt8), (0 : UInt8), (0 : UInt8), (0 : UInt8), (0 : UInt8), (0 : UInt8), (0 : UInt8), (0 : UInt8), (1 : UInt8), (7 : UInt8)] }))) = M.one (SV.v (Value.bool true))) ((true : Bool) = true))))))))))))))))) (List.getD (shaF b) (Int.toNat (31 : Int)) (0 : Int) == (173 : Int)))))) (List.getD (shaF b) (Int.toNat (1 : Int)) (0 : Int) == (120 : Int)))))) (List.getD (shaF b) (Int.toNat (0 : Int)) (0 : Int) == (186 : Int))))))))))))))) (by kernel_rfl) ?_
  have s0 : (shaF [97, 98, 99]).getD (Int.toNat 0) 0 = 186 := by rw [shaF_eq]; decide +kernel
  have s1 : (shaF [97, 98, 99]).getD (Int.toNat 1) 0 = 120 := by rw [shaF_eq]; decide +kernel
  have s31 : (shaF [97, 98, 99]).getD (Int.toNat 31) 0 = 173 := by rw [shaF_eq]; decide +kernel
  repeat (with_reducible refine And.intro (by first | exact trivial | omega | decide | exact fun _ => rfl) ?_)
  intro x
  refine ⟨[97, 98, 99], rfl, ⟨by decide, by decide⟩, ?_⟩
  repeat (with_reducible refine And.intro (by first | exact trivial | omega | decide) ?_)
  rw [s0, s1, s31]
  generalize shaF [97, 98, 99] = S at *
  refine ⟨by decide, by decide, by decide, ?_⟩
  refine ⟨by decide, by decide, by decide, ?_⟩
  refine ⟨by decide, by decide, fun _ => rfl, fun x1 => ⟨mkL [7], encmk _, by decide, by decide, fun _ => rfl, fun x2 => ⟨[mkB x1 [7]], rfl, ⟨?_, by decide⟩, fun y => ⟨isB _, ?_, rfl⟩⟩⟩⟩
  · rw [List.flatMap_cons, List.flatMap_nil, fB_mk, List.append_nil, blb_length]
    decide
  · rw [strEq (by kernel_rfl)]
def knowsT : List M → (M → Prop) → Prop
  | [], K => K (bool true)
  | _, _ => False
theorem knows_ok : POK Tryd.prog 15 knowsT := by
  intro ms K h
  unfold knowsT at h ⊢
  split at h
  · exact ⟨_, h, (knows_spec), rfl, fun _ hk => hk⟩
  · exact h.elim

structure CapT (n : Nat) where
  cap : Nat
  h : n ≤ cap
def lentT : MT := fun ms n h K => match ms with
  | [.one (.view vx0 ve0 en0 vl0)] => bif Nat.beq ve0 1 && noDup [] then ∃ l : List (Int), vl0.map en0 = l.map eB ∧ (l.length ≤ 140737488351232) ∧ (∀ c : CapT (l.length + 2), K (n + 1) (.one (.slc n 1 0 l.length c.cap)) ([(n, .row 1 (encInt .u8) (l ++ [55, 56]) c.cap)] ++ delL [] h)) else False
  | _ => False
end Go.Proofs.YtblapbjafbmndaaDoor
