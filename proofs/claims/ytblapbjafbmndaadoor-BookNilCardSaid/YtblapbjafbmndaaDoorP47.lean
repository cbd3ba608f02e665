/- What a book's law knows; a step on both books. -/
import Derived.Test.YtblapbjafbmndaaDoorD10
import Derived.Test.YtblapbjafbmndaaDoorSxR
import Derived.Test.YtblapbjafbmndaaDoorSx24
namespace Go.Proofs.YtblapbjafbmndaaDoor
open Go Go.Sx Go.Sha
set_option linter.unusedVariables false
set_option linter.unusedSimpArgs false
set_option maxRecDepth 100000
set_option maxHeartbeats 4000000

abbrev sA : ByteArray := strOfNums [97]
abbrev sB : ByteArray := strOfNums [98]
theorem putB_a (h : List Int) : putB [] [] h sA = ([(h, sA)], []) := by simp [putB, putE, under, hasS]
theorem sAB : ¬ sB = sA := by decide
theorem putB_b (h : List Int) : putB [(h, sA)] [] h sB = ([(h, sA), (h, sB)], [sA, sB]) := by simp [putB, putE, under, hasS, sAB]
theorem putE_b (h : List Int) : putE [(h, sA)] h sB = 0 := by simp [putE, under, hasS, sAB]
theorem bknows_spec : SFun Tryd.prog 48 [] (bool true) := by
  refine SFun.inm [(59, bnumT)] (SOK.cons bnum_ok SOK.nil) [(51, bnewT), (2000056, noT), (56, (lendT bsumT)), (2000060, noT), (60, (lendT bputT)), (55, bclashT), (61, blenT)] (MSOK.cons bnew_ok (MSOK.cons noT_ok (MSOK.cons (lendT_ok bsum_ok) (MSOK.cons noT_ok (MSOK.cons (lendT_ok bput_ok) (MSOK.cons bclash_ok (MSOK.cons blen_ok MSOK.nil))))))) tok mixed [] IOK.nil true [] [] Tryd.call48 Tryd.func48 rfl (by rfl) ?_
  refine Eq.mp (α := (And True (∀ o : List Nat, (And ((0 : Nat) < (1 : Nat)) (And ((0 : Nat) + (1 : Nat) ≤ (1 : Nat)) (And ((1 : Nat) ≤ (1 : Nat)) (∀ x : Value, (∃ b : List Int, (And (List.map (Enc.enc (encInt IntKind.u8)) (List.take (1 : Nat) (List.drop (0 : Nat) [Enc.of (encInt IntKind.u8) ((97 : Int), ())])) = List.map eB b) (∃ L : Ents, (∃ cs : List ByteArray, (And (And (bookAbs [] [] = bookAbs L cs) (And (∀ x_1 : Int, (∀ a : x_1 ∈ b, (And ((0 : Int) ≤ x_1) (x_1 < (256 : Int))))) (And (List.length b ≤ (140737488351232 : Nat)) (List.length L ≤ (100000 : Nat))))) (∀ o_1 : List Nat, (And True (And (And True True) (And ((0 : Nat) < (1 : Nat)) (And ((0 : Nat) + (1 : Nat) ≤ (1 : Nat)) (And ((1 : Nat) ≤ (1 : Nat)) (∀ x_1 : Value, (∃ b_1 : List Int, (And (List.map (Enc.enc (encInt IntKind.u8)) (List.take (1 : Nat) (List.drop (0 : Nat) [Enc.of (encInt IntKind.u8) ((98 : Int), ())])) = List.map eB b_1) (∃ L_1 : Ents, (∃ cs_1 : List ByteArray, (And (And (bookAbs (Prod.fst (putB L cs (shaF b) (strOfNums b))) (Prod.snd (putB L cs (shaF b) (strOfNums b))) = bookAbs L_1 cs_1) (And (List.length (shaF b) = (32 : Nat)) (List.length L_1 ≤ (100000 : Nat)))) (∀ o_2 : List Nat, (And True (And (And True (And True (And True True))) (∃ L_2 : Ents, (∃ cs_2 : List ByteArray, (And (And (bookAbs (Prod.fst (putB L_1 cs_1 (shaF b) (strOfNums b_1))) (Prod.snd (putB L_1 cs_1 (shaF b) (strOfNums b_1))) = bookAbs L_2 cs_2) (Or (cs_2 = []) (List.length cs_2 = (2 : Nat)))) (∀ o_3 : (Value × Value) × List Nat, (And ((0 : Int) ≤ (0 : Int)) (And (Int.toNat (0 : Int) < (32 : Nat)) (And (Int.toNat (0 : Int) < (32 : Nat)) (@Bool.rec (fun _ => Prop) (And (M.one (SV.v (Value.bool false)) = M.one (SV.v (Value.bool true))) ((true : Bool) = true)) (@Bool.rec (fun _ => Prop) (And (M.one (SV.v (Value.bool false)) = M.one (SV.v (Value.bool true))) ((true : Bool) = true)) (@Bool.rec (fun _ => Prop) (And (M.one (SV.v (Value.bool false)) = M.one (SV.v (Value.bool true))) ((true : Bool) = true)) (And (∀ x_2 : Int, (∀ a : x_2 ∈ c0 cs_2, (∃ b_2 : Int, (Enc.enc (encInt IntKind.u8) x_2 = [SV.v (Value.int IntKind.u8 b_2)])))) (@Bool.rec (fun _ => Prop) (And (M.one (SV.v (Value.bool false)) = M.one (SV.v (Value.bool true))) ((true : Bool) = true)) (And (∀ x_2 : Int, (∀ a : x_2 ∈ c1 cs_2, (∃ b_2 : Int, (Enc.enc (encInt IntKind.u8) x_2 = [SV.v (Value.int IntKind.u8 b_2)])))) (@Bool.rec (fun _ => Prop) (And (M.one (SV.v (Value.bool false)) = M.one (SV.v (Value.bool true))) ((true : Bool) = true)) (∃ L_3 : Ents, (∃ cs_3 : List ByteArray, (And (And (bookAbs L_2 cs_2 = bookAbs L_3 cs_3) True) (∀ o_4 : Unit × List Nat, (And (M.one (SV.v (Value.bool ((↑(List.length L_3) : Int) == (2 : Int)))) = M.one (SV.v (Value.bool true))) ((true : Bool) = true)))))) (ByteArray.toList (strOfNums (bytesOf (Enc.enc (encInt IntKind.u8)) (c1 cs_2))) == ByteArray.toList { data := #[(98 : UInt8)] }))) (ByteArray.toList (strOfNums (bytesOf (Enc.enc (encInt IntKind.u8)) (c0 cs_2))) == ByteArray.toList { data := #[(97 : UInt8)] }))) (!List.isEmpty cs_2)) (putE L_1 (shaF b) (strOfNums b_1) == (0 : Int))) (List.getD (shaF b) (Int.toNat (0 : Int)) (0 : Int) == (202 : Int))))))))))))))))))))))))))))))))))))) (by kernel_rfl) ?_
  have h0 : (shaF [97]).getD (Int.toNat 0) 0 = 202 := by rw [shaF_eq]; decide +kernel
  have h1 := shaF_length [97]
  refine ⟨trivial, fun o => ⟨by decide, by decide, by decide, fun x => ⟨[97], rfl, [], [], ⟨rfl, by decide, by decide, by decide⟩, fun o1 => ⟨trivial, ⟨trivial, trivial⟩, by decide, by decide, by decide, fun x1 => ⟨[98], rfl, [(shaF [97], sA)], [], ⟨by rw [putB_a], h1, show 1 ≤ 100000 by omega⟩, ?_⟩⟩⟩⟩⟩
  generalize shaF [97] = h at h0 h1 ⊢
  refine fun o2 => ⟨trivial, ⟨trivial, trivial, trivial, trivial⟩, [(h, sA), (h, sB)], [sA, sB], ⟨by rw [putB_b], .inr rfl⟩, fun o3 => ⟨by decide, by decide, by decide, ?_⟩⟩
  rw [h0, putE_b]
  rw [bytesB, bytesB, beq_ba, beq_ba, show strOfNums (c0 [sA, sB]) = sA from strOf_sl _, show strOfNums (c1 [sA, sB]) = sB from strOf_sl _, decide_eq_true (show sA = ⟨#[97]⟩ by decide), decide_eq_true (show sB = ⟨#[98]⟩ by decide)]
  exact ⟨isB _, isB _, _, _, ⟨rfl, trivial⟩, fun _ => ⟨rfl, rfl⟩⟩
def bknowsT : List M → (M → Prop) → Prop
  | [], K => K (bool true)
  | _, _ => False
theorem bknows_ok : POK Tryd.prog 48 bknowsT := by
  intro ms K h
  unfold bknowsT at h ⊢
  split at h
  · exact ⟨_, h, (bknows_spec), rfl, fun _ hk => hk⟩
  · exact h.elim

theorem isEI (l : List (RK.TL [.int .u8])) : ∀ x ∈ l, ∃ b : Int, EI.enc x = [SV.v (.int .u8 b)] := fun x _ => ⟨x.1, rfl⟩
theorem flat_le {l : List BTy} : (∀ y ∈ l, (bl y).length ≤ 4000) → (l.flatMap fB).length ≤ l.length * 4008 := by
  induction l with
  | nil => intro _; exact Nat.zero_le _
  | cons y r ih =>
    intro h
    have h1 := h y (by simp)
    have h2 := ih fun z hz => h z (by simp [hz])
    have h3 : (fB y).length = 8 + (bl y).length := by unfold fB; rw [blb_length]
    rw [List.flatMap_cons, List.length_append, List.length_cons, Nat.add_mul]
    omega
theorem fstB_le {l : List BTy} (h : ∀ y ∈ l, (bl y).length ≤ 4000) : (fstB l).length ≤ 4000 := by
  cases l with
  | nil => exact Nat.zero_le _
  | cons y r => exact h y (by simp)
theorem fstB_By {l : List BTy} (h : ∀ y ∈ l, By (bl y)) : By (fstB l) := by
  cases l with
  | nil => intro x hx; cases hx
  | cons y r => exact h y (by simp)
end Go.Proofs.YtblapbjafbmndaaDoor
