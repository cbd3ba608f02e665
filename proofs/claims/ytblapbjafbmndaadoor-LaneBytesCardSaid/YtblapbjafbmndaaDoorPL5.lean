/- The document's reader. -/
import Derived.Test.YtblapbjafbmndaaDoorPL4
import Derived.Test.YtblapbjafbmndaaDoorSx24
namespace Go.Proofs.YtblapbjafbmndaaDoor
open Go Go.Sx Go.Sha
set_option linter.unusedVariables false
set_option linter.unusedSimpArgs false
set_option maxRecDepth 100000
set_option maxHeartbeats 4000000

/-- Where it stands. -/
structure AtT (b : List Int) (s : RS) where
  a : Nat
  y : Value
  h : a ≤ b.length
  e : b.drop a = s.l
def rbF (n : Nat) (s : RS) : List Int := if (takeF n s).2.e ≠ 0 then [] else (takeF n s).1
abbrev drC (b : List Int) (cap at' : Nat) (e : Int) : List SV := [.slc 1 1 0 b.length cap, .v (.int .i64 at'), .v (.int .i64 e)]
theorem rtake_spec (b : List Int) (cap a n : Nat) (e : Int) (hc : b.length ≤ cap) (ha : a ≤ b.length) (hn : 0 < n) (hn2 : n ≤ 1000) (hb : b.length ≤ 140737488351232) : SMem Tryd.prog 123 [.one (.ptr 0 0), int n] 2 [(0, .cells (drC b cap a e)), (1, .row 1 EB b cap)]
    (fun o : AtT b (takeF n ⟨b.drop a, e⟩).2 => ⟨2, byV o.y (rbF n ⟨b.drop a, e⟩), [(0, .cells (drC b cap o.a (takeF n ⟨b.drop a, e⟩).2.e)), (1, .row 1 EB b cap)]⟩) := by
  refine SMem.inf 1 EB [] SOK.nil [] MSOK.nil tok mixed [(116, ⟨Tryd.f116, true, [], []⟩)] (IOK.cons Tryd.func116 Tryd.call116 IOK.nil) true [] [] Tryd.call123 Tryd.func123 rfl (by rfl) ?_
  refine Eq.mp (α := (@Bool.rec (fun _ => Prop) (@Bool.rec (fun _ => Prop) (And ((0 : Int) ≤ IntKind.wrap IntKind.i64 ((↑a : Int) + (↑n : Int))) (And ((0 : Int) ≤ IntKind.wrap IntKind.i64 (IntKind.wrap IntKind.i64 ((↑a : Int) + (↑n : Int)) - (↑n : Int))) (And (Int.toNat (IntKind.wrap IntKind.i64 (IntKind.wrap IntKind.i64 ((↑a : Int) + (↑n : Int)) - (↑n : Int))) ≤ Int.toNat (IntKind.wrap IntKind.i64 ((↑a : Int) + (↑n : Int)))) (And (Int.toNat (IntKind.wrap IntKind.i64 ((↑a : Int) + (↑n : Int))) ≤ cap) (And (cap ≤ cap) (And (And (And ((0 : Nat) = (0 : Nat)) (And ((0 : Nat) = (0 : Nat)) (And ((if cap = Int.toNat (IntKind.wrap IntKind.i64 (IntKind.wrap IntKind.i64 ((↑a : Int) + (↑n : Int)) - (↑n : Int))) then (0 : Nat) else (0 : Nat) + Int.toNat (IntKind.wrap IntKind.i64 (IntKind.wrap IntKind.i64 ((↑a : Int) + (↑n : Int)) - (↑n : Int)))) + (Int.toNat (IntKind.wrap IntKind.i64 ((↑a : Int) + (↑n : Int))) - Int.toNat (IntKind.wrap IntKind.i64 (IntKind.wrap IntKind.i64 ((↑a : Int) + (↑n : Int)) - (↑n : Int)))) ≤ List.length b) (And (((0 : Nat) + List.length (castL EB (encInt IntKind.u8) (List.take (Int.toNat (IntKind.wrap IntKind.i64 ((↑a : Int) + (↑n : Int))) - Int.toNat (IntKind.wrap IntKind.i64 (IntKind.wrap IntKind.i64 ((↑a : Int) + (↑n : Int)) - (↑n : Int)))) (List.drop (if cap = Int.toNat (IntKind.wrap IntKind.i64 (IntKind.wrap IntKind.i64 ((↑a : Int) + (↑n : Int)) - (↑n : Int))) then (0 : Nat) else (0 : Nat) + Int.toNat (IntKind.wrap IntKind.i64 (IntKind.wrap IntKind.i64 ((↑a : Int) + (↑n : Int)) - (↑n : Int)))) b)))) * (1 : Nat) ≤ (150000000000000 : Nat)) (∀ cap2 : Nat, (∀ a_1 : (0 : Nat) + List.length (castL EB (encInt IntKind.u8) (List.take (Int.toNat (IntKind.wrap IntKind.i64 ((↑a : Int) + (↑n : Int))) - Int.toNat (IntKind.wrap IntKind.i64 (IntKind.wrap IntKind.i64 ((↑a : Int) + (↑n : Int)) - (↑n : Int)))) (List.drop (if cap = Int.toNat (IntKind.wrap IntKind.i64 (IntKind.wrap IntKind.i64 ((↑a : Int) + (↑n : Int)) - (↑n : Int))) then (0 : Nat) else (0 : Nat) + Int.toNat (IntKind.wrap IntKind.i64 (IntKind.wrap IntKind.i64 ((↑a : Int) + (↑n : Int)) - (↑n : Int)))) b))) ≤ cap2, (And ((0 : Nat) + List.length ([] ++ castL EB (encInt IntKind.u8) (List.take (Int.toNat (IntKind.wrap IntKind.i64 ((↑a : Int) + (↑n : Int))) - Int.toNat (IntKind.wrap IntKind.i64 (IntKind.wrap IntKind.i64 ((↑a : Int) + (↑n : Int)) - (↑n : Int)))) (List.drop (if cap = Int.toNat (IntKind.wrap IntKind.i64 (IntKind.wrap IntKind.i64 ((↑a : Int) + (↑n : Int)) - (↑n : Int))) then (0 : Nat) else (0 : Nat) + Int.toNat (IntKind.wrap IntKind.i64 (IntKind.wrap IntKind.i64 ((↑a : Int) + (↑n : Int)) - (↑n : Int)))) b))) ≤ List.length ([] ++ castL EB (encInt IntKind.u8) (List.take (Int.toNat (IntKind.wrap IntKind.i64 ((↑a : Int) + (↑n : Int))) - Int.toNat (IntKind.wrap IntKind.i64 (IntKind.wrap IntKind.i64 ((↑a : Int) + (↑n : Int)) - (↑n : Int)))) (List.drop (if cap = Int.toNat (IntKind.wrap IntKind.i64 (IntKind.wrap IntKind.i64 ((↑a : Int) + (↑n : Int)) - (↑n : Int))) then (0 : Nat) else (0 : Nat) + Int.toNat (IntKind.wrap IntKind.i64 (IntKind.wrap IntKind.i64 ((↑a : Int) + (↑n : Int)) - (↑n : Int)))) b)))) (And (List.length ([] ++ castL EB (encInt IntKind.u8) (List.take (Int.toNat (IntKind.wrap IntKind.i64 ((↑a : Int) + (↑n : Int))) - Int.toNat (IntKind.wrap IntKind.i64 (IntKind.wrap IntKind.i64 ((↑a : Int) + (↑n : Int)) - (↑n : Int)))) (List.drop (if cap = Int.toNat (IntKind.wrap IntKind.i64 (IntKind.wrap IntKind.i64 ((↑a : Int) + (↑n : Int)) - (↑n : Int))) then (0 : Nat) else (0 : Nat) + Int.toNat (IntKind.wrap IntKind.i64 (IntKind.wrap IntKind.i64 ((↑a : Int) + (↑n : Int)) - (↑n : Int)))) b))) ≤ cap2) (And (∀ y : Int, ((true : Bool) = true)) (∀ x : Value, (∃ o : AtT b (Prod.snd (takeF n { l := List.drop a b, e := e })), (And (And (SV.view (AtT.y o) (1 : Nat) (Enc.enc (encInt IntKind.u8)) (rbF n { l := List.drop a b, e := e }) = nilV (1 : Nat) EB (SV.view x (1 : Nat) (Enc.enc (encInt IntKind.u8)) (List.take (List.length ([] ++ castL EB (encInt IntKind.u8) (List.take (Int.toNat (IntKind.wrap IntKind.i64 ((↑a : Int) + (↑n : Int))) - Int.toNat (IntKind.wrap IntKind.i64 (IntKind.wrap IntKind.i64 ((↑a : Int) + (↑n : Int)) - (↑n : Int)))) (List.drop (if cap = Int.toNat (IntKind.wrap IntKind.i64 (IntKind.wrap IntKind.i64 ((↑a : Int) + (↑n : Int)) - (↑n : Int))) then (0 : Nat) else (0 : Nat) + Int.toNat (IntKind.wrap IntKind.i64 (IntKind.wrap IntKind.i64 ((↑a : Int) + (↑n : Int)) - (↑n : Int)))) b)))) (List.drop (0 : Nat) ([] ++ castL EB (encInt IntKind.u8) (List.take (Int.toNat (IntKind.wrap IntKind.i64 ((↑a : Int) + (↑n : Int))) - Int.toNat (IntKind.wrap IntKind.i64 (IntKind.wrap IntKind.i64 ((↑a : Int) + (↑n : Int)) - (↑n : Int)))) (List.drop (if cap = Int.toNat (IntKind.wrap IntKind.i64 (IntKind.wrap IntKind.i64 ((↑a : Int) + (↑n : Int)) - (↑n : Int))) then (0 : Nat) else (0 : Nat) + Int.toNat (IntKind.wrap IntKind.i64 (IntKind.wrap IntKind.i64 ((↑a : Int) + (↑n : Int)) - (↑n : Int)))) b))))))) True) (And (And (And (And ((true : Bool) = true) (And ((0 : Nat) = (0 : Nat)) (And (List.length b = List.length b) (cap = cap)))) (And ((↑(AtT.a o) : Int) = IntKind.wrap IntKind.i64 ((↑a : Int) + (↑n : Int))) (And (RS.e (Prod.snd (takeF n { l := List.drop a b, e := e })) = e) True))) (And ((true : Bool) = true) (And (And ((true : Bool) = true) (And (cap = cap) (And (List.map (Enc.enc EB) b = List.map (Enc.enc EB) b) (∀ x_1 : Int, (∀ a_2 : x_1 ∈ b, (∀ s : SV, (∀ a_3 : s ∈ Enc.enc EB x_1, ((SV.isPure s : Bool) = (true))))))))) (And ((true : Bool) = true) True)))) ((true : Bool) = true)))))))))))))) True) True)))))) (∃ o : AtT b (Prod.snd (takeF n { l := List.drop a b, e := e })), (And (And (SV.view (AtT.y o) (1 : Nat) (Enc.enc (encInt IntKind.u8)) (rbF n { l := List.drop a b, e := e }) = nilV (1 : Nat) EB (SV.v (Value.slice none (0 : Nat) (0 : Nat)))) True) (And (And (And (And ((true : Bool) = true) (And ((0 : Nat) = (0 : Nat)) (And (List.length b = List.length b) (cap = cap)))) (And ((↑(AtT.a o) : Int) = (↑a : Int)) (And (RS.e (Prod.snd (takeF n { l := List.drop a b, e := e })) = e) True))) (And ((true : Bool) = true) (And (And ((true : Bool) = true) (And (cap = cap) (And (List.map (Enc.enc EB) b = List.map (Enc.enc EB) b) (∀ x : Int, (∀ a_1 : x ∈ b, (∀ s : SV, (∀ a_2 : s ∈ Enc.enc EB x, ((SV.isPure s : Bool) = (true))))))))) (And ((true : Bool) = true) True)))) ((true : Bool) = true)))) (e != (0 : Int))) (@Bool.rec (fun _ => Prop) (@Bool.rec (fun _ => Prop) (And ((0 : Int) ≤ IntKind.wrap IntKind.i64 ((↑a : Int) + (↑n : Int))) (And ((0 : Int) ≤ IntKind.wrap IntKind.i64 (IntKind.wrap IntKind.i64 ((↑a : Int) + (↑n : Int)) - (↑n : Int))) (And (Int.toNat (IntKind.wrap IntKind.i64 (IntKind.wrap IntKind.i64 ((↑a : Int) + (↑n : Int)) - (↑n : Int))) ≤ Int.toNat (IntKind.wrap IntKind.i64 ((↑a : Int) + (↑n : Int)))) (And (Int.toNat (IntKind.wrap IntKind.i64 ((↑a : Int) + (↑n : Int))) ≤ cap) (And (cap ≤ cap) (And (And (And ((0 : Nat) = (0 : Nat)) (And ((0 : Nat) = (0 : Nat)) (And ((if cap = Int.toNat (IntKind.wrap IntKind.i64 (IntKind.wrap IntKind.i64 ((↑a : Int) + (↑n : Int)) - (↑n : Int))) then (0 : Nat) else (0 : Nat) + Int.toNat (IntKind.wrap IntKind.i64 (IntKind.wrap IntKind.i64 ((↑a : Int) + (↑n : Int)) - (↑n : Int)))) + (Int.toNat (IntKind.wrap IntKind.i64 ((↑a : Int) + (↑n : Int))) - Int.toNat (IntKind.wrap IntKind.i64 (IntKind.wrap IntKind.i64 ((↑a : Int) + (↑n : Int)) - (↑n : Int)))) ≤ List.length b) (And (((0 : Nat) + List.length (castL EB (encInt IntKind.u8) (List.take (Int.toNat (IntKind.wrap IntKind.i64 ((↑a : Int) + (↑n : Int))) - Int.toNat (IntKind.wrap IntKind.i64 (IntKind.wrap IntKind.i64 ((↑a : Int) + (↑n : Int)) - (↑n : Int)))) (List.drop (if cap = Int.toNat (IntKind.wrap IntKind.i64 (IntKind.wrap IntKind.i64 ((↑a : Int) + (↑n : Int)) - (↑n : Int))) then (0 : Nat) else (0 : Nat) + Int.toNat (IntKind.wrap IntKind.i64 (IntKind.wrap IntKind.i64 ((↑a : Int) + (↑n : Int)) - (↑n : Int)))) b)))) * (1 : Nat) ≤ (150000000000000 : Nat)) (∀ cap2 : Nat, (∀ a_1 : (0 : Nat) + List.length (castL EB (encInt IntKind.u8) (List.take (Int.toNat (IntKind.wrap IntKind.i64 ((↑a : Int) + (↑n : Int))) - Int.toNat (IntKind.wrap IntKind.i64 (IntKind.wrap IntKind.i64 ((↑a : Int) + (↑n : Int)) - (↑n : Int)))) (List.drop (if cap = Int.toNat (IntKind.wrap IntKind.i64 (IntKind.wrap IntKind.i64 ((↑a : Int) + (↑n : Int)) - (↑n : Int))) then (0 : Nat) else (0 : Nat) + Int.toNat (IntKind.wrap IntKind.i64 (IntKind.wrap IntKind.i64 ((↑a : Int) + (↑n : Int)) - (↑n : Int)))) b))) ≤ cap2, (And ((0 : Nat) + List.length ([] ++ castL EB (encInt IntKind.u8) (List.take (Int.toNat (IntKind.wrap IntKind.i64 ((↑a : Int) + (↑n : Int))) - Int.toNat (IntKind.wrap IntKind.i64 (IntKind.wrap IntKind.i64 ((↑a : Int) + (↑n : Int)) - (↑n : Int)))) (List.drop (if cap = Int.toNat (IntKind.wrap IntKind.i64 (IntKind.wrap IntKind.i64 ((↑a : Int) + (↑n : Int)) - (↑n : Int))) then (0 : Nat) else (0 : Nat) + Int.toNat (IntKind.wrap IntKind.i64 (IntKind.wrap IntKind.i64 ((↑a : Int) + (↑n : Int)) - (↑n : Int)))) b))) ≤ List.length ([] ++ castL EB (encInt IntKind.u8) (List.take (Int.toNat (IntKind.wrap IntKind.i64 ((↑a : Int) + (↑n : Int))) - Int.toNat (IntKind.wrap IntKind.i64 (IntKind.wrap IntKind.i64 ((↑a : Int) + (↑n : Int)) - (↑n : Int)))) (List.drop (if cap = Int.toNat (IntKind.wrap IntKind.i64 (IntKind.wrap IntKind.i64 ((↑a : Int) + (↑n : Int)) - (↑n : Int))) then (0 : Nat) else (0 : Nat) + Int.toNat (IntKind.wrap IntKind.i64 (IntKind.wrap IntKind.i64 ((↑a : Int) + (↑n : Int)) - (↑n : Int)))) b)))) (And (List.length ([] ++ castL EB (encInt IntKind.u8) (List.take (Int.toNat (IntKind.wrap IntKind.i64 ((↑a : Int) + (↑n : Int))) - Int.toNat (IntKind.wrap IntKind.i64 (IntKind.wrap IntKind.i64 ((↑a : Int) + (↑n : Int)) - (↑n : Int)))) (List.drop (if cap = Int.toNat (IntKind.wrap IntKind.i64 (IntKind.wrap IntKind.i64 ((↑a : Int) + (↑n : Int)) - (↑n : Int))) then (0 : Nat) else (0 : Nat) + Int.toNat (IntKind.wrap IntKind.i64 (IntKind.wrap IntKind.i64 ((↑a : Int) + (↑n : Int)) - (↑n : Int)))) b))) ≤ cap2) (And (∀ y : Int, ((true : Bool) = true)) (∀ x : Value, (∃ o : AtT b (Prod.snd (takeF n { l := List.drop a b, e := e })), (And (And (SV.view (AtT.y o) (1 : Nat) (Enc.enc (encInt IntKind.u8)) (rbF n { l := List.drop a b, e := e }) = nilV (1 : Nat) EB (SV.view x (1 : Nat) (Enc.enc (encInt IntKind.u8)) (List.take (List.length ([] ++ castL EB (encInt IntKind.u8) (List.take (Int.toNat (IntKind.wrap IntKind.i64 ((↑a : Int) + (↑n : Int))) - Int.toNat (IntKind.wrap IntKind.i64 (IntKind.wrap IntKind.i64 ((↑a : Int) + (↑n : Int)) - (↑n : Int)))) (List.drop (if cap = Int.toNat (IntKind.wrap IntKind.i64 (IntKind.wrap IntKind.i64 ((↑a : Int) + (↑n : Int)) - (↑n : Int))) then (0 : Nat) else (0 : Nat) + Int.toNat (IntKind.wrap IntKind.i64 (IntKind.wrap IntKind.i64 ((↑a : Int) + (↑n : Int)) - (↑n : Int)))) b)))) (List.drop (0 : Nat) ([] ++ castL EB (encInt IntKind.u8) (List.take (Int.toNat (IntKind.wrap IntKind.i64 ((↑a : Int) + (↑n : Int))) - Int.toNat (IntKind.wrap IntKind.i64 (IntKind.wrap IntKind.i64 ((↑a : Int) + (↑n : Int)) - (↑n : Int)))) (List.drop (if cap = Int.toNat (IntKind.wrap IntKind.i64 (IntKind.wrap IntKind.i64 ((↑a : Int) + (↑n : Int)) - (↑n : Int))) then (0 : Nat) else (0 : Nat) + Int.toNat (IntKind.wrap IntKind.i64 (IntKind.wrap IntKind.i64 ((↑a : Int) + (↑n : Int)) - (↑n : Int)))) b))))))) True) (And (And (And (And ((true : Bool) = true) (And ((0 : Nat) = (0 : Nat)) (And (List.length b = List.length b) (cap = cap)))) (And ((↑(AtT.a o) : Int) = IntKind.wrap IntKind.i64 ((↑a : Int) + (↑n : Int))) (And (RS.e (Prod.snd (takeF n { l := List.drop a b, e := e })) = e) True))) (And ((true : Bool) = true) (And (And ((true : Bool) = true) (And (cap = cap) (And (List.map (Enc.enc EB) b = List.map (Enc.enc EB) b) (∀ x_1 : Int, (∀ a_2 : x_1 ∈ b, (∀ s : SV, (∀ a_3 : s ∈ Enc.enc EB x_1, ((SV.isPure s : Bool) = (true))))))))) (And ((true : Bool) = true) True)))) ((true : Bool) = true)))))))))))))) True) True)))))) (∃ o : AtT b (Prod.snd (takeF n { l := List.drop a b, e := e })), (And (And (SV.view (AtT.y o) (1 : Nat) (Enc.enc (encInt IntKind.u8)) (rbF n { l := List.drop a b, e := e }) = nilV (1 : Nat) EB (SV.v (Value.slice none (0 : Nat) (0 : Nat)))) True) (And (And (And (And ((true : Bool) = true) (And ((0 : Nat) = (0 : Nat)) (And (List.length b = List.length b) (cap = cap)))) (And ((↑(AtT.a o) : Int) = (↑a : Int)) (And (RS.e (Prod.snd (takeF n { l := List.drop a b, e := e })) = e) True))) (And ((true : Bool) = true) (And (And ((true : Bool) = true) (And (cap = cap) (And (List.map (Enc.enc EB) b = List.map (Enc.enc EB) b) (∀ x : Int, (∀ a_1 : x ∈ b, (∀ s : SV, (∀ a_2 : s ∈ Enc.enc EB x, ((SV.isPure s : Bool) = (true))))))))) (And ((true : Bool) = true) True)))) ((true : Bool) = true)))) (e != (0 : Int))) (∃ o : AtT b (Prod.snd (takeF n { l := List.drop a b, e := e })), (And (And (SV.view (AtT.y o) (1 : Nat) (Enc.enc (encInt IntKind.u8)) (rbF n { l := List.drop a b, e := e }) = nilV (1 : Nat) EB (SV.v (Value.slice none (0 : Nat) (0 : Nat)))) True) (And (And (And (And ((true : Bool) = true) (And ((0 : Nat) = (0 : Nat)) (And (List.length b = List.length b) (cap = cap)))) (And ((↑(AtT.a o) : Int) = (↑a : Int)) (And (RS.e (Prod.snd (takeF n { l := List.drop a b, e := e })) = (20 : Int)) True))) (And ((true : Bool) = true) (And (And ((true : Bool) = true) (And (cap = cap) (And (List.map (Enc.enc EB) b = List.map (Enc.enc EB) b) (∀ x : Int, (∀ a_1 : x ∈ b, (∀ s : SV, (∀ a_2 : s ∈ Enc.enc EB x, ((SV.isPure s : Bool) = (true))))))))) (And ((true : Bool) = true) True)))) ((true : Bool) = true)))) (decide (IntKind.wrap IntKind.i64 ((↑(List.length b) : Int) - (↑a : Int)) < (↑n : Int)))) (e == (0 : Int)))) (by kernel_rfl) ?_
  have bneq : ∀ {x : Int}, (x != 0) = false → x = 0 := fun {x} h => by simpa using h
  refine bif_b (fun h1 => ?_) (fun h1 => ?_)
  rotate_left
  · have h1' : e ≠ 0 := fun h => by rw [h] at h1; cases h1
    refine bif_b (fun h2 => ?_) (fun h2 => absurd (bneq h2) h1')
    have e1 : takeF n ⟨b.drop a, e⟩ = (zsF n, ⟨b.drop a, e⟩) := by unfold takeF; rw [if_pos h1']
    have e2 : rbF n ⟨b.drop a, e⟩ = [] := by unfold rbF; rw [e1]; exact if_pos h1'
    rw [e2]
    have e3 : (takeF n ⟨b.drop a, e⟩).2.e = e := by rw [e1]
    refine ⟨⟨a, .slice none 0 0, ha, by rw [e1]⟩, ?_⟩
    repeat' first | exact encB_pure _ | exact e3 | exact trivial | refine And.intro ?_ ?_ | with_reducible refine bif_dt (by assumption) ?_ | with_reducible refine bif_df (by assumption) ?_ | with_reducible refine bif_dec (fun _ => ?_) (fun _ => ?_) | with_reducible refine bif_not ?_ | with_reducible refine bif_and ?_ | with_reducible refine bif_or ?_ | with_reducible refine bif_t (by assumption) ?_ | with_reducible refine bif_f (by assumption) ?_ | with_reducible refine bif_t (beq_self_eq_true _) ?_ | with_reducible refine bif_b (fun _ => ?_) (fun _ => ?_) | with_reducible refine ⟨_, Eq.refl (List.map _ _), ?_⟩ | (with_reducible refine Exists.intro (by omega) ?_) | rfl | (intro h0; omega) | omega
  have h1 : e = 0 := eq_of_beq h1
  have hsub : IntKind.i64.wrap ((b.length : Int) - (a : Int)) = ((b.length - a : Nat) : Int) := by rw [wrap64 (by omega) (by omega)]; omega
  rw [hsub]
  refine bif_dec (fun h2 => ?_) (fun h2 => ?_)
  · have e1 : takeF n ⟨b.drop a, e⟩ = (zsF n, ⟨b.drop a, 20⟩) := by
      unfold takeF
      rw [if_neg (fun h => h h1), if_pos (show (b.drop a).length < n by rw [List.length_drop]; omega)]
    have e2 : rbF n ⟨b.drop a, e⟩ = [] := by unfold rbF; rw [e1]; rfl
    rw [e2]
    have e3 : (takeF n ⟨b.drop a, e⟩).2.e = 20 := by rw [e1]
    refine ⟨⟨a, .slice none 0 0, ha, by rw [e1]⟩, ?_⟩
    repeat' first | exact encB_pure _ | exact e3 | exact trivial | refine And.intro ?_ ?_ | with_reducible refine bif_dt (by assumption) ?_ | with_reducible refine bif_df (by assumption) ?_ | with_reducible refine bif_dec (fun _ => ?_) (fun _ => ?_) | with_reducible refine bif_not ?_ | with_reducible refine bif_and ?_ | with_reducible refine bif_or ?_ | with_reducible refine bif_t (by assumption) ?_ | with_reducible refine bif_f (by assumption) ?_ | with_reducible refine bif_t (beq_self_eq_true _) ?_ | with_reducible refine bif_b (fun _ => ?_) (fun _ => ?_) | with_reducible refine ⟨_, Eq.refl (List.map _ _), ?_⟩ | (with_reducible refine Exists.intro (by omega) ?_) | rfl | (intro h0; omega) | omega
  · have h2 : a + n ≤ b.length := by omega
    refine bif_b (fun h3 => absurd h1 (by simpa using h3)) (fun _ => ?_)
    have hca : ¬ cap = a := by omega
    have w1 : IntKind.i64.wrap ((a : Int) + (n : Int)) = ((a + n : Nat) : Int) := by rw [wrap64 (by omega) (by omega)]; omega
    have w2 : IntKind.i64.wrap (((a + n : Nat) : Int) - (n : Int)) = (a : Int) := by rw [wrap64 (by omega) (by omega)]; omega
    have hcl : castL EB (encInt .u8) (List.take n (List.drop a b)) = (b.drop a).take n := castB _
    have hl : ((b.drop a).take n).length = n := by rw [List.length_take, List.length_drop]; omega
    have ht : List.take n ((b.drop a).take n) = (b.drop a).take n := by rw [List.take_take, Nat.min_self]
    have e1 : takeF n ⟨b.drop a, e⟩ = ((b.drop a).take n, ⟨(b.drop a).drop n, 0⟩) := by
      unfold takeF
      rw [if_neg (fun h => h h1), if_neg (show ¬ (b.drop a).length < n by rw [List.length_drop]; omega)]
    have e2 : rbF n ⟨b.drop a, e⟩ = (b.drop a).take n := by
      unfold rbF
      rw [e1]
      rfl
    have ho : AtT b (takeF n ⟨b.drop a, e⟩).2 → True := fun _ => trivial
    simp only [w1, w2, Int.toNat_natCast, if_neg hca, Nat.zero_add, Nat.add_sub_cancel_left, List.nil_append, List.drop_zero]
    simp only [hcl, hl, ht, e2]
    have mk : ∀ y : Value, ∃ o : AtT b (takeF n ⟨b.drop a, e⟩).2, o.a = a + n ∧ o.y = y := fun y => ⟨⟨a + n, y, by omega, by rw [e1]; show b.drop (a + n) = (b.drop a).drop n; rw [List.drop_drop]⟩, rfl, rfl⟩
    repeat' first
      | exact trivial
      | exact encB_pure _
      | with_reducible refine And.intro ?_ ?_
      | (intro z)
      | omega
      | rfl
      | (refine (mk (by assumption)).elim fun o ho => ⟨o, ?_⟩; rw [ho.1, ho.2])
      | (rw [e1]; exact h1.symm)
theorem rnew_spec (x : Value) {b : List Int} (hb : b.length ≤ 140737488351232) : SMem Tryd.prog 79 [byV x b] 0 [] (fun o : CapT b.length => ⟨2, .one (.ptr 0 0), [(0, .cells (drC b o.cap 0 0)), (1, .row 1 EB b o.cap)]⟩) := by
  refine SMem.inm [] SOK.nil [] MSOK.nil tok mixed [] IOK.nil true [] [] Tryd.call79 Tryd.func79 rfl (by rfl) ?_
  refine Eq.mp (α := (And ((0 : Nat) = (0 : Nat)) (And ((0 : Nat) = (0 : Nat)) (∃ ys : List Int, (And (List.map (Enc.enc (encInt IntKind.u8)) ys = List.map (Enc.enc (encInt IntKind.u8)) b) (And (((0 : Nat) + List.length ys) * (1 : Nat) ≤ (150000000000000 : Nat)) (∀ cap2 : Nat, (∀ a : (0 : Nat) + List.length ys ≤ cap2, (∃ o : CapT (List.length b), (And (And (And ((true : Bool) = true) ((0 : Nat) = (0 : Nat))) True) (And (And (And (And ((true : Bool) = true) (And ((0 : Nat) = (0 : Nat)) (And (List.length b = List.length ([] ++ ys)) (CapT.cap o = cap2)))) (And ((↑(0 : Nat) : Int) = (0 : Int)) (And ((0 : Int) = (0 : Int)) True))) (And ((true : Bool) = true) (And (And ((true : Bool) = true) (And (CapT.cap o = cap2) (And (List.map (Enc.enc EB) b = List.map (Enc.enc (encInt IntKind.u8)) ([] ++ ys)) (∀ x_1 : Int, (∀ a_1 : x_1 ∈ b, (∀ s : SV, (∀ a_2 : s ∈ Enc.enc EB x_1, ((SV.isPure s : Bool) = (true))))))))) (And ((true : Bool) = true) True)))) ((true : Bool) = true)))))))))))) (by kernel_rfl) ?_
  refine ⟨rfl, rfl, b, rfl, by omega, fun cap2 k2 => ⟨⟨cap2, by omega⟩, ?_⟩⟩
  repeat' first | exact encB_pure _ | exact trivial | refine And.intro ?_ ?_ | with_reducible refine bif_dt (by assumption) ?_ | with_reducible refine bif_df (by assumption) ?_ | with_reducible refine bif_dec (fun _ => ?_) (fun _ => ?_) | with_reducible refine bif_not ?_ | with_reducible refine bif_and ?_ | with_reducible refine bif_or ?_ | with_reducible refine bif_t (by assumption) ?_ | with_reducible refine bif_f (by assumption) ?_ | with_reducible refine bif_t (beq_self_eq_true _) ?_ | with_reducible refine bif_b (fun _ => ?_) (fun _ => ?_) | with_reducible refine ⟨_, Eq.refl (List.map _ _), ?_⟩ | (with_reducible refine Exists.intro (by omega) ?_) | rfl | (intro h0; omega) | omega
theorem rdone2_spec (b : List Int) (cap a : Nat) (e : Int) (ha : a ≤ b.length) (hb : b.length ≤ 140737488351232) : SMem Tryd.prog 81 [.one (.ptr 0 0)] 2 [(0, .cells (drC b cap a e)), (1, .row 1 EB b cap)]
    (fun o : Unit => ⟨2, int (dF ⟨b.drop a, e⟩), [(0, .cells (drC b cap a e)), (1, .row 1 EB b cap)]⟩) := by
  refine SMem.inm [] SOK.nil [] MSOK.nil tok mixed [(116, ⟨Tryd.f116, true, [], []⟩)] (IOK.cons Tryd.func116 Tryd.call116 IOK.nil) true [] [] Tryd.call81 Tryd.func81 rfl (by rfl) ?_
  refine Eq.mp (α := (@Bool.rec (fun _ => Prop) (∃ o : Unit, (And (And (dF { l := List.drop a b, e := e } = e) True) (And (And (And (And ((true : Bool) = true) (And ((0 : Nat) = (0 : Nat)) (And (List.length b = List.length b) (cap = cap)))) (And ((↑a : Int) = (↑a : Int)) (And (e = e) True))) (And ((true : Bool) = true) (And (And ((true : Bool) = true) (And (cap = cap) (And (List.map (Enc.enc EB) b = List.map (Enc.enc EB) b) (∀ x : Int, (∀ a_1 : x ∈ b, (∀ s : SV, (∀ a_2 : s ∈ Enc.enc EB x, ((SV.isPure s : Bool) = (true))))))))) (And ((true : Bool) = true) True)))) ((true : Bool) = true)))) (@Bool.rec (fun _ => Prop) (∃ o : Unit, (And (And (dF { l := List.drop a b, e := e } = e) True) (And (And (And (And ((true : Bool) = true) (And ((0 : Nat) = (0 : Nat)) (And (List.length b = List.length b) (cap = cap)))) (And ((↑a : Int) = (↑a : Int)) (And (e = e) True))) (And ((true : Bool) = true) (And (And ((true : Bool) = true) (And (cap = cap) (And (List.map (Enc.enc EB) b = List.map (Enc.enc EB) b) (∀ x : Int, (∀ a_1 : x ∈ b, (∀ s : SV, (∀ a_2 : s ∈ Enc.enc EB x, ((SV.isPure s : Bool) = (true))))))))) (And ((true : Bool) = true) True)))) ((true : Bool) = true)))) (∃ o : Unit, (And (And (dF { l := List.drop a b, e := e } = (21 : Int)) True) (And (And (And (And ((true : Bool) = true) (And ((0 : Nat) = (0 : Nat)) (And (List.length b = List.length b) (cap = cap)))) (And ((↑a : Int) = (↑a : Int)) (And (e = e) True))) (And ((true : Bool) = true) (And (And ((true : Bool) = true) (And (cap = cap) (And (List.map (Enc.enc EB) b = List.map (Enc.enc EB) b) (∀ x : Int, (∀ a_1 : x ∈ b, (∀ s : SV, (∀ a_2 : s ∈ Enc.enc EB x, ((SV.isPure s : Bool) = (true))))))))) (And ((true : Bool) = true) True)))) ((true : Bool) = true)))) (decide ((0 : Int) < IntKind.wrap IntKind.i64 ((↑(List.length b) : Int) - (↑a : Int))))) (e == (0 : Int)))) (by kernel_rfl) ?_
  have hsub : IntKind.i64.wrap ((b.length : Int) - (a : Int)) = ((b.length - a : Nat) : Int) := by rw [wrap64 (by omega) (by omega)]; omega
  rw [hsub]
  unfold dF
  refine bif_b (fun h1 => ?_) (fun h1 => ?_)
  · have h1 : e = 0 := eq_of_beq h1
    refine bif_dec (fun h2 => ?_) (fun h2 => ?_)
    · rw [if_pos ⟨h1, by show 0 < (b.drop a).length; rw [List.length_drop]; omega⟩]
      refine ⟨(), ?_⟩
      repeat' first | exact encB_pure _ | exact trivial | refine And.intro ?_ ?_ | with_reducible refine bif_dt (by assumption) ?_ | with_reducible refine bif_df (by assumption) ?_ | with_reducible refine bif_dec (fun _ => ?_) (fun _ => ?_) | with_reducible refine bif_not ?_ | with_reducible refine bif_and ?_ | with_reducible refine bif_or ?_ | with_reducible refine bif_t (by assumption) ?_ | with_reducible refine bif_f (by assumption) ?_ | with_reducible refine bif_t (beq_self_eq_true _) ?_ | with_reducible refine bif_b (fun _ => ?_) (fun _ => ?_) | with_reducible refine ⟨_, Eq.refl (List.map _ _), ?_⟩ | (with_reducible refine Exists.intro (by omega) ?_) | rfl | (intro h0; omega) | omega
    · rw [if_neg (fun h => by have := h.2; rw [List.length_drop] at this; omega)]
      refine ⟨(), ?_⟩
      repeat' first | exact encB_pure _ | exact trivial | refine And.intro ?_ ?_ | with_reducible refine bif_dt (by assumption) ?_ | with_reducible refine bif_df (by assumption) ?_ | with_reducible refine bif_dec (fun _ => ?_) (fun _ => ?_) | with_reducible refine bif_not ?_ | with_reducible refine bif_and ?_ | with_reducible refine bif_or ?_ | with_reducible refine bif_t (by assumption) ?_ | with_reducible refine bif_f (by assumption) ?_ | with_reducible refine bif_t (beq_self_eq_true _) ?_ | with_reducible refine bif_b (fun _ => ?_) (fun _ => ?_) | with_reducible refine ⟨_, Eq.refl (List.map _ _), ?_⟩ | (with_reducible refine Exists.intro (by omega) ?_) | rfl | (intro h0; omega) | omega
  · have h1 : e ≠ 0 := fun h => by rw [h] at h1; cases h1
    rw [if_neg (fun h => h1 h.1)]
    refine ⟨(), ?_⟩
    repeat' first | exact encB_pure _ | exact trivial | refine And.intro ?_ ?_ | with_reducible refine bif_dt (by assumption) ?_ | with_reducible refine bif_df (by assumption) ?_ | with_reducible refine bif_dec (fun _ => ?_) (fun _ => ?_) | with_reducible refine bif_not ?_ | with_reducible refine bif_and ?_ | with_reducible refine bif_or ?_ | with_reducible refine bif_t (by assumption) ?_ | with_reducible refine bif_f (by assumption) ?_ | with_reducible refine bif_t (beq_self_eq_true _) ?_ | with_reducible refine bif_b (fun _ => ?_) (fun _ => ?_) | with_reducible refine ⟨_, Eq.refl (List.map _ _), ?_⟩ | (with_reducible refine Exists.intro (by omega) ?_) | rfl | (intro h0; omega) | omega
theorem rt_row {b : List Int} {len cap cp : Nat} {at_ e n_ : Int} (h : len = b.length ∧ cap = cp ∧ b.length ≤ cp ∧ (0 ≤ at_ ∧ at_ ≤ b.length) ∧ (0 < n_ ∧ n_ ≤ 1000) ∧ b.length ≤ 140737488351232) :
    SMem Tryd.prog 123 [.one (.ptr 0 0), int n_] 2 [(0, .cells [.slc 1 1 0 len cap, .v (.int .i64 at_), .v (.int .i64 e)]), (1, .row 1 EB b cp)]
    (fun o : AtT b (takeF n_.toNat ⟨b.drop at_.toNat, e⟩).2 => ⟨2, byV o.y (rbF n_.toNat ⟨b.drop at_.toNat, e⟩), [(0, .cells (drC b cap o.a (takeF n_.toNat ⟨b.drop at_.toNat, e⟩).2.e)), (1, .row 1 EB b cp)]⟩) := by
  obtain ⟨rfl, rfl, h1, h2, h3, h4⟩ := h
  obtain ⟨a, rfl⟩ : ∃ a : Nat, at_ = (a : Int) := ⟨at_.toNat, by omega⟩
  obtain ⟨n, rfl⟩ : ∃ a : Nat, n_ = (a : Int) := ⟨n_.toNat, by omega⟩
  exact rtake_spec b cap a n e h1 (by omega) (by omega) (by omega) h4
def rtkT : MT := fun ms n h K => match ms with
  | [.one (.ptr P0 0), .one (.v (.int .i64 n_))] => (match get h P0 with
    | some (.cells [.slc P1 1 0 len cap, .v (.int .i64 at_), .v (.int .i64 e)]) => (match get h P1 with
    | some (.row we1 wn1 wl1 cp) => bif Nat.beq we1 1 && noDup [P0, P1] then ∃ b : List (Int), wl1.map wn1.enc = b.map (EB).enc ∧ ((len = b.length ∧ cap = cp ∧ b.length ≤ cp ∧ (0 ≤ at_ ∧ at_ ≤ b.length) ∧ (0 < n_ ∧ n_ ≤ 1000) ∧ b.length ≤ 140737488351232)) ∧ (∀ o : AtT b (takeF n_.toNat ⟨b.drop at_.toNat, e⟩).2, K (n + 0) (byV o.y (rbF n_.toNat ⟨b.drop at_.toNat, e⟩)) ([(P0, .cells [.slc P1 1 0 b.length cap, .v (.int .i64 o.a), .v (.int .i64 (takeF n_.toNat ⟨b.drop at_.toNat, e⟩).2.e)]), (P1, .row 1 EB b cp)] ++ delL [P0, P1] h)) else False
    | _ => False)
    | _ => False)
  | _ => False
theorem rtk_mono : MMono rtkT := by
  intro ms n h K K' hkk hk
  unfold rtkT at hk ⊢
  split at hk
  · rename_i P0 n_
    split at hk
    · rename_i P1 len cap at_ e hg0
      try simp only [hg0]
      split at hk
      · rename_i we1 wa1 wn1 wl1 cp hg1
        try simp only [hg1]
        obtain ⟨hb, y0, z0, h1, h2⟩ := cond_false_elim hk
        rw [hb]
        exact ⟨y0, z0, h1, fun o => hkk _ _ _ (h2 o)⟩
      · exact hk.elim
    · exact hk.elim
  · exact hk.elim
theorem rtk_ok : MOK Tryd.prog 123 rtkT := by
  refine ⟨?_, rtk_mono⟩
  intro ms n hB K hk
  unfold rtkT at hk
  split at hk
  · rename_i P0 n_
    split at hk
    · rename_i P1 len cap at_ e hg0
      split at hk
      · rename_i we1 wa1 wn1 wl1 cp hg1
        obtain ⟨hb, b, hl1, h, hk2⟩ := cond_false_elim hk
        clear hk
        simp only [Bool.and_eq_true] at hb
        obtain ⟨hc0, hnd⟩ := hb
        have hs0 := Nat.eq_of_beq_eq_true hc0
        subst hs0
        refine SCall.seen ?_ (.cons (.refl _) (.cons (.refl _) .nil))
        exact (rt_row (e := e) h).use (fun j => match j with | 0 => P0 | 1 => P1 | _ => 0) rfl rfl ⟨by show (match get hB P0 with | some b0 => Blk.imp _ _ _ b0 | none => False); rw [hg0]; exact ⟨rfl, rfl⟩, rfl, ⟨by show (match get hB P1 with | some b0 => Blk.imp _ _ _ b0 | none => False); rw [hg1]; exact ⟨rfl, rfl, hl1.symm, fun y _ => Enc.pures _ y⟩, rfl, trivial⟩⟩ hnd (fun j hj => by cases j with
            | zero => exact ⟨_, rfl⟩
            | succ j => cases j with
             | zero => exact ⟨_, rfl⟩
             | succ j => omega) (fun o => hk2 o)
      · exact hk.elim
    · exact hk.elim
  · exact hk.elim

theorem rd_row {b : List Int} {len cap cp : Nat} {at_ e : Int} (h : len = b.length ∧ cap = cp ∧ (0 ≤ at_ ∧ at_ ≤ b.length) ∧ b.length ≤ 140737488351232) :
    SMem Tryd.prog 81 [.one (.ptr 0 0)] 2 [(0, .cells [.slc 1 1 0 len cap, .v (.int .i64 at_), .v (.int .i64 e)]), (1, .row 1 EB b cp)]
    (fun o : Unit => ⟨2, int (dF ⟨b.drop at_.toNat, e⟩), [(0, .cells [.slc 1 1 0 len cap, .v (.int .i64 at_), .v (.int .i64 e)]), (1, .row 1 EB b cp)]⟩) := by
  obtain ⟨rfl, rfl, h1, h2⟩ := h
  obtain ⟨a, rfl⟩ : ∃ a : Nat, at_ = (a : Int) := ⟨at_.toNat, by omega⟩
  exact rdone2_spec b cap a e (by omega) h2
def rdnT : MT := fun ms n h K => match ms with
  | [.one (.ptr P0 0)] => (match get h P0 with
    | some (.cells [.slc P1 1 0 len cap, .v (.int .i64 at_), .v (.int .i64 e)]) => (match get h P1 with
    | some (.row we1 wn1 wl1 cp) => bif Nat.beq we1 1 && noDup [P0, P1] then ∃ b : List (Int), wl1.map wn1.enc = b.map (EB).enc ∧ ((len = b.length ∧ cap = cp ∧ (0 ≤ at_ ∧ at_ ≤ b.length) ∧ b.length ≤ 140737488351232)) ∧ (∀ o : Unit, K (n + 0) (int (dF ⟨b.drop at_.toNat, e⟩)) ([(P0, .cells [.slc P1 1 0 len cap, .v (.int .i64 at_), .v (.int .i64 e)]), (P1, .row 1 EB b cp)] ++ delL [P0, P1] h)) else False
    | _ => False)
    | _ => False)
  | _ => False
theorem rdn_mono : MMono rdnT := by
  intro ms n h K K' hkk hk
  unfold rdnT at hk ⊢
  split at hk
  · rename_i P0
    split at hk
    · rename_i P1 len cap at_ e hg0
      try simp only [hg0]
      split at hk
      · rename_i we1 wa1 wn1 wl1 cp hg1
        try simp only [hg1]
        obtain ⟨hb, y0, z0, h1, h2⟩ := cond_false_elim hk
        rw [hb]
        exact ⟨y0, z0, h1, fun o => hkk _ _ _ (h2 o)⟩
      · exact hk.elim
    · exact hk.elim
  · exact hk.elim
theorem rdn_ok : MOK Tryd.prog 81 rdnT := by
  refine ⟨?_, rdn_mono⟩
  intro ms n hB K hk
  unfold rdnT at hk
  split at hk
  · rename_i P0
    split at hk
    · rename_i P1 len cap at_ e hg0
      split at hk
      · rename_i we1 wa1 wn1 wl1 cp hg1
        obtain ⟨hb, b, hl1, h, hk2⟩ := cond_false_elim hk
        clear hk
        simp only [Bool.and_eq_true] at hb
        obtain ⟨hc0, hnd⟩ := hb
        have hs0 := Nat.eq_of_beq_eq_true hc0
        subst hs0
        refine SCall.seen ?_ (.cons (.refl _) .nil)
        exact (rd_row (e := e) h).use (fun j => match j with | 0 => P0 | 1 => P1 | _ => 0) rfl rfl ⟨by show (match get hB P0 with | some b0 => Blk.imp _ _ _ b0 | none => False); rw [hg0]; exact ⟨rfl, rfl⟩, rfl, ⟨by show (match get hB P1 with | some b0 => Blk.imp _ _ _ b0 | none => False); rw [hg1]; exact ⟨rfl, rfl, hl1.symm, fun y _ => Enc.pures _ y⟩, rfl, trivial⟩⟩ hnd (fun j hj => by cases j with
            | zero => exact ⟨_, rfl⟩
            | succ j => cases j with
             | zero => exact ⟨_, rfl⟩
             | succ j => omega) (fun o => hk2 o)
      · exact hk.elim
    · exact hk.elim
  · exact hk.elim

def rnwT : MT := fun ms n h K => match ms with
  | [.one (.view vx0 ve0 en0 vl0)] => bif Nat.beq ve0 1 && noDup [] then ∃ b : List (Int), vl0.map en0 = b.map eB ∧ (b.length ≤ 140737488351232) ∧ (∀ o : CapT b.length, K (n + 2) (.one (.ptr n 0)) ([(n, .cells [.slc (n + 1) 1 0 b.length o.cap, .v (.int .i64 0), .v (.int .i64 0)]), (n + 1, .row 1 EB b o.cap)] ++ delL [] h)) else False
  | _ => False
theorem rnw_mono : MMono rnwT := by
  intro ms n h K K' hkk hk
  unfold rnwT at hk ⊢
  split at hk
  · rename_i vx0 ve0 va0 en0 vl0
    obtain ⟨hb, y0, z0, h1, h2⟩ := cond_false_elim hk
    rw [hb]
    exact ⟨y0, z0, h1, fun o => hkk _ _ _ (h2 o)⟩
  · exact hk.elim
theorem rnw_ok : MOK Tryd.prog 79 rnwT := by
  refine ⟨?_, rnw_mono⟩
  intro ms n hB K hk
  unfold rnwT at hk
  split at hk
  · rename_i vx0 ve0 va0 en0 vl0
    obtain ⟨hb, b, he0, h, hk2⟩ := cond_false_elim hk
    clear hk
    simp only [Bool.and_eq_true] at hb
    obtain ⟨hc0, hnd⟩ := hb
    have hs0 := Nat.eq_of_beq_eq_true hc0
    subst hs0
    refine SCall.seen ?_ (.cons (.view he0) .nil)
    exact (rnew_spec _ h).use (fun _ => 0) rfl rfl trivial hnd (fun j hj => absurd hj (Nat.not_lt_zero j)) (fun o => hk2 o)
  · exact hk.elim

structure RuT2 (b : List Int) (s : RS) where
  i : Nat
  y1 : Value
  o : AtT b (takeF 8 s).2
  hi : i ≤ (rbF 8 s).length
theorem rb_val (s : RS) : valF (rbF 8 s) = (uF s).1 := by
  unfold rbF uF takeF zsF
  by_cases h : s.e ≠ 0
  · simp only [h, if_pos, ne_eq, not_false_eq_true]
    decide
  · by_cases h2 : s.l.length < 8
    · rw [if_neg h, if_pos h2]
      show valF [] = valF (List.replicate 8 0)
      decide
    · rw [if_neg h, if_neg h2]
      rfl
theorem rb_len (n : Nat) (s : RS) : (rbF n s).length ≤ n := by
  unfold rbF
  split
  · exact Nat.zero_le _
  · exact Nat.le_of_eq (takeF_length n s)
theorem rb_By {s : RS} (h : By s.l) (n : Nat) : By (rbF n s) := by
  unfold rbF
  split
  · exact fun x hx => by cases hx
  · exact (takeF_By h n).1
theorem ruint2_spec (b : List Int) (cap a : Nat) (e : Int) (hc : b.length ≤ cap) (ha : a ≤ b.length) (hb : b.length ≤ 140737488351232) (hB : By b) : SMem Tryd.prog 122 [.one (.ptr 0 0)] 2 [(0, .cells (drC b cap a e)), (1, .row 1 EB b cap)]
    (fun o : AtT b (uF ⟨b.drop a, e⟩).2 => ⟨2, u64 (uF ⟨b.drop a, e⟩).1, [(0, .cells (drC b cap o.a (uF ⟨b.drop a, e⟩).2.e)), (1, .row 1 EB b cap)]⟩) := by
  refine SMem.inm [] SOK.nil [(123, rtkT)] (MSOK.cons rtk_ok MSOK.nil) tok mixed [] IOK.nil false [(4, ⟨RuT2 b ⟨b.drop a, e⟩, fun p => ⟨2, [(3, byV p.y1 (rbF 8 ⟨b.drop a, e⟩)), (4, u64 (valF ((rbF 8 ⟨b.drop a, e⟩).take p.i))), (5, int p.i)], [(0, .cells (drC b cap p.o.a (takeF 8 ⟨b.drop a, e⟩).2.e)), (1, .row 1 EB b cap)]⟩, fun p => (rbF 8 ⟨b.drop a, e⟩).length - p.i, fun _ _ => True⟩)] [] Tryd.call122 Tryd.func122 rfl (by rfl) ?_
  refine Eq.mp (α := (∃ b_1 : List Int, (And (List.map (Enc.enc EB) b = List.map (Enc.enc EB) b_1) (And (And (List.length b = List.length b_1) (And (cap = cap) (And (List.length b_1 ≤ cap) (And (And ((0 : Int) ≤ (↑a : Int)) ((↑a : Int) ≤ (↑(List.length b_1) : Int))) (And (And ((0 : Int) < (8 : Int)) ((8 : Int) ≤ (1000 : Int))) (List.length b_1 ≤ (140737488351232 : Nat))))))) (∀ o : AtT b_1 (Prod.snd (takeF (Int.toNat (8 : Int)) { l := List.drop (Int.toNat (↑a : Int)) b_1, e := e })), (∃ i0 : RuT2 b { l := List.drop a b, e := e }, (And (And True (And (And (SV.view (RuT2.y1 i0) (1 : Nat) (Enc.enc (encInt IntKind.u8)) (rbF (8 : Nat) { l := List.drop a b, e := e }) = SV.view (AtT.y o) (1 : Nat) (Enc.enc (encInt IntKind.u8)) (rbF (Int.toNat (8 : Int)) { l := List.drop (Int.toNat (↑a : Int)) b_1, e := e })) (And (valF (List.take (RuT2.i i0) (rbF (8 : Nat) { l := List.drop a b, e := e })) = (0 : Int)) (And ((↑(RuT2.i i0) : Int) = (0 : Int)) True))) (And (And (And (And ((true : Bool) = true) (And ((0 : Nat) = (0 : Nat)) (And (List.length b = List.length b_1) (cap = cap)))) (And ((↑(AtT.a (RuT2.o i0)) : Int) = (↑(AtT.a o) : Int)) (And (RS.e (Prod.snd (takeF (8 : Nat) { l := List.drop a b, e := e })) = RS.e (Prod.snd (takeF (Int.toNat (8 : Int)) { l := List.drop (Int.toNat (↑a : Int)) b_1, e := e }))) True))) (And ((true : Bool) = true) (And (And ((true : Bool) = true) (And (cap = cap) (And (List.map (Enc.enc EB) b = List.map (Enc.enc EB) b_1) (∀ x : Int, (∀ a_1 : x ∈ b, (∀ s : SV, (∀ a_2 : s ∈ Enc.enc EB x, ((SV.isPure s : Bool) = (true))))))))) (And ((true : Bool) = true) True)))) ((true : Bool) = true)))) (∀ i : RuT2 b { l := List.drop a b, e := e }, (∀ a_1 : True, (@Bool.rec (fun _ => Prop) (∃ o_1 : AtT b (Prod.snd (takeF (8 : Nat) { l := List.drop a b, e := e })), (And (And (valF (Prod.fst (takeF (8 : Nat) { l := List.drop a b, e := e })) = valF (List.take (RuT2.i i) (rbF (8 : Nat) { l := List.drop a b, e := e }))) True) (And (And (And (And ((true : Bool) = true) (And ((0 : Nat) = (0 : Nat)) (And (List.length b = List.length b) (cap = cap)))) (And ((↑(AtT.a o_1) : Int) = (↑(AtT.a (RuT2.o i)) : Int)) (And (RS.e (Prod.snd (takeF (8 : Nat) { l := List.drop a b, e := e })) = RS.e (Prod.snd (takeF (8 : Nat) { l := List.drop a b, e := e }))) True))) (And ((true : Bool) = true) (And (And ((true : Bool) = true) (And (cap = cap) (And (List.map (Enc.enc EB) b = List.map (Enc.enc EB) b) (∀ x : Int, (∀ a_2 : x ∈ b, (∀ s : SV, (∀ a_3 : s ∈ Enc.enc EB x, ((SV.isPure s : Bool) = (true))))))))) (And ((true : Bool) = true) True)))) ((true : Bool) = true)))) (And ((0 : Int) ≤ (↑(RuT2.i i) : Int)) (∃ hk : Int.toNat (↑(RuT2.i i) : Int) < List.length (rbF (8 : Nat) { l := List.drop a b, e := e }), (∃ i' : RuT2 b { l := List.drop a b, e := e }, (And (And (List.length (rbF (8 : Nat) { l := List.drop a b, e := e }) - RuT2.i i' < List.length (rbF (8 : Nat) { l := List.drop a b, e := e }) - RuT2.i i) True) (And (And (SV.view (RuT2.y1 i') (1 : Nat) (Enc.enc (encInt IntKind.u8)) (rbF (8 : Nat) { l := List.drop a b, e := e }) = SV.view (RuT2.y1 i) (1 : Nat) (Enc.enc (encInt IntKind.u8)) (rbF (8 : Nat) { l := List.drop a b, e := e })) (And (valF (List.take (RuT2.i i') (rbF (8 : Nat) { l := List.drop a b, e := e })) = IntKind.wrap IntKind.u64 (IntKind.wrap IntKind.u64 (valF (List.take (RuT2.i i) (rbF (8 : Nat) { l := List.drop a b, e := e })) * (256 : Int)) + IntKind.wrap IntKind.u64 (rbF (8 : Nat) { l := List.drop a b, e := e })[Int.toNat (↑(RuT2.i i) : Int)])) (And ((↑(RuT2.i i') : Int) = IntKind.wrap IntKind.i64 ((↑(RuT2.i i) : Int) + (1 : Int))) True))) (And (And (And (And ((true : Bool) = true) (And ((0 : Nat) = (0 : Nat)) (And (List.length b = List.length b) (cap = cap)))) (And ((↑(AtT.a (RuT2.o i')) : Int) = (↑(AtT.a (RuT2.o i)) : Int)) (And (RS.e (Prod.snd (takeF (8 : Nat) { l := List.drop a b, e := e })) = RS.e (Prod.snd (takeF (8 : Nat) { l := List.drop a b, e := e }))) True))) (And ((true : Bool) = true) (And (And ((true : Bool) = true) (And (cap = cap) (And (List.map (Enc.enc EB) b = List.map (Enc.enc EB) b) (∀ x : Int, (∀ a_2 : x ∈ b, (∀ s : SV, (∀ a_3 : s ∈ Enc.enc EB x, ((SV.isPure s : Bool) = (true))))))))) (And ((true : Bool) = true) True)))) ((true : Bool) = true))))))) (decide ((↑(RuT2.i i) : Int) < (↑(List.length (rbF (8 : Nat) { l := List.drop a b, e := e })) : Int))))))))))))) (by kernel_rfl) ?_
  refine ⟨b, rfl, ⟨rfl, rfl, hc, ⟨by omega, by omega⟩, ⟨by decide, by decide⟩, hb⟩, fun o => ?_⟩
  have e0 : rbF (Int.toNat 8) ⟨List.drop (a : Int).toNat b, e⟩ = rbF 8 ⟨b.drop a, e⟩ := rfl
  have e1 : takeF (Int.toNat 8) ⟨List.drop (a : Int).toNat b, e⟩ = takeF 8 ⟨b.drop a, e⟩ := rfl
  have hval : valF (takeF 8 ⟨b.drop a, e⟩).1 = valF (rbF 8 ⟨b.drop a, e⟩) := (rb_val ⟨b.drop a, e⟩).symm
  refine ⟨⟨0, o.y, o, Nat.zero_le _⟩, ?_, ?_⟩
  ·
    repeat' first | exact encB_pure _ | exact trivial | refine And.intro ?_ ?_ | with_reducible refine bif_dt (by assumption) ?_ | with_reducible refine bif_df (by assumption) ?_ | with_reducible refine bif_dec (fun _ => ?_) (fun _ => ?_) | with_reducible refine bif_not ?_ | with_reducible refine bif_and ?_ | with_reducible refine bif_or ?_ | with_reducible refine bif_t (by assumption) ?_ | with_reducible refine bif_f (by assumption) ?_ | with_reducible refine bif_t (beq_self_eq_true _) ?_ | with_reducible refine bif_b (fun _ => ?_) (fun _ => ?_) | with_reducible refine ⟨_, Eq.refl (List.map _ _), ?_⟩ | (with_reducible refine Exists.intro (by omega) ?_) | rfl | (intro h0; omega) | omega
  rintro ⟨i, y1, o1, hi⟩ -
  dsimp only
  have hlen := rb_len 8 ⟨b.drop a, e⟩
  have hbb := rb_By (s := ⟨b.drop a, e⟩) (hB.drop a) 8
  rw [hval]
  refine bif_dec (fun h1 => ?_) (fun h1 => ?_)
  rotate_left
  · have : List.take i (rbF 8 ⟨b.drop a, e⟩) = (rbF 8 ⟨b.drop a, e⟩) := List.take_of_length_le (by omega)
    rw [this]
    refine ⟨o1, ?_⟩
    repeat' first | exact encB_pure _ | exact trivial | refine And.intro ?_ ?_ | with_reducible refine bif_dt (by assumption) ?_ | with_reducible refine bif_df (by assumption) ?_ | with_reducible refine bif_dec (fun _ => ?_) (fun _ => ?_) | with_reducible refine bif_not ?_ | with_reducible refine bif_and ?_ | with_reducible refine bif_or ?_ | with_reducible refine bif_t (by assumption) ?_ | with_reducible refine bif_f (by assumption) ?_ | with_reducible refine bif_t (beq_self_eq_true _) ?_ | with_reducible refine bif_b (fun _ => ?_) (fun _ => ?_) | with_reducible refine ⟨_, Eq.refl (List.map _ _), ?_⟩ | (with_reducible refine Exists.intro (by omega) ?_) | rfl | (intro h0; omega) | omega
  have hi' : i < (rbF 8 ⟨b.drop a, e⟩).length := by omega
  have hv := val_bound (hbb.take i)
  have hvl : ((rbF 8 ⟨b.drop a, e⟩).take i).length = i := by rw [List.length_take]; omega
  rw [hvl] at hv
  have hbi := hbb _ (List.getElem_mem hi')
  have hp : (256 : Int) ^ i ≤ 256 ^ 7 := by
    have : ∀ k : Nat, k ≤ 7 → (256 : Int) ^ k ≤ 256 ^ 7 := by decide
    exact this i (by omega)
  have h7 : (256 : Int) ^ 7 = 72057594037927936 := by decide
  have hw : IntKind.i64.wrap ((i : Int) + 1) = ((i + 1 : Nat) : Int) := inext (by omega)
  have hn : valF (List.take (i + 1) (rbF 8 ⟨b.drop a, e⟩)) = IntKind.u64.wrap (IntKind.u64.wrap (valF (List.take i (rbF 8 ⟨b.drop a, e⟩)) * 256) + IntKind.u64.wrap (rbF 8 ⟨b.drop a, e⟩)[i]) := by
    rw [wrapU64, wrapU64, wrapU64, List.take_add_one, List.getElem?_eq_getElem hi']
    have := val_snoc (List.take i (rbF 8 ⟨b.drop a, e⟩)) (rbF 8 ⟨b.drop a, e⟩)[i]
    have e2 : (some (rbF 8 ⟨b.drop a, e⟩)[i]).toList = [(rbF 8 ⟨b.drop a, e⟩)[i]] := rfl
    rw [e2, this]
    omega
  refine ⟨by omega, hi', ⟨i + 1, y1, o1, hi'⟩, ⟨show (rbF 8 ⟨b.drop a, e⟩).length - (i + 1) < (rbF 8 ⟨b.drop a, e⟩).length - i by omega, trivial⟩, ?_⟩
  rw [hw]
  repeat' first | exact hn | exact encB_pure _ | exact trivial | refine And.intro ?_ ?_ | with_reducible refine bif_dt (by assumption) ?_ | with_reducible refine bif_df (by assumption) ?_ | with_reducible refine bif_dec (fun _ => ?_) (fun _ => ?_) | with_reducible refine bif_not ?_ | with_reducible refine bif_and ?_ | with_reducible refine bif_or ?_ | with_reducible refine bif_t (by assumption) ?_ | with_reducible refine bif_f (by assumption) ?_ | with_reducible refine bif_t (beq_self_eq_true _) ?_ | with_reducible refine bif_b (fun _ => ?_) (fun _ => ?_) | with_reducible refine ⟨_, Eq.refl (List.map _ _), ?_⟩ | (with_reducible refine Exists.intro (by omega) ?_) | rfl | (intro h0; omega) | omega
theorem ru_row {b : List Int} {len cap cp : Nat} {at_ e : Int} (h : len = b.length ∧ cap = cp ∧ b.length ≤ cp ∧ (0 ≤ at_ ∧ at_ ≤ b.length) ∧ b.length ≤ 140737488351232 ∧ By b) :
    SMem Tryd.prog 122 [.one (.ptr 0 0)] 2 [(0, .cells [.slc 1 1 0 len cap, .v (.int .i64 at_), .v (.int .i64 e)]), (1, .row 1 EB b cp)]
    (fun o : AtT b (uF ⟨b.drop at_.toNat, e⟩).2 => ⟨2, u64 (uF ⟨b.drop at_.toNat, e⟩).1, [(0, .cells (drC b cap o.a (uF ⟨b.drop at_.toNat, e⟩).2.e)), (1, .row 1 EB b cp)]⟩) := by
  obtain ⟨rfl, rfl, h1, h2, h3, h4⟩ := h
  obtain ⟨a, rfl⟩ : ∃ a : Nat, at_ = (a : Int) := ⟨at_.toNat, by omega⟩
  exact ruint2_spec b cap a e h1 (by omega) h3 h4
def ruiT : MT := fun ms n h K => match ms with
  | [.one (.ptr P0 0)] => (match get h P0 with
    | some (.cells [.slc P1 1 0 len cap, .v (.int .i64 at_), .v (.int .i64 e)]) => (match get h P1 with
    | some (.row we1 wn1 wl1 cp) => bif Nat.beq we1 1 && noDup [P0, P1] then ∃ b : List (Int), wl1.map wn1.enc = b.map (EB).enc ∧ ((len = b.length ∧ cap = cp ∧ b.length ≤ cp ∧ (0 ≤ at_ ∧ at_ ≤ b.length) ∧ b.length ≤ 140737488351232 ∧ By b)) ∧ (∀ o : AtT b (uF ⟨b.drop at_.toNat, e⟩).2, K (n + 0) (u64 (uF ⟨b.drop at_.toNat, e⟩).1) ([(P0, .cells [.slc P1 1 0 b.length cap, .v (.int .i64 o.a), .v (.int .i64 (uF ⟨b.drop at_.toNat, e⟩).2.e)]), (P1, .row 1 EB b cp)] ++ delL [P0, P1] h)) else False
    | _ => False)
    | _ => False)
  | _ => False
theorem rui_mono : MMono ruiT := by
  intro ms n h K K' hkk hk
  unfold ruiT at hk ⊢
  split at hk
  · rename_i P0
    split at hk
    · rename_i P1 len cap at_ e hg0
      try simp only [hg0]
      split at hk
      · rename_i we1 wa1 wn1 wl1 cp hg1
        try simp only [hg1]
        obtain ⟨hb, y0, z0, h1, h2⟩ := cond_false_elim hk
        rw [hb]
        exact ⟨y0, z0, h1, fun o => hkk _ _ _ (h2 o)⟩
      · exact hk.elim
    · exact hk.elim
  · exact hk.elim
theorem rui_ok : MOK Tryd.prog 122 ruiT := by
  refine ⟨?_, rui_mono⟩
  intro ms n hB K hk
  unfold ruiT at hk
  split at hk
  · rename_i P0
    split at hk
    · rename_i P1 len cap at_ e hg0
      split at hk
      · rename_i we1 wa1 wn1 wl1 cp hg1
        obtain ⟨hb, b, hl1, h, hk2⟩ := cond_false_elim hk
        clear hk
        simp only [Bool.and_eq_true] at hb
        obtain ⟨hc0, hnd⟩ := hb
        have hs0 := Nat.eq_of_beq_eq_true hc0
        subst hs0
        refine SCall.seen ?_ (.cons (.refl _) .nil)
        exact (ru_row (e := e) h).use (fun j => match j with | 0 => P0 | 1 => P1 | _ => 0) rfl rfl ⟨by show (match get hB P0 with | some b0 => Blk.imp _ _ _ b0 | none => False); rw [hg0]; exact ⟨rfl, rfl⟩, rfl, ⟨by show (match get hB P1 with | some b0 => Blk.imp _ _ _ b0 | none => False); rw [hg1]; exact ⟨rfl, rfl, hl1.symm, fun y _ => Enc.pures _ y⟩, rfl, trivial⟩⟩ hnd (fun j hj => by cases j with
            | zero => exact ⟨_, rfl⟩
            | succ j => cases j with
             | zero => exact ⟨_, rfl⟩
             | succ j => omega) (fun o => hk2 o)
      · exact hk.elim
    · exact hk.elim
  · exact hk.elim

end Go.Proofs.YtblapbjafbmndaaDoor

namespace Go.Proofs.YtblapbjafbmndaaDoor
open Go Go.Sx Go.Sha
set_option linter.unusedVariables false
set_option linter.unusedSimpArgs false
set_option maxRecDepth 100000
set_option maxHeartbeats 4000000

theorem takeF_err (n : Nat) (s : RS) (h : (takeF n s).2.e ≠ 0) : (takeF n s).2.l = s.l := by
  unfold takeF at h ⊢
  split
  · rfl
  · split
    · rfl
    · rename_i h1 h2
      rw [if_neg h1, if_neg h2] at h
      exact absurd rfl h
theorem rcount2_spec (b : List Int) (cap a : Nat) (e most : Int) (hm : 0 ≤ most ∧ most ≤ 1000000) (hc : b.length ≤ cap) (ha : a ≤ b.length) (hb : b.length ≤ 140737488351232) (hB : By b) : SMem Tryd.prog 114 [.one (.ptr 0 0), int most] 2 [(0, .cells (drC b cap a e)), (1, .row 1 EB b cap)]
    (fun o : AtT b (cF most ⟨b.drop a, e⟩).2 => ⟨2, int (cF most ⟨b.drop a, e⟩).1, [(0, .cells (drC b cap o.a (cF most ⟨b.drop a, e⟩).2.e)), (1, .row 1 EB b cap)]⟩) := by
  refine SMem.inm [] SOK.nil [(122, ruiT)] (MSOK.cons rui_ok MSOK.nil) tok mixed [] IOK.nil true [] [] Tryd.call114 Tryd.func114 rfl (by rfl) ?_
  refine Eq.mp (α := (∃ b_1 : List Int, (And (List.map (Enc.enc EB) b = List.map (Enc.enc EB) b_1) (And (And (List.length b = List.length b_1) (And (cap = cap) (And (List.length b_1 ≤ cap) (And (And ((0 : Int) ≤ (↑a : Int)) ((↑a : Int) ≤ (↑(List.length b_1) : Int))) (And (List.length b_1 ≤ (140737488351232 : Nat)) (∀ x : Int, (∀ a_1 : x ∈ b_1, (And ((0 : Int) ≤ x) (x < (256 : Int)))))))))) (∀ o : AtT b_1 (Prod.snd (takeF (8 : Nat) { l := List.drop (Int.toNat (↑a : Int)) b_1, e := e })), (@Bool.rec (fun _ => Prop) (@Bool.rec (fun _ => Prop) (∃ o_1 : AtT b (Prod.snd (cF most { l := List.drop a b, e := e })), (And (And (Prod.fst (cF most { l := List.drop a b, e := e }) = IntKind.wrap IntKind.i64 (valF (Prod.fst (takeF (8 : Nat) { l := List.drop (Int.toNat (↑a : Int)) b_1, e := e })))) True) (And (And (And (And ((true : Bool) = true) (And ((0 : Nat) = (0 : Nat)) (And (List.length b = List.length b_1) (cap = cap)))) (And ((↑(AtT.a o_1) : Int) = (↑(AtT.a o) : Int)) (And (RS.e (Prod.snd (cF most { l := List.drop a b, e := e })) = RS.e (Prod.snd (takeF (8 : Nat) { l := List.drop (Int.toNat (↑a : Int)) b_1, e := e }))) True))) (And ((true : Bool) = true) (And (And ((true : Bool) = true) (And (cap = cap) (And (List.map (Enc.enc EB) b = List.map (Enc.enc EB) b_1) (∀ x : Int, (∀ a_1 : x ∈ b, (∀ s : SV, (∀ a_2 : s ∈ Enc.enc EB x, ((SV.isPure s : Bool) = (true))))))))) (And ((true : Bool) = true) True)))) ((true : Bool) = true)))) (∃ o_1 : AtT b (Prod.snd (cF most { l := List.drop a b, e := e })), (And (And (Prod.fst (cF most { l := List.drop a b, e := e }) = (0 : Int)) True) (And (And (And (And ((true : Bool) = true) (And ((0 : Nat) = (0 : Nat)) (And (List.length b = List.length b_1) (cap = cap)))) (And ((↑(AtT.a o_1) : Int) = (↑(AtT.a o) : Int)) (And (RS.e (Prod.snd (cF most { l := List.drop a b, e := e })) = RS.e (Prod.snd (takeF (8 : Nat) { l := List.drop (Int.toNat (↑a : Int)) b_1, e := e }))) True))) (And ((true : Bool) = true) (And (And ((true : Bool) = true) (And (cap = cap) (And (List.map (Enc.enc EB) b = List.map (Enc.enc EB) b_1) (∀ x : Int, (∀ a_1 : x ∈ b, (∀ s : SV, (∀ a_2 : s ∈ Enc.enc EB x, ((SV.isPure s : Bool) = (true))))))))) (And ((true : Bool) = true) True)))) ((true : Bool) = true)))) (RS.e (Prod.snd (takeF (8 : Nat) { l := List.drop (Int.toNat (↑a : Int)) b_1, e := e })) != (0 : Int))) (@Bool.rec (fun _ => Prop) (@Bool.rec (fun _ => Prop) (@Bool.rec (fun _ => Prop) (∃ o_1 : AtT b (Prod.snd (cF most { l := List.drop a b, e := e })), (And (And (Prod.fst (cF most { l := List.drop a b, e := e }) = IntKind.wrap IntKind.i64 (valF (Prod.fst (takeF (8 : Nat) { l := List.drop (Int.toNat (↑a : Int)) b_1, e := e })))) True) (And (And (And (And ((true : Bool) = true) (And ((0 : Nat) = (0 : Nat)) (And (List.length b = List.length b_1) (cap = cap)))) (And ((↑(AtT.a o_1) : Int) = (↑(AtT.a o) : Int)) (And (RS.e (Prod.snd (cF most { l := List.drop a b, e := e })) = RS.e (Prod.snd (takeF (8 : Nat) { l := List.drop (Int.toNat (↑a : Int)) b_1, e := e }))) True))) (And ((true : Bool) = true) (And (And ((true : Bool) = true) (And (cap = cap) (And (List.map (Enc.enc EB) b = List.map (Enc.enc EB) b_1) (∀ x : Int, (∀ a_1 : x ∈ b, (∀ s : SV, (∀ a_2 : s ∈ Enc.enc EB x, ((SV.isPure s : Bool) = (true))))))))) (And ((true : Bool) = true) True)))) ((true : Bool) = true)))) (∃ o_1 : AtT b (Prod.snd (cF most { l := List.drop a b, e := e })), (And (And (Prod.fst (cF most { l := List.drop a b, e := e }) = (0 : Int)) True) (And (And (And (And ((true : Bool) = true) (And ((0 : Nat) = (0 : Nat)) (And (List.length b = List.length b_1) (cap = cap)))) (And ((↑(AtT.a o_1) : Int) = (↑(AtT.a o) : Int)) (And (RS.e (Prod.snd (cF most { l := List.drop a b, e := e })) = RS.e (Prod.snd (takeF (8 : Nat) { l := List.drop (Int.toNat (↑a : Int)) b_1, e := e }))) True))) (And ((true : Bool) = true) (And (And ((true : Bool) = true) (And (cap = cap) (And (List.map (Enc.enc EB) b = List.map (Enc.enc EB) b_1) (∀ x : Int, (∀ a_1 : x ∈ b, (∀ s : SV, (∀ a_2 : s ∈ Enc.enc EB x, ((SV.isPure s : Bool) = (true))))))))) (And ((true : Bool) = true) True)))) ((true : Bool) = true)))) (RS.e (Prod.snd (takeF (8 : Nat) { l := List.drop (Int.toNat (↑a : Int)) b_1, e := e })) != (0 : Int))) (∃ o_1 : AtT b (Prod.snd (cF most { l := List.drop a b, e := e })), (And (And (Prod.fst (cF most { l := List.drop a b, e := e }) = (0 : Int)) True) (And (And (And (And ((true : Bool) = true) (And ((0 : Nat) = (0 : Nat)) (And (List.length b = List.length b_1) (cap = cap)))) (And ((↑(AtT.a o_1) : Int) = (↑a : Int)) (And (RS.e (Prod.snd (cF most { l := List.drop a b, e := e })) = (21 : Int)) True))) (And ((true : Bool) = true) (And (And ((true : Bool) = true) (And (cap = cap) (And (List.map (Enc.enc EB) b = List.map (Enc.enc EB) b_1) (∀ x : Int, (∀ a_1 : x ∈ b, (∀ s : SV, (∀ a_2 : s ∈ Enc.enc EB x, ((SV.isPure s : Bool) = (true))))))))) (And ((true : Bool) = true) True)))) ((true : Bool) = true)))) (decide (IntKind.wrap IntKind.u64 most < valF (Prod.fst (takeF (8 : Nat) { l := List.drop (Int.toNat (↑a : Int)) b_1, e := e }))))) (∃ o_1 : AtT b (Prod.snd (cF most { l := List.drop a b, e := e })), (And (And (Prod.fst (cF most { l := List.drop a b, e := e }) = (0 : Int)) True) (And (And (And (And ((true : Bool) = true) (And ((0 : Nat) = (0 : Nat)) (And (List.length b = List.length b_1) (cap = cap)))) (And ((↑(AtT.a o_1) : Int) = (↑a : Int)) (And (RS.e (Prod.snd (cF most { l := List.drop a b, e := e })) = (21 : Int)) True))) (And ((true : Bool) = true) (And (And ((true : Bool) = true) (And (cap = cap) (And (List.map (Enc.enc EB) b = List.map (Enc.enc EB) b_1) (∀ x : Int, (∀ a_1 : x ∈ b, (∀ s : SV, (∀ a_2 : s ∈ Enc.enc EB x, ((SV.isPure s : Bool) = (true))))))))) (And ((true : Bool) = true) True)))) ((true : Bool) = true)))) (decide (most < (0 : Int)))) (RS.e (Prod.snd (takeF (8 : Nat) { l := List.drop (Int.toNat (↑a : Int)) b_1, e := e })) == (0 : Int)))))))) (by kernel_rfl) ?_
  refine ⟨b, rfl, ⟨rfl, rfl, hc, ⟨by omega, by omega⟩, hb, hB⟩, fun o => ?_⟩
  have e0 : takeF 8 ⟨List.drop (a : Int).toNat b, e⟩ = takeF 8 ⟨b.drop a, e⟩ := rfl
  obtain ⟨oa, oy, hoh, hoe⟩ := o
  dsimp only
  rw [e0] at hoe ⊢
  have hl := takeF_length 8 ⟨b.drop a, e⟩
  have hv := val_bound (takeF_By (s := ⟨b.drop a, e⟩) (hB.drop a) 8).1
  rw [hl] at hv
  have hp : (256 : Int) ^ 8 = 18446744073709551616 := by decide
  rw [hp] at hv
  have hmu : IntKind.u64.wrap most = most := wrapU hm.1 (by omega)
  rw [hmu]
  have hoq := takeF_err 8 ⟨b.drop a, e⟩
  have c0 : (takeF 8 ⟨b.drop a, e⟩).2.e ≠ 0 → cF most ⟨b.drop a, e⟩ = (0, ⟨b.drop a, (takeF 8 ⟨b.drop a, e⟩).2.e⟩) := fun h => by
    unfold cF
    rw [if_pos (show (uF ⟨b.drop a, e⟩).2.e ≠ 0 from h)]
    rfl
  have c1 : (takeF 8 ⟨b.drop a, e⟩).2.e = 0 → most < valF (takeF 8 ⟨b.drop a, e⟩).1 → cF most ⟨b.drop a, e⟩ = (0, ⟨b.drop a, 21⟩) := fun h h2 => by
    unfold cF
    rw [if_neg (show ¬ (uF ⟨b.drop a, e⟩).2.e ≠ 0 from fun h3 => h3 h), if_pos (show most < (uF ⟨b.drop a, e⟩).1 from h2)]
  have c2 : (takeF 8 ⟨b.drop a, e⟩).2.e = 0 → ¬ most < valF (takeF 8 ⟨b.drop a, e⟩).1 → cF most ⟨b.drop a, e⟩ = (valF (takeF 8 ⟨b.drop a, e⟩).1, (takeF 8 ⟨b.drop a, e⟩).2) := fun h h2 => by
    unfold cF
    rw [if_neg (show ¬ (uF ⟨b.drop a, e⟩).2.e ≠ 0 from fun h3 => h3 h), if_neg (show ¬ most < (uF ⟨b.drop a, e⟩).1 from h2)]
    rfl
  have bneq : ∀ {x : Int}, (x == 0) = false → x ≠ 0 := fun {x} h e => by rw [e] at h; cases h
  generalize cF most ⟨b.drop a, e⟩ = C at *
  refine bif_b (fun h1 => ?_) (fun h1 => ?_)
  · have h1 : (takeF 8 ⟨b.drop a, e⟩).2.e = 0 := eq_of_beq h1
    refine bif_dec (fun h2 => absurd h2 (by omega)) (fun _ => ?_)
    refine bif_dec (fun h3 => ?_) (fun h3 => ?_)
    · rw [c1 h1 h3]
      refine ⟨⟨a, oy, ha, rfl⟩, ?_⟩
      repeat' first | exact encB_pure _ | exact trivial | refine And.intro ?_ ?_ | with_reducible refine bif_dt (by assumption) ?_ | with_reducible refine bif_df (by assumption) ?_ | with_reducible refine bif_dec (fun _ => ?_) (fun _ => ?_) | with_reducible refine bif_not ?_ | with_reducible refine bif_and ?_ | with_reducible refine bif_or ?_ | with_reducible refine bif_t (by assumption) ?_ | with_reducible refine bif_f (by assumption) ?_ | with_reducible refine bif_t (beq_self_eq_true _) ?_ | with_reducible refine bif_b (fun _ => ?_) (fun _ => ?_) | with_reducible refine ⟨_, Eq.refl (List.map _ _), ?_⟩ | (with_reducible refine Exists.intro (by omega) ?_) | rfl | (intro h0; omega) | omega
    · rw [c2 h1 h3, h1]
      refine ⟨⟨oa, oy, hoh, hoe⟩, ?_⟩
      have hw : IntKind.i64.wrap (valF (takeF 8 ⟨b.drop a, e⟩).1) = valF (takeF 8 ⟨b.drop a, e⟩).1 := wrap64 (by omega) (by omega)
      rw [hw]
      repeat' first | exact h1 | exact encB_pure _ | exact trivial | refine And.intro ?_ ?_ | with_reducible refine bif_dt (by assumption) ?_ | with_reducible refine bif_df (by assumption) ?_ | with_reducible refine bif_dec (fun _ => ?_) (fun _ => ?_) | with_reducible refine bif_not ?_ | with_reducible refine bif_and ?_ | with_reducible refine bif_or ?_ | with_reducible refine bif_t (by assumption) ?_ | with_reducible refine bif_f (by assumption) ?_ | with_reducible refine bif_t (beq_self_eq_true _) ?_ | with_reducible refine bif_b (fun _ => ?_) (fun _ => ?_) | with_reducible refine ⟨_, Eq.refl (List.map _ _), ?_⟩ | (with_reducible refine Exists.intro (by omega) ?_) | rfl | (intro h0; omega) | omega
  · have h1 := bneq h1
    rw [c0 h1]
    refine bif_b (fun h2 => ?_) (fun h2 => ?_)
    · refine ⟨⟨oa, oy, hoh, by rw [hoe, hoq h1]⟩, ?_⟩
      repeat' first | exact encB_pure _ | exact trivial | refine And.intro ?_ ?_ | with_reducible refine bif_dt (by assumption) ?_ | with_reducible refine bif_df (by assumption) ?_ | with_reducible refine bif_dec (fun _ => ?_) (fun _ => ?_) | with_reducible refine bif_not ?_ | with_reducible refine bif_and ?_ | with_reducible refine bif_or ?_ | with_reducible refine bif_t (by assumption) ?_ | with_reducible refine bif_f (by assumption) ?_ | with_reducible refine bif_t (beq_self_eq_true _) ?_ | with_reducible refine bif_b (fun _ => ?_) (fun _ => ?_) | with_reducible refine ⟨_, Eq.refl (List.map _ _), ?_⟩ | (with_reducible refine Exists.intro (by omega) ?_) | rfl | (intro h0; omega) | omega
    · exact absurd (show (takeF 8 ⟨b.drop a, e⟩).2.e = 0 by simpa using h2) h1
theorem rc_row {b : List Int} {len cap cp : Nat} {at_ e most : Int} (h : len = b.length ∧ cap = cp ∧ b.length ≤ cp ∧ (0 ≤ at_ ∧ at_ ≤ b.length) ∧ (0 ≤ most ∧ most ≤ 1000000) ∧ b.length ≤ 140737488351232 ∧ By b) :
    SMem Tryd.prog 114 [.one (.ptr 0 0), int most] 2 [(0, .cells [.slc 1 1 0 len cap, .v (.int .i64 at_), .v (.int .i64 e)]), (1, .row 1 EB b cp)]
    (fun o : AtT b (cF most ⟨b.drop at_.toNat, e⟩).2 => ⟨2, int (cF most ⟨b.drop at_.toNat, e⟩).1, [(0, .cells (drC b cap o.a (cF most ⟨b.drop at_.toNat, e⟩).2.e)), (1, .row 1 EB b cp)]⟩) := by
  obtain ⟨rfl, rfl, h1, h2, h3, h4, h5⟩ := h
  obtain ⟨a, rfl⟩ : ∃ a : Nat, at_ = (a : Int) := ⟨at_.toNat, by omega⟩
  exact rcount2_spec b cap a e most h3 h1 (by omega) h4 h5
def rctT : MT := fun ms n h K => match ms with
  | [.one (.ptr P0 0), .one (.v (.int .i64 most))] => (match get h P0 with
    | some (.cells [.slc P1 1 0 len cap, .v (.int .i64 at_), .v (.int .i64 e)]) => (match get h P1 with
    | some (.row we1 wn1 wl1 cp) => bif Nat.beq we1 1 && noDup [P0, P1] then ∃ b : List (Int), wl1.map wn1.enc = b.map (EB).enc ∧ ((len = b.length ∧ cap = cp ∧ b.length ≤ cp ∧ (0 ≤ at_ ∧ at_ ≤ b.length) ∧ (0 ≤ most ∧ most ≤ 1000000) ∧ b.length ≤ 140737488351232 ∧ By b)) ∧ (∀ o : AtT b (cF most ⟨b.drop at_.toNat, e⟩).2, K (n + 0) (int (cF most ⟨b.drop at_.toNat, e⟩).1) ([(P0, .cells [.slc P1 1 0 b.length cap, .v (.int .i64 o.a), .v (.int .i64 (cF most ⟨b.drop at_.toNat, e⟩).2.e)]), (P1, .row 1 EB b cp)] ++ delL [P0, P1] h)) else False
    | _ => False)
    | _ => False)
  | _ => False
theorem rct_mono : MMono rctT := by
  intro ms n h K K' hkk hk
  unfold rctT at hk ⊢
  split at hk
  · rename_i P0 most
    split at hk
    · rename_i P1 len cap at_ e hg0
      try simp only [hg0]
      split at hk
      · rename_i we1 wa1 wn1 wl1 cp hg1
        try simp only [hg1]
        obtain ⟨hb, y0, z0, h1, h2⟩ := cond_false_elim hk
        rw [hb]
        exact ⟨y0, z0, h1, fun o => hkk _ _ _ (h2 o)⟩
      · exact hk.elim
    · exact hk.elim
  · exact hk.elim
theorem rct_ok : MOK Tryd.prog 114 rctT := by
  refine ⟨?_, rct_mono⟩
  intro ms n hB K hk
  unfold rctT at hk
  split at hk
  · rename_i P0 most
    split at hk
    · rename_i P1 len cap at_ e hg0
      split at hk
      · rename_i we1 wa1 wn1 wl1 cp hg1
        obtain ⟨hb, b, hl1, h, hk2⟩ := cond_false_elim hk
        clear hk
        simp only [Bool.and_eq_true] at hb
        obtain ⟨hc0, hnd⟩ := hb
        have hs0 := Nat.eq_of_beq_eq_true hc0
        subst hs0
        refine SCall.seen ?_ (.cons (.refl _) (.cons (.refl _) .nil))
        exact (rc_row (e := e) h).use (fun j => match j with | 0 => P0 | 1 => P1 | _ => 0) rfl rfl ⟨by show (match get hB P0 with | some b0 => Blk.imp _ _ _ b0 | none => False); rw [hg0]; exact ⟨rfl, rfl⟩, rfl, ⟨by show (match get hB P1 with | some b0 => Blk.imp _ _ _ b0 | none => False); rw [hg1]; exact ⟨rfl, rfl, hl1.symm, fun y _ => Enc.pures _ y⟩, rfl, trivial⟩⟩ hnd (fun j hj => by cases j with
            | zero => exact ⟨_, rfl⟩
            | succ j => cases j with
             | zero => exact ⟨_, rfl⟩
             | succ j => omega) (fun o => hk2 o)
      · exact hk.elim
    · exact hk.elim
  · exact hk.elim

structure RhT (b : List Int) (s : RS) where
  i : Nat
  y1 : Value
  o : AtT b (takeF 32 s).2
  hi : i ≤ (rbF 32 s).length
abbrev rhL (s : RS) (i : Nat) : List Int := (rbF 32 s).take i ++ List.replicate (32 - i) 0
theorem rh_end (s : RS) : (hF s).1 = rhL s (rbF 32 s).length := by
  unfold hF rhL rbF
  by_cases h : (takeF 32 s).2.e ≠ 0
  · rw [if_pos h]
    have : (takeF 32 s).1 = List.replicate 32 0 := by
      unfold takeF at h ⊢
      unfold zsF
      split
      · rfl
      · split
        · rfl
        · rename_i h1 h2
          rw [if_neg h1, if_neg h2] at h
          exact absurd rfl h
    rw [this]
    rfl
  · rw [if_neg h, takeF_length, List.take_of_length_le (Nat.le_of_eq (takeF_length 32 s))]
    simp
theorem rh_step (s : RS) {i : Nat} (h : i < (rbF 32 s).length) (hi : i < 32) : rhL s (i + 1) = (rhL s i).set i (rbF 32 s)[i] := by
  unfold rhL
  have hl : ((rbF 32 s).take i).length = i := by rw [List.length_take]; omega
  rw [List.set_append_right _ _ (by omega), hl, Nat.sub_self, List.take_add_one, List.getElem?_eq_getElem h]
  obtain ⟨k, hk⟩ : ∃ k, 32 - i = k + 1 := ⟨31 - i, by omega⟩
  have hk2 : 32 - (i + 1) = k := by omega
  rw [hk, hk2, List.replicate_succ, List.set_cons_zero, List.append_assoc]
  rfl
theorem rhash2_spec (b : List Int) (cap a : Nat) (e : Int) (hc : b.length ≤ cap) (ha : a ≤ b.length) (hb : b.length ≤ 140737488351232) (hB : By b) : SMem Tryd.prog 115 [.one (.ptr 0 0)] 2 [(0, .cells (drC b cap a e)), (1, .row 1 EB b cap)]
    (fun o : AtT b (hF ⟨b.drop a, e⟩).2 => ⟨2, h32 (hF ⟨b.drop a, e⟩).1, [(0, .cells (drC b cap o.a (hF ⟨b.drop a, e⟩).2.e)), (1, .row 1 EB b cap)]⟩) := by
  refine SMem.inm [] SOK.nil [(123, rtkT)] (MSOK.cons rtk_ok MSOK.nil) tok mixed [] IOK.nil false [(4, ⟨RhT b ⟨b.drop a, e⟩, fun p => ⟨4, [(2, .one (.ptr 2 0)), (3, .one (.ptr 3 0)), (4, byV p.y1 (rbF 32 ⟨b.drop a, e⟩)), (5, int p.i)], [(0, .cells (drC b cap p.o.a (takeF 32 ⟨b.drop a, e⟩).2.e)), (1, .row 1 EB b cap), (2, .cells [.ints .u8 32 (List.replicate 32 0)]), (3, .cells [.ints .u8 32 (rhL ⟨b.drop a, e⟩ p.i)])]⟩, fun p => (rbF 32 ⟨b.drop a, e⟩).length - p.i, fun _ _ => True⟩)] [] Tryd.call115 Tryd.func115 rfl (by rfl) ?_
  refine Eq.mp (α := (∃ b_1 : List Int, (And (List.map (Enc.enc EB) b = List.map (Enc.enc EB) b_1) (And (And (List.length b = List.length b_1) (And (cap = cap) (And (List.length b_1 ≤ cap) (And (And ((0 : Int) ≤ (↑a : Int)) ((↑a : Int) ≤ (↑(List.length b_1) : Int))) (And (And ((0 : Int) < (32 : Int)) ((32 : Int) ≤ (1000 : Int))) (List.length b_1 ≤ (140737488351232 : Nat))))))) (∀ o : AtT b_1 (Prod.snd (takeF (Int.toNat (32 : Int)) { l := List.drop (Int.toNat (↑a : Int)) b_1, e := e })), (∃ i0 : RhT b { l := List.drop a b, e := e }, (And (And True (And (And (And ((true : Bool) = true) ((0 : Nat) = (0 : Nat))) (And (And ((true : Bool) = true) ((0 : Nat) = (0 : Nat))) (And (SV.view (RhT.y1 i0) (1 : Nat) (Enc.enc (encInt IntKind.u8)) (rbF (32 : Nat) { l := List.drop a b, e := e }) = SV.view (AtT.y o) (1 : Nat) (Enc.enc (encInt IntKind.u8)) (rbF (Int.toNat (32 : Int)) { l := List.drop (Int.toNat (↑a : Int)) b_1, e := e })) (And ((↑(RhT.i i0) : Int) = (0 : Int)) True)))) (And (And (And (And ((true : Bool) = true) (And ((0 : Nat) = (0 : Nat)) (And (List.length b = List.length b_1) (cap = cap)))) (And ((↑(AtT.a (RhT.o i0)) : Int) = (↑(AtT.a o) : Int)) (And (RS.e (Prod.snd (takeF (32 : Nat) { l := List.drop a b, e := e })) = RS.e (Prod.snd (takeF (Int.toNat (32 : Int)) { l := List.drop (Int.toNat (↑a : Int)) b_1, e := e }))) True))) (And ((true : Bool) = true) (And (And ((true : Bool) = true) (And (cap = cap) (And (List.map (Enc.enc EB) b = List.map (Enc.enc EB) b_1) (∀ x : Int, (∀ a_1 : x ∈ b, (∀ s : SV, (∀ a_2 : s ∈ Enc.enc EB x, ((SV.isPure s : Bool) = (true))))))))) (And ((true : Bool) = true) (And (And (List.replicate (32 : Nat) (0 : Int) = List.replicate (32 : Nat) (0 : Int)) True) (And ((true : Bool) = true) (And (And (rhL { l := List.drop a b, e := e } (RhT.i i0) = List.replicate (32 : Nat) (0 : Int)) True) (And ((true : Bool) = true) True)))))))) ((true : Bool) = true)))) (∀ i : RhT b { l := List.drop a b, e := e }, (∀ a_1 : True, (@Bool.rec (fun _ => Prop) (∃ o_1 : AtT b (Prod.snd (hF { l := List.drop a b, e := e })), (And (And (And (Prod.fst (hF { l := List.drop a b, e := e }) = rhL { l := List.drop a b, e := e } (RhT.i i)) True) True) (And (And (And (And ((true : Bool) = true) (And ((0 : Nat) = (0 : Nat)) (And (List.length b = List.length b) (cap = cap)))) (And ((↑(AtT.a o_1) : Int) = (↑(AtT.a (RhT.o i)) : Int)) (And (RS.e (Prod.snd (hF { l := List.drop a b, e := e })) = RS.e (Prod.snd (takeF (32 : Nat) { l := List.drop a b, e := e }))) True))) (And ((true : Bool) = true) (And (And ((true : Bool) = true) (And (cap = cap) (And (List.map (Enc.enc EB) b = List.map (Enc.enc EB) b) (∀ x : Int, (∀ a_2 : x ∈ b, (∀ s : SV, (∀ a_3 : s ∈ Enc.enc EB x, ((SV.isPure s : Bool) = (true))))))))) (And ((true : Bool) = true) True)))) ((true : Bool) = true)))) (And ((0 : Int) ≤ (↑(RhT.i i) : Int)) (∃ hk : Int.toNat (↑(RhT.i i) : Int) < List.length (rbF (32 : Nat) { l := List.drop a b, e := e }), (And ((0 : Int) ≤ (↑(RhT.i i) : Int)) (And (Int.toNat (↑(RhT.i i) : Int) < (32 : Nat)) (And (Int.toNat (↑(RhT.i i) : Int) < (32 : Nat)) (∃ i' : RhT b { l := List.drop a b, e := e }, (And (And (List.length (rbF (32 : Nat) { l := List.drop a b, e := e }) - RhT.i i' < List.length (rbF (32 : Nat) { l := List.drop a b, e := e }) - RhT.i i) True) (And (And (And ((true : Bool) = true) ((0 : Nat) = (0 : Nat))) (And (And ((true : Bool) = true) ((0 : Nat) = (0 : Nat))) (And (SV.view (RhT.y1 i') (1 : Nat) (Enc.enc (encInt IntKind.u8)) (rbF (32 : Nat) { l := List.drop a b, e := e }) = SV.view (RhT.y1 i) (1 : Nat) (Enc.enc (encInt IntKind.u8)) (rbF (32 : Nat) { l := List.drop a b, e := e })) (And ((↑(RhT.i i') : Int) = IntKind.wrap IntKind.i64 ((↑(RhT.i i) : Int) + (1 : Int))) True)))) (And (And (And (And ((true : Bool) = true) (And ((0 : Nat) = (0 : Nat)) (And (List.length b = List.length b) (cap = cap)))) (And ((↑(AtT.a (RhT.o i')) : Int) = (↑(AtT.a (RhT.o i)) : Int)) (And (RS.e (Prod.snd (takeF (32 : Nat) { l := List.drop a b, e := e })) = RS.e (Prod.snd (takeF (32 : Nat) { l := List.drop a b, e := e }))) True))) (And ((true : Bool) = true) (And (And ((true : Bool) = true) (And (cap = cap) (And (List.map (Enc.enc EB) b = List.map (Enc.enc EB) b) (∀ x : Int, (∀ a_2 : x ∈ b, (∀ s : SV, (∀ a_3 : s ∈ Enc.enc EB x, ((SV.isPure s : Bool) = (true))))))))) (And ((true : Bool) = true) (And (And (List.replicate (32 : Nat) (0 : Int) = List.replicate (32 : Nat) (0 : Int)) True) (And ((true : Bool) = true) (And (And (rhL { l := List.drop a b, e := e } (RhT.i i') = List.set (rhL { l := List.drop a b, e := e } (RhT.i i)) (Int.toNat (↑(RhT.i i) : Int)) (rbF (32 : Nat) { l := List.drop a b, e := e })[Int.toNat (↑(RhT.i i) : Int)]) True) (And ((true : Bool) = true) True)))))))) ((true : Bool) = true)))))))))) (decide ((↑(RhT.i i) : Int) < (↑(List.length (rbF (32 : Nat) { l := List.drop a b, e := e })) : Int))))))))))))) (by kernel_rfl) ?_
  refine ⟨b, rfl, ⟨rfl, rfl, hc, ⟨by omega, by omega⟩, ⟨by decide, by decide⟩, hb⟩, fun o => ?_⟩
  have e1 : takeF (Int.toNat 32) ⟨List.drop (a : Int).toNat b, e⟩ = takeF 32 ⟨b.drop a, e⟩ := rfl
  have e2 : rbF (Int.toNat 32) ⟨List.drop (a : Int).toNat b, e⟩ = rbF 32 ⟨b.drop a, e⟩ := rfl
  refine ⟨⟨0, o.y, o, Nat.zero_le _⟩, ?_, ?_⟩
  ·
    repeat' first | exact encB_pure _ | exact trivial | refine And.intro ?_ ?_ | with_reducible refine bif_dt (by assumption) ?_ | with_reducible refine bif_df (by assumption) ?_ | with_reducible refine bif_dec (fun _ => ?_) (fun _ => ?_) | with_reducible refine bif_not ?_ | with_reducible refine bif_and ?_ | with_reducible refine bif_or ?_ | with_reducible refine bif_t (by assumption) ?_ | with_reducible refine bif_f (by assumption) ?_ | with_reducible refine bif_t (beq_self_eq_true _) ?_ | with_reducible refine bif_b (fun _ => ?_) (fun _ => ?_) | with_reducible refine ⟨_, Eq.refl (List.map _ _), ?_⟩ | (with_reducible refine Exists.intro (by omega) ?_) | rfl | (intro h0; omega) | omega
  rintro ⟨i, y1, o1, hi⟩ -
  dsimp only
  have hlen := rb_len 32 ⟨b.drop a, e⟩
  refine bif_dec (fun h1 => ?_) (fun h1 => ?_)
  rotate_left
  · have hi2 : i = (rbF 32 ⟨b.drop a, e⟩).length := by omega
    have hh : (hF ⟨b.drop a, e⟩).1 = rhL ⟨b.drop a, e⟩ i := by rw [hi2]; exact rh_end _
    refine ⟨o1, ?_⟩
    repeat' first | exact hh | exact encB_pure _ | exact trivial | refine And.intro ?_ ?_ | with_reducible refine bif_dt (by assumption) ?_ | with_reducible refine bif_df (by assumption) ?_ | with_reducible refine bif_dec (fun _ => ?_) (fun _ => ?_) | with_reducible refine bif_not ?_ | with_reducible refine bif_and ?_ | with_reducible refine bif_or ?_ | with_reducible refine bif_t (by assumption) ?_ | with_reducible refine bif_f (by assumption) ?_ | with_reducible refine bif_t (beq_self_eq_true _) ?_ | with_reducible refine bif_b (fun _ => ?_) (fun _ => ?_) | with_reducible refine ⟨_, Eq.refl (List.map _ _), ?_⟩ | (with_reducible refine Exists.intro (by omega) ?_) | rfl | (intro h0; omega) | omega
  have hi' : i < (rbF 32 ⟨b.drop a, e⟩).length := by omega
  have hw : IntKind.i64.wrap ((i : Int) + 1) = ((i + 1 : Nat) : Int) := inext (by omega)
  refine ⟨by omega, hi', by omega, by omega, by omega, ⟨i + 1, y1, o1, hi'⟩, ⟨show (rbF 32 ⟨b.drop a, e⟩).length - (i + 1) < (rbF 32 ⟨b.drop a, e⟩).length - i by omega, trivial⟩, ?_⟩
  rw [hw]
  repeat' first | exact rh_step _ hi' (by omega) | exact encB_pure _ | exact trivial | refine And.intro ?_ ?_ | with_reducible refine bif_dt (by assumption) ?_ | with_reducible refine bif_df (by assumption) ?_ | with_reducible refine bif_dec (fun _ => ?_) (fun _ => ?_) | with_reducible refine bif_not ?_ | with_reducible refine bif_and ?_ | with_reducible refine bif_or ?_ | with_reducible refine bif_t (by assumption) ?_ | with_reducible refine bif_f (by assumption) ?_ | with_reducible refine bif_t (beq_self_eq_true _) ?_ | with_reducible refine bif_b (fun _ => ?_) (fun _ => ?_) | with_reducible refine ⟨_, Eq.refl (List.map _ _), ?_⟩ | (with_reducible refine Exists.intro (by omega) ?_) | rfl | (intro h0; omega) | omega
theorem rh_row {b : List Int} {len cap cp : Nat} {at_ e : Int} (h : len = b.length ∧ cap = cp ∧ b.length ≤ cp ∧ (0 ≤ at_ ∧ at_ ≤ b.length) ∧ b.length ≤ 140737488351232 ∧ By b) :
    SMem Tryd.prog 115 [.one (.ptr 0 0)] 2 [(0, .cells [.slc 1 1 0 len cap, .v (.int .i64 at_), .v (.int .i64 e)]), (1, .row 1 EB b cp)]
    (fun o : AtT b (hF ⟨b.drop at_.toNat, e⟩).2 => ⟨2, h32 (hF ⟨b.drop at_.toNat, e⟩).1, [(0, .cells (drC b cap o.a (hF ⟨b.drop at_.toNat, e⟩).2.e)), (1, .row 1 EB b cp)]⟩) := by
  obtain ⟨rfl, rfl, h1, h2, h3, h4⟩ := h
  obtain ⟨a, rfl⟩ : ∃ a : Nat, at_ = (a : Int) := ⟨at_.toNat, by omega⟩
  exact rhash2_spec b cap a e h1 (by omega) h3 h4
def rhsT : MT := fun ms n h K => match ms with
  | [.one (.ptr P0 0)] => (match get h P0 with
    | some (.cells [.slc P1 1 0 len cap, .v (.int .i64 at_), .v (.int .i64 e)]) => (match get h P1 with
    | some (.row we1 wn1 wl1 cp) => bif Nat.beq we1 1 && noDup [P0, P1] then ∃ b : List (Int), wl1.map wn1.enc = b.map (EB).enc ∧ ((len = b.length ∧ cap = cp ∧ b.length ≤ cp ∧ (0 ≤ at_ ∧ at_ ≤ b.length) ∧ b.length ≤ 140737488351232 ∧ By b)) ∧ (∀ o : AtT b (hF ⟨b.drop at_.toNat, e⟩).2, K (n + 0) (h32 (hF ⟨b.drop at_.toNat, e⟩).1) ([(P0, .cells [.slc P1 1 0 b.length cap, .v (.int .i64 o.a), .v (.int .i64 (hF ⟨b.drop at_.toNat, e⟩).2.e)]), (P1, .row 1 EB b cp)] ++ delL [P0, P1] h)) else False
    | _ => False)
    | _ => False)
  | _ => False
theorem rhs_mono : MMono rhsT := by
  intro ms n h K K' hkk hk
  unfold rhsT at hk ⊢
  split at hk
  · rename_i P0
    split at hk
    · rename_i P1 len cap at_ e hg0
      try simp only [hg0]
      split at hk
      · rename_i we1 wa1 wn1 wl1 cp hg1
        try simp only [hg1]
        obtain ⟨hb, y0, z0, h1, h2⟩ := cond_false_elim hk
        rw [hb]
        exact ⟨y0, z0, h1, fun o => hkk _ _ _ (h2 o)⟩
      · exact hk.elim
    · exact hk.elim
  · exact hk.elim
theorem rhs_ok : MOK Tryd.prog 115 rhsT := by
  refine ⟨?_, rhs_mono⟩
  intro ms n hB K hk
  unfold rhsT at hk
  split at hk
  · rename_i P0
    split at hk
    · rename_i P1 len cap at_ e hg0
      split at hk
      · rename_i we1 wa1 wn1 wl1 cp hg1
        obtain ⟨hb, b, hl1, h, hk2⟩ := cond_false_elim hk
        clear hk
        simp only [Bool.and_eq_true] at hb
        obtain ⟨hc0, hnd⟩ := hb
        have hs0 := Nat.eq_of_beq_eq_true hc0
        subst hs0
        refine SCall.seen ?_ (.cons (.refl _) .nil)
        exact (rh_row (e := e) h).use (fun j => match j with | 0 => P0 | 1 => P1 | _ => 0) rfl rfl ⟨by show (match get hB P0 with | some b0 => Blk.imp _ _ _ b0 | none => False); rw [hg0]; exact ⟨rfl, rfl⟩, rfl, ⟨by show (match get hB P1 with | some b0 => Blk.imp _ _ _ b0 | none => False); rw [hg1]; exact ⟨rfl, rfl, hl1.symm, fun y _ => Enc.pures _ y⟩, rfl, trivial⟩⟩ hnd (fun j hj => by cases j with
            | zero => exact ⟨_, rfl⟩
            | succ j => cases j with
             | zero => exact ⟨_, rfl⟩
             | succ j => omega) (fun o => hk2 o)
      · exact hk.elim
    · exact hk.elim
  · exact hk.elim

end Go.Proofs.YtblapbjafbmndaaDoor
