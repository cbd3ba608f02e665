/- Primes and the tables, by the document; the law DigestRoots. -/
import Derived.Test.YtblapbjafbmndaaDoorP14
import Derived.Test.YtblapbjafbmndaaDoorP9
import Derived.Test.YtblapbjafbmndaaDoorSx24
namespace Go.Proofs.YtblapbjafbmndaaDoor
open Go Go.Sx Go.Sha
set_option linter.unusedVariables false
set_option linter.unusedSimpArgs false
set_option maxRecDepth 100000
set_option maxHeartbeats 4000000

abbrev E8 : Enc Int := encInt .u64
abbrev e8 : Int → List SV := (encInt .u64).enc
theorem encE8_pure (l : List Int) : ∀ x ∈ l, ∀ s ∈ (encInt .u64).enc x, s.isPure = true := fun x _ s hs => by
  have hs' : s ∈ [SV.v (.int .u64 x)] := hs
  rw [List.mem_singleton] at hs'
  subst hs'
  rfl
theorem pr_mono (k : Nat) : (prN k).length ≤ (prN (k + 1)).length := by
  show _ ≤ (pstep (prN k) (k + 2)).length
  unfold pstep
  cases (prN k).all fun p => (k + 2) % p != 0
  · exact Nat.le_refl _
  · simp
theorem pr_le {k m : Nat} (h : k ≤ m) : (prN k).length ≤ (prN m).length := by
  induction h with
  | refl => exact Nat.le_refl _
  | step _ ih => exact Nat.le_trans ih (pr_mono _)
theorem pr309 : (prN 309).length = 63 := by decide +kernel
theorem pr_full {k : Nat} (h : k ≤ 310) (h2 : 64 ≤ (prN k).length) : k = 310 := by
  have h3 := pr309
  by_cases e : k = 310
  · exact e
  · have := pr_le (show k ≤ 309 by omega)
    omega
theorem pr_less {k : Nat} (h : k ≤ 310) (h2 : (prN k).length < 64) : k < 310 := by
  by_cases e : k = 310
  · subst e
    rw [pr310] at h2
    simp at h2
  · omega
/-- None of the first i divides. -/
def allF (l : List Nat) (n i : Nat) : Bool := (l.take i).all fun p => n % p != 0
theorem allF_step (l : List Nat) (n : Nat) {i : Nat} (h : i < l.length) : allF l n (i + 1) = (allF l n i && (n % l[i] != 0)) := by
  unfold allF
  rw [List.take_add_one, List.getElem?_eq_getElem h, List.all_append]
  simp
theorem pr_two : ∀ (k : Nat), ∀ p ∈ prN k, 2 ≤ p
  | 0, p, h => by cases h
  | k + 1, p, h => by
    have h' : p ∈ pstep (prN k) (k + 2) := h
    unfold pstep at h'
    cases hb : (prN k).all fun p => (k + 2) % p != 0 with
    | false => rw [hb] at h'; exact pr_two k p h'
    | true =>
      rw [hb] at h'
      rcases List.mem_append.1 h' with h' | h'
      · exact pr_two k p h'
      · rw [List.mem_singleton] at h'
        omega
theorem pr_step (k : Nat) : prN (k + 1) = bif allF (prN k) (k + 2) (prN k).length then prN k ++ [k + 2] else prN k := by
  unfold allF
  rw [List.take_length]
  rfl
theorem ic_get (l : List Nat) {i : Nat} (h : i < l.length) (h2 : i < (ic l).length) : (ic l)[i] = ((l[i] : Nat) : Int) := by
  have h3 := ic_getD l i
  rw [List.getD_eq_getElem?_getD, List.getElem?_eq_getElem h2, List.getD_eq_getElem?_getD, List.getElem?_eq_getElem h] at h3
  exact h3
theorem tmod_ne (a b : Nat) : (((a : Nat) : Int).tmod ((b : Nat) : Int) != 0) = (a % b != 0) := by
  show (((a % b : Nat) : Int) != 0) = (a % b != 0)
  cases a % b <;> rfl
structure N1T where
  k : Nat
  cap : Nat
  hk : k ≤ 310
  hc : (prN k).length ≤ cap
structure N2T where
  k : Nat
  cap : Nat
  i : Nat
  hk : k < 310
  hc : (prN k).length ≤ cap
  hi : i ≤ (prN k).length
theorem primes_spec : SMem Tryd.prog 104 [] 0 [] (fun y : Value => ⟨0, .one (.view y 1 e8 (ic (prN 310))), []⟩) := by
  refine SMem.inf 1 E8 [] SOK.nil [] MSOK.nil tok mixed [] IOK.nil false [(3, ⟨N1T, fun p => ⟨1, [(1, .one (.nslc 0 1 (prN p.k).length p.cap)), (2, u64 ((p.k + 2 : Nat) : Int))], [(0, .row 1 E8 (ic (prN p.k)) p.cap)]⟩, fun p => 310 - p.k, fun _ _ => True⟩), (7, ⟨N2T, fun p => ⟨1, [(1, .one (.nslc 0 1 (prN p.k).length p.cap)), (2, u64 ((p.k + 2 : Nat) : Int)), (3, bool (allF (prN p.k) (p.k + 2) p.i)), (4, int p.i)], [(0, .row 1 E8 (ic (prN p.k)) p.cap)]⟩, fun p => (prN p.k).length - p.i, fun p q => q.k = p.k ∧ q.cap = p.cap⟩)] [] Tryd.call104 Tryd.func104 rfl (by rfl) ?_
  refine Eq.mp (α := (∃ i0 : N1T, (And (And True (And (And (And ((true : Bool) = true) (And (List.length (prN (N1T.k i0)) = (0 : Nat)) (N1T.cap i0 = (0 : Nat)))) (And ((↑(N1T.k i0 + (2 : Nat)) : Int) = (2 : Int)) True)) (And (And (And ((true : Bool) = true) (And (N1T.cap i0 = (0 : Nat)) (And (List.map (Enc.enc E8) (ic (prN (N1T.k i0))) = List.map (Enc.enc E8) []) (∀ x : Int, (∀ a : x ∈ ic (prN (N1T.k i0)), (∀ s : SV, (∀ a_1 : s ∈ Enc.enc E8 x, ((SV.isPure s : Bool) = (true))))))))) (And ((true : Bool) = true) True)) ((true : Bool) = true)))) (∀ i : N1T, (∀ a : True, (@Bool.rec (fun _ => Prop) (And (List.length (prN (N1T.k i)) ≤ List.length (ic (prN (N1T.k i)))) (And (List.length (prN (N1T.k i)) ≤ N1T.cap i) (And (N1T.cap i = N1T.cap i) (And (∀ y : Int, ((true : Bool) = true)) (∀ x : Value, (∃ o : Value, (And (And (SV.view o (1 : Nat) e8 (ic (prN (310 : Nat))) = SV.view x (1 : Nat) (Enc.enc E8) (List.take (List.length (prN (N1T.k i))) (ic (prN (N1T.k i))))) True) (And True ((true : Bool) = true))))))))) (∃ i0_1 : N2T, (And (And (And (N2T.k i0_1 = N2T.k i0_1) (N2T.cap i0_1 = N2T.cap i0_1)) (And (And (And ((true : Bool) = true) (And (List.length (prN (N2T.k i0_1)) = List.length (prN (N1T.k i))) (N2T.cap i0_1 = N1T.cap i))) (And ((↑(N2T.k i0_1 + (2 : Nat)) : Int) = (↑(N1T.k i + (2 : Nat)) : Int)) (And ((allF (prN (N2T.k i0_1)) (N2T.k i0_1 + (2 : Nat)) (N2T.i i0_1) : Bool) = (true)) (And ((↑(N2T.i i0_1) : Int) = (0 : Int)) True)))) (And (And (And ((true : Bool) = true) (And (N2T.cap i0_1 = N1T.cap i) (And (List.map (Enc.enc E8) (ic (prN (N2T.k i0_1))) = List.map (Enc.enc E8) (ic (prN (N1T.k i)))) (∀ x : Int, (∀ a_1 : x ∈ ic (prN (N2T.k i0_1)), (∀ s : SV, (∀ a_2 : s ∈ Enc.enc E8 x, ((SV.isPure s : Bool) = (true))))))))) (And ((true : Bool) = true) True)) ((true : Bool) = true)))) (∀ i_1 : N2T, (∀ a_1 : N2T.k i_1 = N2T.k i0_1 ∧ N2T.cap i_1 = N2T.cap i0_1, (@Bool.rec (fun _ => Prop) (@Bool.rec (fun _ => Prop) (∃ i' : N1T, (And (And ((310 : Nat) - N1T.k i' < (310 : Nat) - N1T.k i) True) (And (And (And ((true : Bool) = true) (And (List.length (prN (N1T.k i')) = List.length (prN (N2T.k i_1))) (N1T.cap i' = N2T.cap i_1))) (And ((↑(N1T.k i' + (2 : Nat)) : Int) = IntKind.wrap IntKind.u64 ((↑(N2T.k i_1 + (2 : Nat)) : Int) + (1 : Int))) True)) (And (And (And ((true : Bool) = true) (And (N1T.cap i' = N2T.cap i_1) (And (List.map (Enc.enc E8) (ic (prN (N1T.k i'))) = List.map (Enc.enc E8) (ic (prN (N2T.k i_1)))) (∀ x : Int, (∀ a_2 : x ∈ ic (prN (N1T.k i')), (∀ s : SV, (∀ a_3 : s ∈ Enc.enc E8 x, ((SV.isPure s : Bool) = (true))))))))) (And ((true : Bool) = true) True)) ((true : Bool) = true))))) (And (List.length (prN (N2T.k i_1)) = List.length (ic (prN (N2T.k i_1)))) (And (N2T.cap i_1 = N2T.cap i_1) (And ((0 : Nat) + (1 : Nat) ≤ (1 : Nat)) (And ((List.length (ic (prN (N2T.k i_1))) + (1 : Nat)) * (8 : Nat) ≤ (150000000000000 : Nat)) (∀ cap2 : Nat, (∀ a_2 : List.length (ic (prN (N2T.k i_1))) + (1 : Nat) ≤ cap2, (∃ i' : N1T, (And (And ((310 : Nat) - N1T.k i' < (310 : Nat) - N1T.k i) True) (And (And (And ((true : Bool) = true) (And (List.length (prN (N1T.k i')) = List.length (ic (prN (N2T.k i_1)) ++ castL (encInt IntKind.u64) E8 (List.take (1 : Nat) (List.drop (0 : Nat) [Enc.of (encInt IntKind.u64) ((↑(N2T.k i_1 + (2 : Nat)) : Int), ())])))) (N1T.cap i' = cap2))) (And ((↑(N1T.k i' + (2 : Nat)) : Int) = IntKind.wrap IntKind.u64 ((↑(N2T.k i_1 + (2 : Nat)) : Int) + (1 : Int))) True)) (And (And (And ((true : Bool) = true) (And (N1T.cap i' = cap2) (And (List.map (Enc.enc E8) (ic (prN (N1T.k i'))) = List.map (Enc.enc E8) (ic (prN (N2T.k i_1)) ++ castL (encInt IntKind.u64) E8 (List.take (1 : Nat) (List.drop (0 : Nat) [Enc.of (encInt IntKind.u64) ((↑(N2T.k i_1 + (2 : Nat)) : Int), ())])))) (∀ x : Int, (∀ a_3 : x ∈ ic (prN (N1T.k i')), (∀ s : SV, (∀ a_4 : s ∈ Enc.enc E8 x, ((SV.isPure s : Bool) = (true))))))))) (And ((true : Bool) = true) True)) ((true : Bool) = true))))))))))) (allF (prN (N2T.k i_1)) (N2T.k i_1 + (2 : Nat)) (N2T.i i_1))) (@Bool.rec (fun _ => Prop) (∃ i' : N2T, (And (And (List.length (prN (N2T.k i')) - N2T.i i' < List.length (prN (N2T.k i_1)) - N2T.i i_1) (And (N2T.k i' = N2T.k i0_1) (N2T.cap i' = N2T.cap i0_1))) (And (And (And ((true : Bool) = true) (And (List.length (prN (N2T.k i')) = List.length (prN (N2T.k i_1))) (N2T.cap i' = N2T.cap i_1))) (And ((↑(N2T.k i' + (2 : Nat)) : Int) = (↑(N2T.k i_1 + (2 : Nat)) : Int)) (And ((allF (prN (N2T.k i')) (N2T.k i' + (2 : Nat)) (N2T.i i') : Bool) = (false)) (And ((↑(N2T.i i') : Int) = IntKind.wrap IntKind.i64 ((↑(N2T.i i_1) : Int) + (1 : Int))) True)))) (And (And (And ((true : Bool) = true) (And (N2T.cap i' = N2T.cap i_1) (And (List.map (Enc.enc E8) (ic (prN (N2T.k i'))) = List.map (Enc.enc E8) (ic (prN (N2T.k i_1)))) (∀ x : Int, (∀ a_2 : x ∈ ic (prN (N2T.k i')), (∀ s : SV, (∀ a_3 : s ∈ Enc.enc E8 x, ((SV.isPure s : Bool) = (true))))))))) (And ((true : Bool) = true) True)) ((true : Bool) = true))))) (And ((0 : Int) ≤ (↑(N2T.i i_1) : Int)) (And (Int.toNat (↑(N2T.i i_1) : Int) < List.length (prN (N2T.k i_1))) (∃ hi : Int.toNat (↑(N2T.i i_1) : Int) < List.length (ic (prN (N2T.k i_1))), (And ((ic (prN (N2T.k i_1)))[Int.toNat (↑(N2T.i i_1) : Int)] ≠ (0 : Int)) (∃ i' : N2T, (And (And (List.length (prN (N2T.k i')) - N2T.i i' < List.length (prN (N2T.k i_1)) - N2T.i i_1) (And (N2T.k i' = N2T.k i0_1) (N2T.cap i' = N2T.cap i0_1))) (And (And (And ((true : Bool) = true) (And (List.length (prN (N2T.k i')) = List.length (prN (N2T.k i_1))) (N2T.cap i' = N2T.cap i_1))) (And ((↑(N2T.k i' + (2 : Nat)) : Int) = (↑(N2T.k i_1 + (2 : Nat)) : Int)) (And ((allF (prN (N2T.k i')) (N2T.k i' + (2 : Nat)) (N2T.i i') : Bool) = (Int.tmod (↑(N2T.k i_1 + (2 : Nat)) : Int) (ic (prN (N2T.k i_1)))[Int.toNat (↑(N2T.i i_1) : Int)] != (0 : Int))) (And ((↑(N2T.i i') : Int) = IntKind.wrap IntKind.i64 ((↑(N2T.i i_1) : Int) + (1 : Int))) True)))) (And (And (And ((true : Bool) = true) (And (N2T.cap i' = N2T.cap i_1) (And (List.map (Enc.enc E8) (ic (prN (N2T.k i'))) = List.map (Enc.enc E8) (ic (prN (N2T.k i_1)))) (∀ x : Int, (∀ a_2 : x ∈ ic (prN (N2T.k i')), (∀ s : SV, (∀ a_3 : s ∈ Enc.enc E8 x, ((SV.isPure s : Bool) = (true))))))))) (And ((true : Bool) = true) True)) ((true : Bool) = true))))))))) (allF (prN (N2T.k i_1)) (N2T.k i_1 + (2 : Nat)) (N2T.i i_1))) (decide ((↑(N2T.i i_1) : Int) < (↑(List.length (prN (N2T.k i_1))) : Int)))))))) (decide ((↑(List.length (prN (N1T.k i))) : Int) < (64 : Int))))))))) (by kernel_rfl) ?_
  refine ⟨⟨0, 0, Nat.zero_le _, Nat.le_refl _⟩, ?_, ?_⟩
  ·
    repeat' first | exact encE8_pure _ | exact trivial | refine And.intro ?_ ?_ | with_reducible refine bif_dt (by assumption) ?_ | with_reducible refine bif_df (by assumption) ?_ | with_reducible refine bif_dec (fun _ => ?_) (fun _ => ?_) | with_reducible refine bif_not ?_ | with_reducible refine bif_and ?_ | with_reducible refine bif_or ?_ | with_reducible refine bif_t (by assumption) ?_ | with_reducible refine bif_f (by assumption) ?_ | with_reducible refine bif_t (beq_self_eq_true _) ?_ | with_reducible refine bif_b (fun _ => ?_) (fun _ => ?_) | with_reducible refine ⟨_, Eq.refl (List.map _ _), ?_⟩ | (with_reducible refine Exists.intro (by omega) ?_) | rfl | (intro h0; omega) | omega
  rintro ⟨k, cap, hk, hc⟩ -
  dsimp only
  have hil := ic_length (prN k)
  refine bif_dec (fun h => ?_) (fun h => ?_)
  rotate_left
  · have : k = 310 := pr_full hk (by omega)
    subst this
    refine ⟨by omega, hc, rfl, fun _ => rfl, fun x => ⟨x, ?_⟩⟩
    rw [← hil, List.take_length]
    exact ⟨⟨rfl, trivial⟩, trivial, rfl⟩
  have hk' : k < 310 := pr_less hk (by omega)
  refine ⟨⟨k, cap, 0, hk', hc, Nat.zero_le _⟩, ?_, ?_⟩
  ·
    repeat' first | exact encE8_pure _ | exact trivial | refine And.intro ?_ ?_ | with_reducible refine bif_dt (by assumption) ?_ | with_reducible refine bif_df (by assumption) ?_ | with_reducible refine bif_dec (fun _ => ?_) (fun _ => ?_) | with_reducible refine bif_not ?_ | with_reducible refine bif_and ?_ | with_reducible refine bif_or ?_ | with_reducible refine bif_t (by assumption) ?_ | with_reducible refine bif_f (by assumption) ?_ | with_reducible refine bif_t (beq_self_eq_true _) ?_ | with_reducible refine bif_b (fun _ => ?_) (fun _ => ?_) | with_reducible refine ⟨_, Eq.refl (List.map _ _), ?_⟩ | (with_reducible refine Exists.intro (by omega) ?_) | rfl | (intro h0; omega) | omega
  rintro ⟨k2, cap2, i, hk2, hc2, hi⟩ he
  obtain ⟨e1, e2⟩ := he
  obtain rfl : k2 = k := e1
  obtain rfl : cap2 = cap := e2
  dsimp only
  have e3 : IntKind.u64.wrap (((k2 + 2 : Nat) : Int) + 1) = ((k2 + 1 + 2 : Nat) : Int) := by rw [wrapU64]; omega
  have hpl : (prN k2).length ≤ 63 := by have := pr_le (show k2 ≤ 309 by omega); rw [pr309] at this; exact this
  simp only [e3]
  refine bif_dec (fun h2 => ?_) (fun h2 => ?_)
  · have hi' : i < (prN k2).length := by omega
    have hp := pr_two k2 _ (List.getElem_mem hi')
    have hst := allF_step (prN k2) (k2 + 2) hi'
    have nat2 : ∀ n : Nat, (n : Int).toNat = n := fun n => rfl
    have hi2 : i < (ic (prN k2)).length := by omega
    have hg := ic_get (prN k2) hi' hi2
    simp only [nat2, inext (show i < 9223372036854775807 by omega)]
    refine bif_b (fun h3 => ?_) (fun h3 => ?_)
    · rw [h3, Bool.true_and] at hst
      have hb : (((k2 + 2 : Nat) : Int).tmod (ic (prN k2))[i] != 0) = ((k2 + 2) % (prN k2)[i] != 0) := by
        rw [hg]
        exact tmod_ne _ _
      refine ⟨by omega, hi', hi2, by rw [hg]; omega, ⟨k2, cap2, i + 1, hk2, hc2, hi'⟩, ⟨show (prN k2).length - (i + 1) < (prN k2).length - i by omega, rfl, rfl⟩, ?_⟩
      repeat' first | exact hst.trans hb.symm | exact encE8_pure _ | exact trivial | refine And.intro ?_ ?_ | with_reducible refine bif_dt (by assumption) ?_ | with_reducible refine bif_df (by assumption) ?_ | with_reducible refine bif_dec (fun _ => ?_) (fun _ => ?_) | with_reducible refine bif_not ?_ | with_reducible refine bif_and ?_ | with_reducible refine bif_or ?_ | with_reducible refine bif_t (by assumption) ?_ | with_reducible refine bif_f (by assumption) ?_ | with_reducible refine bif_t (beq_self_eq_true _) ?_ | with_reducible refine bif_b (fun _ => ?_) (fun _ => ?_) | with_reducible refine ⟨_, Eq.refl (List.map _ _), ?_⟩ | (with_reducible refine Exists.intro (by omega) ?_) | rfl | (intro h0; omega) | omega
    · rw [h3, Bool.false_and] at hst
      refine ⟨⟨k2, cap2, i + 1, hk2, hc2, hi'⟩, ⟨show (prN k2).length - (i + 1) < (prN k2).length - i by omega, rfl, rfl⟩, ?_⟩
      dsimp only
      rw [hst]
      repeat' first | exact encE8_pure _ | exact trivial | refine And.intro ?_ ?_ | with_reducible refine bif_dt (by assumption) ?_ | with_reducible refine bif_df (by assumption) ?_ | with_reducible refine bif_dec (fun _ => ?_) (fun _ => ?_) | with_reducible refine bif_not ?_ | with_reducible refine bif_and ?_ | with_reducible refine bif_or ?_ | with_reducible refine bif_t (by assumption) ?_ | with_reducible refine bif_f (by assumption) ?_ | with_reducible refine bif_t (beq_self_eq_true _) ?_ | with_reducible refine bif_b (fun _ => ?_) (fun _ => ?_) | with_reducible refine ⟨_, Eq.refl (List.map _ _), ?_⟩ | (with_reducible refine Exists.intro (by omega) ?_) | rfl | (intro h0; omega) | omega
  · have : i = (prN k2).length := by omega
    subst this
    have hst := pr_step k2
    refine bif_b (fun h3 => ?_) (fun h3 => ?_)
    · rw [h3] at hst
      simp only [cond_true] at hst
      have e9 : castL (encInt .u64) E8 (List.take 1 (List.drop 0 [(encInt .u64).of (((k2 + 2 : Nat) : Int), ())])) = [((k2 + 2 : Nat) : Int)] := rfl
      refine ⟨by omega, trivial, by omega, by omega, fun c3 k3 => ?_⟩
      have hic : ic (prN (k2 + 1)) = ic (prN k2) ++ [((k2 + 2 : Nat) : Int)] := by
        rw [hst]
        unfold ic
        rw [List.map_append]
        rfl
      have hle : (prN (k2 + 1)).length = (prN k2).length + 1 := by rw [hst, List.length_append]; rfl
      rw [e9, ← hic]
      refine ⟨⟨k2 + 1, c3, hk2, by omega⟩, ⟨show 310 - (k2 + 1) < 310 - k2 by omega, trivial⟩, ?_⟩
      repeat' first | exact (ic_length _).symm | exact encE8_pure _ | exact trivial | refine And.intro ?_ ?_ | with_reducible refine bif_dt (by assumption) ?_ | with_reducible refine bif_df (by assumption) ?_ | with_reducible refine bif_dec (fun _ => ?_) (fun _ => ?_) | with_reducible refine bif_not ?_ | with_reducible refine bif_and ?_ | with_reducible refine bif_or ?_ | with_reducible refine bif_t (by assumption) ?_ | with_reducible refine bif_f (by assumption) ?_ | with_reducible refine bif_t (beq_self_eq_true _) ?_ | with_reducible refine bif_b (fun _ => ?_) (fun _ => ?_) | with_reducible refine ⟨_, Eq.refl (List.map _ _), ?_⟩ | (with_reducible refine Exists.intro (by omega) ?_) | rfl | (intro h0; omega) | omega
    · rw [h3] at hst
      simp only [cond_false] at hst
      refine ⟨⟨k2 + 1, cap2, hk2, by rw [hst]; exact hc⟩, ⟨show 310 - (k2 + 1) < 310 - k2 by omega, trivial⟩, ?_⟩
      dsimp only
      rw [hst]
      repeat' first | exact encE8_pure _ | exact trivial | refine And.intro ?_ ?_ | with_reducible refine bif_dt (by assumption) ?_ | with_reducible refine bif_df (by assumption) ?_ | with_reducible refine bif_dec (fun _ => ?_) (fun _ => ?_) | with_reducible refine bif_not ?_ | with_reducible refine bif_and ?_ | with_reducible refine bif_or ?_ | with_reducible refine bif_t (by assumption) ?_ | with_reducible refine bif_f (by assumption) ?_ | with_reducible refine bif_t (beq_self_eq_true _) ?_ | with_reducible refine bif_b (fun _ => ?_) (fun _ => ?_) | with_reducible refine ⟨_, Eq.refl (List.map _ _), ?_⟩ | (with_reducible refine Exists.intro (by omega) ?_) | rfl | (intro h0; omega) | omega
def primesT : MT := fun ms n h K => match ms with
  | [] => bif true then True ∧ (∀ y : Value, K (n + 0) (.one (.view y 1 e8 (ic (prN 310)))) ([] ++ delL [] h)) else False
  | _ => False
theorem primes_mono : MMono primesT := by
  intro ms n h K K' hkk hk
  unfold primesT at hk ⊢
  split at hk
  · obtain ⟨hb, h1, h2⟩ := cond_false_elim hk
    rw [hb]
    exact ⟨h1, fun o => hkk _ _ _ (h2 o)⟩
  · exact hk.elim
theorem primes_ok : MOK Tryd.prog 104 primesT := by
  refine ⟨?_, primes_mono⟩
  intro ms n hB K hk
  unfold primesT at hk
  split at hk
  · obtain ⟨hb, h, hk2⟩ := cond_false_elim hk
    clear hk
    have hnd : noDup [] = true := rfl
    refine SCall.seen ?_ .nil
    exact (primes_spec).use (fun _ => 0) rfl rfl trivial hnd (fun j hj => absurd hj (Nat.not_lt_zero j)) (fun o => hk2 o)
  · exact hk.elim

/-- The tables, as far as they are filled. -/
def rtab (k : Nat) (p : List Nat) (n : Nat) : Nat → List Nat
  | 0 => List.replicate n 0
  | i + 1 => bif Nat.blt i n then (rtab k p n i).set i (rootN (p.getD i 0) k) else rtab k p n i
structure KiT where
  i : Nat
  y : Value
  hi : i ≤ 64
theorem rtab_step (k : Nat) (p : List Nat) (n : Nat) {i : Nat} (h : i < n) : rtab k p n (i + 1) = (rtab k p n i).set i (rootN (p.getD i 0) k) := by
  simp only [rtab]
  rw [show Nat.blt i n = true by simpa using h]
  rfl
theorem rtab_stay (k : Nat) (p : List Nat) (n : Nat) {i : Nat} (h : ¬ i < n) : rtab k p n (i + 1) = rtab k p n i := by
  simp only [rtab]
  rw [show Nat.blt i n = false by rw [← Bool.not_eq_true]; simpa using h]
  rfl
theorem pr310_len : (prN 310).length = 64 := by rw [pr310]; rfl
theorem pr310_lt : ∀ p ∈ prN 310, p < 18446744073709551616 := by rw [pr310]; decide
theorem first_tab : ic (rtab 2 (prN 310) 8 64) = firstL := by
  rw [pr310]
  decide +kernel
theorem rounds_map : rtab 3 (prN 310) 64 64 = List.map (fun p => rootN p 3) (prN 310) := by
  rw [pr310]
  kernel_rfl
theorem rounds_tab : ic (rtab 3 (prN 310) 64 64) = roundsL := by
  rw [rounds_map, pr310]
  have e : ∀ (a b c d e f g h : List Nat), List.map (fun p => rootN p 3) (a ++ (b ++ (c ++ (d ++ (e ++ (f ++ (g ++ h))))))) = List.map (fun p => rootN p 3) a ++ (List.map (fun p => rootN p 3) b ++ (List.map (fun p => rootN p 3) c ++ (List.map (fun p => rootN p 3) d ++ (List.map (fun p => rootN p 3) e ++ (List.map (fun p => rootN p 3) f ++ (List.map (fun p => rootN p 3) g ++ List.map (fun p => rootN p 3) h)))))) := by
    intros
    simp only [List.map_append]
  have e2 := e [2, 3, 5, 7, 11, 13, 17, 19] [23, 29, 31, 37, 41, 43, 47, 53] [59, 61, 67, 71, 73, 79, 83, 89] [97, 101, 103, 107, 109, 113, 127, 131] [137, 139, 149, 151, 157, 163, 167, 173] [179, 181, 191, 193, 197, 199, 211, 223] [227, 229, 233, 239, 241, 251, 257, 263] [269, 271, 277, 281, 283, 293, 307, 311]
  rw [cube0, cube1, cube2, cube3, cube4, cube5, cube6, cube7] at e2
  simp only [List.cons_append, List.nil_append] at e2
  rw [e2]
  rfl
theorem rtable2_spec : SFun Tryd.prog 66 [] (.tup [.agg [.ints .u32 8 firstL], .agg [.ints .u32 64 roundsL]]) := by
  refine SFun.inm [(105, rootT)] (SOK.cons root_ok SOK.nil) [(104, primesT)] (MSOK.cons primes_ok MSOK.nil) tok mixed [] IOK.nil false [(5, ⟨KiT, fun p => ⟨4, [(0, .one (.ptr 0 0)), (1, .one (.ptr 1 0)), (2, .one (.view p.y 1 e8 (ic (prN 310)))), (3, .one (.ptr 2 0)), (4, .one (.ptr 3 0)), (5, int p.i)], [(0, .cells [.ints .u32 8 (List.replicate 8 0)]), (1, .cells [.ints .u32 64 (List.replicate 64 0)]), (2, .cells [.ints .u32 8 (ic (rtab 2 (prN 310) 8 p.i))]), (3, .cells [.ints .u32 64 (ic (rtab 3 (prN 310) 64 p.i))])]⟩, fun p => 64 - p.i, fun _ _ => True⟩)] [] Tryd.call66 Tryd.func66 rfl (by rfl) ?_
  refine Eq.mp (α := (And True (∀ y : Value, (∃ i0 : KiT, (And (And True (And (And (And ((true : Bool) = true) ((0 : Nat) = (0 : Nat))) (And (And ((true : Bool) = true) ((0 : Nat) = (0 : Nat))) (And (SV.view (KiT.y i0) (1 : Nat) e8 (ic (prN (310 : Nat))) = SV.view y (1 : Nat) e8 (ic (prN (310 : Nat)))) (And (And ((true : Bool) = true) ((0 : Nat) = (0 : Nat))) (And (And ((true : Bool) = true) ((0 : Nat) = (0 : Nat))) (And ((↑(KiT.i i0) : Int) = (0 : Int)) True)))))) (And (And (And (List.replicate (8 : Nat) (0 : Int) = List.replicate (8 : Nat) (0 : Int)) True) (And ((true : Bool) = true) (And (And (List.replicate (64 : Nat) (0 : Int) = List.replicate (64 : Nat) (0 : Int)) True) (And ((true : Bool) = true) (And (And (ic (rtab (2 : Nat) (prN (310 : Nat)) (8 : Nat) (KiT.i i0)) = List.replicate (8 : Nat) (0 : Int)) True) (And ((true : Bool) = true) (And (And (ic (rtab (3 : Nat) (prN (310 : Nat)) (64 : Nat) (KiT.i i0)) = List.replicate (64 : Nat) (0 : Int)) True) (And ((true : Bool) = true) True)))))))) ((true : Bool) = true)))) (∀ i : KiT, (∀ a : True, (@Bool.rec (fun _ => Prop) (And (And (And (And (M.tup [M.agg [SV.ints IntKind.u32 (8 : Nat) (ic (rtab (2 : Nat) (prN (310 : Nat)) (8 : Nat) (KiT.i i)))], M.agg [SV.ints IntKind.u32 (64 : Nat) (ic (rtab (3 : Nat) (prN (310 : Nat)) (64 : Nat) (KiT.i i)))]] = M.tup [M.agg [SV.ints IntKind.u32 (8 : Nat) firstL], M.agg [SV.ints IntKind.u32 (64 : Nat) roundsL]]) ((true : Bool) = true)) True) True) (And (And (And (M.tup [M.agg [SV.ints IntKind.u32 (8 : Nat) (ic (rtab (2 : Nat) (prN (310 : Nat)) (8 : Nat) (KiT.i i)))], M.agg [SV.ints IntKind.u32 (64 : Nat) (ic (rtab (3 : Nat) (prN (310 : Nat)) (64 : Nat) (KiT.i i)))]] = M.tup [M.agg [SV.ints IntKind.u32 (8 : Nat) firstL], M.agg [SV.ints IntKind.u32 (64 : Nat) roundsL]]) ((true : Bool) = true)) True) True)) (@Bool.rec (fun _ => Prop) (And ((0 : Int) ≤ (↑(KiT.i i) : Int)) (∃ hk : Int.toNat (↑(KiT.i i) : Int) < (64 : Nat), (And (And (And ((0 : Int) ≤ (ic (prN (310 : Nat)))[Int.toNat (↑(KiT.i i) : Int)]) ((ic (prN (310 : Nat)))[Int.toNat (↑(KiT.i i) : Int)] < (18446744073709551616 : Int))) (And ((0 : Int) ≤ (3 : Int)) ((3 : Int) < (6 : Int)))) (And ((0 : Int) ≤ (↑(KiT.i i) : Int)) (And (Int.toNat (↑(KiT.i i) : Int) < (64 : Nat)) (And (Int.toNat (↑(KiT.i i) : Int) < (64 : Nat)) (∃ i' : KiT, (And (And ((64 : Nat) - KiT.i i' < (64 : Nat) - KiT.i i) True) (And (And (And ((true : Bool) = true) ((0 : Nat) = (0 : Nat))) (And (And ((true : Bool) = true) ((0 : Nat) = (0 : Nat))) (And (SV.view (KiT.y i') (1 : Nat) e8 (ic (prN (310 : Nat))) = SV.view (KiT.y i) (1 : Nat) e8 (ic (prN (310 : Nat)))) (And (And ((true : Bool) = true) ((0 : Nat) = (0 : Nat))) (And (And ((true : Bool) = true) ((0 : Nat) = (0 : Nat))) (And ((↑(KiT.i i') : Int) = IntKind.wrap IntKind.i64 ((↑(KiT.i i) : Int) + (1 : Int))) True)))))) (And (And (And (List.replicate (8 : Nat) (0 : Int) = List.replicate (8 : Nat) (0 : Int)) True) (And ((true : Bool) = true) (And (And (List.replicate (64 : Nat) (0 : Int) = List.replicate (64 : Nat) (0 : Int)) True) (And ((true : Bool) = true) (And (And (ic (rtab (2 : Nat) (prN (310 : Nat)) (8 : Nat) (KiT.i i')) = ic (rtab (2 : Nat) (prN (310 : Nat)) (8 : Nat) (KiT.i i))) True) (And ((true : Bool) = true) (And (And (ic (rtab (3 : Nat) (prN (310 : Nat)) (64 : Nat) (KiT.i i')) = List.set (ic (rtab (3 : Nat) (prN (310 : Nat)) (64 : Nat) (KiT.i i))) (Int.toNat (↑(KiT.i i) : Int)) (↑(rootN (Int.toNat (ic (prN (310 : Nat)))[Int.toNat (↑(KiT.i i) : Int)]) (Int.toNat (3 : Int))) : Int)) True) (And ((true : Bool) = true) True)))))))) ((true : Bool) = true))))))))))) (And ((0 : Int) ≤ (↑(KiT.i i) : Int)) (∃ hk : Int.toNat (↑(KiT.i i) : Int) < (64 : Nat), (And (And (And ((0 : Int) ≤ (ic (prN (310 : Nat)))[Int.toNat (↑(KiT.i i) : Int)]) ((ic (prN (310 : Nat)))[Int.toNat (↑(KiT.i i) : Int)] < (18446744073709551616 : Int))) (And ((0 : Int) ≤ (2 : Int)) ((2 : Int) < (6 : Int)))) (And ((0 : Int) ≤ (↑(KiT.i i) : Int)) (And (Int.toNat (↑(KiT.i i) : Int) < (8 : Nat)) (And (Int.toNat (↑(KiT.i i) : Int) < (8 : Nat)) (And ((0 : Int) ≤ (↑(KiT.i i) : Int)) (∃ hk_1 : Int.toNat (↑(KiT.i i) : Int) < (64 : Nat), (And (And (And ((0 : Int) ≤ (ic (prN (310 : Nat)))[Int.toNat (↑(KiT.i i) : Int)]) ((ic (prN (310 : Nat)))[Int.toNat (↑(KiT.i i) : Int)] < (18446744073709551616 : Int))) (And ((0 : Int) ≤ (3 : Int)) ((3 : Int) < (6 : Int)))) (And ((0 : Int) ≤ (↑(KiT.i i) : Int)) (And (Int.toNat (↑(KiT.i i) : Int) < (64 : Nat)) (And (Int.toNat (↑(KiT.i i) : Int) < (64 : Nat)) (∃ i' : KiT, (And (And ((64 : Nat) - KiT.i i' < (64 : Nat) - KiT.i i) True) (And (And (And ((true : Bool) = true) ((0 : Nat) = (0 : Nat))) (And (And ((true : Bool) = true) ((0 : Nat) = (0 : Nat))) (And (SV.view (KiT.y i') (1 : Nat) e8 (ic (prN (310 : Nat))) = SV.view (KiT.y i) (1 : Nat) e8 (ic (prN (310 : Nat)))) (And (And ((true : Bool) = true) ((0 : Nat) = (0 : Nat))) (And (And ((true : Bool) = true) ((0 : Nat) = (0 : Nat))) (And ((↑(KiT.i i') : Int) = IntKind.wrap IntKind.i64 ((↑(KiT.i i) : Int) + (1 : Int))) True)))))) (And (And (And (List.replicate (8 : Nat) (0 : Int) = List.replicate (8 : Nat) (0 : Int)) True) (And ((true : Bool) = true) (And (And (List.replicate (64 : Nat) (0 : Int) = List.replicate (64 : Nat) (0 : Int)) True) (And ((true : Bool) = true) (And (And (ic (rtab (2 : Nat) (prN (310 : Nat)) (8 : Nat) (KiT.i i')) = List.set (ic (rtab (2 : Nat) (prN (310 : Nat)) (8 : Nat) (KiT.i i))) (Int.toNat (↑(KiT.i i) : Int)) (↑(rootN (Int.toNat (ic (prN (310 : Nat)))[Int.toNat (↑(KiT.i i) : Int)]) (Int.toNat (2 : Int))) : Int)) True) (And ((true : Bool) = true) (And (And (ic (rtab (3 : Nat) (prN (310 : Nat)) (64 : Nat) (KiT.i i')) = List.set (ic (rtab (3 : Nat) (prN (310 : Nat)) (64 : Nat) (KiT.i i))) (Int.toNat (↑(KiT.i i) : Int)) (↑(rootN (Int.toNat (ic (prN (310 : Nat)))[Int.toNat (↑(KiT.i i) : Int)]) (Int.toNat (3 : Int))) : Int)) True) (And ((true : Bool) = true) True)))))))) ((true : Bool) = true))))))))))))))))) (decide ((↑(KiT.i i) : Int) < (8 : Int)))) (decide ((↑(KiT.i i) : Int) < (64 : Int))))))))))) (by kernel_rfl) ?_
  refine ⟨trivial, fun y => ⟨⟨0, y, Nat.zero_le _⟩, ?_, ?_⟩⟩
  ·
    repeat' first | decide | exact trivial | refine And.intro ?_ ?_ | with_reducible refine bif_dt (by assumption) ?_ | with_reducible refine bif_df (by assumption) ?_ | with_reducible refine bif_dec (fun _ => ?_) (fun _ => ?_) | with_reducible refine bif_not ?_ | with_reducible refine bif_and ?_ | with_reducible refine bif_or ?_ | with_reducible refine bif_t (by assumption) ?_ | with_reducible refine bif_f (by assumption) ?_ | with_reducible refine bif_t (beq_self_eq_true _) ?_ | with_reducible refine bif_b (fun _ => ?_) (fun _ => ?_) | with_reducible refine ⟨_, Eq.refl (List.map _ _), ?_⟩ | (with_reducible refine Exists.intro (by omega) ?_) | rfl | (intro h0; omega) | omega
  rintro ⟨i, y2, hi⟩ -
  dsimp only
  refine bif_dec (fun h => ?_) (fun h => ?_)
  · have hi' : i < (prN 310).length := by rw [pr310_len]; omega
    have hi2 : i < (ic (prN 310)).length := by rw [ic_length]; exact hi'
    have hg := ic_get (prN 310) hi' hi2
    have hlt := pr310_lt _ (List.getElem_mem hi')
    have hgd : (prN 310).getD i 0 = (prN 310)[i] := by rw [List.getD_eq_getElem?_getD, List.getElem?_eq_getElem hi']; rfl
    have h3 := rtab_step 3 (prN 310) 64 (i := i) (by omega)
    have nat2 : ∀ n : Nat, (n : Int).toNat = n := fun n => rfl
    simp only [nat2, inext (show i < 9223372036854775807 by omega)]
    rw [hgd] at h3
    have nat3 : Int.toNat 3 = 3 := rfl
    have nat22 : Int.toNat 2 = 2 := rfl
    simp only [nat3, nat22]
    refine bif_dec (fun h8 => ?_) (fun h8 => ?_)
    · have h2 := rtab_step 2 (prN 310) 8 (i := i) (by omega)
      rw [hgd] at h2
      refine ⟨by omega, hi2, ⟨by rw [hg]; omega, by decide, by decide⟩, by omega, by omega, by omega, by omega, hi2, ⟨by rw [hg]; omega, by decide, by decide⟩, by omega, by omega, by omega, ⟨i + 1, y2, by omega⟩, ⟨show 64 - (i + 1) < 64 - i by omega, trivial⟩, ?_⟩
      dsimp only
      rw [h2, h3, ic_set, ic_set, hg, nat2]
      repeat' first | exact trivial | refine And.intro ?_ ?_ | with_reducible refine bif_dt (by assumption) ?_ | with_reducible refine bif_df (by assumption) ?_ | with_reducible refine bif_dec (fun _ => ?_) (fun _ => ?_) | with_reducible refine bif_not ?_ | with_reducible refine bif_and ?_ | with_reducible refine bif_or ?_ | with_reducible refine bif_t (by assumption) ?_ | with_reducible refine bif_f (by assumption) ?_ | with_reducible refine bif_t (beq_self_eq_true _) ?_ | with_reducible refine bif_b (fun _ => ?_) (fun _ => ?_) | with_reducible refine ⟨_, Eq.refl (List.map _ _), ?_⟩ | (with_reducible refine Exists.intro (by omega) ?_) | rfl | (intro h0; omega) | omega
    · have h2 := rtab_stay 2 (prN 310) 8 (i := i) (by omega)
      refine ⟨by omega, hi2, ⟨by rw [hg]; omega, by decide, by decide⟩, by omega, by omega, by omega, ⟨i + 1, y2, by omega⟩, ⟨show 64 - (i + 1) < 64 - i by omega, trivial⟩, ?_⟩
      dsimp only
      rw [h2, h3, ic_set, hg, nat2]
      repeat' first | exact trivial | refine And.intro ?_ ?_ | with_reducible refine bif_dt (by assumption) ?_ | with_reducible refine bif_df (by assumption) ?_ | with_reducible refine bif_dec (fun _ => ?_) (fun _ => ?_) | with_reducible refine bif_not ?_ | with_reducible refine bif_and ?_ | with_reducible refine bif_or ?_ | with_reducible refine bif_t (by assumption) ?_ | with_reducible refine bif_f (by assumption) ?_ | with_reducible refine bif_t (beq_self_eq_true _) ?_ | with_reducible refine bif_b (fun _ => ?_) (fun _ => ?_) | with_reducible refine ⟨_, Eq.refl (List.map _ _), ?_⟩ | (with_reducible refine Exists.intro (by omega) ?_) | rfl | (intro h0; omega) | omega
  · have : i = 64 := by omega
    subst this
    rw [first_tab, rounds_tab]
    exact ⟨⟨⟨⟨rfl, rfl⟩, trivial⟩, trivial⟩, ⟨⟨rfl, rfl⟩, trivial⟩, trivial⟩
end Go.Proofs.YtblapbjafbmndaaDoor
