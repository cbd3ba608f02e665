/- Eight bytes of a number; padding; the table. -/
import Derived.Test.YtblapbjafbmndaaDoorP2
import Derived.Test.YtblapbjafbmndaaDoorSx24
import Derived.Test.YtblapbjafbmndaaDoorDD
namespace Go.Proofs.YtblapbjafbmndaaDoor
open Go Go.Sx Go.Sha
set_option linter.unusedVariables false
set_option linter.unusedSimpArgs false
set_option maxRecDepth 100000
set_option maxHeartbeats 4000000

theorem encB_pure (l : List Int) : ∀ x ∈ l, ∀ s ∈ (encInt .u8).enc x, s.isPure = true := fun x _ s hs => by
  have hs' : s ∈ [SV.v (.int .u8 x)] := hs
  rw [List.mem_singleton] at hs'
  subst hs'
  rfl
theorem castB (l : List Int) : castL (encInt .u8) (encInt .u8) l = l := castL_self _ _ rfl
theorem ofB (x : Int) : (encInt .u8).of (x, ()) = x := rfl
abbrev EB : Enc Int := encInt .u8
theorem bytesB (l : List Int) : bytesOf (encInt .u8).enc l = l := by
  unfold bytesOf
  exact List.map_id'' (fun _ => rfl) l
theorem isB (l : List Int) : ∀ x ∈ l, ∃ b : Int, (encInt .u8).enc x = [SV.v (.int .u8 b)] := fun x _ => ⟨x, rfl⟩

theorem sh8 (x : Int) (k : Nat) (h : k ≤ 64) : IntKind.u8.wrap (shr .u64 x (k : Int)) = x / 2 ^ k % 256 := by
  have h1 : shr .u64 x (k : Int) = x / 2 ^ k := by
    unfold shr
    rw [Int.toNat_natCast, show min k IntKind.u64.bits = k by simp [IntKind.bits]; omega, Int.fdiv_eq_ediv_of_nonneg _ (Int.le_of_lt (Int.pow_pos (by decide)))]
  rw [h1]
  simp [IntKind.wrap, IntKind.bits, IntKind.signed]
theorem e56 (x : Int) : IntKind.u8.wrap (shr .u64 x 56) = x / 72057594037927936 % 256 := sh8 x 56 (by decide)
theorem e48 (x : Int) : IntKind.u8.wrap (shr .u64 x 48) = x / 281474976710656 % 256 := sh8 x 48 (by decide)
theorem e40 (x : Int) : IntKind.u8.wrap (shr .u64 x 40) = x / 1099511627776 % 256 := sh8 x 40 (by decide)
theorem e32 (x : Int) : IntKind.u8.wrap (shr .u64 x 32) = x / 4294967296 % 256 := sh8 x 32 (by decide)
theorem e24 (x : Int) : IntKind.u8.wrap (shr .u64 x 24) = x / 16777216 % 256 := sh8 x 24 (by decide)
theorem e16 (x : Int) : IntKind.u8.wrap (shr .u64 x 16) = x / 65536 % 256 := sh8 x 16 (by decide)
theorem e08 (x : Int) : IntKind.u8.wrap (shr .u64 x 8) = x / 256 % 256 := sh8 x 8 (by decide)
theorem e00 (x : Int) : IntKind.u8.wrap (shr .u64 x 0) = x % 256 := by
  have := sh8 x 0 (by decide)
  rwa [show x / 2 ^ 0 = x by simp] at this
theorem eight_spec (x : Int) : SMem Tryd.prog 63 [u64 x] 0 [] (fun _ : Unit => ⟨1, .one (.slc 0 1 0 8 8), [(0, .row 1 (encInt .u8) (be8 x) 8)]⟩) := by
  refine SMem.inm [] SOK.nil [] MSOK.nil tok mixed [] IOK.nil true [] [] Tryd.call63 Tryd.func63 rfl (by rfl) ?_
  refine Eq.mp (α := (And ((0 : Int) ≤ (8 : Int)) (And ((0 : Int) ≤ (8 : Int)) (And (Int.toNat (8 : Int) ≤ Int.toNat (8 : Int)) (And ((1 : Nat) * Int.toNat (8 : Int) ≤ (281474976710656 : Nat)) (And (Int.toNat (8 : Int) ≤ (9223372036854775807 : Nat)) (And ((0 : Int) ≤ (56 : Int)) (And ((0 : Int) ≤ (0 : Int)) (And (Int.toNat (0 : Int) < Int.toNat (8 : Int)) (∃ hi : (0 : Nat) + Int.toNat (0 : Int) < (8 : Nat), (And ((0 : Int) ≤ (48 : Int)) (And ((0 : Int) ≤ (1 : Int)) (And (Int.toNat (1 : Int) < Int.toNat (8 : Int)) (∃ hi_1 : (0 : Nat) + Int.toNat (1 : Int) < (8 : Nat), (And ((0 : Int) ≤ (40 : Int)) (And ((0 : Int) ≤ (2 : Int)) (And (Int.toNat (2 : Int) < Int.toNat (8 : Int)) (∃ hi_2 : (0 : Nat) + Int.toNat (2 : Int) < (8 : Nat), (And ((0 : Int) ≤ (32 : Int)) (And ((0 : Int) ≤ (3 : Int)) (And (Int.toNat (3 : Int) < Int.toNat (8 : Int)) (∃ hi_3 : (0 : Nat) + Int.toNat (3 : Int) < (8 : Nat), (And ((0 : Int) ≤ (24 : Int)) (And ((0 : Int) ≤ (4 : Int)) (And (Int.toNat (4 : Int) < Int.toNat (8 : Int)) (∃ hi_4 : (0 : Nat) + Int.toNat (4 : Int) < (8 : Nat), (And ((0 : Int) ≤ (16 : Int)) (And ((0 : Int) ≤ (5 : Int)) (And (Int.toNat (5 : Int) < Int.toNat (8 : Int)) (∃ hi_5 : (0 : Nat) + Int.toNat (5 : Int) < (8 : Nat), (And ((0 : Int) ≤ (8 : Int)) (And ((0 : Int) ≤ (6 : Int)) (And (Int.toNat (6 : Int) < Int.toNat (8 : Int)) (∃ hi_6 : (0 : Nat) + Int.toNat (6 : Int) < (8 : Nat), (And ((0 : Int) ≤ (0 : Int)) (And ((0 : Int) ≤ (7 : Int)) (And (Int.toNat (7 : Int) < Int.toNat (8 : Int)) (∃ hi_7 : (0 : Nat) + Int.toNat (7 : Int) < (8 : Nat), (∃ o : Unit, (And (And (And ((true : Bool) = true) (And ((0 : Nat) = (0 : Nat)) (And ((8 : Nat) = Int.toNat (8 : Int)) ((8 : Nat) = Int.toNat (8 : Int))))) True) (And (And (And ((true : Bool) = true) (And ((8 : Nat) = Int.toNat (8 : Int)) (And (List.map (Enc.enc (encInt IntKind.u8)) (be8 x) = List.map (Enc.enc (encInt IntKind.u8)) (List.set (List.set (List.set (List.set (List.set (List.set (List.set (List.set (List.replicate (Int.toNat (8 : Int)) (Enc.of (encInt IntKind.u8) ((0 : Int), ()))) ((0 : Nat) + Int.toNat (0 : Int)) (Enc.of (encInt IntKind.u8) (IntKind.wrap IntKind.u8 (shr IntKind.u64 x (56 : Int)), ()))) ((0 : Nat) + Int.toNat (1 : Int)) (Enc.of (encInt IntKind.u8) (IntKind.wrap IntKind.u8 (shr IntKind.u64 x (48 : Int)), ()))) ((0 : Nat) + Int.toNat (2 : Int)) (Enc.of (encInt IntKind.u8) (IntKind.wrap IntKind.u8 (shr IntKind.u64 x (40 : Int)), ()))) ((0 : Nat) + Int.toNat (3 : Int)) (Enc.of (encInt IntKind.u8) (IntKind.wrap IntKind.u8 (shr IntKind.u64 x (32 : Int)), ()))) ((0 : Nat) + Int.toNat (4 : Int)) (Enc.of (encInt IntKind.u8) (IntKind.wrap IntKind.u8 (shr IntKind.u64 x (24 : Int)), ()))) ((0 : Nat) + Int.toNat (5 : Int)) (Enc.of (encInt IntKind.u8) (IntKind.wrap IntKind.u8 (shr IntKind.u64 x (16 : Int)), ()))) ((0 : Nat) + Int.toNat (6 : Int)) (Enc.of (encInt IntKind.u8) (IntKind.wrap IntKind.u8 (shr IntKind.u64 x (8 : Int)), ()))) ((0 : Nat) + Int.toNat (7 : Int)) (Enc.of (encInt IntKind.u8) (IntKind.wrap IntKind.u8 (shr IntKind.u64 x (0 : Int)), ())))) (∀ x_1 : Int, (∀ a : x_1 ∈ be8 x, (∀ s : SV, (∀ a_1 : s ∈ Enc.enc (encInt IntKind.u8) x_1, ((SV.isPure s : Bool) = true)))))))) (And ((true : Bool) = true) True)) ((true : Bool) = true)))))))))))))))))))))))))))))))))))))))))) (by kernel_rfl) ?_
  simp only [e56, e48, e40, e32, e24, e16, e08, e00, ofB]
  repeat' first | exact encB_pure _ | (refine Exists.intro () ?_) | exact trivial | refine And.intro ?_ ?_ | with_reducible refine bif_dt (by assumption) ?_ | with_reducible refine bif_df (by assumption) ?_ | with_reducible refine bif_dec (fun _ => ?_) (fun _ => ?_) | with_reducible refine bif_not ?_ | with_reducible refine bif_and ?_ | with_reducible refine bif_or ?_ | with_reducible refine bif_t (by assumption) ?_ | with_reducible refine bif_f (by assumption) ?_ | with_reducible refine bif_t (beq_self_eq_true _) ?_ | with_reducible refine bif_b (fun _ => ?_) (fun _ => ?_) | with_reducible refine ⟨_, Eq.refl (List.map _ _), ?_⟩ | (with_reducible refine Exists.intro (by omega) ?_) | rfl | (intro h0; omega) | omega
def eightT : MT := fun ms n h K => match ms with
  | [.one (.v (.int .u64 x))] => bif true then True ∧ (∀ o : Unit, K (n + 1) (.one (.slc n 1 0 8 8)) ([(n, .row 1 (encInt .u8) (be8 x) 8)] ++ delL [] h)) else False
  | _ => False
theorem eight_mono : MMono eightT := by
  intro ms n h K K' hkk hk
  unfold eightT at hk ⊢
  split at hk
  · rename_i x
    obtain ⟨hb, h1, h2⟩ := cond_false_elim hk
    rw [hb]
    exact ⟨h1, fun o => hkk _ _ _ (h2 o)⟩
  · exact hk.elim
theorem eight_ok : MOK Tryd.prog 63 eightT := by
  refine ⟨?_, eight_mono⟩
  intro ms n hB K hk
  unfold eightT at hk
  split at hk
  · rename_i x
    obtain ⟨hb, h, hk2⟩ := cond_false_elim hk
    clear hk
    have hnd : noDup [] = true := rfl
    refine SCall.seen ?_ (.cons (.refl _) .nil)
    exact (eight_spec x).use (fun _ => 0) rfl rfl trivial hnd (fun j hj => absurd hj (Nat.not_lt_zero j)) (fun o => hk2 o)
  · exact hk.elim

end Go.Proofs.YtblapbjafbmndaaDoor
