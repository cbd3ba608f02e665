/- Eight bytes of a number; padding; the table. -/
import Derived.Test.YtblapbjafbmndaaDoorP3
import Derived.Test.YtblapbjafbmndaaDoorD2
import Derived.Test.YtblapbjafbmndaaDoorSx24
namespace Go.Proofs.YtblapbjafbmndaaDoor
open Go Go.Sx Go.Sha
set_option linter.unusedVariables false
set_option linter.unusedSimpArgs false
set_option maxRecDepth 100000
set_option maxHeartbeats 4000000

theorem encB_pure (l : List Int) : ∀ x ∈ l, ∀ s ∈ (encInt .u8).enc x, s.isPure = true := fun x _ s hs => by
  have hs' : s ∈ [SV.v (.int .u8 x)] := hs
  rw [List.mem_singleton] at hs'
  subst hs'
  rfl
theorem castB (l : List Int) : castL (encInt .u8) (encInt .u8) l = l := castL_self _ _ rfl
theorem ofB (x : Int) : (encInt .u8).of (x, ()) = x := rfl
abbrev EB : Enc Int := encInt .u8
theorem bytesB (l : List Int) : bytesOf (encInt .u8).enc l = l := by
  unfold bytesOf
  exact List.map_id'' (fun _ => rfl) l
theorem isB (l : List Int) : ∀ x ∈ l, ∃ b : Int, (encInt .u8).enc x = [SV.v (.int .u8 b)] := fun x _ => ⟨x, rfl⟩

theorem sh8 (x : Int) (k : Nat) (h : k ≤ 64) : IntKind.u8.wrap (shr .u64 x (k : Int)) = x / 2 ^ k % 256 := by
  have h1 : shr .u64 x (k : Int) = x / 2 ^ k := by
    unfold shr
    rw [Int.toNat_natCast, show min k IntKind.u64.bits = k by simp [IntKind.bits]; omega, Int.fdiv_eq_ediv_of_nonneg _ (Int.le_of_lt (Int.pow_pos (by decide)))]
  rw [h1]
  simp [IntKind.wrap, IntKind.bits, IntKind.signed]
theorem e56 (x : Int) : IntKind.u8.wrap (shr .u64 x 56) = x / 72057594037927936 % 256 := sh8 x 56 (by decide)
theorem e48 (x : Int) : IntKind.u8.wrap (shr .u64 x 48) = x / 281474976710656 % 256 := sh8 x 48 (by decide)
theorem e40 (x : Int) : IntKind.u8.wrap (shr .u64 x 40) = x / 1099511627776 % 256 := sh8 x 40 (by decide)
theorem e32 (x : Int) : IntKind.u8.wrap (shr .u64 x 32) = x / 4294967296 % 256 := sh8 x 32 (by decide)
theorem e24 (x : Int) : IntKind.u8.wrap (shr .u64 x 24) = x / 16777216 % 256 := sh8 x 24 (by decide)
theorem e16 (x : Int) : IntKind.u8.wrap (shr .u64 x 16) = x / 65536 % 256 := sh8 x 16 (by decide)
theorem e08 (x : Int) : IntKind.u8.wrap (shr .u64 x 8) = x / 256 % 256 := sh8 x 8 (by decide)
theorem e00 (x : Int) : IntKind.u8.wrap (shr .u64 x 0) = x % 256 := by
  have := sh8 x 0 (by decide)
  rwa [show x / 2 ^ 0 = x by simp] at this
theorem wrap8 (x : Int) : IntKind.u8.wrap x = x % 256 := wrap_u8 x

theorem eight_spec (x : Int) : SMem Tryd.prog 63 [u64 x] 0 [] (fun _ : Unit => ⟨1, .one (.slc 0 1 0 8 8), [(0, .row 1 (encInt .u8) (be8 x) 8)]⟩) := by
  refine SMem.inm [] SOK.nil [] MSOK.nil tok mixed [] IOK.nil true [] [] Tryd.call63 Tryd.func63 rfl (by rfl) ?_
  refine Eq.mp (α := (And ((0 : Int) ≤ (8 : Int)) (And ((0 : Int) ≤ (8 : Int)) (And (Int.toNat (8 : Int) ≤ Int.toNat (8 : Int)) (And ((1 : Nat) * Int.toNat (8 : Int) ≤ (281474976710656 : Nat)) (And (Int.toNat (8 : Int) ≤ (9223372036854775807 : Nat)) (And ((0 : Int) ≤ (56 : Int)) (And ((0 : Int) ≤ (0 : Int)) (And (Int.toNat (0 : Int) < Int.toNat (8 : Int)) (∃ hi : (0 : Nat) + Int.toNat (0 : Int) < (8 : Nat), (And ((0 : Int) ≤ (48 : Int)) (And ((0 : Int) ≤ (1 : Int)) (And (Int.toNat (1 : Int) < Int.toNat (8 : Int)) (∃ hi_1 : (0 : Nat) + Int.toNat (1 : Int) < (8 : Nat), (And ((0 : Int) ≤ (40 : Int)) (And ((0 : Int) ≤ (2 : Int)) (And (Int.toNat (2 : Int) < Int.toNat (8 : Int)) (∃ hi_2 : (0 : Nat) + Int.toNat (2 : Int) < (8 : Nat), (And ((0 : Int) ≤ (32 : Int)) (And ((0 : Int) ≤ (3 : Int)) (And (Int.toNat (3 : Int) < Int.toNat (8 : Int)) (∃ hi_3 : (0 : Nat) + Int.toNat (3 : Int) < (8 : Nat), (And ((0 : Int) ≤ (24 : Int)) (And ((0 : Int) ≤ (4 : Int)) (And (Int.toNat (4 : Int) < Int.toNat (8 : Int)) (∃ hi_4 : (0 : Nat) + Int.toNat (4 : Int) < (8 : Nat), (And ((0 : Int) ≤ (16 : Int)) (And ((0 : Int) ≤ (5 : Int)) (And (Int.toNat (5 : Int) < Int.toNat (8 : Int)) (∃ hi_5 : (0 : Nat) + Int.toNat (5 : Int) < (8 : Nat), (And ((0 : Int) ≤ (8 : Int)) (And ((0 : Int) ≤ (6 : Int)) (And (Int.toNat (6 : Int) < Int.toNat (8 : Int)) (∃ hi_6 : (0 : Nat) + Int.toNat (6 : Int) < (8 : Nat), (And ((0 : Int) ≤ (0 : Int)) (And ((0 : Int) ≤ (7 : Int)) (And (Int.toNat (7 : Int) < Int.toNat (8 : Int)) (∃ hi_7 : (0 : Nat) + Int.toNat (7 : Int) < (8 : Nat), (∃ o : Unit, (And (And (And ((true : Bool) = true) (And ((0 : Nat) = (0 : Nat)) (And ((8 : Nat) = Int.toNat (8 : Int)) ((8 : Nat) = Int.toNat (8 : Int))))) True) (And (And (And ((true : Bool) = true) (And ((8 : Nat) = Int.toNat (8 : Int)) (And (List.map (Enc.enc (encInt IntKind.u8)) (be8 x) = List.map (Enc.enc (encInt IntKind.u8)) (List.set (List.set (List.set (List.set (List.set (List.set (List.set (List.set (List.replicate (Int.toNat (8 : Int)) (Enc.of (encInt IntKind.u8) ((0 : Int), ()))) ((0 : Nat) + Int.toNat (0 : Int)) (Enc.of (encInt IntKind.u8) (IntKind.wrap IntKind.u8 (shr IntKind.u64 x (56 : Int)), ()))) ((0 : Nat) + Int.toNat (1 : Int)) (Enc.of (encInt IntKind.u8) (IntKind.wrap IntKind.u8 (shr IntKind.u64 x (48 : Int)), ()))) ((0 : Nat) + Int.toNat (2 : Int)) (Enc.of (encInt IntKind.u8) (IntKind.wrap IntKind.u8 (shr IntKind.u64 x (40 : Int)), ()))) ((0 : Nat) + Int.toNat (3 : Int)) (Enc.of (encInt IntKind.u8) (IntKind.wrap IntKind.u8 (shr IntKind.u64 x (32 : Int)), ()))) ((0 : Nat) + Int.toNat (4 : Int)) (Enc.of (encInt IntKind.u8) (IntKind.wrap IntKind.u8 (shr IntKind.u64 x (24 : Int)), ()))) ((0 : Nat) + Int.toNat (5 : Int)) (Enc.of (encInt IntKind.u8) (IntKind.wrap IntKind.u8 (shr IntKind.u64 x (16 : Int)), ()))) ((0 : Nat) + Int.toNat (6 : Int)) (Enc.of (encInt IntKind.u8) (IntKind.wrap IntKind.u8 (shr IntKind.u64 x (8 : Int)), ()))) ((0 : Nat) + Int.toNat (7 : Int)) (Enc.of (encInt IntKind.u8) (IntKind.wrap IntKind.u8 (shr IntKind.u64 x (0 : Int)), ())))) (∀ x_1 : Int, (∀ a : x_1 ∈ be8 x, (∀ s : SV, (∀ a_1 : s ∈ Enc.enc (encInt IntKind.u8) x_1, ((SV.isPure s : Bool) = true)))))))) (And ((true : Bool) = true) True)) ((true : Bool) = true)))))))))))))))))))))))))))))))))))))))))) (by kernel_rfl) ?_
  simp only [e56, e48, e40, e32, e24, e16, e08, e00, ofB]
  repeat' first | exact encB_pure _ | (refine Exists.intro () ?_) | exact trivial | refine And.intro ?_ ?_ | with_reducible refine bif_dt (by assumption) ?_ | with_reducible refine bif_df (by assumption) ?_ | with_reducible refine bif_dec (fun _ => ?_) (fun _ => ?_) | with_reducible refine bif_not ?_ | with_reducible refine bif_and ?_ | with_reducible refine bif_or ?_ | with_reducible refine bif_t (by assumption) ?_ | with_reducible refine bif_f (by assumption) ?_ | with_reducible refine bif_t (beq_self_eq_true _) ?_ | with_reducible refine bif_b (fun _ => ?_) (fun _ => ?_) | with_reducible refine ⟨_, Eq.refl (List.map _ _), ?_⟩ | (with_reducible refine Exists.intro (by omega) ?_) | rfl | (intro h0; omega) | omega
def eightT : MT := fun ms n h K => match ms with
  | [.one (.v (.int .u64 x))] => bif true then True ∧ (∀ o : Unit, K (n + 1) (.one (.slc n 1 0 8 8)) ([(n, .row 1 (encInt .u8) (be8 x) 8)] ++ delL [] h)) else False
  | _ => False
theorem eight_mono : MMono eightT := by
  intro ms n h K K' hkk hk
  unfold eightT at hk ⊢
  split at hk
  · rename_i x
    obtain ⟨hb, h1, h2⟩ := cond_false_elim hk
    rw [hb]
    exact ⟨h1, fun o => hkk _ _ _ (h2 o)⟩
  · exact hk.elim
theorem eight_ok : MOK Tryd.prog 63 eightT := by
  refine ⟨?_, eight_mono⟩
  intro ms n hB K hk
  unfold eightT at hk
  split at hk
  · rename_i x
    obtain ⟨hb, h, hk2⟩ := cond_false_elim hk
    clear hk
    have hnd : noDup [] = true := rfl
    refine SCall.seen ?_ (.cons (.refl _) .nil)
    exact (eight_spec x).use (fun _ => 0) rfl rfl trivial hnd (fun j hj => absurd hj (Nat.not_lt_zero j)) (fun o => hk2 o)
  · exact hk.elim

theorem reight_spec (x : Int) : SMem Tryd.prog 67 [u64 x] 0 [] (fun _ : Unit => ⟨1, .one (.slc 0 1 0 8 8), [(0, .row 1 (encInt .u8) (be8 x) 8)]⟩) := by
  refine SMem.inm [] SOK.nil [] MSOK.nil tok mixed [] IOK.nil true [] [] Tryd.call67 Tryd.func67 rfl (by rfl) ?_
  refine Eq.mp (α := (And ((0 : Int) ≤ (56 : Int)) (And ((0 : Int) ≤ (48 : Int)) (And ((0 : Int) ≤ (40 : Int)) (And ((0 : Int) ≤ (32 : Int)) (And ((0 : Int) ≤ (24 : Int)) (And ((0 : Int) ≤ (16 : Int)) (And ((0 : Int) ≤ (8 : Int)) (∃ o : Unit, (And (And (And ((true : Bool) = true) (And ((0 : Nat) = (0 : Nat)) (And ((8 : Nat) = (8 : Nat)) ((8 : Nat) = (8 : Nat))))) True) (And (And (And ((true : Bool) = true) (And ((8 : Nat) = (8 : Nat)) (And (List.map (Enc.enc (encInt IntKind.u8)) (be8 x) = List.map (Enc.enc (encInt IntKind.u8)) [Enc.of (encInt IntKind.u8) (IntKind.wrap IntKind.u8 (shr IntKind.u64 x (56 : Int)), ()), Enc.of (encInt IntKind.u8) (IntKind.wrap IntKind.u8 (shr IntKind.u64 x (48 : Int)), ()), Enc.of (encInt IntKind.u8) (IntKind.wrap IntKind.u8 (shr IntKind.u64 x (40 : Int)), ()), Enc.of (encInt IntKind.u8) (IntKind.wrap IntKind.u8 (shr IntKind.u64 x (32 : Int)), ()), Enc.of (encInt IntKind.u8) (IntKind.wrap IntKind.u8 (shr IntKind.u64 x (24 : Int)), ()), Enc.of (encInt IntKind.u8) (IntKind.wrap IntKind.u8 (shr IntKind.u64 x (16 : Int)), ()), Enc.of (encInt IntKind.u8) (IntKind.wrap IntKind.u8 (shr IntKind.u64 x (8 : Int)), ()), Enc.of (encInt IntKind.u8) (IntKind.wrap IntKind.u8 x, ())]) (∀ x_1 : Int, (∀ a : x_1 ∈ be8 x, (∀ s : SV, (∀ a_1 : s ∈ Enc.enc (encInt IntKind.u8) x_1, ((SV.isPure s : Bool) = true)))))))) (And ((true : Bool) = true) True)) ((true : Bool) = true)))))))))))) (by kernel_rfl) ?_
  simp only [e56, e48, e40, e32, e24, e16, e08]
  simp only [wrap8, ofB]
  repeat' first | exact encB_pure _ | (refine Exists.intro () ?_) | exact trivial | refine And.intro ?_ ?_ | with_reducible refine bif_dt (by assumption) ?_ | with_reducible refine bif_df (by assumption) ?_ | with_reducible refine bif_dec (fun _ => ?_) (fun _ => ?_) | with_reducible refine bif_not ?_ | with_reducible refine bif_and ?_ | with_reducible refine bif_or ?_ | with_reducible refine bif_t (by assumption) ?_ | with_reducible refine bif_f (by assumption) ?_ | with_reducible refine bif_t (beq_self_eq_true _) ?_ | with_reducible refine bif_b (fun _ => ?_) (fun _ => ?_) | with_reducible refine ⟨_, Eq.refl (List.map _ _), ?_⟩ | (with_reducible refine Exists.intro (by omega) ?_) | rfl | (intro h0; omega) | omega
def reightT : MT := fun ms n h K => match ms with
  | [.one (.v (.int .u64 x))] => bif true then True ∧ (∀ o : Unit, K (n + 1) (.one (.slc n 1 0 8 8)) ([(n, .row 1 (encInt .u8) (be8 x) 8)] ++ delL [] h)) else False
  | _ => False
theorem reight_mono : MMono reightT := by
  intro ms n h K K' hkk hk
  unfold reightT at hk ⊢
  split at hk
  · rename_i x
    obtain ⟨hb, h1, h2⟩ := cond_false_elim hk
    rw [hb]
    exact ⟨h1, fun o => hkk _ _ _ (h2 o)⟩
  · exact hk.elim
theorem reight_ok : MOK Tryd.prog 67 reightT := by
  refine ⟨?_, reight_mono⟩
  intro ms n hB K hk
  unfold reightT at hk
  split at hk
  · rename_i x
    obtain ⟨hb, h, hk2⟩ := cond_false_elim hk
    clear hk
    have hnd : noDup [] = true := rfl
    refine SCall.seen ?_ (.cons (.refl _) .nil)
    exact (reight_spec x).use (fun _ => 0) rfl rfl trivial hnd (fun j hj => absurd hj (Nat.not_lt_zero j)) (fun o => hk2 o)
  · exact hk.elim

theorem pad_spec (x : Value) {b : List Int} (hb : By b) (hl : b.length ≤ 140737488351232) : SMem Tryd.prog 102 [byV x b] 0 [] (fun y : Value => ⟨0, byV y (padF b), []⟩) := by
  refine SMem.inf 1 EB [] SOK.nil [(67, reightT)] (MSOK.cons reight_ok MSOK.nil) tok mixed [] IOK.nil true [] [] Tryd.call102 Tryd.func102 rfl (by rfl) ?_
  refine Eq.mp (α := (And ((64 : Int) ≠ (0 : Int)) (And ((64 : Int) ≠ (0 : Int)) (And ((0 : Int) ≤ IntKind.wrap IntKind.i64 (IntKind.wrap IntKind.i64 ((↑(List.length b) : Int) + (9 : Int)) + Int.tmod (IntKind.wrap IntKind.i64 ((64 : Int) - Int.tmod (IntKind.wrap IntKind.i64 ((↑(List.length b) : Int) + (9 : Int))) (64 : Int))) (64 : Int))) (And ((0 : Int) ≤ IntKind.wrap IntKind.i64 (IntKind.wrap IntKind.i64 ((↑(List.length b) : Int) + (9 : Int)) + Int.tmod (IntKind.wrap IntKind.i64 ((64 : Int) - Int.tmod (IntKind.wrap IntKind.i64 ((↑(List.length b) : Int) + (9 : Int))) (64 : Int))) (64 : Int))) (And (Int.toNat (IntKind.wrap IntKind.i64 (IntKind.wrap IntKind.i64 ((↑(List.length b) : Int) + (9 : Int)) + Int.tmod (IntKind.wrap IntKind.i64 ((64 : Int) - Int.tmod (IntKind.wrap IntKind.i64 ((↑(List.length b) : Int) + (9 : Int))) (64 : Int))) (64 : Int))) ≤ Int.toNat (IntKind.wrap IntKind.i64 (IntKind.wrap IntKind.i64 ((↑(List.length b) : Int) + (9 : Int)) + Int.tmod (IntKind.wrap IntKind.i64 ((64 : Int) - Int.tmod (IntKind.wrap IntKind.i64 ((↑(List.length b) : Int) + (9 : Int))) (64 : Int))) (64 : Int)))) (And ((1 : Nat) * Int.toNat (IntKind.wrap IntKind.i64 (IntKind.wrap IntKind.i64 ((↑(List.length b) : Int) + (9 : Int)) + Int.tmod (IntKind.wrap IntKind.i64 ((64 : Int) - Int.tmod (IntKind.wrap IntKind.i64 ((↑(List.length b) : Int) + (9 : Int))) (64 : Int))) (64 : Int))) ≤ (281474976710656 : Nat)) (And (Int.toNat (IntKind.wrap IntKind.i64 (IntKind.wrap IntKind.i64 ((↑(List.length b) : Int) + (9 : Int)) + Int.tmod (IntKind.wrap IntKind.i64 ((64 : Int) - Int.tmod (IntKind.wrap IntKind.i64 ((↑(List.length b) : Int) + (9 : Int))) (64 : Int))) (64 : Int))) ≤ (9223372036854775807 : Nat)) (And (∀ x_1 : Int, (∀ a : x_1 ∈ b, (∃ b_1 : Int, (Enc.enc (encInt IntKind.u8) x_1 = [SV.v (Value.int IntKind.u8 b_1)])))) (And ((0 : Nat) < Int.toNat (IntKind.wrap IntKind.i64 (IntKind.wrap IntKind.i64 ((↑(List.length b) : Int) + (9 : Int)) + Int.tmod (IntKind.wrap IntKind.i64 ((64 : Int) - Int.tmod (IntKind.wrap IntKind.i64 ((↑(List.length b) : Int) + (9 : Int))) (64 : Int))) (64 : Int)))) (And ((0 : Nat) + Int.toNat (IntKind.wrap IntKind.i64 (IntKind.wrap IntKind.i64 ((↑(List.length b) : Int) + (9 : Int)) + Int.tmod (IntKind.wrap IntKind.i64 ((64 : Int) - Int.tmod (IntKind.wrap IntKind.i64 ((↑(List.length b) : Int) + (9 : Int))) (64 : Int))) (64 : Int))) ≤ List.length (List.replicate (Int.toNat (IntKind.wrap IntKind.i64 (IntKind.wrap IntKind.i64 ((↑(List.length b) : Int) + (9 : Int)) + Int.tmod (IntKind.wrap IntKind.i64 ((64 : Int) - Int.tmod (IntKind.wrap IntKind.i64 ((↑(List.length b) : Int) + (9 : Int))) (64 : Int))) (64 : Int)))) (Enc.of (encInt IntKind.u8) ((0 : Int), ())))) (And (∀ x_1 : Int, (∀ a : x_1 ∈ List.replicate (Int.toNat (IntKind.wrap IntKind.i64 (IntKind.wrap IntKind.i64 ((↑(List.length b) : Int) + (9 : Int)) + Int.tmod (IntKind.wrap IntKind.i64 ((64 : Int) - Int.tmod (IntKind.wrap IntKind.i64 ((↑(List.length b) : Int) + (9 : Int))) (64 : Int))) (64 : Int)))) (Enc.of (encInt IntKind.u8) ((0 : Int), ())), (∃ b_1 : Int, (Enc.enc (encInt IntKind.u8) x_1 = [SV.v (Value.int IntKind.u8 b_1)])))) (And ((0 : Int) ≤ (↑(List.length b) : Int)) (And (Int.toNat (↑(List.length b) : Int) < Int.toNat (IntKind.wrap IntKind.i64 (IntKind.wrap IntKind.i64 ((↑(List.length b) : Int) + (9 : Int)) + Int.tmod (IntKind.wrap IntKind.i64 ((64 : Int) - Int.tmod (IntKind.wrap IntKind.i64 ((↑(List.length b) : Int) + (9 : Int))) (64 : Int))) (64 : Int)))) (∃ hi : (0 : Nat) + Int.toNat (↑(List.length b) : Int) < List.length (lay (bytesOf (Enc.enc (encInt IntKind.u8)) (List.replicate (Int.toNat (IntKind.wrap IntKind.i64 (IntKind.wrap IntKind.i64 ((↑(List.length b) : Int) + (9 : Int)) + Int.tmod (IntKind.wrap IntKind.i64 ((64 : Int) - Int.tmod (IntKind.wrap IntKind.i64 ((↑(List.length b) : Int) + (9 : Int))) (64 : Int))) (64 : Int)))) (Enc.of (encInt IntKind.u8) ((0 : Int), ())))) (0 : Nat) (Int.toNat (IntKind.wrap IntKind.i64 (IntKind.wrap IntKind.i64 ((↑(List.length b) : Int) + (9 : Int)) + Int.tmod (IntKind.wrap IntKind.i64 ((64 : Int) - Int.tmod (IntKind.wrap IntKind.i64 ((↑(List.length b) : Int) + (9 : Int))) (64 : Int))) (64 : Int)))) (bytesOf (Enc.enc (encInt IntKind.u8)) b)), (And ((0 : Int) ≤ IntKind.wrap IntKind.i64 (IntKind.wrap IntKind.i64 (IntKind.wrap IntKind.i64 ((↑(List.length b) : Int) + (9 : Int)) + Int.tmod (IntKind.wrap IntKind.i64 ((64 : Int) - Int.tmod (IntKind.wrap IntKind.i64 ((↑(List.length b) : Int) + (9 : Int))) (64 : Int))) (64 : Int)) - (8 : Int))) (And (Int.toNat (IntKind.wrap IntKind.i64 (IntKind.wrap IntKind.i64 (IntKind.wrap IntKind.i64 ((↑(List.length b) : Int) + (9 : Int)) + Int.tmod (IntKind.wrap IntKind.i64 ((64 : Int) - Int.tmod (IntKind.wrap IntKind.i64 ((↑(List.length b) : Int) + (9 : Int))) (64 : Int))) (64 : Int)) - (8 : Int))) ≤ Int.toNat (IntKind.wrap IntKind.i64 (IntKind.wrap IntKind.i64 ((↑(List.length b) : Int) + (9 : Int)) + Int.tmod (IntKind.wrap IntKind.i64 ((64 : Int) - Int.tmod (IntKind.wrap IntKind.i64 ((↑(List.length b) : Int) + (9 : Int))) (64 : Int))) (64 : Int)))) (And (Int.toNat (IntKind.wrap IntKind.i64 (IntKind.wrap IntKind.i64 ((↑(List.length b) : Int) + (9 : Int)) + Int.tmod (IntKind.wrap IntKind.i64 ((64 : Int) - Int.tmod (IntKind.wrap IntKind.i64 ((↑(List.length b) : Int) + (9 : Int))) (64 : Int))) (64 : Int))) ≤ Int.toNat (IntKind.wrap IntKind.i64 (IntKind.wrap IntKind.i64 ((↑(List.length b) : Int) + (9 : Int)) + Int.tmod (IntKind.wrap IntKind.i64 ((64 : Int) - Int.tmod (IntKind.wrap IntKind.i64 ((↑(List.length b) : Int) + (9 : Int))) (64 : Int))) (64 : Int)))) (And (Int.toNat (IntKind.wrap IntKind.i64 (IntKind.wrap IntKind.i64 ((↑(List.length b) : Int) + (9 : Int)) + Int.tmod (IntKind.wrap IntKind.i64 ((64 : Int) - Int.tmod (IntKind.wrap IntKind.i64 ((↑(List.length b) : Int) + (9 : Int))) (64 : Int))) (64 : Int))) ≤ Int.toNat (IntKind.wrap IntKind.i64 (IntKind.wrap IntKind.i64 ((↑(List.length b) : Int) + (9 : Int)) + Int.tmod (IntKind.wrap IntKind.i64 ((64 : Int) - Int.tmod (IntKind.wrap IntKind.i64 ((↑(List.length b) : Int) + (9 : Int))) (64 : Int))) (64 : Int)))) (And True (∀ o : Unit, (And ((0 : Nat) + (8 : Nat) ≤ (8 : Nat)) (And (∀ x_1 : Int, (∀ a : x_1 ∈ be8 (IntKind.wrap IntKind.u64 ((8 : Int) * IntKind.wrap IntKind.u64 (↑(List.length b) : Int))), (∃ b_1 : Int, (Enc.enc (encInt IntKind.u8) x_1 = [SV.v (Value.int IntKind.u8 b_1)])))) (And ((0 : Nat) < Int.toNat (IntKind.wrap IntKind.i64 (IntKind.wrap IntKind.i64 ((↑(List.length b) : Int) + (9 : Int)) + Int.tmod (IntKind.wrap IntKind.i64 ((64 : Int) - Int.tmod (IntKind.wrap IntKind.i64 ((↑(List.length b) : Int) + (9 : Int))) (64 : Int))) (64 : Int)))) (And ((if Int.toNat (IntKind.wrap IntKind.i64 (IntKind.wrap IntKind.i64 ((↑(List.length b) : Int) + (9 : Int)) + Int.tmod (IntKind.wrap IntKind.i64 ((64 : Int) - Int.tmod (IntKind.wrap IntKind.i64 ((↑(List.length b) : Int) + (9 : Int))) (64 : Int))) (64 : Int))) = Int.toNat (IntKind.wrap IntKind.i64 (IntKind.wrap IntKind.i64 (IntKind.wrap IntKind.i64 ((↑(List.length b) : Int) + (9 : Int)) + Int.tmod (IntKind.wrap IntKind.i64 ((64 : Int) - Int.tmod (IntKind.wrap IntKind.i64 ((↑(List.length b) : Int) + (9 : Int))) (64 : Int))) (64 : Int)) - (8 : Int))) then (0 : Nat) else (0 : Nat) + Int.toNat (IntKind.wrap IntKind.i64 (IntKind.wrap IntKind.i64 (IntKind.wrap IntKind.i64 ((↑(List.length b) : Int) + (9 : Int)) + Int.tmod (IntKind.wrap IntKind.i64 ((64 : Int) - Int.tmod (IntKind.wrap IntKind.i64 ((↑(List.length b) : Int) + (9 : Int))) (64 : Int))) (64 : Int)) - (8 : Int)))) + (Int.toNat (IntKind.wrap IntKind.i64 (IntKind.wrap IntKind.i64 ((↑(List.length b) : Int) + (9 : Int)) + Int.tmod (IntKind.wrap IntKind.i64 ((64 : Int) - Int.tmod (IntKind.wrap IntKind.i64 ((↑(List.length b) : Int) + (9 : Int))) (64 : Int))) (64 : Int))) - Int.toNat (IntKind.wrap IntKind.i64 (IntKind.wrap IntKind.i64 (IntKind.wrap IntKind.i64 ((↑(List.length b) : Int) + (9 : Int)) + Int.tmod (IntKind.wrap IntKind.i64 ((64 : Int) - Int.tmod (IntKind.wrap IntKind.i64 ((↑(List.length b) : Int) + (9 : Int))) (64 : Int))) (64 : Int)) - (8 : Int)))) ≤ List.length (List.set (lay (bytesOf (Enc.enc (encInt IntKind.u8)) (List.replicate (Int.toNat (IntKind.wrap IntKind.i64 (IntKind.wrap IntKind.i64 ((↑(List.length b) : Int) + (9 : Int)) + Int.tmod (IntKind.wrap IntKind.i64 ((64 : Int) - Int.tmod (IntKind.wrap IntKind.i64 ((↑(List.length b) : Int) + (9 : Int))) (64 : Int))) (64 : Int)))) (Enc.of (encInt IntKind.u8) ((0 : Int), ())))) (0 : Nat) (Int.toNat (IntKind.wrap IntKind.i64 (IntKind.wrap IntKind.i64 ((↑(List.length b) : Int) + (9 : Int)) + Int.tmod (IntKind.wrap IntKind.i64 ((64 : Int) - Int.tmod (IntKind.wrap IntKind.i64 ((↑(List.length b) : Int) + (9 : Int))) (64 : Int))) (64 : Int)))) (bytesOf (Enc.enc (encInt IntKind.u8)) b)) ((0 : Nat) + Int.toNat (↑(List.length b) : Int)) (Enc.of (encInt IntKind.u8) ((128 : Int), ())))) (And (∀ x_1 : Int, (∀ a : x_1 ∈ List.set (lay (bytesOf (Enc.enc (encInt IntKind.u8)) (List.replicate (Int.toNat (IntKind.wrap IntKind.i64 (IntKind.wrap IntKind.i64 ((↑(List.length b) : Int) + (9 : Int)) + Int.tmod (IntKind.wrap IntKind.i64 ((64 : Int) - Int.tmod (IntKind.wrap IntKind.i64 ((↑(List.length b) : Int) + (9 : Int))) (64 : Int))) (64 : Int)))) (Enc.of (encInt IntKind.u8) ((0 : Int), ())))) (0 : Nat) (Int.toNat (IntKind.wrap IntKind.i64 (IntKind.wrap IntKind.i64 ((↑(List.length b) : Int) + (9 : Int)) + Int.tmod (IntKind.wrap IntKind.i64 ((64 : Int) - Int.tmod (IntKind.wrap IntKind.i64 ((↑(List.length b) : Int) + (9 : Int))) (64 : Int))) (64 : Int)))) (bytesOf (Enc.enc (encInt IntKind.u8)) b)) ((0 : Nat) + Int.toNat (↑(List.length b) : Int)) (Enc.of (encInt IntKind.u8) ((128 : Int), ())), (∃ b_1 : Int, (Enc.enc (encInt IntKind.u8) x_1 = [SV.v (Value.int IntKind.u8 b_1)])))) (And ((0 : Nat) + Int.toNat (IntKind.wrap IntKind.i64 (IntKind.wrap IntKind.i64 ((↑(List.length b) : Int) + (9 : Int)) + Int.tmod (IntKind.wrap IntKind.i64 ((64 : Int) - Int.tmod (IntKind.wrap IntKind.i64 ((↑(List.length b) : Int) + (9 : Int))) (64 : Int))) (64 : Int))) ≤ List.length (lay (bytesOf (Enc.enc (encInt IntKind.u8)) (List.set (lay (bytesOf (Enc.enc (encInt IntKind.u8)) (List.replicate (Int.toNat (IntKind.wrap IntKind.i64 (IntKind.wrap IntKind.i64 ((↑(List.length b) : Int) + (9 : Int)) + Int.tmod (IntKind.wrap IntKind.i64 ((64 : Int) - Int.tmod (IntKind.wrap IntKind.i64 ((↑(List.length b) : Int) + (9 : Int))) (64 : Int))) (64 : Int)))) (Enc.of (encInt IntKind.u8) ((0 : Int), ())))) (0 : Nat) (Int.toNat (IntKind.wrap IntKind.i64 (IntKind.wrap IntKind.i64 ((↑(List.length b) : Int) + (9 : Int)) + Int.tmod (IntKind.wrap IntKind.i64 ((64 : Int) - Int.tmod (IntKind.wrap IntKind.i64 ((↑(List.length b) : Int) + (9 : Int))) (64 : Int))) (64 : Int)))) (bytesOf (Enc.enc (encInt IntKind.u8)) b)) ((0 : Nat) + Int.toNat (↑(List.length b) : Int)) (Enc.of (encInt IntKind.u8) ((128 : Int), ())))) (if Int.toNat (IntKind.wrap IntKind.i64 (IntKind.wrap IntKind.i64 ((↑(List.length b) : Int) + (9 : Int)) + Int.tmod (IntKind.wrap IntKind.i64 ((64 : Int) - Int.tmod (IntKind.wrap IntKind.i64 ((↑(List.length b) : Int) + (9 : Int))) (64 : Int))) (64 : Int))) = Int.toNat (IntKind.wrap IntKind.i64 (IntKind.wrap IntKind.i64 (IntKind.wrap IntKind.i64 ((↑(List.length b) : Int) + (9 : Int)) + Int.tmod (IntKind.wrap IntKind.i64 ((64 : Int) - Int.tmod (IntKind.wrap IntKind.i64 ((↑(List.length b) : Int) + (9 : Int))) (64 : Int))) (64 : Int)) - (8 : Int))) then (0 : Nat) else (0 : Nat) + Int.toNat (IntKind.wrap IntKind.i64 (IntKind.wrap IntKind.i64 (IntKind.wrap IntKind.i64 ((↑(List.length b) : Int) + (9 : Int)) + Int.tmod (IntKind.wrap IntKind.i64 ((64 : Int) - Int.tmod (IntKind.wrap IntKind.i64 ((↑(List.length b) : Int) + (9 : Int))) (64 : Int))) (64 : Int)) - (8 : Int)))) (Int.toNat (IntKind.wrap IntKind.i64 (IntKind.wrap IntKind.i64 ((↑(List.length b) : Int) + (9 : Int)) + Int.tmod (IntKind.wrap IntKind.i64 ((64 : Int) - Int.tmod (IntKind.wrap IntKind.i64 ((↑(List.length b) : Int) + (9 : Int))) (64 : Int))) (64 : Int))) - Int.toNat (IntKind.wrap IntKind.i64 (IntKind.wrap IntKind.i64 (IntKind.wrap IntKind.i64 ((↑(List.length b) : Int) + (9 : Int)) + Int.tmod (IntKind.wrap IntKind.i64 ((64 : Int) - Int.tmod (IntKind.wrap IntKind.i64 ((↑(List.length b) : Int) + (9 : Int))) (64 : Int))) (64 : Int)) - (8 : Int)))) (bytesOf (Enc.enc (encInt IntKind.u8)) (List.take (8 : Nat) (List.drop (0 : Nat) (be8 (IntKind.wrap IntKind.u64 ((8 : Int) * IntKind.wrap IntKind.u64 (↑(List.length b) : Int))))))))) (And (Int.toNat (IntKind.wrap IntKind.i64 (IntKind.wrap IntKind.i64 ((↑(List.length b) : Int) + (9 : Int)) + Int.tmod (IntKind.wrap IntKind.i64 ((64 : Int) - Int.tmod (IntKind.wrap IntKind.i64 ((↑(List.length b) : Int) + (9 : Int))) (64 : Int))) (64 : Int))) ≤ Int.toNat (IntKind.wrap IntKind.i64 (IntKind.wrap IntKind.i64 ((↑(List.length b) : Int) + (9 : Int)) + Int.tmod (IntKind.wrap IntKind.i64 ((64 : Int) - Int.tmod (IntKind.wrap IntKind.i64 ((↑(List.length b) : Int) + (9 : Int))) (64 : Int))) (64 : Int)))) (And (∀ y : Int, ((true : Bool) = true)) (∀ x_1 : Value, (∃ o_1 : Value, (And (And (SV.view o_1 (1 : Nat) (Enc.enc (encInt IntKind.u8)) (padF b) = SV.view x_1 (1 : Nat) (Enc.enc (encInt IntKind.u8)) (List.take (Int.toNat (IntKind.wrap IntKind.i64 (IntKind.wrap IntKind.i64 ((↑(List.length b) : Int) + (9 : Int)) + Int.tmod (IntKind.wrap IntKind.i64 ((64 : Int) - Int.tmod (IntKind.wrap IntKind.i64 ((↑(List.length b) : Int) + (9 : Int))) (64 : Int))) (64 : Int)))) (List.drop (0 : Nat) (lay (bytesOf (Enc.enc (encInt IntKind.u8)) (List.set (lay (bytesOf (Enc.enc (encInt IntKind.u8)) (List.replicate (Int.toNat (IntKind.wrap IntKind.i64 (IntKind.wrap IntKind.i64 ((↑(List.length b) : Int) + (9 : Int)) + Int.tmod (IntKind.wrap IntKind.i64 ((64 : Int) - Int.tmod (IntKind.wrap IntKind.i64 ((↑(List.length b) : Int) + (9 : Int))) (64 : Int))) (64 : Int)))) (Enc.of (encInt IntKind.u8) ((0 : Int), ())))) (0 : Nat) (Int.toNat (IntKind.wrap IntKind.i64 (IntKind.wrap IntKind.i64 ((↑(List.length b) : Int) + (9 : Int)) + Int.tmod (IntKind.wrap IntKind.i64 ((64 : Int) - Int.tmod (IntKind.wrap IntKind.i64 ((↑(List.length b) : Int) + (9 : Int))) (64 : Int))) (64 : Int)))) (bytesOf (Enc.enc (encInt IntKind.u8)) b)) ((0 : Nat) + Int.toNat (↑(List.length b) : Int)) (Enc.of (encInt IntKind.u8) ((128 : Int), ())))) (if Int.toNat (IntKind.wrap IntKind.i64 (IntKind.wrap IntKind.i64 ((↑(List.length b) : Int) + (9 : Int)) + Int.tmod (IntKind.wrap IntKind.i64 ((64 : Int) - Int.tmod (IntKind.wrap IntKind.i64 ((↑(List.length b) : Int) + (9 : Int))) (64 : Int))) (64 : Int))) = Int.toNat (IntKind.wrap IntKind.i64 (IntKind.wrap IntKind.i64 (IntKind.wrap IntKind.i64 ((↑(List.length b) : Int) + (9 : Int)) + Int.tmod (IntKind.wrap IntKind.i64 ((64 : Int) - Int.tmod (IntKind.wrap IntKind.i64 ((↑(List.length b) : Int) + (9 : Int))) (64 : Int))) (64 : Int)) - (8 : Int))) then (0 : Nat) else (0 : Nat) + Int.toNat (IntKind.wrap IntKind.i64 (IntKind.wrap IntKind.i64 (IntKind.wrap IntKind.i64 ((↑(List.length b) : Int) + (9 : Int)) + Int.tmod (IntKind.wrap IntKind.i64 ((64 : Int) - Int.tmod (IntKind.wrap IntKind.i64 ((↑(List.length b) : Int) + (9 : Int))) (64 : Int))) (64 : Int)) - (8 : Int)))) (Int.toNat (IntKind.wrap IntKind.i64 (IntKind.wrap IntKind.i64 ((↑(List.length b) : Int) + (9 : Int)) + Int.tmod (IntKind.wrap IntKind.i64 ((64 : Int) - Int.tmod (IntKind.wrap IntKind.i64 ((↑(List.length b) : Int) + (9 : Int))) (64 : Int))) (64 : Int))) - Int.toNat (IntKind.wrap IntKind.i64 (IntKind.wrap IntKind.i64 (IntKind.wrap IntKind.i64 ((↑(List.length b) : Int) + (9 : Int)) + Int.tmod (IntKind.wrap IntKind.i64 ((64 : Int) - Int.tmod (IntKind.wrap IntKind.i64 ((↑(List.length b) : Int) + (9 : Int))) (64 : Int))) (64 : Int)) - (8 : Int)))) (bytesOf (Enc.enc (encInt IntKind.u8)) (List.take (8 : Nat) (List.drop (0 : Nat) (be8 (IntKind.wrap IntKind.u64 ((8 : Int) * IntKind.wrap IntKind.u64 (↑(List.length b) : Int))))))))))) True) (And True ((true : Bool) = true)))))))))))))))))))))))))))))))))) (by kernel_rfl) ?_
  have hN : padN b.length = b.length + 9 + (64 - (b.length + 9) % 64) % 64 := rfl
  have g1 : IntKind.i64.wrap ((b.length : Int) + 9) = ((b.length + 9 : Nat) : Int) := by rw [wrap64 (by omega) (by omega)]; omega
  have g2 : Int.tmod ((b.length + 9 : Nat) : Int) 64 = (((b.length + 9) % 64 : Nat) : Int) := rfl
  have g3 : IntKind.i64.wrap (64 - (((b.length + 9) % 64 : Nat) : Int)) = ((64 - (b.length + 9) % 64 : Nat) : Int) := by rw [wrap64 (by omega) (by omega)]; omega
  have g4 : Int.tmod ((64 - (b.length + 9) % 64 : Nat) : Int) 64 = (((64 - (b.length + 9) % 64) % 64 : Nat) : Int) := rfl
  have g5 : IntKind.i64.wrap (((b.length + 9 : Nat) : Int) + (((64 - (b.length + 9) % 64) % 64 : Nat) : Int)) = (padN b.length : Int) := by rw [wrap64 (by omega) (by omega), hN]; omega
  have g6 : IntKind.i64.wrap ((padN b.length : Int) - 8) = ((padN b.length - 8 : Nat) : Int) := by rw [wrap64 (by omega) (by omega)]; omega
  have g7 : IntKind.u64.wrap (8 * IntKind.u64.wrap (b.length : Int)) = bitN b.length := by rw [wrapU64, wrapU64]; unfold bitN; omega
  simp only [g1, g2, g3, g4, g5, g6, g7, Int.toNat_natCast, ofB, bytesB, List.length_replicate, castB]
  have g8 : (if padN b.length = padN b.length - 8 then 0 else padN b.length - 8) = padN b.length - 8 := by rw [if_neg (by omega)]
  have ht : List.take 8 (be8 (bitN b.length)) = be8 (bitN b.length) := rfl
  have hL : (lay (List.replicate (padN b.length) (0 : Int)) 0 (padN b.length) b).length = padN b.length := by rw [lay_length] <;> simp
  simp only [g8, ht, Nat.zero_add, List.drop_zero, pad_lay b (padN b.length - (padN b.length - 8)) (by omega), padF_length, List.length_set, hL]
  repeat (with_reducible refine And.intro (by first | exact trivial | omega | decide | exact isB _) ?_)
  refine ⟨by omega, ?_⟩
  repeat (with_reducible refine And.intro (by first | exact trivial | omega | decide | exact isB _) ?_)
  intro _
  repeat (with_reducible refine And.intro (by first | exact trivial | omega | decide | exact isB _ | exact fun _ => trivial) ?_)
  intro y
  have hp : List.take (padN b.length) (padF b) = padF b := List.take_of_length_le (by rw [padF_length]; exact Nat.le_refl _)
  rw [hp]
  refine ⟨y, ?_⟩
  repeat' first | exact trivial | refine And.intro ?_ ?_ | with_reducible refine bif_dt (by assumption) ?_ | with_reducible refine bif_df (by assumption) ?_ | with_reducible refine bif_dec (fun _ => ?_) (fun _ => ?_) | with_reducible refine bif_not ?_ | with_reducible refine bif_and ?_ | with_reducible refine bif_or ?_ | with_reducible refine bif_t (by assumption) ?_ | with_reducible refine bif_f (by assumption) ?_ | with_reducible refine bif_t (beq_self_eq_true _) ?_ | with_reducible refine bif_b (fun _ => ?_) (fun _ => ?_) | with_reducible refine ⟨_, Eq.refl (List.map _ _), ?_⟩ | (with_reducible refine Exists.intro (by omega) ?_) | rfl | (intro h0; omega) | omega
def padT : MT := fun ms n h K => match ms with
  | [.one (.view vx0 ve0 en0 vl0)] => bif Nat.beq ve0 1 && noDup [] then ∃ b : List (Int), vl0.map en0 = b.map eB ∧ ((By b ∧ b.length ≤ 140737488351232)) ∧ (∀ y : Value, K (n + 0) (byV y (padF b)) ([] ++ delL [] h)) else False
  | _ => False
theorem pad_mono : MMono padT := by
  intro ms n h K K' hkk hk
  unfold padT at hk ⊢
  split at hk
  · rename_i vx0 ve0 va0 en0 vl0
    obtain ⟨hb, y0, z0, h1, h2⟩ := cond_false_elim hk
    rw [hb]
    exact ⟨y0, z0, h1, fun o => hkk _ _ _ (h2 o)⟩
  · exact hk.elim
theorem pad_ok : MOK Tryd.prog 102 padT := by
  refine ⟨?_, pad_mono⟩
  intro ms n hB K hk
  unfold padT at hk
  split at hk
  · rename_i vx0 ve0 va0 en0 vl0
    obtain ⟨hb, b, he0, h, hk2⟩ := cond_false_elim hk
    clear hk
    simp only [Bool.and_eq_true] at hb
    obtain ⟨hc0, hnd⟩ := hb
    have hs0 := Nat.eq_of_beq_eq_true hc0
    subst hs0
    refine SCall.seen ?_ (.cons (.view he0) .nil)
    exact (pad_spec _ h.1 h.2).use (fun _ => 0) rfl rfl trivial hnd (fun j hj => absurd hj (Nat.not_lt_zero j)) (fun o => hk2 o)
  · exact hk.elim

end Go.Proofs.YtblapbjafbmndaaDoor
