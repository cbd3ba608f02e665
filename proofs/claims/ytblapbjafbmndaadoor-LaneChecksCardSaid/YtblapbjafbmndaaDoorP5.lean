/- Digests, by the program and by the document. -/
import Derived.Test.YtblapbjafbmndaaDoorP4
import Derived.Test.YtblapbjafbmndaaDoorSx24
namespace Go.Proofs.YtblapbjafbmndaaDoor
open Go Go.Sx Go.Sha
set_option linter.unusedVariables false
set_option linter.unusedSimpArgs false
set_option maxRecDepth 100000
set_option maxHeartbeats 4000000

structure RsT (n : Nat) where
  i : Nat
  y : Value
  h : 64 * i ≤ n

theorem outStep (s : List Int) (i : Nat) (h : i < 32) : IntKind.i64.wrap (24 - IntKind.i64.wrap (8 * Int.tmod (i : Int) 4)) = ((24 - 8 * (i % 4) : Nat) : Int) := by
  have g2 : Int.tmod (i : Int) 4 = ((i % 4 : Nat) : Int) := rfl
  rw [g2, wrap64 (x := 8 * ((i % 4 : Nat) : Int)) (by omega) (by omega), wrap64 (by omega) (by omega)]
  omega
theorem quo4 (i : Nat) (h : i < 32) : IntKind.i64.wrap (Int.tdiv (i : Int) 4) = ((i / 4 : Nat) : Int) := by
  have g2 : Int.tdiv (i : Int) 4 = ((i / 4 : Nat) : Int) := rfl
  rw [g2, wrap64 (by omega) (by omega)]

theorem rsum_spec (x : Value) {b s k : List Int} (hb : By b) (hl : b.length ≤ 140737488351232) (hs : s.length = 8) (hsW : ∀ x ∈ s, W x) :
    SFun Tryd.prog 65 [byV x b, .agg [.ints .u32 8 s], .agg [.ints .u32 64 k]] (h32 (sumF k s b)) := by
  refine SFun.inm [] SOK.nil [(102, padT), (103, rblockT)] (MSOK.cons pad_ok (MSOK.cons rblock_ok MSOK.nil)) tok mixed [] IOK.nil false [(3, ⟨RsT (padN b.length), fun p => ⟨3, [(4, .one (.ptr 0 0)), (5, .one (.ptr 1 0)), (6, .one (.ptr 2 0)), (7, byV p.y (padF b)), (8, int ((64 * p.i : Nat) : Int))], [(0, .cells [.ints .u32 8 (foldF k s (padF b) p.i)]), (1, .cells [.ints .u32 64 k]), (2, .cells [.ints .u8 32 (List.replicate 32 0)])]⟩, fun p => padN b.length / 64 - p.i, fun _ _ => True⟩), (8, ⟨NiT 32, fun p => ⟨4, [(4, .one (.ptr 0 0)), (6, .one (.ptr 2 0)), (9, .one (.ptr 3 0)), (10, int p.i)], [(0, .cells [.ints .u32 8 (foldF k s (padF b) (padN b.length / 64))]), (2, .cells [.ints .u8 32 (List.replicate 32 0)]), (3, .cells [.ints .u8 32 (outL (foldF k s (padF b) (padN b.length / 64)) p.i)])]⟩, fun p => 32 - p.i, fun _ _ => True⟩)] [] Tryd.call65 Tryd.func65 rfl (by rfl) ?_
  refine Eq.mp (α := (∃ b_1 : List Int, (And (List.map (Enc.enc (encInt IntKind.u8)) b = List.map eB b_1) (And (And (∀ x_1 : Int, (∀ a : x_1 ∈ b_1, (And ((0 : Int) ≤ x_1) (x_1 < (256 : Int))))) (List.length b_1 ≤ (140737488351232 : Nat))) (∀ y : Value, (∃ i0 : RsT (padN (List.length b)), (And (And True (And (And (And ((true : Bool) = true) ((0 : Nat) = (0 : Nat))) (And (And ((true : Bool) = true) ((0 : Nat) = (0 : Nat))) (And (And ((true : Bool) = true) ((0 : Nat) = (0 : Nat))) (And (SV.view (RsT.y i0) (1 : Nat) (Enc.enc (encInt IntKind.u8)) (padF b) = SV.view y (1 : Nat) (Enc.enc (encInt IntKind.u8)) (padF b_1)) (And ((↑((64 : Nat) * RsT.i i0) : Int) = (0 : Int)) True))))) (And (And (And (foldF k s (padF b) (RsT.i i0) = s) True) (And ((true : Bool) = true) (And (And (k = k) True) (And ((true : Bool) = true) (And (And (List.replicate (32 : Nat) (0 : Int) = List.replicate (32 : Nat) (0 : Int)) True) (And ((true : Bool) = true) True)))))) ((true : Bool) = true)))) (∀ i : RsT (padN (List.length b)), (∀ a : True, (@Bool.rec (fun _ => Prop) (∃ i0_1 : NiT (32 : Nat), (And (And True (And (And (And ((true : Bool) = true) ((0 : Nat) = (0 : Nat))) (And (And ((true : Bool) = true) ((0 : Nat) = (0 : Nat))) (And (And ((true : Bool) = true) ((0 : Nat) = (0 : Nat))) (And ((↑(NiT.i i0_1) : Int) = (0 : Int)) True)))) (And (And (And (foldF k s (padF b) (padN (List.length b) / (64 : Nat)) = foldF k s (padF b) (RsT.i i)) True) (And ((true : Bool) = true) (And (And (List.replicate (32 : Nat) (0 : Int) = List.replicate (32 : Nat) (0 : Int)) True) (And ((true : Bool) = true) (And (And (outL (foldF k s (padF b) (padN (List.length b) / (64 : Nat))) (NiT.i i0_1) = List.replicate (32 : Nat) (0 : Int)) True) (And ((true : Bool) = true) True)))))) ((true : Bool) = true)))) (∀ i_1 : NiT (32 : Nat), (∀ a_1 : True, (@Bool.rec (fun _ => Prop) (And (M.agg [SV.ints IntKind.u8 (32 : Nat) (outL (foldF k s (padF b) (padN (List.length b) / (64 : Nat))) (NiT.i i_1))] = M.agg [SV.ints IntKind.u8 (32 : Nat) (sumF k s b)]) ((true : Bool) = true)) (And ((4 : Int) ≠ (0 : Int)) (And ((0 : Int) ≤ IntKind.wrap IntKind.i64 (Int.tdiv (↑(NiT.i i_1) : Int) (4 : Int))) (And (Int.toNat (IntKind.wrap IntKind.i64 (Int.tdiv (↑(NiT.i i_1) : Int) (4 : Int))) < (8 : Nat)) (And (Int.toNat (IntKind.wrap IntKind.i64 (Int.tdiv (↑(NiT.i i_1) : Int) (4 : Int))) < (8 : Nat)) (And ((4 : Int) ≠ (0 : Int)) (And ((0 : Int) ≤ IntKind.wrap IntKind.u64 (IntKind.wrap IntKind.i64 ((24 : Int) - IntKind.wrap IntKind.i64 ((8 : Int) * Int.tmod (↑(NiT.i i_1) : Int) (4 : Int))))) (And ((0 : Int) ≤ (↑(NiT.i i_1) : Int)) (And (Int.toNat (↑(NiT.i i_1) : Int) < (32 : Nat)) (And (Int.toNat (↑(NiT.i i_1) : Int) < (32 : Nat)) (∃ i' : NiT (32 : Nat), (And (And ((32 : Nat) - NiT.i i' < (32 : Nat) - NiT.i i_1) True) (And (And (And ((true : Bool) = true) ((0 : Nat) = (0 : Nat))) (And (And ((true : Bool) = true) ((0 : Nat) = (0 : Nat))) (And (And ((true : Bool) = true) ((0 : Nat) = (0 : Nat))) (And ((↑(NiT.i i') : Int) = IntKind.wrap IntKind.i64 ((↑(NiT.i i_1) : Int) + (1 : Int))) True)))) (And (And (And (foldF k s (padF b) (padN (List.length b) / (64 : Nat)) = foldF k s (padF b) (padN (List.length b) / (64 : Nat))) True) (And ((true : Bool) = true) (And (And (List.replicate (32 : Nat) (0 : Int) = List.replicate (32 : Nat) (0 : Int)) True) (And ((true : Bool) = true) (And (And (outL (foldF k s (padF b) (padN (List.length b) / (64 : Nat))) (NiT.i i') = List.set (outL (foldF k s (padF b) (padN (List.length b) / (64 : Nat))) (NiT.i i_1)) (Int.toNat (↑(NiT.i i_1) : Int)) (IntKind.wrap IntKind.u8 (shr IntKind.u32 (List.getD (foldF k s (padF b) (padN (List.length b) / (64 : Nat))) (Int.toNat (IntKind.wrap IntKind.i64 (Int.tdiv (↑(NiT.i i_1) : Int) (4 : Int)))) (0 : Int)) (IntKind.wrap IntKind.u64 (IntKind.wrap IntKind.i64 ((24 : Int) - IntKind.wrap IntKind.i64 ((8 : Int) * Int.tmod (↑(NiT.i i_1) : Int) (4 : Int)))))))) True) (And ((true : Bool) = true) True)))))) ((true : Bool) = true)))))))))))))) (decide ((↑(NiT.i i_1) : Int) < (32 : Int)))))))) (And ((0 : Int) ≤ IntKind.wrap IntKind.i64 ((↑((64 : Nat) * RsT.i i) : Int) + (64 : Int))) (And ((0 : Int) ≤ (↑((64 : Nat) * RsT.i i) : Int)) (And (Int.toNat (↑((64 : Nat) * RsT.i i) : Int) ≤ Int.toNat (IntKind.wrap IntKind.i64 ((↑((64 : Nat) * RsT.i i) : Int) + (64 : Int)))) (And (Int.toNat (IntKind.wrap IntKind.i64 ((↑((64 : Nat) * RsT.i i) : Int) + (64 : Int))) ≤ List.length (padF b)) (∃ b_2 : List Int, (And (List.map (Enc.enc (encInt IntKind.u8)) (List.take (Int.toNat (IntKind.wrap IntKind.i64 ((↑((64 : Nat) * RsT.i i) : Int) + (64 : Int))) - Int.toNat (↑((64 : Nat) * RsT.i i) : Int)) (List.drop (Int.toNat (↑((64 : Nat) * RsT.i i) : Int)) (padF b))) = List.map eB b_2) (And (And (List.length (foldF k s (padF b) (RsT.i i)) = (8 : Nat)) (And (∀ x_1 : Int, (∀ a_1 : x_1 ∈ foldF k s (padF b) (RsT.i i), (And ((0 : Int) ≤ x_1) (x_1 < (4294967296 : Int))))) (And (∀ x_1 : Int, (∀ a_1 : x_1 ∈ b_2, (And ((0 : Int) ≤ x_1) (x_1 < (256 : Int))))) ((64 : Nat) ≤ List.length b_2)))) (∀ o : Unit, (∃ i' : RsT (padN (List.length b)), (And (And (padN (List.length b) / (64 : Nat) - RsT.i i' < padN (List.length b) / (64 : Nat) - RsT.i i) True) (And (And (And ((true : Bool) = true) ((0 : Nat) = (0 : Nat))) (And (And ((true : Bool) = true) ((0 : Nat) = (0 : Nat))) (And (And ((true : Bool) = true) ((0 : Nat) = (0 : Nat))) (And (SV.view (RsT.y i') (1 : Nat) (Enc.enc (encInt IntKind.u8)) (padF b) = SV.view (RsT.y i) (1 : Nat) (Enc.enc (encInt IntKind.u8)) (padF b)) (And ((↑((64 : Nat) * RsT.i i') : Int) = IntKind.wrap IntKind.i64 ((↑((64 : Nat) * RsT.i i) : Int) + (64 : Int))) True))))) (And (And (And (foldF k s (padF b) (RsT.i i') = blockF k (foldF k s (padF b) (RsT.i i)) b_2) True) (And ((true : Bool) = true) (And (And (k = k) True) (And ((true : Bool) = true) (And (And (List.replicate (32 : Nat) (0 : Int) = List.replicate (32 : Nat) (0 : Int)) True) (And ((true : Bool) = true) True)))))) ((true : Bool) = true))))))))))))) (decide ((↑((64 : Nat) * RsT.i i) : Int) < (↑(List.length (padF b)) : Int))))))))))))) (by kernel_rfl) ?_
  refine ⟨b, rfl, ⟨hb, hl⟩, fun y => ?_⟩
  refine ⟨⟨0, y, Nat.zero_le _⟩, ?_, ?_⟩
  ·
    repeat' first | exact trivial | refine And.intro ?_ ?_ | with_reducible refine bif_dt (by assumption) ?_ | with_reducible refine bif_df (by assumption) ?_ | with_reducible refine bif_dec (fun _ => ?_) (fun _ => ?_) | with_reducible refine bif_not ?_ | with_reducible refine bif_and ?_ | with_reducible refine bif_or ?_ | with_reducible refine bif_t (by assumption) ?_ | with_reducible refine bif_f (by assumption) ?_ | with_reducible refine bif_t (beq_self_eq_true _) ?_ | with_reducible refine bif_b (fun _ => ?_) (fun _ => ?_) | with_reducible refine ⟨_, Eq.refl (List.map _ _), ?_⟩ | (with_reducible refine Exists.intro (by omega) ?_) | rfl | (intro h0; omega) | omega
  rintro ⟨i, y, hi⟩ -
  dsimp only
  have hN := padN_mod b.length
  have hp : padN b.length ≤ b.length + 128 := by unfold padN; omega
  have g1 : IntKind.i64.wrap (((64 * i : Nat) : Int) + 64) = ((64 * (i + 1) : Nat) : Int) := by rw [wrap64 (by omega) (by omega)]; omega
  simp only [padF_length, g1, Int.toNat_natCast]
  refine bif_dec (fun h => ?_) (fun h => ?_)
  · have hi' : i < padN b.length / 64 := by omega
    have ht : List.take (64 * (i + 1) - 64 * i) (List.drop (64 * i) (padF b)) = List.take 64 (List.drop (64 * i) (padF b)) := by congr 1; omega
    have hlen : (List.take 64 (List.drop (64 * i) (padF b))).length = 64 := by simp [padF_length]; omega
    have hbf : blockF k (foldF k s (padF b) i) (List.take 64 (List.drop (64 * i) (padF b))) = foldF k s (padF b) (i + 1) := by
      simp only [foldF]
      refine blockF_congr fun j hj => ?_
      rw [List.getD_eq_getElem?_getD, List.getD_eq_getElem?_getD, List.getElem?_take, if_pos hj]
    simp only [ht]
    repeat (with_reducible refine And.intro (by first | exact trivial | omega | decide) ?_)
    refine ⟨_, rfl, ⟨foldF_length hs i, foldF_W hsW i, ((padF_By hb).drop _).take _, by omega⟩, fun _ => ?_⟩
    refine ⟨⟨i + 1, y, by omega⟩, ⟨by show padN b.length / 64 - (i + 1) < padN b.length / 64 - i; omega, trivial⟩, ?_⟩
    repeat' first | exact hbf.symm | exact trivial | refine And.intro ?_ ?_ | with_reducible refine bif_dt (by assumption) ?_ | with_reducible refine bif_df (by assumption) ?_ | with_reducible refine bif_dec (fun _ => ?_) (fun _ => ?_) | with_reducible refine bif_not ?_ | with_reducible refine bif_and ?_ | with_reducible refine bif_or ?_ | with_reducible refine bif_t (by assumption) ?_ | with_reducible refine bif_f (by assumption) ?_ | with_reducible refine bif_t (beq_self_eq_true _) ?_ | with_reducible refine bif_b (fun _ => ?_) (fun _ => ?_) | with_reducible refine ⟨_, Eq.refl (List.map _ _), ?_⟩ | (with_reducible refine Exists.intro (by omega) ?_) | rfl | (intro h0; omega) | omega
  have hi64 : i = padN b.length / 64 := by omega
  subst hi64
  refine ⟨⟨0, Nat.zero_le _⟩, ?_, ?_⟩
  ·
    repeat' first | exact trivial | refine And.intro ?_ ?_ | with_reducible refine bif_dt (by assumption) ?_ | with_reducible refine bif_df (by assumption) ?_ | with_reducible refine bif_dec (fun _ => ?_) (fun _ => ?_) | with_reducible refine bif_not ?_ | with_reducible refine bif_and ?_ | with_reducible refine bif_or ?_ | with_reducible refine bif_t (by assumption) ?_ | with_reducible refine bif_f (by assumption) ?_ | with_reducible refine bif_t (beq_self_eq_true _) ?_ | with_reducible refine bif_b (fun _ => ?_) (fun _ => ?_) | with_reducible refine ⟨_, Eq.refl (List.map _ _), ?_⟩ | (with_reducible refine Exists.intro (by omega) ?_) | rfl | (intro h0; omega) | omega
  rintro ⟨i, hi2⟩ -
  dsimp only
  have hi4 : IntKind.i64.wrap ((i : Int) + 1) = ((i + 1 : Nat) : Int) := by rw [wrap64 (by omega) (by omega)]; omega
  refine bif_dec (fun h => ?_) (fun h => ?_)
  · have hw : IntKind.u64.wrap ((24 - 8 * (i % 4) : Nat) : Int) = ((24 - 8 * (i % 4) : Nat) : Int) := by rw [wrapU64]; omega
    simp only [hi4, outStep s i (by omega), quo4 i (by omega), hw, Int.toNat_natCast]
    repeat (with_reducible refine And.intro (by first | exact trivial | omega | decide) ?_)
    refine ⟨⟨i + 1, by omega⟩, ⟨by show 32 - (i + 1) < 32 - i; omega, trivial⟩, ?_⟩
    repeat' first | exact trivial | refine And.intro ?_ ?_ | with_reducible refine bif_dt (by assumption) ?_ | with_reducible refine bif_df (by assumption) ?_ | with_reducible refine bif_dec (fun _ => ?_) (fun _ => ?_) | with_reducible refine bif_not ?_ | with_reducible refine bif_and ?_ | with_reducible refine bif_or ?_ | with_reducible refine bif_t (by assumption) ?_ | with_reducible refine bif_f (by assumption) ?_ | with_reducible refine bif_t (beq_self_eq_true _) ?_ | with_reducible refine bif_b (fun _ => ?_) (fun _ => ?_) | with_reducible refine ⟨_, Eq.refl (List.map _ _), ?_⟩ | (with_reducible refine Exists.intro (by omega) ?_) | rfl | (intro h0; omega) | omega
  have hi64 : i = 32 := by omega
  subst hi64
  repeat' first | exact trivial | refine And.intro ?_ ?_ | with_reducible refine bif_dt (by assumption) ?_ | with_reducible refine bif_df (by assumption) ?_ | with_reducible refine bif_dec (fun _ => ?_) (fun _ => ?_) | with_reducible refine bif_not ?_ | with_reducible refine bif_and ?_ | with_reducible refine bif_or ?_ | with_reducible refine bif_t (by assumption) ?_ | with_reducible refine bif_f (by assumption) ?_ | with_reducible refine bif_t (beq_self_eq_true _) ?_ | with_reducible refine bif_b (fun _ => ?_) (fun _ => ?_) | with_reducible refine ⟨_, Eq.refl (List.map _ _), ?_⟩ | (with_reducible refine Exists.intro (by omega) ?_) | rfl | (intro h0; omega) | omega
def rsumT : List M → (M → Prop) → Prop
  | [.one (.view x0 es0 en0 l0), .agg [.ints .u32 8 s], .agg [.ints .u32 64 k]], K => bif Nat.beq es0 1 then ∃ b : List (Int), l0.map en0 = b.map eB ∧ ((By b ∧ b.length ≤ 140737488351232 ∧ s.length = 8 ∧ (∀ x ∈ s, W x)) ∧ K (h32 (sumF k s b))) else False
  | _, _ => False
theorem rsum_ok : POK Tryd.prog 65 rsumT := by
  intro ms K h
  unfold rsumT at h ⊢
  split at h
  · obtain ⟨hb0, b, he0, h0⟩ := cond_false_elim (b := Nat.beq _ _) h
    have hs0 := Nat.eq_of_beq_eq_true hb0
    subst hs0
    exact ⟨_, h0.2, (rsum_spec _ h0.1.1 h0.1.2.1 h0.1.2.2.1 h0.1.2.2.2).seen (.cons (.view he0) (.cons (.refl _) (.cons (.refl _) .nil))), rfl, fun _ hk => by show cond _ _ _; refine (show cond true _ _ from ⟨_, he0, ?_⟩); exact ⟨h0.1, hk⟩⟩
  · exact h.elim

theorem firstW : ∀ x ∈ firstL, W x := by
  intro x hx
  simp only [firstL, List.mem_cons, List.not_mem_nil, or_false] at hx
  unfold W
  omega
/-- The digest of bytes. -/
theorem shaEx : ∃ f : List Int → List Int, f = sumF roundsL firstL := ⟨_, rfl⟩
noncomputable def shaF : List Int → List Int := Classical.choose shaEx
theorem shaF_eq (b : List Int) : shaF b = sumF roundsL firstL b := congrFun (Classical.choose_spec shaEx) b
theorem shaF_length (b : List Int) : (shaF b).length = 32 := by rw [shaF_eq]; exact sumF_length _ _ _
theorem shaF_By (b : List Int) : By (shaF b) := by rw [shaF_eq]; exact sumF_By _ _ _
theorem rSum_spec (x : Value) {b : List Int} (hb : By b) (hl : b.length ≤ 140737488351232) : SFun Tryd.prog 18 [byV x b] (h32 (shaF b)) := by
  rw [shaF_eq]
  refine SFun.inm [(65, rsumT), (64, rtableT)] (SOK.cons rsum_ok (SOK.cons rtable_ok SOK.nil)) [] MSOK.nil tok mixed [] IOK.nil true [] [] Tryd.call18 Tryd.func18 rfl (by rfl) ?_
  refine Eq.mp (α := (∃ b_1 : List Int, (And (List.map (Enc.enc (encInt IntKind.u8)) b = List.map eB b_1) (And (And (∀ x_1 : Int, (∀ a : x_1 ∈ b_1, (And ((0 : Int) ≤ x_1) (x_1 < (256 : Int))))) (And (List.length b_1 ≤ (140737488351232 : Nat)) (And ((8 : Nat) = (8 : Nat)) (∀ x_1 : Int, (∀ a : x_1 ∈ firstL, (And ((0 : Int) ≤ x_1) (x_1 < (4294967296 : Int)))))))) (And (M.agg [SV.ints IntKind.u8 (32 : Nat) (sumF roundsL firstL b_1)] = M.agg [SV.ints IntKind.u8 (32 : Nat) (sumF roundsL firstL b)]) ((true : Bool) = true)))))) (by kernel_rfl) ?_
  refine ⟨b, rfl, ⟨hb, hl, rfl, firstW⟩, ?_⟩
  repeat' first | exact trivial | refine And.intro ?_ ?_ | with_reducible refine bif_dt (by assumption) ?_ | with_reducible refine bif_df (by assumption) ?_ | with_reducible refine bif_dec (fun _ => ?_) (fun _ => ?_) | with_reducible refine bif_not ?_ | with_reducible refine bif_and ?_ | with_reducible refine bif_or ?_ | with_reducible refine bif_t (by assumption) ?_ | with_reducible refine bif_f (by assumption) ?_ | with_reducible refine bif_t (beq_self_eq_true _) ?_ | with_reducible refine bif_b (fun _ => ?_) (fun _ => ?_) | with_reducible refine ⟨_, Eq.refl (List.map _ _), ?_⟩ | (with_reducible refine Exists.intro (by omega) ?_) | rfl | (intro h0; omega) | omega
def rSumT : List M → (M → Prop) → Prop
  | [.one (.view x0 es0 en0 l0)], K => bif Nat.beq es0 1 then ∃ b : List (Int), l0.map en0 = b.map eB ∧ ((By b ∧ b.length ≤ 140737488351232) ∧ K (h32 (shaF b))) else False
  | _, _ => False
theorem rSum_ok : POK Tryd.prog 18 rSumT := by
  intro ms K h
  unfold rSumT at h ⊢
  split at h
  · obtain ⟨hb0, b, he0, h0⟩ := cond_false_elim (b := Nat.beq _ _) h
    have hs0 := Nat.eq_of_beq_eq_true hb0
    subst hs0
    exact ⟨_, h0.2, (rSum_spec _ h0.1.1 h0.1.2).seen (.cons (.view he0) .nil), rfl, fun _ hk => by show cond _ _ _; refine (show cond true _ _ from ⟨_, he0, ?_⟩); exact ⟨h0.1, hk⟩⟩
  · exact h.elim

end Go.Proofs.YtblapbjafbmndaaDoor
