/- Bytes. -/
import Derived.Test.YtjdlefkpoggocaaQ30
import Derived.Test.YtjdlefkpoggocaaSx22
import Derived.Test.YtjdlefkpoggocaaWW
import Derived.Test.YtjdlefkpoggocaaSx24
namespace Go.Proofs.Ytjdlefkpoggocaa
open Go Go.Sx Go.Wide
set_option linter.unusedVariables false
set_option linter.unusedSimpArgs false
set_option maxRecDepth 100000
set_option maxHeartbeats 4000000

abbrev eB : Int → List SV := (encInt .u8).enc
abbrev byV (x : Value) (b : List Int) : M := .one (.view x 1 (encInt .u8).enc b)
structure BiT (x : Nat) where
  i : Nat
  l : List Int
  h : BI x i l
structure RbT where
  q : Nat
  r : Nat
  cap : Nat
  hq : q ≤ 4
  hr : r ≤ 8
  hc : 8 * q + r ≤ cap
  hl : 8 * q + r ≤ 32
structure CapT (n : Nat) where
  cap : Nat
  h : n ≤ cap
theorem wrap8n (n : Nat) : IntKind.u8.wrap (n : Int) = ((n % 256 : Nat) : Int) := by
  simp [IntKind.wrap, IntKind.bits, IntKind.signed]
theorem i8div {i : Nat} (h : i < 256) : IntKind.i64.wrap (Int.tdiv (i : Int) 8) = ((i / 8 : Nat) : Int) := by
  have : Int.tdiv (i : Int) 8 = ((i / 8 : Nat) : Int) := rfl
  rw [this, wrap64 (by omega) (by omega)]
theorem i8mod {i : Nat} : IntKind.i64.wrap (8 * Int.tmod (i : Int) 8) = ((8 * (i % 8) : Nat) : Int) := by
  have : Int.tmod (i : Int) 8 = ((i % 8 : Nat) : Int) := rfl
  rw [this, wrap64 (by omega) (by omega)]
  omega
theorem i31 {i : Nat} (h : i < 32) : IntKind.i64.wrap (31 - (i : Int)) = ((31 - i : Nat) : Int) := by rw [wrap64 (by omega) (by omega)]; omega
theorem inext {i : Nat} (h : i < 1000000) : IntKind.i64.wrap ((i : Int) + 1) = ((i + 1 : Nat) : Int) := by rw [wrap64 (by omega) (by omega)]; omega
/-- The i-th byte of a number. -/
theorem byteN {a : List Int} (ha : L4 a) {i : Nat} (hi : i < 32) : IntKind.u8.wrap (shr .u64 (a.getD (i / 8) 0) ((8 * (i % 8) : Nat) : Int)) = ((N a / 256 ^ i % 256 : Nat) : Int) := by
  have hag : a.getD (i / 8) 0 = ((N a / N64 ^ (i / 8) % N64 : Nat) : Int) := by
    have := limbs_getD (W := N64) (k := 4) (j := i / 8) (N a) (by omega)
    rwa [show limbs N64 4 (N a) = a from L_N ha] at this
  rw [hag, shr_nat _ _ (by omega), wrap8n, byte_of]

theorem bytes_spec {a : List Int} (ha : L4 a) : SMem Try.prog 22 [w4 a] 0 [] (fun _ : Unit => ⟨1, .one (.slc 0 1 0 32 32), [(0, .row 1 (encInt .u8) (by32 (N a)) 32)]⟩) := by
  refine SMem.inm [] SOK.nil [] MSOK.nil tok mixed [] IOK.nil true [(3, ⟨BiT (N a), fun p => ⟨2, [(1, .one (.ptr 0 0)), (3, .one (.slc 1 1 0 32 32)), (7, int 32), (8, int p.i)], [(0, .cells [.ints .u64 4 a]), (1, .row 1 (encInt .u8) p.l 32)]⟩, fun p => 32 - p.i, fun _ _ => True⟩)] [] Try.call22 Try.func22 rfl (by rfl) ?_
  refine Eq.mp (α := (And ((0 : Int) ≤ (32 : Int)) (And ((0 : Int) ≤ (32 : Int)) (And (Int.toNat (32 : Int) ≤ Int.toNat (32 : Int)) (And ((1 : Nat) * Int.toNat (32 : Int) ≤ (281474976710656 : Nat)) (And (Int.toNat (32 : Int) ≤ (9223372036854775807 : Nat)) (∃ i0 : BiT (N a), (And (And True (And (And (And ((true : Bool) = true) ((0 : Nat) = (0 : Nat))) (And (And ((true : Bool) = true) (And ((0 : Nat) = (0 : Nat)) (And ((32 : Nat) = Int.toNat (32 : Int)) ((32 : Nat) = Int.toNat (32 : Int))))) (And ((32 : Int) = (↑(Int.toNat (32 : Int)) : Int)) (And ((↑(BiT.i i0) : Int) = (0 : Int)) True)))) (And (And (And (a = a) True) (And ((true : Bool) = true) (And (And ((true : Bool) = true) (And ((32 : Nat) = Int.toNat (32 : Int)) (And (List.map (Enc.enc (encInt IntKind.u8)) (BiT.l i0) = List.map (Enc.enc (encInt IntKind.u8)) (List.replicate (Int.toNat (32 : Int)) (Enc.of (encInt IntKind.u8) ((0 : Int), ())))) (∀ x : Int, (∀ a_1 : x ∈ BiT.l i0, (∀ s : SV, (∀ a_2 : s ∈ Enc.enc (encInt IntKind.u8) x, ((SV.isPure s : Bool) = true)))))))) (And ((true : Bool) = true) True)))) ((true : Bool) = true)))) (∀ i : BiT (N a), (∀ a_1 : True, (@Bool.rec (fun _ => Prop) (∃ o : Unit, (And (And (And ((true : Bool) = true) (And ((0 : Nat) = (0 : Nat)) (And ((32 : Nat) = (32 : Nat)) ((32 : Nat) = (32 : Nat))))) True) (And (And (And ((true : Bool) = true) (And ((32 : Nat) = (32 : Nat)) (And (List.map (Enc.enc (encInt IntKind.u8)) (by32 (N a)) = List.map (Enc.enc (encInt IntKind.u8)) (BiT.l i)) (∀ x : Int, (∀ a_2 : x ∈ by32 (N a), (∀ s : SV, (∀ a_3 : s ∈ Enc.enc (encInt IntKind.u8) x, ((SV.isPure s : Bool) = true)))))))) (And ((true : Bool) = true) True)) ((true : Bool) = true)))) (And ((8 : Int) ≠ (0 : Int)) (And ((0 : Int) ≤ IntKind.wrap IntKind.i64 (Int.tdiv (↑(BiT.i i) : Int) (8 : Int))) (And (Int.toNat (IntKind.wrap IntKind.i64 (Int.tdiv (↑(BiT.i i) : Int) (8 : Int))) < (4 : Nat)) (And (Int.toNat (IntKind.wrap IntKind.i64 (Int.tdiv (↑(BiT.i i) : Int) (8 : Int))) < (4 : Nat)) (And ((8 : Int) ≠ (0 : Int)) (And ((0 : Int) ≤ IntKind.wrap IntKind.i64 ((8 : Int) * Int.tmod (↑(BiT.i i) : Int) (8 : Int))) (And ((0 : Int) ≤ IntKind.wrap IntKind.i64 ((31 : Int) - (↑(BiT.i i) : Int))) (And (Int.toNat (IntKind.wrap IntKind.i64 ((31 : Int) - (↑(BiT.i i) : Int))) < (32 : Nat)) (∃ hi : (0 : Nat) + Int.toNat (IntKind.wrap IntKind.i64 ((31 : Int) - (↑(BiT.i i) : Int))) < List.length (BiT.l i), (∃ i' : BiT (N a), (And (And ((32 : Nat) - BiT.i i' < (32 : Nat) - BiT.i i) True) (And (And (And ((true : Bool) = true) ((0 : Nat) = (0 : Nat))) (And (And ((true : Bool) = true) (And ((0 : Nat) = (0 : Nat)) (And ((32 : Nat) = (32 : Nat)) ((32 : Nat) = (32 : Nat))))) (And ((32 : Int) = (32 : Int)) (And ((↑(BiT.i i') : Int) = IntKind.wrap IntKind.i64 ((↑(BiT.i i) : Int) + (1 : Int))) True)))) (And (And (And (a = a) True) (And ((true : Bool) = true) (And (And ((true : Bool) = true) (And ((32 : Nat) = (32 : Nat)) (And (List.map (Enc.enc (encInt IntKind.u8)) (BiT.l i') = List.map (Enc.enc (encInt IntKind.u8)) (List.set (BiT.l i) ((0 : Nat) + Int.toNat (IntKind.wrap IntKind.i64 ((31 : Int) - (↑(BiT.i i) : Int)))) (Enc.of (encInt IntKind.u8) (IntKind.wrap IntKind.u8 (shr IntKind.u64 (List.getD a (Int.toNat (IntKind.wrap IntKind.i64 (Int.tdiv (↑(BiT.i i) : Int) (8 : Int)))) (0 : Int)) (IntKind.wrap IntKind.i64 ((8 : Int) * Int.tmod (↑(BiT.i i) : Int) (8 : Int)))), ())))) (∀ x : Int, (∀ a_2 : x ∈ BiT.l i', (∀ s : SV, (∀ a_3 : s ∈ Enc.enc (encInt IntKind.u8) x, ((SV.isPure s : Bool) = true)))))))) (And ((true : Bool) = true) True)))) ((true : Bool) = true)))))))))))))) (decide ((↑(BiT.i i) : Int) < (32 : Int)))))))))))))) (by kernel_rfl) ?_
  repeat (with_reducible refine And.intro (by first | exact trivial | omega | decide) ?_)
  refine ⟨⟨0, List.replicate 32 0, BI.start _ rfl⟩, ?_, ?_⟩
  ·
    repeat' first | exact encB_pure _ | exact trivial | refine And.intro ?_ ?_ | with_reducible refine bif_dt (by assumption) ?_ | with_reducible refine bif_df (by assumption) ?_ | with_reducible refine bif_dec (fun _ => ?_) (fun _ => ?_) | with_reducible refine bif_not ?_ | with_reducible refine bif_and ?_ | with_reducible refine bif_or ?_ | with_reducible refine bif_t (by assumption) ?_ | with_reducible refine bif_f (by assumption) ?_ | with_reducible refine bif_t (beq_self_eq_true _) ?_ | with_reducible refine bif_b (fun _ => ?_) (fun _ => ?_) | with_reducible refine ⟨_, Eq.refl (List.map _ _), ?_⟩ | (with_reducible refine Exists.intro (by omega) ?_) | rfl | (intro h0; omega) | omega
  rintro ⟨i, l, hB⟩ -
  dsimp only
  have hl := hB.2.1
  refine bif_dec (fun hi => ?_) (fun hi => ?_)
  · have hi' : i < 32 := by omega
    simp only [i8div (show i < 256 by omega), i8mod, i31 hi', inext (show i < 1000000 by omega), Int.toNat_natCast, byteN ha hi', ofB, Nat.zero_add]
    repeat (with_reducible refine And.intro (by first | exact trivial | omega | decide) ?_)
    refine ⟨by omega, ⟨i + 1, _, hB.step hi'⟩, ⟨show 32 - (i + 1) < 32 - i by omega, trivial⟩, ?_⟩
    repeat' first | exact encB_pure _ | exact trivial | refine And.intro ?_ ?_ | with_reducible refine bif_dt (by assumption) ?_ | with_reducible refine bif_df (by assumption) ?_ | with_reducible refine bif_dec (fun _ => ?_) (fun _ => ?_) | with_reducible refine bif_not ?_ | with_reducible refine bif_and ?_ | with_reducible refine bif_or ?_ | with_reducible refine bif_t (by assumption) ?_ | with_reducible refine bif_f (by assumption) ?_ | with_reducible refine bif_t (beq_self_eq_true _) ?_ | with_reducible refine bif_b (fun _ => ?_) (fun _ => ?_) | with_reducible refine ⟨_, Eq.refl (List.map _ _), ?_⟩ | (with_reducible refine Exists.intro (by omega) ?_) | rfl | (intro h0; omega) | omega
  · have := hB.end (by omega)
    subst this
    refine ⟨(), ?_⟩
    repeat' first | exact encB_pure _ | exact trivial | refine And.intro ?_ ?_ | with_reducible refine bif_dt (by assumption) ?_ | with_reducible refine bif_df (by assumption) ?_ | with_reducible refine bif_dec (fun _ => ?_) (fun _ => ?_) | with_reducible refine bif_not ?_ | with_reducible refine bif_and ?_ | with_reducible refine bif_or ?_ | with_reducible refine bif_t (by assumption) ?_ | with_reducible refine bif_f (by assumption) ?_ | with_reducible refine bif_t (beq_self_eq_true _) ?_ | with_reducible refine bif_b (fun _ => ?_) (fun _ => ?_) | with_reducible refine ⟨_, Eq.refl (List.map _ _), ?_⟩ | (with_reducible refine Exists.intro (by omega) ?_) | rfl | (intro h0; omega) | omega
def bytesT : MT := fun ms n h K => match ms with
  | [.agg [.ints .u64 4 a]] => bif true then (L4 a) ∧ (∀ o : Unit, K (n + 1) (.one (.slc n 1 0 32 32)) ([(n, .row 1 (encInt .u8) (by32 (N a)) 32)] ++ delL [] h)) else False
  | _ => False
theorem bytes_mono : MMono bytesT := by
  intro ms n h K K' hkk hk
  unfold bytesT at hk ⊢
  split at hk
  · rename_i a
    obtain ⟨hb, h1, h2⟩ := cond_false_elim hk
    rw [hb]
    exact ⟨h1, fun o => hkk _ _ _ (h2 o)⟩
  · exact hk.elim
theorem bytes_ok : MOK Try.prog 22 bytesT := by
  refine ⟨?_, bytes_mono⟩
  intro ms n hB K hk
  unfold bytesT at hk
  split at hk
  · rename_i a
    obtain ⟨hb, h, hk2⟩ := cond_false_elim hk
    clear hk
    have hnd : noDup [] = true := rfl
    refine SCall.seen ?_ (.cons (.refl _) .nil)
    exact (bytes_spec h).use (fun _ => 0) rfl rfl trivial hnd (fun j hj => absurd hj (Nat.not_lt_zero j)) (fun o => hk2 o)
  · exact hk.elim

theorem rbytes_spec {a : List Int} (ha : L4 a) : SMem Try.prog 35 [w4 a] 0 [] (fun c : CapT 32 => ⟨1, .one (.nslc 0 1 32 c.cap), [(0, .row 1 (encInt .u8) (by32 (N a)) c.cap)]⟩) := by
  refine SMem.inm [] SOK.nil [] MSOK.nil tok mixed [] IOK.nil true [(3, ⟨RbT, fun p => ⟨2, [(1, .one (.ptr 0 0)), (3, .one (.nslc 1 1 (8 * p.q) p.cap)), (4, int (3 - (p.q : Int)))], [(0, .cells [.ints .u64 4 a]), (1, .row 1 (encInt .u8) ((by32 (N a)).take (8 * p.q)) p.cap)]⟩, fun p => 4 - p.q, fun _ _ => True⟩), (6, ⟨RbT, fun p => ⟨2, [(1, .one (.ptr 0 0)), (3, .one (.nslc 1 1 (8 * p.q + p.r) p.cap)), (4, int (3 - (p.q : Int))), (5, int (56 - 8 * (p.r : Int)))], [(0, .cells [.ints .u64 4 a]), (1, .row 1 (encInt .u8) ((by32 (N a)).take (8 * p.q + p.r)) p.cap)]⟩, fun p => 8 - p.r, fun p q => q.q = p.q⟩)] [] Try.call35 Try.func35 rfl (by rfl) ?_
  refine Eq.mp (α := (∃ i0 : RbT, (And (And True (And (And (And ((true : Bool) = true) ((0 : Nat) = (0 : Nat))) (And (And ((true : Bool) = true) (And ((8 : Nat) * RbT.q i0 = (0 : Nat)) (RbT.cap i0 = (0 : Nat)))) (And ((3 : Int) - (↑(RbT.q i0) : Int) = (3 : Int)) True))) (And (And (And (a = a) True) (And ((true : Bool) = true) (And (And ((true : Bool) = true) (And (RbT.cap i0 = (0 : Nat)) (And (List.map (Enc.enc (encInt IntKind.u8)) (List.take ((8 : Nat) * RbT.q i0) (by32 (N a))) = List.map (Enc.enc (encInt IntKind.u8)) []) (∀ x : Int, (∀ a_1 : x ∈ List.take ((8 : Nat) * RbT.q i0) (by32 (N a)), (∀ s : SV, (∀ a_2 : s ∈ Enc.enc (encInt IntKind.u8) x, ((SV.isPure s : Bool) = true)))))))) (And ((true : Bool) = true) True)))) ((true : Bool) = true)))) (∀ i : RbT, (∀ a_1 : True, (@Bool.rec (fun _ => Prop) (∃ o : CapT (32 : Nat), (And (And (And ((true : Bool) = true) (And ((32 : Nat) = (8 : Nat) * RbT.q i) (CapT.cap o = RbT.cap i))) True) (And (And (And ((true : Bool) = true) (And (CapT.cap o = RbT.cap i) (And (List.map (Enc.enc (encInt IntKind.u8)) (by32 (N a)) = List.map (Enc.enc (encInt IntKind.u8)) (List.take ((8 : Nat) * RbT.q i) (by32 (N a)))) (∀ x : Int, (∀ a_2 : x ∈ by32 (N a), (∀ s : SV, (∀ a_3 : s ∈ Enc.enc (encInt IntKind.u8) x, ((SV.isPure s : Bool) = true)))))))) (And ((true : Bool) = true) True)) ((true : Bool) = true)))) (∃ i0_1 : RbT, (And (And (RbT.q i0_1 = RbT.q i0_1) (And (And (And ((true : Bool) = true) ((0 : Nat) = (0 : Nat))) (And (And ((true : Bool) = true) (And ((8 : Nat) * RbT.q i0_1 + RbT.r i0_1 = (8 : Nat) * RbT.q i) (RbT.cap i0_1 = RbT.cap i))) (And ((3 : Int) - (↑(RbT.q i0_1) : Int) = (3 : Int) - (↑(RbT.q i) : Int)) (And ((56 : Int) - (8 : Int) * (↑(RbT.r i0_1) : Int) = (56 : Int)) True)))) (And (And (And (a = a) True) (And ((true : Bool) = true) (And (And ((true : Bool) = true) (And (RbT.cap i0_1 = RbT.cap i) (And (List.map (Enc.enc (encInt IntKind.u8)) (List.take ((8 : Nat) * RbT.q i0_1 + RbT.r i0_1) (by32 (N a))) = List.map (Enc.enc (encInt IntKind.u8)) (List.take ((8 : Nat) * RbT.q i) (by32 (N a)))) (∀ x : Int, (∀ a_2 : x ∈ List.take ((8 : Nat) * RbT.q i0_1 + RbT.r i0_1) (by32 (N a)), (∀ s : SV, (∀ a_3 : s ∈ Enc.enc (encInt IntKind.u8) x, ((SV.isPure s : Bool) = true)))))))) (And ((true : Bool) = true) True)))) ((true : Bool) = true)))) (∀ i_1 : RbT, (∀ a_2 : RbT.q i_1 = RbT.q i0_1, (@Bool.rec (fun _ => Prop) (∃ i' : RbT, (And (And ((4 : Nat) - RbT.q i' < (4 : Nat) - RbT.q i) True) (And (And (And ((true : Bool) = true) ((0 : Nat) = (0 : Nat))) (And (And ((true : Bool) = true) (And ((8 : Nat) * RbT.q i' = (8 : Nat) * RbT.q i_1 + RbT.r i_1) (RbT.cap i' = RbT.cap i_1))) (And ((3 : Int) - (↑(RbT.q i') : Int) = IntKind.wrap IntKind.i64 ((3 : Int) - (↑(RbT.q i_1) : Int) - (1 : Int))) True))) (And (And (And (a = a) True) (And ((true : Bool) = true) (And (And ((true : Bool) = true) (And (RbT.cap i' = RbT.cap i_1) (And (List.map (Enc.enc (encInt IntKind.u8)) (List.take ((8 : Nat) * RbT.q i') (by32 (N a))) = List.map (Enc.enc (encInt IntKind.u8)) (List.take ((8 : Nat) * RbT.q i_1 + RbT.r i_1) (by32 (N a)))) (∀ x : Int, (∀ a_3 : x ∈ List.take ((8 : Nat) * RbT.q i') (by32 (N a)), (∀ s : SV, (∀ a_4 : s ∈ Enc.enc (encInt IntKind.u8) x, ((SV.isPure s : Bool) = true)))))))) (And ((true : Bool) = true) True)))) ((true : Bool) = true))))) (And ((0 : Int) ≤ (3 : Int) - (↑(RbT.q i_1) : Int)) (And (Int.toNat ((3 : Int) - (↑(RbT.q i_1) : Int)) < (4 : Nat)) (And (Int.toNat ((3 : Int) - (↑(RbT.q i_1) : Int)) < (4 : Nat)) (And ((0 : Int) ≤ IntKind.wrap IntKind.u64 ((56 : Int) - (8 : Int) * (↑(RbT.r i_1) : Int))) (And ((8 : Nat) * RbT.q i_1 + RbT.r i_1 = List.length (List.take ((8 : Nat) * RbT.q i_1 + RbT.r i_1) (by32 (N a)))) (And (RbT.cap i_1 = RbT.cap i_1) (And ((0 : Nat) + (1 : Nat) ≤ (1 : Nat)) (And ((List.length (List.take ((8 : Nat) * RbT.q i_1 + RbT.r i_1) (by32 (N a))) + (1 : Nat)) * (1 : Nat) ≤ (150000000000000 : Nat)) (∀ cap2 : Nat, (∀ a_3 : List.length (List.take ((8 : Nat) * RbT.q i_1 + RbT.r i_1) (by32 (N a))) + (1 : Nat) ≤ cap2, (∃ i' : RbT, (And (And ((8 : Nat) - RbT.r i' < (8 : Nat) - RbT.r i_1) (RbT.q i' = RbT.q i0_1)) (And (And (And ((true : Bool) = true) ((0 : Nat) = (0 : Nat))) (And (And ((true : Bool) = true) (And ((8 : Nat) * RbT.q i' + RbT.r i' = List.length (List.take ((8 : Nat) * RbT.q i_1 + RbT.r i_1) (by32 (N a)) ++ castL (encInt IntKind.u8) (encInt IntKind.u8) (List.take (1 : Nat) (List.drop (0 : Nat) [Enc.of (encInt IntKind.u8) (IntKind.wrap IntKind.u8 (shr IntKind.u64 (List.getD a (Int.toNat ((3 : Int) - (↑(RbT.q i_1) : Int))) (0 : Int)) (IntKind.wrap IntKind.u64 ((56 : Int) - (8 : Int) * (↑(RbT.r i_1) : Int)))), ())])))) (RbT.cap i' = cap2))) (And ((3 : Int) - (↑(RbT.q i') : Int) = (3 : Int) - (↑(RbT.q i_1) : Int)) (And ((56 : Int) - (8 : Int) * (↑(RbT.r i') : Int) = IntKind.wrap IntKind.i64 ((56 : Int) - (8 : Int) * (↑(RbT.r i_1) : Int) - (8 : Int))) True)))) (And (And (And (a = a) True) (And ((true : Bool) = true) (And (And ((true : Bool) = true) (And (RbT.cap i' = cap2) (And (List.map (Enc.enc (encInt IntKind.u8)) (List.take ((8 : Nat) * RbT.q i' + RbT.r i') (by32 (N a))) = List.map (Enc.enc (encInt IntKind.u8)) (List.take ((8 : Nat) * RbT.q i_1 + RbT.r i_1) (by32 (N a)) ++ castL (encInt IntKind.u8) (encInt IntKind.u8) (List.take (1 : Nat) (List.drop (0 : Nat) [Enc.of (encInt IntKind.u8) (IntKind.wrap IntKind.u8 (shr IntKind.u64 (List.getD a (Int.toNat ((3 : Int) - (↑(RbT.q i_1) : Int))) (0 : Int)) (IntKind.wrap IntKind.u64 ((56 : Int) - (8 : Int) * (↑(RbT.r i_1) : Int)))), ())])))) (∀ x : Int, (∀ a_4 : x ∈ List.take ((8 : Nat) * RbT.q i' + RbT.r i') (by32 (N a)), (∀ s : SV, (∀ a_5 : s ∈ Enc.enc (encInt IntKind.u8) x, ((SV.isPure s : Bool) = true)))))))) (And ((true : Bool) = true) True)))) ((true : Bool) = true))))))))))))))) (decide ((0 : Int) ≤ (56 : Int) - (8 : Int) * (↑(RbT.r i_1) : Int)))))))) (decide ((0 : Int) ≤ (3 : Int) - (↑(RbT.q i) : Int))))))))) (by kernel_rfl) ?_
  refine ⟨⟨0, 0, 0, by omega, by omega, by omega, by omega⟩, ?_, ?_⟩
  ·
    repeat' first | exact encB_pure _ | exact trivial | refine And.intro ?_ ?_ | with_reducible refine bif_dt (by assumption) ?_ | with_reducible refine bif_df (by assumption) ?_ | with_reducible refine bif_dec (fun _ => ?_) (fun _ => ?_) | with_reducible refine bif_not ?_ | with_reducible refine bif_and ?_ | with_reducible refine bif_or ?_ | with_reducible refine bif_t (by assumption) ?_ | with_reducible refine bif_f (by assumption) ?_ | with_reducible refine bif_t (beq_self_eq_true _) ?_ | with_reducible refine bif_b (fun _ => ?_) (fun _ => ?_) | with_reducible refine ⟨_, Eq.refl (List.map _ _), ?_⟩ | (with_reducible refine Exists.intro (by omega) ?_) | rfl | (intro h0; omega) | omega
  rintro ⟨q, r0, cap, hq, -, hc, -⟩ -
  dsimp only
  have hlen := by32_length (N a)
  refine bif_dec (fun hi => ?_) (fun hi => ?_)
  · refine ⟨⟨q, 0, cap, hq, by omega, by omega, by omega⟩, ?_, ?_⟩
    ·
      repeat' first | exact encB_pure _ | exact trivial | refine And.intro ?_ ?_ | with_reducible refine bif_dt (by assumption) ?_ | with_reducible refine bif_df (by assumption) ?_ | with_reducible refine bif_dec (fun _ => ?_) (fun _ => ?_) | with_reducible refine bif_not ?_ | with_reducible refine bif_and ?_ | with_reducible refine bif_or ?_ | with_reducible refine bif_t (by assumption) ?_ | with_reducible refine bif_f (by assumption) ?_ | with_reducible refine bif_t (beq_self_eq_true _) ?_ | with_reducible refine bif_b (fun _ => ?_) (fun _ => ?_) | with_reducible refine ⟨_, Eq.refl (List.map _ _), ?_⟩ | (with_reducible refine Exists.intro (by omega) ?_) | rfl | (intro h0; omega) | omega
    rintro ⟨q', r, cap', hq', hr, hc', hl'⟩ hqq
    simp only at hqq
    subst hqq
    dsimp only
    refine bif_dec (fun hk => ?_) (fun hk => ?_)
    · have hr7 : r < 8 := by omega
      have e1 : ((3 : Int) - (q' : Int)).toNat = 3 - q' := by omega
      have e2 : IntKind.u64.wrap (56 - 8 * (r : Int)) = ((56 - 8 * r : Nat) : Int) := by rw [wrap_u64]; omega
      have e3 : IntKind.i64.wrap (56 - 8 * (r : Int) - 8) = 56 - 8 * ((r + 1 : Nat) : Int) := by rw [wrap64 (by omega) (by omega)]; omega
      have eb := byteN ha (i := 31 - (8 * q' + r)) (by omega)
      rw [show (31 - (8 * q' + r)) / 8 = 3 - q' by omega, show 8 * ((31 - (8 * q' + r)) % 8) = 56 - 8 * r by omega] at eb
      have ht : (by32 (N a)).take (8 * q' + r) ++ [((N a / 256 ^ (31 - (8 * q' + r)) % 256 : Nat) : Int)] = (by32 (N a)).take (8 * q' + (r + 1)) := by
        have := by32_getD (x := N a) (k := 8 * q' + r) (by omega)
        rw [getD_at (by omega)] at this
        rw [← this, ← Nat.add_assoc, List.take_add_one, List.getElem?_eq_getElem (by omega)]
        rfl
      have hl : ((by32 (N a)).take (8 * q' + r)).length = 8 * q' + r := by rw [List.length_take, hlen]; omega
      simp only [e1, e2, e3, eb, castB, ofB, List.drop_zero, List.take_succ_cons, List.take_zero, ht, hl, Nat.zero_add]
      repeat (with_reducible refine And.intro (by first | exact trivial | omega | decide) ?_)
      intro cap2 hcap
      refine ⟨⟨q', r + 1, cap2, hq', by omega, by omega, by omega⟩, ⟨show 8 - (r + 1) < 8 - r by omega, rfl⟩, ?_⟩
      have hl2 : ((by32 (N a)).take (8 * q' + (r + 1))).length = 8 * q' + (r + 1) := by rw [List.length_take, hlen]; omega
      simp only [hl2]
      repeat' first | exact encB_pure _ | exact trivial | refine And.intro ?_ ?_ | with_reducible refine bif_dt (by assumption) ?_ | with_reducible refine bif_df (by assumption) ?_ | with_reducible refine bif_dec (fun _ => ?_) (fun _ => ?_) | with_reducible refine bif_not ?_ | with_reducible refine bif_and ?_ | with_reducible refine bif_or ?_ | with_reducible refine bif_t (by assumption) ?_ | with_reducible refine bif_f (by assumption) ?_ | with_reducible refine bif_t (beq_self_eq_true _) ?_ | with_reducible refine bif_b (fun _ => ?_) (fun _ => ?_) | with_reducible refine ⟨_, Eq.refl (List.map _ _), ?_⟩ | (with_reducible refine Exists.intro (by omega) ?_) | rfl | (intro h0; omega) | omega
    · have hr8 : r = 8 := by omega
      subst hr8
      have e3 : IntKind.i64.wrap (3 - (q' : Int) - 1) = 3 - ((q' + 1 : Nat) : Int) := by rw [wrap64 (by omega) (by omega)]; omega
      rw [e3]
      refine ⟨⟨q' + 1, 0, cap', by omega, by omega, by omega, by omega⟩, ⟨show 4 - (q' + 1) < 4 - q' by omega, trivial⟩, ?_⟩
      repeat' first | exact encB_pure _ | exact trivial | refine And.intro ?_ ?_ | with_reducible refine bif_dt (by assumption) ?_ | with_reducible refine bif_df (by assumption) ?_ | with_reducible refine bif_dec (fun _ => ?_) (fun _ => ?_) | with_reducible refine bif_not ?_ | with_reducible refine bif_and ?_ | with_reducible refine bif_or ?_ | with_reducible refine bif_t (by assumption) ?_ | with_reducible refine bif_f (by assumption) ?_ | with_reducible refine bif_t (beq_self_eq_true _) ?_ | with_reducible refine bif_b (fun _ => ?_) (fun _ => ?_) | with_reducible refine ⟨_, Eq.refl (List.map _ _), ?_⟩ | (with_reducible refine Exists.intro (by omega) ?_) | rfl | (intro h0; omega) | omega
  · have hq4 : q = 4 := by omega
    subst hq4
    rw [List.take_of_length_le (by omega)]
    refine ⟨⟨cap, by omega⟩, ?_⟩
    repeat' first | exact encB_pure _ | exact trivial | refine And.intro ?_ ?_ | with_reducible refine bif_dt (by assumption) ?_ | with_reducible refine bif_df (by assumption) ?_ | with_reducible refine bif_dec (fun _ => ?_) (fun _ => ?_) | with_reducible refine bif_not ?_ | with_reducible refine bif_and ?_ | with_reducible refine bif_or ?_ | with_reducible refine bif_t (by assumption) ?_ | with_reducible refine bif_f (by assumption) ?_ | with_reducible refine bif_t (beq_self_eq_true _) ?_ | with_reducible refine bif_b (fun _ => ?_) (fun _ => ?_) | with_reducible refine ⟨_, Eq.refl (List.map _ _), ?_⟩ | (with_reducible refine Exists.intro (by omega) ?_) | rfl | (intro h0; omega) | omega
def rbytesT : MT := fun ms n h K => match ms with
  | [.agg [.ints .u64 4 a]] => bif true then (L4 a) ∧ (∀ o : CapT 32, K (n + 1) (.one (.nslc n 1 32 o.cap)) ([(n, .row 1 (encInt .u8) (by32 (N a)) o.cap)] ++ delL [] h)) else False
  | _ => False
theorem rbytes_mono : MMono rbytesT := by
  intro ms n h K K' hkk hk
  unfold rbytesT at hk ⊢
  split at hk
  · rename_i a
    obtain ⟨hb, h1, h2⟩ := cond_false_elim hk
    rw [hb]
    exact ⟨h1, fun o => hkk _ _ _ (h2 o)⟩
  · exact hk.elim
theorem rbytes_ok : MOK Try.prog 35 rbytesT := by
  refine ⟨?_, rbytes_mono⟩
  intro ms n hB K hk
  unfold rbytesT at hk
  split at hk
  · rename_i a
    obtain ⟨hb, h, hk2⟩ := cond_false_elim hk
    clear hk
    have hnd : noDup [] = true := rfl
    refine SCall.seen ?_ (.cons (.refl _) .nil)
    exact (rbytes_spec h).use (fun _ => 0) rfl rfl trivial hnd (fun j hj => absurd hj (Nat.not_lt_zero j)) (fun o => hk2 o)
  · exact hk.elim

end Go.Proofs.Ytjdlefkpoggocaa
