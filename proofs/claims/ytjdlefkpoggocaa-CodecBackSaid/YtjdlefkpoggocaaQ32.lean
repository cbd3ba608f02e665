/- Bytes. -/
import Derived.Test.YtjdlefkpoggocaaQ31
import Derived.Test.YtjdlefkpoggocaaWW
import Derived.Test.YtjdlefkpoggocaaSx24
namespace Go.Proofs.Ytjdlefkpoggocaa
open Go Go.Sx Go.Wide
set_option linter.unusedVariables false
set_option linter.unusedSimpArgs false
set_option maxRecDepth 100000
set_option maxHeartbeats 4000000

abbrev eB : Int → List SV := (encInt .u8).enc
abbrev byV (x : Value) (b : List Int) : M := .one (.view x 1 (encInt .u8).enc b)
def fromR (b : List Int) : Nat × Int := bif decide (b.length = 32) then (ofBy b, 0) else (0, 21)

structure BiT (x : Nat) where
  i : Nat
  l : List Int
  h : BI x i l
structure CapT (n : Nat) where
  cap : Nat
  h : n ≤ cap
structure NiT (n : Nat) where
  i : Nat
  h : i ≤ n

theorem wrap8n (n : Nat) : IntKind.u8.wrap (n : Int) = ((n % 256 : Nat) : Int) := by
  simp [IntKind.wrap, IntKind.bits, IntKind.signed]
theorem i8div {i : Nat} (h : i < 256) : IntKind.i64.wrap (Int.tdiv (i : Int) 8) = ((i / 8 : Nat) : Int) := by
  have : Int.tdiv (i : Int) 8 = ((i / 8 : Nat) : Int) := rfl
  rw [this, wrap64 (by omega) (by omega)]
theorem i8mod {i : Nat} : IntKind.i64.wrap (8 * Int.tmod (i : Int) 8) = ((8 * (i % 8) : Nat) : Int) := by
  have : Int.tmod (i : Int) 8 = ((i % 8 : Nat) : Int) := rfl
  rw [this, wrap64 (by omega) (by omega)]
  omega
theorem i31 {i : Nat} (h : i < 32) : IntKind.i64.wrap (31 - (i : Int)) = ((31 - i : Nat) : Int) := by rw [wrap64 (by omega) (by omega)]; omega
theorem inext {i : Nat} (h : i < 1000000) : IntKind.i64.wrap ((i : Int) + 1) = ((i + 1 : Nat) : Int) := by rw [wrap64 (by omega) (by omega)]; omega
/-- The i-th byte of a number. -/
theorem byteN {a : List Int} (ha : L4 a) {i : Nat} (hi : i < 32) : IntKind.u8.wrap (shr .u64 (a.getD (i / 8) 0) ((8 * (i % 8) : Nat) : Int)) = ((N a / 256 ^ i % 256 : Nat) : Int) := by
  have hag : a.getD (i / 8) 0 = ((N a / N64 ^ (i / 8) % N64 : Nat) : Int) := by
    have := limbs_getD (W := N64) (k := 4) (j := i / 8) (N a) (by omega)
    rwa [show limbs N64 4 (N a) = a from L_N ha] at this
  rw [hag, shr_nat _ _ (by omega), wrap8n, byte_of]

theorem bytes_spec {a : List Int} (ha : L4 a) : SMem Try.prog 22 [w4 a] 0 [] (fun _ : Unit => ⟨1, .one (.slc 0 1 0 32 32), [(0, .row 1 (encInt .u8) (by32 (N a)) 32)]⟩) := by
  refine SMem.inm [] SOK.nil [] MSOK.nil tok mixed [] IOK.nil true [(3, ⟨BiT (N a), fun p => ⟨2, [(1, .one (.ptr 0 0)), (3, .one (.slc 1 1 0 32 32)), (7, int 32), (8, int p.i)], [(0, .cells [.ints .u64 4 a]), (1, .row 1 (encInt .u8) p.l 32)]⟩, fun p => 32 - p.i, fun _ _ => True⟩)] [] Try.call22 Try.func22 rfl (by rfl) ?_
  refine Eq.mp (α := (And ((0 : Int) ≤ (32 : Int)) (And ((0 : Int) ≤ (32 : Int)) (And (Int.toNat (32 : Int) ≤ Int.toNat (32 : Int)) (And ((1 : Nat) * Int.toNat (32 : Int) ≤ (281474976710656 : Nat)) (And (Int.toNat (32 : Int) ≤ (9223372036854775807 : Nat)) (∃ i0 : BiT (N a), (And (And True (And (And (And ((true : Bool) = true) ((0 : Nat) = (0 : Nat))) (And (And ((true : Bool) = true) (And ((0 : Nat) = (0 : Nat)) (And ((32 : Nat) = Int.toNat (32 : Int)) ((32 : Nat) = Int.toNat (32 : Int))))) (And ((32 : Int) = (↑(Int.toNat (32 : Int)) : Int)) (And ((↑(BiT.i i0) : Int) = (0 : Int)) True)))) (And (And (And (a = a) True) (And ((true : Bool) = true) (And (And ((true : Bool) = true) (And ((32 : Nat) = Int.toNat (32 : Int)) (And (List.map (Enc.enc (encInt IntKind.u8)) (BiT.l i0) = List.map (Enc.enc (encInt IntKind.u8)) (List.replicate (Int.toNat (32 : Int)) (Enc.of (encInt IntKind.u8) ((0 : Int), ())))) (∀ x : Int, (∀ a_1 : x ∈ BiT.l i0, (∀ s : SV, (∀ a_2 : s ∈ Enc.enc (encInt IntKind.u8) x, ((SV.isPure s : Bool) = true)))))))) (And ((true : Bool) = true) True)))) ((true : Bool) = true)))) (∀ i : BiT (N a), (∀ a_1 : True, (@Bool.rec (fun _ => Prop) (∃ o : Unit, (And (And (And ((true : Bool) = true) (And ((0 : Nat) = (0 : Nat)) (And ((32 : Nat) = (32 : Nat)) ((32 : Nat) = (32 : Nat))))) True) (And (And (And ((true : Bool) = true) (And ((32 : Nat) = (32 : Nat)) (And (List.map (Enc.enc (encInt IntKind.u8)) (by32 (N a)) = List.map (Enc.enc (encInt IntKind.u8)) (BiT.l i)) (∀ x : Int, (∀ a_2 : x ∈ by32 (N a), (∀ s : SV, (∀ a_3 : s ∈ Enc.enc (encInt IntKind.u8) x, ((SV.isPure s : Bool) = true)))))))) (And ((true : Bool) = true) True)) ((true : Bool) = true)))) (And ((8 : Int) ≠ (0 : Int)) (And ((0 : Int) ≤ IntKind.wrap IntKind.i64 (Int.tdiv (↑(BiT.i i) : Int) (8 : Int))) (And (Int.toNat (IntKind.wrap IntKind.i64 (Int.tdiv (↑(BiT.i i) : Int) (8 : Int))) < (4 : Nat)) (And (Int.toNat (IntKind.wrap IntKind.i64 (Int.tdiv (↑(BiT.i i) : Int) (8 : Int))) < (4 : Nat)) (And ((8 : Int) ≠ (0 : Int)) (And ((0 : Int) ≤ IntKind.wrap IntKind.i64 ((8 : Int) * Int.tmod (↑(BiT.i i) : Int) (8 : Int))) (And ((0 : Int) ≤ IntKind.wrap IntKind.i64 ((31 : Int) - (↑(BiT.i i) : Int))) (And (Int.toNat (IntKind.wrap IntKind.i64 ((31 : Int) - (↑(BiT.i i) : Int))) < (32 : Nat)) (∃ hi : (0 : Nat) + Int.toNat (IntKind.wrap IntKind.i64 ((31 : Int) - (↑(BiT.i i) : Int))) < List.length (BiT.l i), (∃ i' : BiT (N a), (And (And ((32 : Nat) - BiT.i i' < (32 : Nat) - BiT.i i) True) (And (And (And ((true : Bool) = true) ((0 : Nat) = (0 : Nat))) (And (And ((true : Bool) = true) (And ((0 : Nat) = (0 : Nat)) (And ((32 : Nat) = (32 : Nat)) ((32 : Nat) = (32 : Nat))))) (And ((32 : Int) = (32 : Int)) (And ((↑(BiT.i i') : Int) = IntKind.wrap IntKind.i64 ((↑(BiT.i i) : Int) + (1 : Int))) True)))) (And (And (And (a = a) True) (And ((true : Bool) = true) (And (And ((true : Bool) = true) (And ((32 : Nat) = (32 : Nat)) (And (List.map (Enc.enc (encInt IntKind.u8)) (BiT.l i') = List.map (Enc.enc (encInt IntKind.u8)) (List.set (BiT.l i) ((0 : Nat) + Int.toNat (IntKind.wrap IntKind.i64 ((31 : Int) - (↑(BiT.i i) : Int)))) (Enc.of (encInt IntKind.u8) (IntKind.wrap IntKind.u8 (shr IntKind.u64 (List.getD a (Int.toNat (IntKind.wrap IntKind.i64 (Int.tdiv (↑(BiT.i i) : Int) (8 : Int)))) (0 : Int)) (IntKind.wrap IntKind.i64 ((8 : Int) * Int.tmod (↑(BiT.i i) : Int) (8 : Int)))), ())))) (∀ x : Int, (∀ a_2 : x ∈ BiT.l i', (∀ s : SV, (∀ a_3 : s ∈ Enc.enc (encInt IntKind.u8) x, ((SV.isPure s : Bool) = true)))))))) (And ((true : Bool) = true) True)))) ((true : Bool) = true)))))))))))))) (decide ((↑(BiT.i i) : Int) < (32 : Int)))))))))))))) (by kernel_rfl) ?_
  repeat (with_reducible refine And.intro (by first | exact trivial | omega | decide) ?_)
  refine ⟨⟨0, List.replicate 32 0, BI.start _ rfl⟩, ?_, ?_⟩
  ·
    repeat' first | exact encB_pure _ | exact trivial | refine And.intro ?_ ?_ | with_reducible refine bif_dt (by assumption) ?_ | with_reducible refine bif_df (by assumption) ?_ | with_reducible refine bif_dec (fun _ => ?_) (fun _ => ?_) | with_reducible refine bif_not ?_ | with_reducible refine bif_and ?_ | with_reducible refine bif_or ?_ | with_reducible refine bif_t (by assumption) ?_ | with_reducible refine bif_f (by assumption) ?_ | with_reducible refine bif_t (beq_self_eq_true _) ?_ | with_reducible refine bif_b (fun _ => ?_) (fun _ => ?_) | with_reducible refine ⟨_, Eq.refl (List.map _ _), ?_⟩ | (with_reducible refine Exists.intro (by omega) ?_) | rfl | (intro h0; omega) | omega
  rintro ⟨i, l, hB⟩ -
  dsimp only
  have hl := hB.2.1
  refine bif_dec (fun hi => ?_) (fun hi => ?_)
  · have hi' : i < 32 := by omega
    simp only [i8div (show i < 256 by omega), i8mod, i31 hi', inext (show i < 1000000 by omega), Int.toNat_natCast, byteN ha hi', ofB, Nat.zero_add]
    repeat (with_reducible refine And.intro (by first | exact trivial | omega | decide) ?_)
    refine ⟨by omega, ⟨i + 1, _, hB.step hi'⟩, ⟨show 32 - (i + 1) < 32 - i by omega, trivial⟩, ?_⟩
    repeat' first | exact encB_pure _ | exact trivial | refine And.intro ?_ ?_ | with_reducible refine bif_dt (by assumption) ?_ | with_reducible refine bif_df (by assumption) ?_ | with_reducible refine bif_dec (fun _ => ?_) (fun _ => ?_) | with_reducible refine bif_not ?_ | with_reducible refine bif_and ?_ | with_reducible refine bif_or ?_ | with_reducible refine bif_t (by assumption) ?_ | with_reducible refine bif_f (by assumption) ?_ | with_reducible refine bif_t (beq_self_eq_true _) ?_ | with_reducible refine bif_b (fun _ => ?_) (fun _ => ?_) | with_reducible refine ⟨_, Eq.refl (List.map _ _), ?_⟩ | (with_reducible refine Exists.intro (by omega) ?_) | rfl | (intro h0; omega) | omega
  · have := hB.end (by omega)
    subst this
    refine ⟨(), ?_⟩
    repeat' first | exact encB_pure _ | exact trivial | refine And.intro ?_ ?_ | with_reducible refine bif_dt (by assumption) ?_ | with_reducible refine bif_df (by assumption) ?_ | with_reducible refine bif_dec (fun _ => ?_) (fun _ => ?_) | with_reducible refine bif_not ?_ | with_reducible refine bif_and ?_ | with_reducible refine bif_or ?_ | with_reducible refine bif_t (by assumption) ?_ | with_reducible refine bif_f (by assumption) ?_ | with_reducible refine bif_t (beq_self_eq_true _) ?_ | with_reducible refine bif_b (fun _ => ?_) (fun _ => ?_) | with_reducible refine ⟨_, Eq.refl (List.map _ _), ?_⟩ | (with_reducible refine Exists.intro (by omega) ?_) | rfl | (intro h0; omega) | omega
def bytesT : MT := fun ms n h K => match ms with
  | [.agg [.ints .u64 4 a]] => bif true then (L4 a) ∧ (∀ o : Unit, K (n + 1) (.one (.slc n 1 0 32 32)) ([(n, .row 1 (encInt .u8) (by32 (N a)) 32)] ++ delL [] h)) else False
  | _ => False
theorem bytes_mono : MMono bytesT := by
  intro ms n h K K' hkk hk
  unfold bytesT at hk ⊢
  split at hk
  · rename_i a
    obtain ⟨hb, h1, h2⟩ := cond_false_elim hk
    rw [hb]
    exact ⟨h1, fun o => hkk _ _ _ (h2 o)⟩
  · exact hk.elim
theorem bytes_ok : MOK Try.prog 22 bytesT := by
  refine ⟨?_, bytes_mono⟩
  intro ms n hB K hk
  unfold bytesT at hk
  split at hk
  · rename_i a
    obtain ⟨hb, h, hk2⟩ := cond_false_elim hk
    clear hk
    have hnd : noDup [] = true := rfl
    refine SCall.seen ?_ (.cons (.refl _) .nil)
    exact (bytes_spec h).use (fun _ => 0) rfl rfl trivial hnd (fun j hj => absurd hj (Nat.not_lt_zero j)) (fun o => hk2 o)
  · exact hk.elim

theorem from_spec (x : Value) {b : List Int} (hb : Dig 256 b) : SFun Try.prog 31 [byV x b] (.tup [w4 (L (fromR b).1), int (fromR b).2]) := by
  refine SFun.inl [] SOK.nil tok mixed [] IOK.nil true [(4, ⟨NiT 32, fun p => ⟨1, [(0, byV x b), (2, .one (.ptr 0 0)), (3, int 0), (10, int 32), (11, int p.i)], [(0, .cells [.ints .u64 4 (L (ofBy b % 256 ^ p.i))])]⟩, fun p => 32 - p.i, fun _ _ => True⟩)] [] Try.call31 Try.func31 rfl (by rfl) ?_
  refine Eq.mp (α := (@Bool.rec (fun _ => Prop) (∃ i0 : NiT (32 : Nat), (And (And True (And (And (SV.view x (1 : Nat) (Enc.enc (encInt IntKind.u8)) b = SV.view x (1 : Nat) (Enc.enc (encInt IntKind.u8)) b) (And (And ((true : Bool) = true) ((0 : Nat) = (0 : Nat))) (And ((0 : Int) = (0 : Int)) (And ((32 : Int) = (↑(List.length b) : Int)) (And ((↑(NiT.i i0) : Int) = (0 : Int)) True))))) (And (And (And (L (ofBy b % (256 : Nat) ^ NiT.i i0) = List.replicate (4 : Nat) (0 : Int)) True) (And ((true : Bool) = true) True)) ((true : Bool) = true)))) (∀ i : NiT (32 : Nat), (∀ a : True, (@Bool.rec (fun _ => Prop) (And (M.tup [M.agg [SV.ints IntKind.u64 (4 : Nat) (L (ofBy b % (256 : Nat) ^ NiT.i i))], M.one (SV.v (Value.int IntKind.i64 (0 : Int)))] = M.tup [M.agg [SV.ints IntKind.u64 (4 : Nat) (L (Prod.fst (fromR b)))], M.one (SV.v (Value.int IntKind.i64 (Prod.snd (fromR b))))]) ((true : Bool) = true)) (And ((8 : Int) ≠ (0 : Int)) (And ((0 : Int) ≤ IntKind.wrap IntKind.i64 (Int.tdiv (↑(NiT.i i) : Int) (8 : Int))) (And (Int.toNat (IntKind.wrap IntKind.i64 (Int.tdiv (↑(NiT.i i) : Int) (8 : Int))) < (4 : Nat)) (And (Int.toNat (IntKind.wrap IntKind.i64 (Int.tdiv (↑(NiT.i i) : Int) (8 : Int))) < (4 : Nat)) (And ((0 : Int) ≤ IntKind.wrap IntKind.i64 ((31 : Int) - (↑(NiT.i i) : Int))) (∃ hk : Int.toNat (IntKind.wrap IntKind.i64 ((31 : Int) - (↑(NiT.i i) : Int))) < List.length b, (And ((8 : Int) ≠ (0 : Int)) (And ((0 : Int) ≤ IntKind.wrap IntKind.i64 ((8 : Int) * Int.tmod (↑(NiT.i i) : Int) (8 : Int))) (And ((0 : Int) ≤ IntKind.wrap IntKind.i64 (Int.tdiv (↑(NiT.i i) : Int) (8 : Int))) (And (Int.toNat (IntKind.wrap IntKind.i64 (Int.tdiv (↑(NiT.i i) : Int) (8 : Int))) < (4 : Nat)) (And (Int.toNat (IntKind.wrap IntKind.i64 (Int.tdiv (↑(NiT.i i) : Int) (8 : Int))) < (4 : Nat)) (∃ i' : NiT (32 : Nat), (And (And ((32 : Nat) - NiT.i i' < (32 : Nat) - NiT.i i) True) (And (And (SV.view x (1 : Nat) (Enc.enc (encInt IntKind.u8)) b = SV.view x (1 : Nat) (Enc.enc (encInt IntKind.u8)) b) (And (And ((true : Bool) = true) ((0 : Nat) = (0 : Nat))) (And ((0 : Int) = (0 : Int)) (And ((32 : Int) = (32 : Int)) (And ((↑(NiT.i i') : Int) = IntKind.wrap IntKind.i64 ((↑(NiT.i i) : Int) + (1 : Int))) True))))) (And (And (And (L (ofBy b % (256 : Nat) ^ NiT.i i') = List.set (L (ofBy b % (256 : Nat) ^ NiT.i i)) (Int.toNat (IntKind.wrap IntKind.i64 (Int.tdiv (↑(NiT.i i) : Int) (8 : Int)))) (Sx.bits BinOp.or IntKind.u64 (List.getD (L (ofBy b % (256 : Nat) ^ NiT.i i)) (Int.toNat (IntKind.wrap IntKind.i64 (Int.tdiv (↑(NiT.i i) : Int) (8 : Int)))) (0 : Int)) (shl IntKind.u64 (IntKind.wrap IntKind.u64 b[Int.toNat (IntKind.wrap IntKind.i64 ((31 : Int) - (↑(NiT.i i) : Int)))]) (IntKind.wrap IntKind.i64 ((8 : Int) * Int.tmod (↑(NiT.i i) : Int) (8 : Int)))))) True) (And ((true : Bool) = true) True)) ((true : Bool) = true)))))))))))))))) (decide ((↑(NiT.i i) : Int) < (32 : Int)))))))) (And (M.tup [M.agg [SV.ints IntKind.u64 (4 : Nat) (List.replicate (4 : Nat) (0 : Int))], M.one (SV.v (Value.int IntKind.i64 (21 : Int)))] = M.tup [M.agg [SV.ints IntKind.u64 (4 : Nat) (L (Prod.fst (fromR b)))], M.one (SV.v (Value.int IntKind.i64 (Prod.snd (fromR b))))]) ((true : Bool) = true)) ((↑(List.length b) : Int) != (32 : Int)))) (by kernel_rfl) ?_
  have hne : ((b.length : Int) != 32) = !(decide (b.length = 32)) := by
    by_cases h : b.length = 32
    · rw [h]; rfl
    · rw [decide_eq_false h]
      simp only [Bool.not_false, bne_iff_ne, ne_eq]
      omega
  rw [hne]
  refine bif_not ?_
  unfold fromR
  refine bif_dec (fun h0 => ?_) (fun h0 => ?_)
  rotate_left
  · rw [decide_eq_false h0]
    simp only [cond_false, L_zero]
    repeat' first | exact trivial | refine And.intro ?_ ?_ | with_reducible refine bif_dt (by assumption) ?_ | with_reducible refine bif_df (by assumption) ?_ | with_reducible refine bif_dec (fun _ => ?_) (fun _ => ?_) | with_reducible refine bif_not ?_ | with_reducible refine bif_and ?_ | with_reducible refine bif_or ?_ | with_reducible refine bif_t (by assumption) ?_ | with_reducible refine bif_f (by assumption) ?_ | with_reducible refine bif_t (beq_self_eq_true _) ?_ | with_reducible refine bif_b (fun _ => ?_) (fun _ => ?_) | with_reducible refine ⟨_, Eq.refl (List.map _ _), ?_⟩ | (with_reducible refine Exists.intro (by omega) ?_) | rfl | (intro h0; omega) | omega
  rw [decide_eq_true h0]
  have hV := ofBy_lt h0 hb
  refine ⟨⟨0, by omega⟩, ?_, ?_⟩
  · simp only [h0, Nat.pow_zero, Nat.mod_one, L_zero]
    repeat' first | exact trivial | refine And.intro ?_ ?_ | with_reducible refine bif_dt (by assumption) ?_ | with_reducible refine bif_df (by assumption) ?_ | with_reducible refine bif_dec (fun _ => ?_) (fun _ => ?_) | with_reducible refine bif_not ?_ | with_reducible refine bif_and ?_ | with_reducible refine bif_or ?_ | with_reducible refine bif_t (by assumption) ?_ | with_reducible refine bif_f (by assumption) ?_ | with_reducible refine bif_t (beq_self_eq_true _) ?_ | with_reducible refine bif_b (fun _ => ?_) (fun _ => ?_) | with_reducible refine ⟨_, Eq.refl (List.map _ _), ?_⟩ | (with_reducible refine Exists.intro (by omega) ?_) | rfl | (intro h0; omega) | omega
  rintro ⟨i, hi32⟩ -
  dsimp only
  refine bif_dec (fun hi => ?_) (fun hi => ?_)
  · have hi' : i < 32 := by omega
    have hbyte := ofBy_byte h0 hb hi'
    rw [getD_at (by omega)] at hbyte
    have hor := or_byte (v := ofBy b % 256 ^ i) (t := ofBy b / 256 ^ i % 256) (Nat.mod_lt _ (Nat.pow_pos (by decide))) (Nat.mod_lt _ (by decide)) hi'
    rw [← low_step] at hor
    simp only [i8div (show i < 256 by omega), i8mod, i31 hi', inext (show i < 1000000 by omega), Int.toNat_natCast, hbyte, wrapn (show ofBy b / 256 ^ i % 256 < 18446744073709551616 by omega), hor]
    repeat (with_reducible refine And.intro (by first | exact trivial | omega | decide) ?_)
    refine ⟨by omega, ?_⟩
    repeat (with_reducible refine And.intro (by first | exact trivial | omega | decide) ?_)
    refine ⟨⟨i + 1, by omega⟩, ⟨show 32 - (i + 1) < 32 - i by omega, trivial⟩, ?_⟩
    repeat' first | exact trivial | refine And.intro ?_ ?_ | with_reducible refine bif_dt (by assumption) ?_ | with_reducible refine bif_df (by assumption) ?_ | with_reducible refine bif_dec (fun _ => ?_) (fun _ => ?_) | with_reducible refine bif_not ?_ | with_reducible refine bif_and ?_ | with_reducible refine bif_or ?_ | with_reducible refine bif_t (by assumption) ?_ | with_reducible refine bif_f (by assumption) ?_ | with_reducible refine bif_t (beq_self_eq_true _) ?_ | with_reducible refine bif_b (fun _ => ?_) (fun _ => ?_) | with_reducible refine ⟨_, Eq.refl (List.map _ _), ?_⟩ | (with_reducible refine Exists.intro (by omega) ?_) | rfl | (intro h0; omega) | omega
  · have : i = 32 := by omega
    subst this
    rw [Nat.mod_eq_of_lt hV]
    repeat' first | exact trivial | refine And.intro ?_ ?_ | with_reducible refine bif_dt (by assumption) ?_ | with_reducible refine bif_df (by assumption) ?_ | with_reducible refine bif_dec (fun _ => ?_) (fun _ => ?_) | with_reducible refine bif_not ?_ | with_reducible refine bif_and ?_ | with_reducible refine bif_or ?_ | with_reducible refine bif_t (by assumption) ?_ | with_reducible refine bif_f (by assumption) ?_ | with_reducible refine bif_t (beq_self_eq_true _) ?_ | with_reducible refine bif_b (fun _ => ?_) (fun _ => ?_) | with_reducible refine ⟨_, Eq.refl (List.map _ _), ?_⟩ | (with_reducible refine Exists.intro (by omega) ?_) | rfl | (intro h0; omega) | omega
def fromT : List M → (M → Prop) → Prop
  | [.one (.view x0 es0 en0 l0)], K => bif Nat.beq es0 1 then ∃ b : List (Int), l0.map en0 = b.map eB ∧ (Dig 256 b ∧ K (.tup [w4 (L (fromR b).1), int (fromR b).2])) else False
  | _, _ => False
theorem from_ok : POK Try.prog 31 fromT := by
  intro ms K h
  unfold fromT at h ⊢
  split at h
  · obtain ⟨hb0, b, he0, h0⟩ := cond_false_elim (b := Nat.beq _ _) h
    have hs0 := Nat.eq_of_beq_eq_true hb0
    subst hs0
    exact ⟨_, h0.2, (from_spec _ h0.1).seen (.cons (.view he0) .nil), rfl, fun _ hk => by show cond _ _ _; refine (show cond true _ _ from ⟨_, he0, ?_⟩); exact ⟨h0.1, hk⟩⟩
  · exact h.elim

end Go.Proofs.Ytjdlefkpoggocaa
