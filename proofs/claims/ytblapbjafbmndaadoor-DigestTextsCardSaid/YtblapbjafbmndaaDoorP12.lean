/- Digests as text, by the program. -/
import Derived.Test.YtblapbjafbmndaaDoorP9
import Derived.Test.YtblapbjafbmndaaDoorSx24
import Derived.Test.YtblapbjafbmndaaDoorD4
namespace Go.Proofs.YtblapbjafbmndaaDoor
open Go Go.Sx Go.Sha
set_option linter.unusedVariables false
set_option linter.unusedSimpArgs false
set_option maxRecDepth 100000
set_option maxHeartbeats 4000000

structure PrT (h : List Int) where
  i : Nat
  cap : Nat
  hi : i ≤ 32
  hc : (printF (h.take i)).length ≤ cap
structure QrT (h : List Int) where
  i : Nat
  s : ByteArray
  hi : i ≤ 32
  hs : sl s = printF (h.take i)
/-- The digits. -/
def digits : ByteArray := .mk #[48, 49, 50, 51, 52, 53, 54, 55, 56, 57, 97, 98, 99, 100, 101, 102]
theorem byteI {p : Int → Prop} [DecidablePred p] (h : ∀ x : Fin 256, p ((x.val : Nat) : Int)) {x : Int} (hx : 0 ≤ x ∧ x < 256) : p x := by
  have := h ⟨x.toNat, by omega⟩
  rwa [show ((x.toNat : Nat) : Int) = x by omega] at this
theorem shr4 {x : Int} (hx : 0 ≤ x ∧ x < 256) : shr .u8 x 4 = x / 16 := byteI (p := fun x => shr .u8 x 4 = x / 16) (by decide +kernel) hx
theorem and15 {x : Int} (hx : 0 ≤ x ∧ x < 256) : Sx.bits .and .u8 x 15 = x % 16 := byteI (p := fun x => Sx.bits .and .u8 x 15 = x % 16) (by decide +kernel) hx
theorem dig {x : Int} (hx : 0 ≤ x ∧ x < 16) : (sl digits).getD x.toNat 0 = hexd x := by
  have := (by decide +kernel : ∀ x : Fin 16, (sl digits).getD x.val 0 = hexd (x.val : Int)) ⟨x.toNat, by omega⟩
  rwa [show (((⟨x.toNat, by omega⟩ : Fin 16).val : Nat) : Int) = x by show ((x.toNat : Nat) : Int) = x; omega] at this
theorem print_step {h : List Int} {i : Nat} (hi : i < h.length) : printF (h.take i) ++ hex2 h[i] = printF (h.take (i + 1)) := flat_take hex2 h hi
theorem q16 {x : Int} (hx : 0 ≤ x ∧ x < 256) : IntKind.u8.wrap (x.tdiv 16) = x / 16 := byteI (p := fun x => IntKind.u8.wrap (x.tdiv 16) = x / 16) (by decide +kernel) hx
theorem q16' {x : Int} (hx : 0 ≤ x ∧ x < 256) : IntKind.u8.wrap (x / 16 + 1) = x / 16 + 1 := byteI (p := fun x => IntKind.u8.wrap (x / 16 + 1) = x / 16 + 1) (by decide +kernel) hx
theorem r16 {x : Int} (hx : 0 ≤ x ∧ x < 256) : x.tmod 16 = x % 16 := byteI (p := fun x => x.tmod 16 = x % 16) (by decide +kernel) hx
theorem r16' {x : Int} (hx : 0 ≤ x ∧ x < 256) : IntKind.u8.wrap (x % 16 + 1) = x % 16 + 1 := byteI (p := fun x => IntKind.u8.wrap (x % 16 + 1) = x % 16 + 1) (by decide +kernel) hx
theorem dig1 {x : Int} (hx : 0 ≤ x ∧ x < 16) : sl (digits.extract x.toNat (x + 1).toNat) = [hexd x] := by
  have := (by decide +kernel : ∀ x : Fin 16, sl (digits.extract (x.val : Int).toNat ((x.val : Int) + 1).toNat) = [hexd (x.val : Int)]) ⟨x.toNat, by omega⟩
  rwa [show (((⟨x.toNat, by omega⟩ : Fin 16).val : Nat) : Int) = x by show ((x.toNat : Nat) : Int) = x; omega] at this
theorem dig1s {x : Int} (hx : 0 ≤ x ∧ x < 16) : (digits.extract x.toNat (x + 1).toNat).size = 1 := by rw [← sl_length, dig1 hx]; rfl
theorem sl_app (s t : ByteArray) : sl (s ++ t) = sl s ++ sl t := by
  unfold sl
  simp
theorem num_spec (n : Int) : SFun Tryd.prog 31 [int n] (int n) := by
  refine SFun.inl [] SOK.nil tok mixed [] IOK.nil true [] [] Tryd.call31 Tryd.func31 rfl (by rfl) ?_
  refine Eq.mp (α := (And (M.one (SV.v (Value.int IntKind.i64 n)) = M.one (SV.v (Value.int IntKind.i64 n))) ((true : Bool) = true))) (by kernel_rfl) ?_
  repeat' first | exact trivial | refine And.intro ?_ ?_ | with_reducible refine bif_dt (by assumption) ?_ | with_reducible refine bif_df (by assumption) ?_ | with_reducible refine bif_dec (fun _ => ?_) (fun _ => ?_) | with_reducible refine bif_not ?_ | with_reducible refine bif_and ?_ | with_reducible refine bif_or ?_ | with_reducible refine bif_t (by assumption) ?_ | with_reducible refine bif_f (by assumption) ?_ | with_reducible refine bif_t (beq_self_eq_true _) ?_ | with_reducible refine bif_b (fun _ => ?_) (fun _ => ?_) | with_reducible refine ⟨_, Eq.refl (List.map _ _), ?_⟩ | (with_reducible refine Exists.intro (by omega) ?_) | rfl | (intro h0; omega) | omega
def numT : List M → (M → Prop) → Prop
  | [.one (.v (.int .i64 n))], K => K (int n)
  | _, _ => False
theorem num_ok : POK Tryd.prog 31 numT := by
  intro ms K h
  unfold numT at h ⊢
  split at h
  · exact ⟨_, h, (num_spec _), rfl, fun _ hk => hk⟩
  · exact h.elim

theorem print_spec {h : List Int} (hl : h.length = 32) (hB : By h) : SFun Tryd.prog 30 [h32 h] (str (strOfNums (printF h))) := by
  refine SFun.inl [] SOK.nil tok mixed [] IOK.nil true [(3, ⟨PrT h, fun p => ⟨2, [(3, .one (.nslc 1 1 (printF (h.take p.i)).length p.cap)), (6, h32 h), (7, int p.i)], [(1, .row 1 EB (printF (h.take p.i)) p.cap)]⟩, fun p => 32 - p.i, fun _ _ => True⟩)] [] Tryd.call30 Tryd.func30 rfl (by rfl) ?_
  refine Eq.mp (α := (∃ i0 : PrT h, (And (And True (And (And (And ((true : Bool) = true) (And (List.length (printF (List.take (PrT.i i0) h)) = (0 : Nat)) (PrT.cap i0 = (0 : Nat)))) (And (And (h = h) True) (And ((↑(PrT.i i0) : Int) = (0 : Int)) True))) (And (And (And ((true : Bool) = true) (And (PrT.cap i0 = (0 : Nat)) (And (List.map (Enc.enc EB) (printF (List.take (PrT.i i0) h)) = List.map (Enc.enc EB) []) (∀ x : Int, (∀ a : x ∈ printF (List.take (PrT.i i0) h), (∀ s : SV, (∀ a_1 : s ∈ Enc.enc EB x, ((SV.isPure s : Bool) = true)))))))) (And ((true : Bool) = true) True)) ((true : Bool) = true)))) (∀ i : PrT h, (∀ a : True, (@Bool.rec (fun _ => Prop) (And (List.length (printF (List.take (PrT.i i) h)) ≤ List.length (printF (List.take (PrT.i i) h))) (And (∀ x : Int, (∀ a_1 : x ∈ printF (List.take (PrT.i i) h), (∃ b : Int, (Enc.enc EB x = [SV.v (Value.int IntKind.u8 b)])))) (And (M.one (SV.v (Value.string (strOfNums (bytesOf (Enc.enc EB) (List.take (List.length (printF (List.take (PrT.i i) h))) (printF (List.take (PrT.i i) h))))))) = M.one (SV.v (Value.string (strOfNums (printF h))))) ((true : Bool) = true)))) (And ((0 : Int) ≤ (↑(PrT.i i) : Int)) (And (Int.toNat (↑(PrT.i i) : Int) < (32 : Nat)) (And (Int.toNat (↑(PrT.i i) : Int) < (32 : Nat)) (And ((0 : Int) ≤ (4 : Int)) (And ((0 : Int) ≤ shr IntKind.u8 (List.getD h (Int.toNat (↑(PrT.i i) : Int)) (0 : Int)) (4 : Int)) (And (Int.toNat (shr IntKind.u8 (List.getD h (Int.toNat (↑(PrT.i i) : Int)) (0 : Int)) (4 : Int)) < ByteArray.size { data := #[(48 : UInt8), (49 : UInt8), (50 : UInt8), (51 : UInt8), (52 : UInt8), (53 : UInt8), (54 : UInt8), (55 : UInt8), (56 : UInt8), (57 : UInt8), (97 : UInt8), (98 : UInt8), (99 : UInt8), (100 : UInt8), (101 : UInt8), (102 : UInt8)] }) (And ((0 : Int) ≤ Sx.bits BinOp.and IntKind.u8 (List.getD h (Int.toNat (↑(PrT.i i) : Int)) (0 : Int)) (15 : Int)) (And (Int.toNat (Sx.bits BinOp.and IntKind.u8 (List.getD h (Int.toNat (↑(PrT.i i) : Int)) (0 : Int)) (15 : Int)) < ByteArray.size { data := #[(48 : UInt8), (49 : UInt8), (50 : UInt8), (51 : UInt8), (52 : UInt8), (53 : UInt8), (54 : UInt8), (55 : UInt8), (56 : UInt8), (57 : UInt8), (97 : UInt8), (98 : UInt8), (99 : UInt8), (100 : UInt8), (101 : UInt8), (102 : UInt8)] }) (And (List.length (printF (List.take (PrT.i i) h)) = List.length (printF (List.take (PrT.i i) h))) (And (PrT.cap i = PrT.cap i) (And ((0 : Nat) + (2 : Nat) ≤ (2 : Nat)) (And ((List.length (printF (List.take (PrT.i i) h)) + (2 : Nat)) * (1 : Nat) ≤ (150000000000000 : Nat)) (∀ cap2 : Nat, (∀ a_1 : List.length (printF (List.take (PrT.i i) h)) + (2 : Nat) ≤ cap2, (∃ i' : PrT h, (And (And ((32 : Nat) - PrT.i i' < (32 : Nat) - PrT.i i) True) (And (And (And ((true : Bool) = true) (And (List.length (printF (List.take (PrT.i i') h)) = List.length (printF (List.take (PrT.i i) h) ++ castL (encInt IntKind.u8) EB (List.take (2 : Nat) (List.drop (0 : Nat) [Enc.of (encInt IntKind.u8) (List.getD (sl { data := #[(48 : UInt8), (49 : UInt8), (50 : UInt8), (51 : UInt8), (52 : UInt8), (53 : UInt8), (54 : UInt8), (55 : UInt8), (56 : UInt8), (57 : UInt8), (97 : UInt8), (98 : UInt8), (99 : UInt8), (100 : UInt8), (101 : UInt8), (102 : UInt8)] }) (Int.toNat (shr IntKind.u8 (List.getD h (Int.toNat (↑(PrT.i i) : Int)) (0 : Int)) (4 : Int))) (0 : Int), ()), Enc.of (encInt IntKind.u8) (List.getD (sl { data := #[(48 : UInt8), (49 : UInt8), (50 : UInt8), (51 : UInt8), (52 : UInt8), (53 : UInt8), (54 : UInt8), (55 : UInt8), (56 : UInt8), (57 : UInt8), (97 : UInt8), (98 : UInt8), (99 : UInt8), (100 : UInt8), (101 : UInt8), (102 : UInt8)] }) (Int.toNat (Sx.bits BinOp.and IntKind.u8 (List.getD h (Int.toNat (↑(PrT.i i) : Int)) (0 : Int)) (15 : Int))) (0 : Int), ())])))) (PrT.cap i' = cap2))) (And (And (h = h) True) (And ((↑(PrT.i i') : Int) = IntKind.wrap IntKind.i64 ((↑(PrT.i i) : Int) + (1 : Int))) True))) (And (And (And ((true : Bool) = true) (And (PrT.cap i' = cap2) (And (List.map (Enc.enc EB) (printF (List.take (PrT.i i') h)) = List.map (Enc.enc EB) (printF (List.take (PrT.i i) h) ++ castL (encInt IntKind.u8) EB (List.take (2 : Nat) (List.drop (0 : Nat) [Enc.of (encInt IntKind.u8) (List.getD (sl { data := #[(48 : UInt8), (49 : UInt8), (50 : UInt8), (51 : UInt8), (52 : UInt8), (53 : UInt8), (54 : UInt8), (55 : UInt8), (56 : UInt8), (57 : UInt8), (97 : UInt8), (98 : UInt8), (99 : UInt8), (100 : UInt8), (101 : UInt8), (102 : UInt8)] }) (Int.toNat (shr IntKind.u8 (List.getD h (Int.toNat (↑(PrT.i i) : Int)) (0 : Int)) (4 : Int))) (0 : Int), ()), Enc.of (encInt IntKind.u8) (List.getD (sl { data := #[(48 : UInt8), (49 : UInt8), (50 : UInt8), (51 : UInt8), (52 : UInt8), (53 : UInt8), (54 : UInt8), (55 : UInt8), (56 : UInt8), (57 : UInt8), (97 : UInt8), (98 : UInt8), (99 : UInt8), (100 : UInt8), (101 : UInt8), (102 : UInt8)] }) (Int.toNat (Sx.bits BinOp.and IntKind.u8 (List.getD h (Int.toNat (↑(PrT.i i) : Int)) (0 : Int)) (15 : Int))) (0 : Int), ())])))) (∀ x : Int, (∀ a_2 : x ∈ printF (List.take (PrT.i i') h), (∀ s : SV, (∀ a_3 : s ∈ Enc.enc EB x, ((SV.isPure s : Bool) = true)))))))) (And ((true : Bool) = true) True)) ((true : Bool) = true))))))))))))))))))) (decide ((↑(PrT.i i) : Int) < (32 : Int))))))))) (by kernel_rfl) ?_
  refine ⟨⟨0, 0, Nat.zero_le _, Nat.zero_le _⟩, ?_, ?_⟩
  ·
    repeat' first | exact encB_pure _ | exact trivial | refine And.intro ?_ ?_ | with_reducible refine bif_dt (by assumption) ?_ | with_reducible refine bif_df (by assumption) ?_ | with_reducible refine bif_dec (fun _ => ?_) (fun _ => ?_) | with_reducible refine bif_not ?_ | with_reducible refine bif_and ?_ | with_reducible refine bif_or ?_ | with_reducible refine bif_t (by assumption) ?_ | with_reducible refine bif_f (by assumption) ?_ | with_reducible refine bif_t (beq_self_eq_true _) ?_ | with_reducible refine bif_b (fun _ => ?_) (fun _ => ?_) | with_reducible refine ⟨_, Eq.refl (List.map _ _), ?_⟩ | (with_reducible refine Exists.intro (by omega) ?_) | rfl | (intro h0; omega) | omega
  rintro ⟨i, cap, hi, hc⟩ -
  dsimp only
  have hpl := printF_length (h.take i)
  rw [List.length_take, hl] at hpl
  refine bif_dec (fun h1 => ?_) (fun h1 => ?_)
  · have hi' : i < h.length := by omega
    have hx := hB _ (List.getElem_mem hi')
    have hg : h.getD i 0 = h[i] := by rw [List.getD_eq_getElem?_getD, List.getElem?_eq_getElem hi']; rfl
    have hd : ({ data := #[48, 49, 50, 51, 52, 53, 54, 55, 56, 57, 97, 98, 99, 100, 101, 102] } : ByteArray) = digits := rfl
    have hds : digits.size = 16 := rfl
    simp only [Int.toNat_natCast, hg, shr4 hx, and15 hx, hd, hds, dig (x := h[i] / 16) (by omega), dig (x := h[i] % 16) (by omega), castB, ofB, List.drop_zero, inext (show i < 9223372036854775807 by omega)]
    repeat (with_reducible refine And.intro (by first | exact trivial | omega | decide) ?_)
    intro c2 k2
    have e2 : List.take 2 [(encInt .u8).of ((sl digits).getD (h[i] / 16).toNat 0, ()), (encInt .u8).of ((sl digits).getD (h[i] % 16).toNat 0, ())] = hex2 h[i] := by
      rw [ofB, ofB, dig (x := h[i] / 16) (by omega), dig (x := h[i] % 16) (by omega)]
      rfl
    erw [e2]
    rw [print_step hi']
    have hpl2 := printF_length (h.take (i + 1))
    rw [List.length_take, hl] at hpl2
    refine ⟨⟨i + 1, c2, by omega, by omega⟩, ⟨show 32 - (i + 1) < 32 - i by omega, trivial⟩, ?_⟩
    repeat' first | exact encB_pure _ | exact trivial | refine And.intro ?_ ?_ | with_reducible refine bif_dt (by assumption) ?_ | with_reducible refine bif_df (by assumption) ?_ | with_reducible refine bif_dec (fun _ => ?_) (fun _ => ?_) | with_reducible refine bif_not ?_ | with_reducible refine bif_and ?_ | with_reducible refine bif_or ?_ | with_reducible refine bif_t (by assumption) ?_ | with_reducible refine bif_f (by assumption) ?_ | with_reducible refine bif_t (beq_self_eq_true _) ?_ | with_reducible refine bif_b (fun _ => ?_) (fun _ => ?_) | with_reducible refine ⟨_, Eq.refl (List.map _ _), ?_⟩ | (with_reducible refine Exists.intro (by omega) ?_) | rfl | (intro h0; omega) | omega
  · rw [List.take_of_length_le (show h.length ≤ i by omega), List.take_length, bytesB]
    repeat' first | exact isB _ | exact trivial | refine And.intro ?_ ?_ | with_reducible refine bif_dt (by assumption) ?_ | with_reducible refine bif_df (by assumption) ?_ | with_reducible refine bif_dec (fun _ => ?_) (fun _ => ?_) | with_reducible refine bif_not ?_ | with_reducible refine bif_and ?_ | with_reducible refine bif_or ?_ | with_reducible refine bif_t (by assumption) ?_ | with_reducible refine bif_f (by assumption) ?_ | with_reducible refine bif_t (beq_self_eq_true _) ?_ | with_reducible refine bif_b (fun _ => ?_) (fun _ => ?_) | with_reducible refine ⟨_, Eq.refl (List.map _ _), ?_⟩ | (with_reducible refine Exists.intro (by omega) ?_) | rfl | (intro h0; omega) | omega
def printT : List M → (M → Prop) → Prop
  | [.agg [.ints .u8 32 a]], K => (a.length = 32 ∧ By a) ∧ K (str (strOfNums (printF a)))
  | _, _ => False
theorem print_ok : POK Tryd.prog 30 printT := by
  intro ms K h
  unfold printT at h ⊢
  split at h
  · exact ⟨_, h.2, (print_spec h.1.1 h.1.2), rfl, fun _ hk => ⟨h.1, hk⟩⟩
  · exact h.elim

theorem rprint_spec {h : List Int} (hl : h.length = 32) (hB : By h) : SFun Tryd.prog 32 [h32 h] (str (strOfNums (printF h))) := by
  refine SFun.inl [] SOK.nil tok mixed [] IOK.nil true [(4, ⟨QrT h, fun p => ⟨1, [(1, .one (.ptr 0 0)), (3, str digits), (4, str p.s), (5, int p.i)], [(0, .cells [.ints .u8 32 h])]⟩, fun p => 32 - p.i, fun _ _ => True⟩)] [] Tryd.call32 Tryd.func32 rfl (by rfl) ?_
  refine Eq.mp (α := (∃ i0 : QrT h, (And (And True (And (And (And ((true : Bool) = true) ((0 : Nat) = (0 : Nat))) (And (digits = { data := #[(48 : UInt8), (49 : UInt8), (50 : UInt8), (51 : UInt8), (52 : UInt8), (53 : UInt8), (54 : UInt8), (55 : UInt8), (56 : UInt8), (57 : UInt8), (97 : UInt8), (98 : UInt8), (99 : UInt8), (100 : UInt8), (101 : UInt8), (102 : UInt8)] }) (And (QrT.s i0 = { data := #[] }) (And ((↑(QrT.i i0) : Int) = (0 : Int)) True)))) (And (And (And (h = h) True) (And ((true : Bool) = true) True)) ((true : Bool) = true)))) (∀ i : QrT h, (∀ a : True, (@Bool.rec (fun _ => Prop) (And (M.one (SV.v (Value.string (QrT.s i))) = M.one (SV.v (Value.string (strOfNums (printF h))))) ((true : Bool) = true)) (And ((0 : Int) ≤ (↑(QrT.i i) : Int)) (And (Int.toNat (↑(QrT.i i) : Int) < (32 : Nat)) (And (Int.toNat (↑(QrT.i i) : Int) < (32 : Nat)) (And ((16 : Int) ≠ (0 : Int)) (And ((0 : Int) ≤ (↑(QrT.i i) : Int)) (And (Int.toNat (↑(QrT.i i) : Int) < (32 : Nat)) (And (Int.toNat (↑(QrT.i i) : Int) < (32 : Nat)) (And ((16 : Int) ≠ (0 : Int)) (And ((0 : Int) ≤ IntKind.wrap IntKind.u8 (IntKind.wrap IntKind.u8 (Int.tdiv (List.getD h (Int.toNat (↑(QrT.i i) : Int)) (0 : Int)) (16 : Int)) + (1 : Int))) (And ((0 : Int) ≤ IntKind.wrap IntKind.u8 (Int.tdiv (List.getD h (Int.toNat (↑(QrT.i i) : Int)) (0 : Int)) (16 : Int))) (And (Int.toNat (IntKind.wrap IntKind.u8 (Int.tdiv (List.getD h (Int.toNat (↑(QrT.i i) : Int)) (0 : Int)) (16 : Int))) ≤ Int.toNat (IntKind.wrap IntKind.u8 (IntKind.wrap IntKind.u8 (Int.tdiv (List.getD h (Int.toNat (↑(QrT.i i) : Int)) (0 : Int)) (16 : Int)) + (1 : Int)))) (And (Int.toNat (IntKind.wrap IntKind.u8 (IntKind.wrap IntKind.u8 (Int.tdiv (List.getD h (Int.toNat (↑(QrT.i i) : Int)) (0 : Int)) (16 : Int)) + (1 : Int))) ≤ ByteArray.size digits) (And ((↑(ByteArray.size (QrT.s i) + ByteArray.size (ByteArray.extract digits (Int.toNat (IntKind.wrap IntKind.u8 (Int.tdiv (List.getD h (Int.toNat (↑(QrT.i i) : Int)) (0 : Int)) (16 : Int)))) (Int.toNat (IntKind.wrap IntKind.u8 (IntKind.wrap IntKind.u8 (Int.tdiv (List.getD h (Int.toNat (↑(QrT.i i) : Int)) (0 : Int)) (16 : Int)) + (1 : Int)))))) : Int) ≤ (9223372036854775807 : Int)) (And ((0 : Int) ≤ (↑(QrT.i i) : Int)) (And (Int.toNat (↑(QrT.i i) : Int) < (32 : Nat)) (And (Int.toNat (↑(QrT.i i) : Int) < (32 : Nat)) (And ((16 : Int) ≠ (0 : Int)) (And ((0 : Int) ≤ (↑(QrT.i i) : Int)) (And (Int.toNat (↑(QrT.i i) : Int) < (32 : Nat)) (And (Int.toNat (↑(QrT.i i) : Int) < (32 : Nat)) (And ((16 : Int) ≠ (0 : Int)) (And ((0 : Int) ≤ IntKind.wrap IntKind.u8 (Int.tmod (List.getD h (Int.toNat (↑(QrT.i i) : Int)) (0 : Int)) (16 : Int) + (1 : Int))) (And ((0 : Int) ≤ Int.tmod (List.getD h (Int.toNat (↑(QrT.i i) : Int)) (0 : Int)) (16 : Int)) (And (Int.toNat (Int.tmod (List.getD h (Int.toNat (↑(QrT.i i) : Int)) (0 : Int)) (16 : Int)) ≤ Int.toNat (IntKind.wrap IntKind.u8 (Int.tmod (List.getD h (Int.toNat (↑(QrT.i i) : Int)) (0 : Int)) (16 : Int) + (1 : Int)))) (And (Int.toNat (IntKind.wrap IntKind.u8 (Int.tmod (List.getD h (Int.toNat (↑(QrT.i i) : Int)) (0 : Int)) (16 : Int) + (1 : Int))) ≤ ByteArray.size digits) (And ((↑(ByteArray.size (QrT.s i ++ ByteArray.extract digits (Int.toNat (IntKind.wrap IntKind.u8 (Int.tdiv (List.getD h (Int.toNat (↑(QrT.i i) : Int)) (0 : Int)) (16 : Int)))) (Int.toNat (IntKind.wrap IntKind.u8 (IntKind.wrap IntKind.u8 (Int.tdiv (List.getD h (Int.toNat (↑(QrT.i i) : Int)) (0 : Int)) (16 : Int)) + (1 : Int))))) + ByteArray.size (ByteArray.extract digits (Int.toNat (Int.tmod (List.getD h (Int.toNat (↑(QrT.i i) : Int)) (0 : Int)) (16 : Int))) (Int.toNat (IntKind.wrap IntKind.u8 (Int.tmod (List.getD h (Int.toNat (↑(QrT.i i) : Int)) (0 : Int)) (16 : Int) + (1 : Int)))))) : Int) ≤ (9223372036854775807 : Int)) (∃ i' : QrT h, (And (And ((32 : Nat) - QrT.i i' < (32 : Nat) - QrT.i i) True) (And (And (And ((true : Bool) = true) ((0 : Nat) = (0 : Nat))) (And (digits = digits) (And (QrT.s i' = QrT.s i ++ ByteArray.extract digits (Int.toNat (IntKind.wrap IntKind.u8 (Int.tdiv (List.getD h (Int.toNat (↑(QrT.i i) : Int)) (0 : Int)) (16 : Int)))) (Int.toNat (IntKind.wrap IntKind.u8 (IntKind.wrap IntKind.u8 (Int.tdiv (List.getD h (Int.toNat (↑(QrT.i i) : Int)) (0 : Int)) (16 : Int)) + (1 : Int)))) ++ ByteArray.extract digits (Int.toNat (Int.tmod (List.getD h (Int.toNat (↑(QrT.i i) : Int)) (0 : Int)) (16 : Int))) (Int.toNat (IntKind.wrap IntKind.u8 (Int.tmod (List.getD h (Int.toNat (↑(QrT.i i) : Int)) (0 : Int)) (16 : Int) + (1 : Int))))) (And ((↑(QrT.i i') : Int) = IntKind.wrap IntKind.i64 ((↑(QrT.i i) : Int) + (1 : Int))) True)))) (And (And (And (h = h) True) (And ((true : Bool) = true) True)) ((true : Bool) = true))))))))))))))))))))))))))))))) (decide ((↑(QrT.i i) : Int) < (32 : Int))))))))) (by kernel_rfl) ?_
  refine ⟨⟨0, .mk #[], Nat.zero_le _, rfl⟩, ?_, ?_⟩
  ·
    repeat' first | exact trivial | refine And.intro ?_ ?_ | with_reducible refine bif_dt (by assumption) ?_ | with_reducible refine bif_df (by assumption) ?_ | with_reducible refine bif_dec (fun _ => ?_) (fun _ => ?_) | with_reducible refine bif_not ?_ | with_reducible refine bif_and ?_ | with_reducible refine bif_or ?_ | with_reducible refine bif_t (by assumption) ?_ | with_reducible refine bif_f (by assumption) ?_ | with_reducible refine bif_t (beq_self_eq_true _) ?_ | with_reducible refine bif_b (fun _ => ?_) (fun _ => ?_) | with_reducible refine ⟨_, Eq.refl (List.map _ _), ?_⟩ | (with_reducible refine Exists.intro (by omega) ?_) | rfl | (intro h0; omega) | omega
  rintro ⟨i, s, hi, hs⟩ -
  dsimp only
  have hpl := printF_length (h.take i)
  rw [List.length_take, hl] at hpl
  refine bif_dec (fun h1 => ?_) (fun h1 => ?_)
  · have hi' : i < h.length := by omega
    have hx := hB _ (List.getElem_mem hi')
    have hg : h.getD i 0 = h[i] := by rw [List.getD_eq_getElem?_getD, List.getElem?_eq_getElem hi']; rfl
    have hds : digits.size = 16 := rfl
    have hss : s.size = 2 * min i 32 := by rw [← sl_length, hs, hpl]
    have ha : (s ++ digits.extract (h[i] / 16).toNat (h[i] / 16 + 1).toNat).size = s.size + 1 := by rw [← sl_length, sl_app, List.length_append, sl_length, dig1 (by omega)]; rfl
    simp only [Int.toNat_natCast, hg, q16 hx, q16' hx, r16 hx, r16' hx, hds, dig1s (x := h[i] / 16) (by omega), dig1s (x := h[i] % 16) (by omega), ha, inext (show i < 9223372036854775807 by omega)]
    repeat (with_reducible refine And.intro (by first | exact trivial | omega | decide) ?_)
    have hn : sl (s ++ digits.extract (h[i] / 16).toNat (h[i] / 16 + 1).toNat ++ digits.extract (h[i] % 16).toNat (h[i] % 16 + 1).toNat) = printF (h.take (i + 1)) := by
      rw [sl_app, sl_app, hs, dig1 (by omega), dig1 (by omega), ← print_step hi', List.append_assoc]
      rfl
    refine ⟨⟨i + 1, _, by omega, hn⟩, ⟨show 32 - (i + 1) < 32 - i by omega, trivial⟩, ?_⟩
    repeat' first | exact trivial | refine And.intro ?_ ?_ | with_reducible refine bif_dt (by assumption) ?_ | with_reducible refine bif_df (by assumption) ?_ | with_reducible refine bif_dec (fun _ => ?_) (fun _ => ?_) | with_reducible refine bif_not ?_ | with_reducible refine bif_and ?_ | with_reducible refine bif_or ?_ | with_reducible refine bif_t (by assumption) ?_ | with_reducible refine bif_f (by assumption) ?_ | with_reducible refine bif_t (beq_self_eq_true _) ?_ | with_reducible refine bif_b (fun _ => ?_) (fun _ => ?_) | with_reducible refine ⟨_, Eq.refl (List.map _ _), ?_⟩ | (with_reducible refine Exists.intro (by omega) ?_) | rfl | (intro h0; omega) | omega
  · rw [List.take_of_length_le (show h.length ≤ i by omega)] at hs
    rw [← hs, strOf_sl]
    repeat' first | exact trivial | refine And.intro ?_ ?_ | with_reducible refine bif_dt (by assumption) ?_ | with_reducible refine bif_df (by assumption) ?_ | with_reducible refine bif_dec (fun _ => ?_) (fun _ => ?_) | with_reducible refine bif_not ?_ | with_reducible refine bif_and ?_ | with_reducible refine bif_or ?_ | with_reducible refine bif_t (by assumption) ?_ | with_reducible refine bif_f (by assumption) ?_ | with_reducible refine bif_t (beq_self_eq_true _) ?_ | with_reducible refine bif_b (fun _ => ?_) (fun _ => ?_) | with_reducible refine ⟨_, Eq.refl (List.map _ _), ?_⟩ | (with_reducible refine Exists.intro (by omega) ?_) | rfl | (intro h0; omega) | omega
def rprintT : List M → (M → Prop) → Prop
  | [.agg [.ints .u8 32 a]], K => (a.length = 32 ∧ By a) ∧ K (str (strOfNums (printF a)))
  | _, _ => False
theorem rprint_ok : POK Tryd.prog 32 rprintT := by
  intro ms K h
  unfold rprintT at h ⊢
  split at h
  · exact ⟨_, h.2, (rprint_spec h.1.1 h.1.2), rfl, fun _ hk => ⟨h.1, hk⟩⟩
  · exact h.elim

theorem byte2 {p : Int → Int → Prop} [∀ x y, Decidable (p x y)] (h : ∀ x : Fin 256, ∀ y : Fin 16, p ((x.val : Nat) : Int) ((y.val : Nat) : Int)) {x y : Int} (hx : 0 ≤ x ∧ x < 256) (hy : 0 ≤ y ∧ y < 16) : p x y := by
  have := h ⟨x.toNat, by omega⟩ ⟨y.toNat, by omega⟩
  rwa [show ((x.toNat : Nat) : Int) = x by omega, show ((y.toNat : Nat) : Int) = y by omega] at this
theorem or16 {x y : Int} (hx : 0 ≤ x ∧ x < 256) (hy : 0 ≤ y ∧ y < 16) : Sx.bits .or .u8 (shl .u8 x 4) y = x * 16 % 256 + y := byte2 (p := fun x y => Sx.bits .or .u8 (shl .u8 x 4) y = x * 16 % 256 + y) (by decide +kernel) hx hy
theorem ad16 {x y : Int} (hx : 0 ≤ x ∧ x < 256) (hy : 0 ≤ y ∧ y < 16) : IntKind.u8.wrap (IntKind.u8.wrap (x * 16) + y) = x * 16 % 256 + y := byte2 (p := fun x y => IntKind.u8.wrap (IntKind.u8.wrap (x * 16) + y) = x * 16 % 256 + y) (by decide +kernel) hx hy
theorem cF_byte {l : List Int} {i : Nat} (hp : ∀ j, j < i → isHex (l.getD j 0) = true) {j : Nat} (hj : j < 32) : 0 ≤ (cF l i).getD j 0 ∧ (cF l i).getD j 0 < 256 := by
  rw [cF_getD l i j hj]
  split
  · have a := hval_lt (hp (2 * j) (by omega))
    have b := hval_lt (hp (2 * j + 1) (by omega))
    omega
  · split
    · have a := hval_lt (hp (2 * j) (by omega))
      omega
    · omega
theorem cF_next {l : List Int} {i : Nat} (hi : i < 64) (hp : ∀ j, j < i → isHex (l.getD j 0) = true) (hc : isHex (l.getD i 0) = true) :
    cF l (i + 1) = (cF l i).set (i / 2) ((cF l i).getD (i / 2) 0 * 16 % 256 + hval (l.getD i 0)) := cF_step l i hi (hval_lt hc) fun j hj => hval_lt (hp j hj)
structure PsT (l : List Int) where
  i : Nat
  cap : Nat
  hi : i ≤ 64
  hx : ∀ j, j < i → isHex (l.getD j 0) = true
theorem parse_spec (t : ByteArray) (ht : t.size ≤ 9223372036854775807) : SFun Tryd.prog 28 [str t] (.tup [h32 (parseF (sl t)).1, int (parseF (sl t)).2]) := by
  refine SFun.inl [] SOK.nil tok mixed [] IOK.nil true [(4, ⟨PsT (sl t), fun p => ⟨2, [(2, .one (.ptr 0 0)), (3, int 0), (11, .one (.slc 1 1 0 t.size p.cap)), (12, int t.size), (13, int p.i)], [(0, .cells [.ints .u8 32 (cF (sl t) p.i)]), (1, .row 1 EB (sl t) p.cap)]⟩, fun p => 64 - p.i, fun _ _ => True⟩)] [] Tryd.call28 Tryd.func28 rfl (by rfl) ?_
  refine Eq.mp (α := (@Bool.rec (fun _ => Prop) (∀ cap : Nat, (∀ a : ByteArray.size t ≤ cap, (∃ i0 : PsT (sl t), (And (And True (And (And (And ((true : Bool) = true) ((0 : Nat) = (0 : Nat))) (And ((0 : Int) = (0 : Int)) (And (And ((true : Bool) = true) (And ((0 : Nat) = (0 : Nat)) (And (ByteArray.size t = ByteArray.size t) (PsT.cap i0 = cap)))) (And ((↑(ByteArray.size t) : Int) = (↑(ByteArray.size t) : Int)) (And ((↑(PsT.i i0) : Int) = (0 : Int)) True))))) (And (And (And (cF (sl t) (PsT.i i0) = List.replicate (32 : Nat) (0 : Int)) True) (And ((true : Bool) = true) (And (And ((true : Bool) = true) (And (PsT.cap i0 = cap) (And (List.map (Enc.enc EB) (sl t) = List.map (Enc.enc (encInt IntKind.u8)) (sl t)) (∀ x : Int, (∀ a_1 : x ∈ sl t, (∀ s : SV, (∀ a_2 : s ∈ Enc.enc EB x, ((SV.isPure s : Bool) = true)))))))) (And ((true : Bool) = true) True)))) ((true : Bool) = true)))) (∀ i : PsT (sl t), (∀ a_1 : True, (@Bool.rec (fun _ => Prop) (And (M.tup [M.agg [SV.ints IntKind.u8 (32 : Nat) (cF (sl t) (PsT.i i))], M.one (SV.v (Value.int IntKind.i64 (0 : Int)))] = M.tup [M.agg [SV.ints IntKind.u8 (32 : Nat) (Prod.fst (parseF (sl t)))], M.one (SV.v (Value.int IntKind.i64 (Prod.snd (parseF (sl t)))))]) ((true : Bool) = true)) (And ((0 : Int) ≤ (↑(PsT.i i) : Int)) (And (Int.toNat (↑(PsT.i i) : Int) < ByteArray.size t) (∃ hi : (0 : Nat) + Int.toNat (↑(PsT.i i) : Int) < List.length (sl t), (@Bool.rec (fun _ => Prop) (@Bool.rec (fun _ => Prop) (And (M.tup [M.agg [SV.ints IntKind.u8 (32 : Nat) (List.replicate (32 : Nat) (0 : Int))], M.one (SV.v (Value.int IntKind.i64 (21 : Int)))] = M.tup [M.agg [SV.ints IntKind.u8 (32 : Nat) (Prod.fst (parseF (sl t)))], M.one (SV.v (Value.int IntKind.i64 (Prod.snd (parseF (sl t)))))]) ((true : Bool) = true)) (@Bool.rec (fun _ => Prop) (And (M.tup [M.agg [SV.ints IntKind.u8 (32 : Nat) (List.replicate (32 : Nat) (0 : Int))], M.one (SV.v (Value.int IntKind.i64 (21 : Int)))] = M.tup [M.agg [SV.ints IntKind.u8 (32 : Nat) (Prod.fst (parseF (sl t)))], M.one (SV.v (Value.int IntKind.i64 (Prod.snd (parseF (sl t)))))]) ((true : Bool) = true)) (And ((2 : Int) ≠ (0 : Int)) (And ((2 : Int) ≠ (0 : Int)) (And ((0 : Int) ≤ IntKind.wrap IntKind.i64 (Int.tdiv (↑(PsT.i i) : Int) (2 : Int))) (And (Int.toNat (IntKind.wrap IntKind.i64 (Int.tdiv (↑(PsT.i i) : Int) (2 : Int))) < (32 : Nat)) (And (Int.toNat (IntKind.wrap IntKind.i64 (Int.tdiv (↑(PsT.i i) : Int) (2 : Int))) < (32 : Nat)) (And ((0 : Int) ≤ (4 : Int)) (And ((0 : Int) ≤ IntKind.wrap IntKind.i64 (Int.tdiv (↑(PsT.i i) : Int) (2 : Int))) (And (Int.toNat (IntKind.wrap IntKind.i64 (Int.tdiv (↑(PsT.i i) : Int) (2 : Int))) < (32 : Nat)) (And (Int.toNat (IntKind.wrap IntKind.i64 (Int.tdiv (↑(PsT.i i) : Int) (2 : Int))) < (32 : Nat)) (∃ i' : PsT (sl t), (And (And ((64 : Nat) - PsT.i i' < (64 : Nat) - PsT.i i) True) (And (And (And ((true : Bool) = true) ((0 : Nat) = (0 : Nat))) (And ((0 : Int) = (0 : Int)) (And (And ((true : Bool) = true) (And ((0 : Nat) = (0 : Nat)) (And (ByteArray.size t = ByteArray.size t) (PsT.cap i' = PsT.cap i)))) (And ((↑(ByteArray.size t) : Int) = (↑(ByteArray.size t) : Int)) (And ((↑(PsT.i i') : Int) = IntKind.wrap IntKind.i64 ((↑(PsT.i i) : Int) + (1 : Int))) True))))) (And (And (And (cF (sl t) (PsT.i i') = List.set (cF (sl t) (PsT.i i)) (Int.toNat (IntKind.wrap IntKind.i64 (Int.tdiv (↑(PsT.i i) : Int) (2 : Int)))) (Sx.bits BinOp.or IntKind.u8 (shl IntKind.u8 (List.getD (cF (sl t) (PsT.i i)) (Int.toNat (IntKind.wrap IntKind.i64 (Int.tdiv (↑(PsT.i i) : Int) (2 : Int)))) (0 : Int)) (4 : Int)) (IntKind.wrap IntKind.u8 ((sl t)[(0 : Nat) + Int.toNat (↑(PsT.i i) : Int)] - (87 : Int))))) True) (And ((true : Bool) = true) (And (And ((true : Bool) = true) (And (PsT.cap i' = PsT.cap i) (And (List.map (Enc.enc EB) (sl t) = List.map (Enc.enc EB) (sl t)) (∀ x : Int, (∀ a_2 : x ∈ sl t, (∀ s : SV, (∀ a_3 : s ∈ Enc.enc EB x, ((SV.isPure s : Bool) = true)))))))) (And ((true : Bool) = true) True)))) ((true : Bool) = true)))))))))))))) (decide ((sl t)[(0 : Nat) + Int.toNat (↑(PsT.i i) : Int)] ≤ (102 : Int)))) (decide ((97 : Int) ≤ (sl t)[(0 : Nat) + Int.toNat (↑(PsT.i i) : Int)]))) (@Bool.rec (fun _ => Prop) (@Bool.rec (fun _ => Prop) (And (M.tup [M.agg [SV.ints IntKind.u8 (32 : Nat) (List.replicate (32 : Nat) (0 : Int))], M.one (SV.v (Value.int IntKind.i64 (21 : Int)))] = M.tup [M.agg [SV.ints IntKind.u8 (32 : Nat) (Prod.fst (parseF (sl t)))], M.one (SV.v (Value.int IntKind.i64 (Prod.snd (parseF (sl t)))))]) ((true : Bool) = true)) (@Bool.rec (fun _ => Prop) (And (M.tup [M.agg [SV.ints IntKind.u8 (32 : Nat) (List.replicate (32 : Nat) (0 : Int))], M.one (SV.v (Value.int IntKind.i64 (21 : Int)))] = M.tup [M.agg [SV.ints IntKind.u8 (32 : Nat) (Prod.fst (parseF (sl t)))], M.one (SV.v (Value.int IntKind.i64 (Prod.snd (parseF (sl t)))))]) ((true : Bool) = true)) (And ((2 : Int) ≠ (0 : Int)) (And ((2 : Int) ≠ (0 : Int)) (And ((0 : Int) ≤ IntKind.wrap IntKind.i64 (Int.tdiv (↑(PsT.i i) : Int) (2 : Int))) (And (Int.toNat (IntKind.wrap IntKind.i64 (Int.tdiv (↑(PsT.i i) : Int) (2 : Int))) < (32 : Nat)) (And (Int.toNat (IntKind.wrap IntKind.i64 (Int.tdiv (↑(PsT.i i) : Int) (2 : Int))) < (32 : Nat)) (And ((0 : Int) ≤ (4 : Int)) (And ((0 : Int) ≤ IntKind.wrap IntKind.i64 (Int.tdiv (↑(PsT.i i) : Int) (2 : Int))) (And (Int.toNat (IntKind.wrap IntKind.i64 (Int.tdiv (↑(PsT.i i) : Int) (2 : Int))) < (32 : Nat)) (And (Int.toNat (IntKind.wrap IntKind.i64 (Int.tdiv (↑(PsT.i i) : Int) (2 : Int))) < (32 : Nat)) (∃ i' : PsT (sl t), (And (And ((64 : Nat) - PsT.i i' < (64 : Nat) - PsT.i i) True) (And (And (And ((true : Bool) = true) ((0 : Nat) = (0 : Nat))) (And ((0 : Int) = (0 : Int)) (And (And ((true : Bool) = true) (And ((0 : Nat) = (0 : Nat)) (And (ByteArray.size t = ByteArray.size t) (PsT.cap i' = PsT.cap i)))) (And ((↑(ByteArray.size t) : Int) = (↑(ByteArray.size t) : Int)) (And ((↑(PsT.i i') : Int) = IntKind.wrap IntKind.i64 ((↑(PsT.i i) : Int) + (1 : Int))) True))))) (And (And (And (cF (sl t) (PsT.i i') = List.set (cF (sl t) (PsT.i i)) (Int.toNat (IntKind.wrap IntKind.i64 (Int.tdiv (↑(PsT.i i) : Int) (2 : Int)))) (Sx.bits BinOp.or IntKind.u8 (shl IntKind.u8 (List.getD (cF (sl t) (PsT.i i)) (Int.toNat (IntKind.wrap IntKind.i64 (Int.tdiv (↑(PsT.i i) : Int) (2 : Int)))) (0 : Int)) (4 : Int)) (IntKind.wrap IntKind.u8 ((sl t)[(0 : Nat) + Int.toNat (↑(PsT.i i) : Int)] - (87 : Int))))) True) (And ((true : Bool) = true) (And (And ((true : Bool) = true) (And (PsT.cap i' = PsT.cap i) (And (List.map (Enc.enc EB) (sl t) = List.map (Enc.enc EB) (sl t)) (∀ x : Int, (∀ a_2 : x ∈ sl t, (∀ s : SV, (∀ a_3 : s ∈ Enc.enc EB x, ((SV.isPure s : Bool) = true)))))))) (And ((true : Bool) = true) True)))) ((true : Bool) = true)))))))))))))) (decide ((sl t)[(0 : Nat) + Int.toNat (↑(PsT.i i) : Int)] ≤ (102 : Int)))) (decide ((97 : Int) ≤ (sl t)[(0 : Nat) + Int.toNat (↑(PsT.i i) : Int)]))) (And ((2 : Int) ≠ (0 : Int)) (And ((2 : Int) ≠ (0 : Int)) (And ((0 : Int) ≤ IntKind.wrap IntKind.i64 (Int.tdiv (↑(PsT.i i) : Int) (2 : Int))) (And (Int.toNat (IntKind.wrap IntKind.i64 (Int.tdiv (↑(PsT.i i) : Int) (2 : Int))) < (32 : Nat)) (And (Int.toNat (IntKind.wrap IntKind.i64 (Int.tdiv (↑(PsT.i i) : Int) (2 : Int))) < (32 : Nat)) (And ((0 : Int) ≤ (4 : Int)) (And ((0 : Int) ≤ IntKind.wrap IntKind.i64 (Int.tdiv (↑(PsT.i i) : Int) (2 : Int))) (And (Int.toNat (IntKind.wrap IntKind.i64 (Int.tdiv (↑(PsT.i i) : Int) (2 : Int))) < (32 : Nat)) (And (Int.toNat (IntKind.wrap IntKind.i64 (Int.tdiv (↑(PsT.i i) : Int) (2 : Int))) < (32 : Nat)) (∃ i' : PsT (sl t), (And (And ((64 : Nat) - PsT.i i' < (64 : Nat) - PsT.i i) True) (And (And (And ((true : Bool) = true) ((0 : Nat) = (0 : Nat))) (And ((0 : Int) = (0 : Int)) (And (And ((true : Bool) = true) (And ((0 : Nat) = (0 : Nat)) (And (ByteArray.size t = ByteArray.size t) (PsT.cap i' = PsT.cap i)))) (And ((↑(ByteArray.size t) : Int) = (↑(ByteArray.size t) : Int)) (And ((↑(PsT.i i') : Int) = IntKind.wrap IntKind.i64 ((↑(PsT.i i) : Int) + (1 : Int))) True))))) (And (And (And (cF (sl t) (PsT.i i') = List.set (cF (sl t) (PsT.i i)) (Int.toNat (IntKind.wrap IntKind.i64 (Int.tdiv (↑(PsT.i i) : Int) (2 : Int)))) (Sx.bits BinOp.or IntKind.u8 (shl IntKind.u8 (List.getD (cF (sl t) (PsT.i i)) (Int.toNat (IntKind.wrap IntKind.i64 (Int.tdiv (↑(PsT.i i) : Int) (2 : Int)))) (0 : Int)) (4 : Int)) (IntKind.wrap IntKind.u8 ((sl t)[(0 : Nat) + Int.toNat (↑(PsT.i i) : Int)] - (48 : Int))))) True) (And ((true : Bool) = true) (And (And ((true : Bool) = true) (And (PsT.cap i' = PsT.cap i) (And (List.map (Enc.enc EB) (sl t) = List.map (Enc.enc EB) (sl t)) (∀ x : Int, (∀ a_2 : x ∈ sl t, (∀ s : SV, (∀ a_3 : s ∈ Enc.enc EB x, ((SV.isPure s : Bool) = true)))))))) (And ((true : Bool) = true) True)))) ((true : Bool) = true)))))))))))))) (decide ((sl t)[(0 : Nat) + Int.toNat (↑(PsT.i i) : Int)] ≤ (57 : Int)))) (decide ((48 : Int) ≤ (sl t)[(0 : Nat) + Int.toNat (↑(PsT.i i) : Int)])))))) (decide ((↑(PsT.i i) : Int) < (↑(ByteArray.size t) : Int)))))))))) (And (M.tup [M.agg [SV.ints IntKind.u8 (32 : Nat) (List.replicate (32 : Nat) (0 : Int))], M.one (SV.v (Value.int IntKind.i64 (21 : Int)))] = M.tup [M.agg [SV.ints IntKind.u8 (32 : Nat) (Prod.fst (parseF (sl t)))], M.one (SV.v (Value.int IntKind.i64 (Prod.snd (parseF (sl t)))))]) ((true : Bool) = true)) ((↑(ByteArray.size t) : Int) != (64 : Int)))) (by kernel_rfl) ?_
  have hlen := sl_length t
  have hbad : ∀ {i : Nat}, i < (sl t).length → isHex ((sl t).getD i 0) = false → M.tup [M.agg [SV.ints IntKind.u8 32 (List.replicate 32 0)], M.one (SV.v (Value.int IntKind.i64 21))] = M.tup [M.agg [SV.ints IntKind.u8 32 (parseF (sl t)).fst], M.one (SV.v (Value.int IntKind.i64 (parseF (sl t)).snd))] := fun h1 h2 => by
    rw [parse_badc h1 h2]
  refine bif_not ?_
  refine bif_dec (fun h0 => ?_) (fun h0 => ?_)
  · intro cap k
    refine ⟨⟨0, cap, by decide, fun j hj => by omega⟩, ?_, ?_⟩
    ·
      repeat' first | exact cF_0 _ | exact encB_pure _ | exact trivial | refine And.intro ?_ ?_ | with_reducible refine bif_dt (by assumption) ?_ | with_reducible refine bif_df (by assumption) ?_ | with_reducible refine bif_dec (fun _ => ?_) (fun _ => ?_) | with_reducible refine bif_not ?_ | with_reducible refine bif_and ?_ | with_reducible refine bif_or ?_ | with_reducible refine bif_t (by assumption) ?_ | with_reducible refine bif_f (by assumption) ?_ | with_reducible refine bif_t (beq_self_eq_true _) ?_ | with_reducible refine bif_b (fun _ => ?_) (fun _ => ?_) | with_reducible refine ⟨_, Eq.refl (List.map _ _), ?_⟩ | (with_reducible refine Exists.intro (by omega) ?_) | rfl | (intro h0; omega) | omega
    rintro ⟨i, c, hi, hx⟩ -
    dsimp only
    refine bif_dec (fun h1 => ?_) (fun h1 => ?_)
    · have hi' : i < (sl t).length := by omega
      have hb := sl_By t _ (List.getElem_mem hi')
      have hg : (sl t).getD i 0 = (sl t)[i] := by rw [List.getD_eq_getElem?_getD, List.getElem?_eq_getElem hi']; rfl
      simp only [Int.toNat_natCast, Nat.zero_add]
      refine ⟨by omega, by omega, hi', ?_⟩
      have e2 : IntKind.i64.wrap ((i : Int).tdiv 2) = ((i / 2 : Nat) : Int) := by rw [show (i : Int).tdiv 2 = ((i / 2 : Nat) : Int) from rfl, wrap64 (by omega) (by omega)]
      have good : isHex (sl t)[i] = true → ∃ p : PsT (sl t), p.i = i + 1 ∧ p.cap = c := fun hc => ⟨⟨i + 1, c, by omega, fun j hj => by
        by_cases h : j = i
        · rw [h, hg]; exact hc
        · exact hx j (by omega)⟩, rfl, rfl⟩
      have step : isHex (sl t)[i] = true → ∀ d, d = hval (sl t)[i] → cF (sl t) (i + 1) = (cF (sl t) i).set (i / 2) (Sx.bits .or .u8 (shl .u8 ((cF (sl t) i).getD (i / 2) 0) 4) d) := fun hc d hd => by
        have hv := hval_lt hc
        rw [cF_next (by omega) hx (by rw [hg]; exact hc), hd, or16 (cF_byte hx (by omega)) hv, hg]
      have nat2 : ∀ n : Nat, (n : Int).toNat = n := fun n => rfl
      simp only [e2, nat2, inext (show i < 9223372036854775807 by omega)]
      have no : ∀ h : ¬ isHex (sl t)[i] = true, isHex ((sl t).getD i 0) = false := fun h => by rw [hg]; simpa using h
      refine bif_dec (fun h2 => ?_) (fun h2 => ?_)
      · refine bif_dec (fun h3 => ?_) (fun h3 => ?_)
        · have hc : isHex (sl t)[i] = true := isHex_iff.2 (.inl ⟨h2, h3⟩)
          have hd : IntKind.u8.wrap ((sl t)[i] - 48) = hval (sl t)[i] := by rw [wrap8]; unfold hval; rw [if_pos h3]; omega
          obtain ⟨p, hp1, hp2⟩ := good hc
          repeat (with_reducible refine And.intro (by first | exact trivial | omega | decide) ?_)
          refine ⟨p, ⟨by omega, trivial⟩, ?_⟩
          rw [hp1, hp2]
          repeat' first | exact step hc _ hd | exact encB_pure _ | exact trivial | refine And.intro ?_ ?_ | with_reducible refine bif_dt (by assumption) ?_ | with_reducible refine bif_df (by assumption) ?_ | with_reducible refine bif_dec (fun _ => ?_) (fun _ => ?_) | with_reducible refine bif_not ?_ | with_reducible refine bif_and ?_ | with_reducible refine bif_or ?_ | with_reducible refine bif_t (by assumption) ?_ | with_reducible refine bif_f (by assumption) ?_ | with_reducible refine bif_t (beq_self_eq_true _) ?_ | with_reducible refine bif_b (fun _ => ?_) (fun _ => ?_) | with_reducible refine ⟨_, Eq.refl (List.map _ _), ?_⟩ | (with_reducible refine Exists.intro (by omega) ?_) | rfl | (intro h0; omega) | omega
        · refine bif_dec (fun h4 => ?_) (fun h4 => ?_)
          · refine bif_dec (fun h5 => ?_) (fun h5 => ?_)
            · have hc : isHex (sl t)[i] = true := isHex_iff.2 (.inr ⟨h4, h5⟩)
              have hd : IntKind.u8.wrap ((sl t)[i] - 87) = hval (sl t)[i] := by rw [wrap8]; unfold hval; rw [if_neg h3]; omega
              obtain ⟨p, hp1, hp2⟩ := good hc
              repeat (with_reducible refine And.intro (by first | exact trivial | omega | decide) ?_)
              refine ⟨p, ⟨by omega, trivial⟩, ?_⟩
              rw [hp1, hp2]
              repeat' first | exact step hc _ hd | exact encB_pure _ | exact trivial | refine And.intro ?_ ?_ | with_reducible refine bif_dt (by assumption) ?_ | with_reducible refine bif_df (by assumption) ?_ | with_reducible refine bif_dec (fun _ => ?_) (fun _ => ?_) | with_reducible refine bif_not ?_ | with_reducible refine bif_and ?_ | with_reducible refine bif_or ?_ | with_reducible refine bif_t (by assumption) ?_ | with_reducible refine bif_f (by assumption) ?_ | with_reducible refine bif_t (beq_self_eq_true _) ?_ | with_reducible refine bif_b (fun _ => ?_) (fun _ => ?_) | with_reducible refine ⟨_, Eq.refl (List.map _ _), ?_⟩ | (with_reducible refine Exists.intro (by omega) ?_) | rfl | (intro h0; omega) | omega
            · exact ⟨hbad hi' (no fun h => by rcases isHex_iff.1 h with h | h <;> omega), trivial⟩
          · exact ⟨hbad hi' (no fun h => by rcases isHex_iff.1 h with h | h <;> omega), trivial⟩
      · refine bif_dec (fun h4 => ?_) (fun h4 => ?_)
        · omega
        · exact ⟨hbad hi' (no fun h => by rcases isHex_iff.1 h with h | h <;> omega), trivial⟩
    · have : i = 64 := by omega
      subst this
      rw [parse_ok (by omega) (fun j hj => hx j (by omega))]
      exact ⟨rfl, rfl⟩
  · rw [parse_bad (by omega)]
    exact ⟨rfl, rfl⟩
def hparseT : List M → (M → Prop) → Prop
  | [.one (.v (.string t))], K => t.size ≤ 9223372036854775807 ∧ K (.tup [h32 (parseF (sl t)).1, int (parseF (sl t)).2])
  | _, _ => False
theorem hparse_ok : POK Tryd.prog 28 hparseT := by
  intro ms K h
  unfold hparseT at h ⊢
  split at h
  · exact ⟨_, h.2, (parse_spec _ h.1), rfl, fun _ hk => ⟨h.1, hk⟩⟩
  · exact h.elim

structure RtT (l : List Int) where
  i : Nat
  hi : i ≤ 64
  hx : ∀ j, j < i → isHex (l.getD j 0) = true
theorem rparse_spec (t : ByteArray) (ht : t.size ≤ 9223372036854775807) : SFun Tryd.prog 29 [str t] (.tup [h32 (parseF (sl t)).1, int (parseF (sl t)).2]) := by
  refine SFun.inl [] SOK.nil tok mixed [] IOK.nil true [(5, ⟨RtT (sl t), fun p => ⟨2, [(0, str t), (2, .one (.ptr 0 0)), (3, int 0), (4, .one (.ptr 1 0)), (5, int p.i)], [(0, .cells [.ints .u8 32 (List.replicate 32 0)]), (1, .cells [.ints .u8 32 (cF (sl t) p.i)])]⟩, fun p => 64 - p.i, fun _ _ => True⟩)] [] Tryd.call29 Tryd.func29 rfl (by rfl) ?_
  refine Eq.mp (α := (@Bool.rec (fun _ => Prop) (∃ i0 : RtT (sl t), (And (And True (And (And (t = t) (And (And ((true : Bool) = true) ((0 : Nat) = (0 : Nat))) (And ((0 : Int) = (0 : Int)) (And (And ((true : Bool) = true) ((0 : Nat) = (0 : Nat))) (And ((↑(RtT.i i0) : Int) = (0 : Int)) True))))) (And (And (And (List.replicate (32 : Nat) (0 : Int) = List.replicate (32 : Nat) (0 : Int)) True) (And ((true : Bool) = true) (And (And (cF (sl t) (RtT.i i0) = List.replicate (32 : Nat) (0 : Int)) True) (And ((true : Bool) = true) True)))) ((true : Bool) = true)))) (∀ i : RtT (sl t), (∀ a : True, (@Bool.rec (fun _ => Prop) (And (M.tup [M.agg [SV.ints IntKind.u8 (32 : Nat) (cF (sl t) (RtT.i i))], M.one (SV.v (Value.int IntKind.i64 (0 : Int)))] = M.tup [M.agg [SV.ints IntKind.u8 (32 : Nat) (Prod.fst (parseF (sl t)))], M.one (SV.v (Value.int IntKind.i64 (Prod.snd (parseF (sl t)))))]) ((true : Bool) = true)) (And ((0 : Int) ≤ (↑(RtT.i i) : Int)) (And (Int.toNat (↑(RtT.i i) : Int) < ByteArray.size t) (@Bool.rec (fun _ => Prop) (And ((0 : Int) ≤ (↑(RtT.i i) : Int)) (And (Int.toNat (↑(RtT.i i) : Int) < ByteArray.size t) (@Bool.rec (fun _ => Prop) (And (M.tup [M.agg [SV.ints IntKind.u8 (32 : Nat) (List.replicate (32 : Nat) (0 : Int))], M.one (SV.v (Value.int IntKind.i64 (21 : Int)))] = M.tup [M.agg [SV.ints IntKind.u8 (32 : Nat) (Prod.fst (parseF (sl t)))], M.one (SV.v (Value.int IntKind.i64 (Prod.snd (parseF (sl t)))))]) ((true : Bool) = true)) (And ((0 : Int) ≤ (↑(RtT.i i) : Int)) (And (Int.toNat (↑(RtT.i i) : Int) < ByteArray.size t) (@Bool.rec (fun _ => Prop) (And (M.tup [M.agg [SV.ints IntKind.u8 (32 : Nat) (List.replicate (32 : Nat) (0 : Int))], M.one (SV.v (Value.int IntKind.i64 (21 : Int)))] = M.tup [M.agg [SV.ints IntKind.u8 (32 : Nat) (Prod.fst (parseF (sl t)))], M.one (SV.v (Value.int IntKind.i64 (Prod.snd (parseF (sl t)))))]) ((true : Bool) = true)) (And ((0 : Int) ≤ (↑(RtT.i i) : Int)) (And (Int.toNat (↑(RtT.i i) : Int) < ByteArray.size t) (And ((2 : Int) ≠ (0 : Int)) (And ((2 : Int) ≠ (0 : Int)) (And ((0 : Int) ≤ IntKind.wrap IntKind.i64 (Int.tdiv (↑(RtT.i i) : Int) (2 : Int))) (And (Int.toNat (IntKind.wrap IntKind.i64 (Int.tdiv (↑(RtT.i i) : Int) (2 : Int))) < (32 : Nat)) (And (Int.toNat (IntKind.wrap IntKind.i64 (Int.tdiv (↑(RtT.i i) : Int) (2 : Int))) < (32 : Nat)) (And ((0 : Int) ≤ IntKind.wrap IntKind.i64 (Int.tdiv (↑(RtT.i i) : Int) (2 : Int))) (And (Int.toNat (IntKind.wrap IntKind.i64 (Int.tdiv (↑(RtT.i i) : Int) (2 : Int))) < (32 : Nat)) (And (Int.toNat (IntKind.wrap IntKind.i64 (Int.tdiv (↑(RtT.i i) : Int) (2 : Int))) < (32 : Nat)) (∃ i' : RtT (sl t), (And (And ((64 : Nat) - RtT.i i' < (64 : Nat) - RtT.i i) True) (And (And (t = t) (And (And ((true : Bool) = true) ((0 : Nat) = (0 : Nat))) (And ((0 : Int) = (0 : Int)) (And (And ((true : Bool) = true) ((0 : Nat) = (0 : Nat))) (And ((↑(RtT.i i') : Int) = IntKind.wrap IntKind.i64 ((↑(RtT.i i) : Int) + (1 : Int))) True))))) (And (And (And (List.replicate (32 : Nat) (0 : Int) = List.replicate (32 : Nat) (0 : Int)) True) (And ((true : Bool) = true) (And (And (cF (sl t) (RtT.i i') = List.set (cF (sl t) (RtT.i i)) (Int.toNat (IntKind.wrap IntKind.i64 (Int.tdiv (↑(RtT.i i) : Int) (2 : Int)))) (IntKind.wrap IntKind.u8 (IntKind.wrap IntKind.u8 (List.getD (cF (sl t) (RtT.i i)) (Int.toNat (IntKind.wrap IntKind.i64 (Int.tdiv (↑(RtT.i i) : Int) (2 : Int)))) (0 : Int) * (16 : Int)) + IntKind.wrap IntKind.u8 (IntKind.wrap IntKind.i64 (IntKind.wrap IntKind.i64 (IntKind.wrap IntKind.u8 (List.getD (sl t) (Int.toNat (↑(RtT.i i) : Int)) (0 : Int) - (97 : Int))) + (10 : Int)))))) True) (And ((true : Bool) = true) True)))) ((true : Bool) = true))))))))))))))) (decide (List.getD (sl t) (Int.toNat (↑(RtT.i i) : Int)) (0 : Int) ≤ (102 : Int)))))) (decide ((97 : Int) ≤ List.getD (sl t) (Int.toNat (↑(RtT.i i) : Int)) (0 : Int)))))) (And ((0 : Int) ≤ (↑(RtT.i i) : Int)) (And (Int.toNat (↑(RtT.i i) : Int) < ByteArray.size t) (@Bool.rec (fun _ => Prop) (And ((0 : Int) ≤ (↑(RtT.i i) : Int)) (And (Int.toNat (↑(RtT.i i) : Int) < ByteArray.size t) (@Bool.rec (fun _ => Prop) (And (M.tup [M.agg [SV.ints IntKind.u8 (32 : Nat) (List.replicate (32 : Nat) (0 : Int))], M.one (SV.v (Value.int IntKind.i64 (21 : Int)))] = M.tup [M.agg [SV.ints IntKind.u8 (32 : Nat) (Prod.fst (parseF (sl t)))], M.one (SV.v (Value.int IntKind.i64 (Prod.snd (parseF (sl t)))))]) ((true : Bool) = true)) (And ((0 : Int) ≤ (↑(RtT.i i) : Int)) (And (Int.toNat (↑(RtT.i i) : Int) < ByteArray.size t) (@Bool.rec (fun _ => Prop) (And (M.tup [M.agg [SV.ints IntKind.u8 (32 : Nat) (List.replicate (32 : Nat) (0 : Int))], M.one (SV.v (Value.int IntKind.i64 (21 : Int)))] = M.tup [M.agg [SV.ints IntKind.u8 (32 : Nat) (Prod.fst (parseF (sl t)))], M.one (SV.v (Value.int IntKind.i64 (Prod.snd (parseF (sl t)))))]) ((true : Bool) = true)) (And ((0 : Int) ≤ (↑(RtT.i i) : Int)) (And (Int.toNat (↑(RtT.i i) : Int) < ByteArray.size t) (And ((2 : Int) ≠ (0 : Int)) (And ((2 : Int) ≠ (0 : Int)) (And ((0 : Int) ≤ IntKind.wrap IntKind.i64 (Int.tdiv (↑(RtT.i i) : Int) (2 : Int))) (And (Int.toNat (IntKind.wrap IntKind.i64 (Int.tdiv (↑(RtT.i i) : Int) (2 : Int))) < (32 : Nat)) (And (Int.toNat (IntKind.wrap IntKind.i64 (Int.tdiv (↑(RtT.i i) : Int) (2 : Int))) < (32 : Nat)) (And ((0 : Int) ≤ IntKind.wrap IntKind.i64 (Int.tdiv (↑(RtT.i i) : Int) (2 : Int))) (And (Int.toNat (IntKind.wrap IntKind.i64 (Int.tdiv (↑(RtT.i i) : Int) (2 : Int))) < (32 : Nat)) (And (Int.toNat (IntKind.wrap IntKind.i64 (Int.tdiv (↑(RtT.i i) : Int) (2 : Int))) < (32 : Nat)) (∃ i' : RtT (sl t), (And (And ((64 : Nat) - RtT.i i' < (64 : Nat) - RtT.i i) True) (And (And (t = t) (And (And ((true : Bool) = true) ((0 : Nat) = (0 : Nat))) (And ((0 : Int) = (0 : Int)) (And (And ((true : Bool) = true) ((0 : Nat) = (0 : Nat))) (And ((↑(RtT.i i') : Int) = IntKind.wrap IntKind.i64 ((↑(RtT.i i) : Int) + (1 : Int))) True))))) (And (And (And (List.replicate (32 : Nat) (0 : Int) = List.replicate (32 : Nat) (0 : Int)) True) (And ((true : Bool) = true) (And (And (cF (sl t) (RtT.i i') = List.set (cF (sl t) (RtT.i i)) (Int.toNat (IntKind.wrap IntKind.i64 (Int.tdiv (↑(RtT.i i) : Int) (2 : Int)))) (IntKind.wrap IntKind.u8 (IntKind.wrap IntKind.u8 (List.getD (cF (sl t) (RtT.i i)) (Int.toNat (IntKind.wrap IntKind.i64 (Int.tdiv (↑(RtT.i i) : Int) (2 : Int)))) (0 : Int) * (16 : Int)) + IntKind.wrap IntKind.u8 (IntKind.wrap IntKind.i64 (IntKind.wrap IntKind.i64 (IntKind.wrap IntKind.u8 (List.getD (sl t) (Int.toNat (↑(RtT.i i) : Int)) (0 : Int) - (97 : Int))) + (10 : Int)))))) True) (And ((true : Bool) = true) True)))) ((true : Bool) = true))))))))))))))) (decide (List.getD (sl t) (Int.toNat (↑(RtT.i i) : Int)) (0 : Int) ≤ (102 : Int)))))) (decide ((97 : Int) ≤ List.getD (sl t) (Int.toNat (↑(RtT.i i) : Int)) (0 : Int)))))) (And ((0 : Int) ≤ (↑(RtT.i i) : Int)) (And (Int.toNat (↑(RtT.i i) : Int) < ByteArray.size t) (And ((2 : Int) ≠ (0 : Int)) (And ((2 : Int) ≠ (0 : Int)) (And ((0 : Int) ≤ IntKind.wrap IntKind.i64 (Int.tdiv (↑(RtT.i i) : Int) (2 : Int))) (And (Int.toNat (IntKind.wrap IntKind.i64 (Int.tdiv (↑(RtT.i i) : Int) (2 : Int))) < (32 : Nat)) (And (Int.toNat (IntKind.wrap IntKind.i64 (Int.tdiv (↑(RtT.i i) : Int) (2 : Int))) < (32 : Nat)) (And ((0 : Int) ≤ IntKind.wrap IntKind.i64 (Int.tdiv (↑(RtT.i i) : Int) (2 : Int))) (And (Int.toNat (IntKind.wrap IntKind.i64 (Int.tdiv (↑(RtT.i i) : Int) (2 : Int))) < (32 : Nat)) (And (Int.toNat (IntKind.wrap IntKind.i64 (Int.tdiv (↑(RtT.i i) : Int) (2 : Int))) < (32 : Nat)) (∃ i' : RtT (sl t), (And (And ((64 : Nat) - RtT.i i' < (64 : Nat) - RtT.i i) True) (And (And (t = t) (And (And ((true : Bool) = true) ((0 : Nat) = (0 : Nat))) (And ((0 : Int) = (0 : Int)) (And (And ((true : Bool) = true) ((0 : Nat) = (0 : Nat))) (And ((↑(RtT.i i') : Int) = IntKind.wrap IntKind.i64 ((↑(RtT.i i) : Int) + (1 : Int))) True))))) (And (And (And (List.replicate (32 : Nat) (0 : Int) = List.replicate (32 : Nat) (0 : Int)) True) (And ((true : Bool) = true) (And (And (cF (sl t) (RtT.i i') = List.set (cF (sl t) (RtT.i i)) (Int.toNat (IntKind.wrap IntKind.i64 (Int.tdiv (↑(RtT.i i) : Int) (2 : Int)))) (IntKind.wrap IntKind.u8 (IntKind.wrap IntKind.u8 (List.getD (cF (sl t) (RtT.i i)) (Int.toNat (IntKind.wrap IntKind.i64 (Int.tdiv (↑(RtT.i i) : Int) (2 : Int)))) (0 : Int) * (16 : Int)) + IntKind.wrap IntKind.u8 (IntKind.wrap IntKind.i64 (IntKind.wrap IntKind.u8 (List.getD (sl t) (Int.toNat (↑(RtT.i i) : Int)) (0 : Int) - (48 : Int))))))) True) (And ((true : Bool) = true) True)))) ((true : Bool) = true))))))))))))))) (decide (List.getD (sl t) (Int.toNat (↑(RtT.i i) : Int)) (0 : Int) ≤ (57 : Int)))))) (decide ((48 : Int) ≤ List.getD (sl t) (Int.toNat (↑(RtT.i i) : Int)) (0 : Int)))))) (decide ((↑(RtT.i i) : Int) < (64 : Int)))))))) (And (M.tup [M.agg [SV.ints IntKind.u8 (32 : Nat) (List.replicate (32 : Nat) (0 : Int))], M.one (SV.v (Value.int IntKind.i64 (21 : Int)))] = M.tup [M.agg [SV.ints IntKind.u8 (32 : Nat) (Prod.fst (parseF (sl t)))], M.one (SV.v (Value.int IntKind.i64 (Prod.snd (parseF (sl t)))))]) ((true : Bool) = true)) ((↑(ByteArray.size t) : Int) != (64 : Int)))) (by kernel_rfl) ?_
  have hlen := sl_length t
  have hbad : ∀ {i : Nat}, i < (sl t).length → isHex ((sl t).getD i 0) = false → M.tup [M.agg [SV.ints IntKind.u8 32 (List.replicate 32 0)], M.one (SV.v (Value.int IntKind.i64 21))] = M.tup [M.agg [SV.ints IntKind.u8 32 (parseF (sl t)).fst], M.one (SV.v (Value.int IntKind.i64 (parseF (sl t)).snd))] := fun h1 h2 => by
    rw [parse_badc h1 h2]
  refine bif_not ?_
  refine bif_dec (fun h0 => ?_) (fun h0 => ?_)
  · refine ⟨⟨0, by decide, fun j hj => by omega⟩, ?_, ?_⟩
    ·
      repeat' first | exact cF_0 _ | exact encB_pure _ | exact trivial | refine And.intro ?_ ?_ | with_reducible refine bif_dt (by assumption) ?_ | with_reducible refine bif_df (by assumption) ?_ | with_reducible refine bif_dec (fun _ => ?_) (fun _ => ?_) | with_reducible refine bif_not ?_ | with_reducible refine bif_and ?_ | with_reducible refine bif_or ?_ | with_reducible refine bif_t (by assumption) ?_ | with_reducible refine bif_f (by assumption) ?_ | with_reducible refine bif_t (beq_self_eq_true _) ?_ | with_reducible refine bif_b (fun _ => ?_) (fun _ => ?_) | with_reducible refine ⟨_, Eq.refl (List.map _ _), ?_⟩ | (with_reducible refine Exists.intro (by omega) ?_) | rfl | (intro h0; omega) | omega
    rintro ⟨i, hi, hx⟩ -
    dsimp only
    refine bif_dec (fun h1 => ?_) (fun h1 => ?_)
    · have hi' : i < (sl t).length := by omega
      have hb := sl_By t _ (List.getElem_mem hi')
      have hg : (sl t).getD i 0 = (sl t)[i] := by rw [List.getD_eq_getElem?_getD, List.getElem?_eq_getElem hi']; rfl
      have e2 : IntKind.i64.wrap ((i : Int).tdiv 2) = ((i / 2 : Nat) : Int) := by rw [show (i : Int).tdiv 2 = ((i / 2 : Nat) : Int) from rfl, wrap64 (by omega) (by omega)]
      have good : isHex (sl t)[i] = true → ∃ p : RtT (sl t), p.i = i + 1 := fun hc => ⟨⟨i + 1, by omega, fun j hj => by
        by_cases h : j = i
        · rw [h, hg]; exact hc
        · exact hx j (by omega)⟩, rfl⟩
      have step : isHex (sl t)[i] = true → ∀ d, d = hval (sl t)[i] → cF (sl t) (i + 1) = (cF (sl t) i).set (i / 2) (IntKind.u8.wrap (IntKind.u8.wrap ((cF (sl t) i).getD (i / 2) 0 * 16) + d)) := fun hc d hd => by
        have hv := hval_lt hc
        rw [cF_next (by omega) hx (by rw [hg]; exact hc), hd, ad16 (cF_byte hx (by omega)) hv, hg]
      have nat2 : ∀ n : Nat, (n : Int).toNat = n := fun n => rfl
      simp only [e2, nat2, hg, inext (show i < 9223372036854775807 by omega)]
      have no : ∀ h : ¬ isHex (sl t)[i] = true, isHex ((sl t).getD i 0) = false := fun h => by rw [hg]; simpa using h
      refine ⟨by omega, by omega, ?_⟩
      refine bif_dec (fun h2 => ?_) (fun h2 => ?_)
      · refine ⟨by omega, by omega, ?_⟩
        refine bif_dec (fun h3 => ?_) (fun h3 => ?_)
        · have hc : isHex (sl t)[i] = true := isHex_iff.2 (.inl ⟨h2, h3⟩)
          have hd : IntKind.u8.wrap (IntKind.i64.wrap (IntKind.u8.wrap ((sl t)[i] - 48))) = hval (sl t)[i] := by rw [wrap8 ((sl t)[i] - 48), wrap64 (by omega) (by omega), wrap8]; unfold hval; rw [if_pos h3]; omega
          obtain ⟨p, hp1⟩ := good hc
          repeat (with_reducible refine And.intro (by first | exact trivial | omega | decide) ?_)
          refine ⟨p, ⟨by omega, trivial⟩, ?_⟩
          rw [hp1]
          repeat' first | exact step hc _ hd | exact trivial | refine And.intro ?_ ?_ | with_reducible refine bif_dt (by assumption) ?_ | with_reducible refine bif_df (by assumption) ?_ | with_reducible refine bif_dec (fun _ => ?_) (fun _ => ?_) | with_reducible refine bif_not ?_ | with_reducible refine bif_and ?_ | with_reducible refine bif_or ?_ | with_reducible refine bif_t (by assumption) ?_ | with_reducible refine bif_f (by assumption) ?_ | with_reducible refine bif_t (beq_self_eq_true _) ?_ | with_reducible refine bif_b (fun _ => ?_) (fun _ => ?_) | with_reducible refine ⟨_, Eq.refl (List.map _ _), ?_⟩ | (with_reducible refine Exists.intro (by omega) ?_) | rfl | (intro h0; omega) | omega
        · refine ⟨by omega, by omega, ?_⟩
          refine bif_dec (fun h4 => ?_) (fun h4 => ?_)
          · refine ⟨by omega, by omega, ?_⟩
            refine bif_dec (fun h5 => ?_) (fun h5 => ?_)
            · have hc : isHex (sl t)[i] = true := isHex_iff.2 (.inr ⟨h4, h5⟩)
              have hd : IntKind.u8.wrap (IntKind.i64.wrap (IntKind.i64.wrap (IntKind.u8.wrap ((sl t)[i] - 97)) + 10)) = hval (sl t)[i] := by
                rw [wrap8 ((sl t)[i] - 97), wrap64 (x := ((sl t)[i] - 97) % 256) (by omega) (by omega), wrap64 (by omega) (by omega), wrap8]; unfold hval; rw [if_neg h3]; omega
              obtain ⟨p, hp1⟩ := good hc
              repeat (with_reducible refine And.intro (by first | exact trivial | omega | decide) ?_)
              refine ⟨p, ⟨by omega, trivial⟩, ?_⟩
              rw [hp1]
              repeat' first | exact step hc _ hd | exact trivial | refine And.intro ?_ ?_ | with_reducible refine bif_dt (by assumption) ?_ | with_reducible refine bif_df (by assumption) ?_ | with_reducible refine bif_dec (fun _ => ?_) (fun _ => ?_) | with_reducible refine bif_not ?_ | with_reducible refine bif_and ?_ | with_reducible refine bif_or ?_ | with_reducible refine bif_t (by assumption) ?_ | with_reducible refine bif_f (by assumption) ?_ | with_reducible refine bif_t (beq_self_eq_true _) ?_ | with_reducible refine bif_b (fun _ => ?_) (fun _ => ?_) | with_reducible refine ⟨_, Eq.refl (List.map _ _), ?_⟩ | (with_reducible refine Exists.intro (by omega) ?_) | rfl | (intro h0; omega) | omega
            · exact ⟨hbad hi' (no fun h => by rcases isHex_iff.1 h with h | h <;> omega), trivial⟩
          · exact ⟨hbad hi' (no fun h => by rcases isHex_iff.1 h with h | h <;> omega), trivial⟩
      · refine ⟨by omega, by omega, ?_⟩
        refine bif_dec (fun h4 => ?_) (fun h4 => ?_)
        · omega
        · exact ⟨hbad hi' (no fun h => by rcases isHex_iff.1 h with h | h <;> omega), trivial⟩
    · have : i = 64 := by omega
      subst this
      rw [parse_ok (by omega) (fun j hj => hx j (by omega))]
      exact ⟨rfl, rfl⟩
  · rw [parse_bad (by omega)]
    exact ⟨rfl, rfl⟩
def hrparseT : List M → (M → Prop) → Prop
  | [.one (.v (.string t))], K => t.size ≤ 9223372036854775807 ∧ K (.tup [h32 (parseF (sl t)).1, int (parseF (sl t)).2])
  | _, _ => False
theorem hrparse_ok : POK Tryd.prog 29 hrparseT := by
  intro ms K h
  unfold hrparseT at h ⊢
  split at h
  · exact ⟨_, h.2, (rparse_spec _ h.1), rfl, fun _ hk => ⟨h.1, hk⟩⟩
  · exact h.elim

end Go.Proofs.YtblapbjafbmndaaDoor
