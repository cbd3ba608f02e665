/- The root; what proves a place. -/
import Derived.Test.YtblapbjafbmndaaDoorPL1
import Derived.Test.YtblapbjafbmndaaDoorSx24
namespace Go.Proofs.YtblapbjafbmndaaDoor
open Go Go.Sx Go.Sha
set_option linter.unusedVariables false
set_option linter.unusedSimpArgs false
set_option maxRecDepth 100000
set_option maxHeartbeats 4000000

def levels0T : MT := fun ms n h K => match ms with
  | [.one (.view vx0 ve0 en0 vl0), .one (.v (.int .i64 0)), .one (.clo 87 [])] => bif Nat.beq ve0 1 && noDup [] then ∃ l : List (BTy), vl0.map en0 = l.map eBl ∧ ((l.length ≤ 1000 ∧ (∀ y ∈ l, (bl y).length ≤ 1000000000) ∧ ∀ y ∈ l, By (bl y))) ∧ (∀ o : Unit, K (n + 0) (h32 (rootL l)) ([] ++ delL [] h)) else False
  | _ => False
theorem levels0_mono : MMono levels0T := by
  intro ms n h K K' hkk hk
  unfold levels0T at hk ⊢
  split at hk
  · rename_i vx0 ve0 va0 en0 vl0
    obtain ⟨hb, y0, z0, h1, h2⟩ := cond_false_elim hk
    rw [hb]
    exact ⟨y0, z0, h1, fun o => hkk _ _ _ (h2 o)⟩
  · exact hk.elim
theorem levels0_ok : MOK Tryd.prog 82 levels0T := by
  refine ⟨?_, levels0_mono⟩
  intro ms n hB K hk
  unfold levels0T at hk
  split at hk
  · rename_i vx0 ve0 va0 en0 vl0
    obtain ⟨hb, l, he0, h, hk2⟩ := cond_false_elim hk
    clear hk
    simp only [Bool.and_eq_true] at hb
    obtain ⟨hc0, hnd⟩ := hb
    have hs0 := Nat.eq_of_beq_eq_true hc0
    subst hs0
    refine SCall.seen ?_ (.cons (.view he0) (.cons (.refl _) (.cons (.refl _) .nil)))
    exact (levels0_spec _ h.1 h.2.1 h.2.2).use (fun _ => 0) rfl rfl trivial hnd (fun j hj => absurd hj (Nat.not_lt_zero j)) (fun o => hk2 o)
  · exact hk.elim

theorem rootF_ok : ∀ (f : Nat) (l : List (List Int)), Ok32 l → (rootF prF z32 f l).length = 32 ∧ By (rootF prF z32 f l)
  | 0, [], _ => ⟨rfl, By.rep 32⟩
  | 0, a :: r, h => h a (by simp)
  | f + 1, l, h => by
    unfold rootF
    cases Nat.ble l.length 1 with
    | true =>
      match l, h with
      | [], _ => exact ⟨rfl, By.rep 32⟩
      | a :: r, h => exact h a (by simp)
    | false => exact rootF_ok f _ (next_ok h)
theorem rootL_ok (l : List BTy) : (rootL l).length = 32 ∧ By (rootL l) := rootF_ok _ _ (lev0_ok l)
theorem root_spec (x : Value) {l : List BTy} (h : l.length ≤ 1000) (h2 : ∀ y ∈ l, (bl y).length ≤ 1000000000) (hB : ∀ y ∈ l, By (bl y)) : SFun Tryd.prog 44 [bV x l] (h32 (topF (l.length : Int) (rootL l))) := by
  refine SFun.inm [(86, topT)] (SOK.cons top_ok SOK.nil) [(82, levels0T)] (MSOK.cons levels0_ok MSOK.nil) tok mixed [] IOK.nil true [] [] Tryd.call44 Tryd.func44 rfl (by rfl) ?_
  refine Eq.mp (α := (∃ l_1 : List BTy, (And (List.map (Enc.enc BE) l = List.map eBl l_1) (And (And (List.length l_1 ≤ (1000 : Nat)) (And (∀ y : BTy, (∀ a : y ∈ l_1, (List.length (bl y) ≤ (1000000000 : Nat)))) (∀ y : BTy, (∀ a : y ∈ l_1, (∀ x_1 : Int, (∀ a_1 : x_1 ∈ bl y, (And ((0 : Int) ≤ x_1) (x_1 < (256 : Int))))))))) (∀ o : Unit, (And (And ((0 : Int) ≤ (↑(List.length l) : Int)) (And ((↑(List.length l) : Int) < (9223372036854775808 : Int)) (And (∀ x_1 : Int, (∀ a : x_1 ∈ rootL l_1, (And ((0 : Int) ≤ x_1) (x_1 < (256 : Int))))) (List.length (rootL l_1) = (32 : Nat))))) (And (M.agg [SV.ints IntKind.u8 (32 : Nat) (topF (↑(List.length l) : Int) (rootL l_1))] = M.agg [SV.ints IntKind.u8 (32 : Nat) (topF (↑(List.length l) : Int) (rootL l))]) ((true : Bool) = true)))))))) (by kernel_rfl) ?_
  refine ⟨l, rfl, ⟨h, h2, hB⟩, fun _ => ⟨⟨by omega, by omega, (rootL_ok l).2, (rootL_ok l).1⟩, ?_⟩⟩
  exact ⟨rfl, rfl⟩
def lrootT : List M → (M → Prop) → Prop
  | [.one (.view x0 es0 en0 l0)], K => bif Nat.beq es0 1 then ∃ l : List (BTy), l0.map en0 = l.map eBl ∧ ((l.length ≤ 1000 ∧ (∀ y ∈ l, (bl y).length ≤ 1000000000) ∧ ∀ y ∈ l, By (bl y)) ∧ K (h32 (topF (l.length : Int) (rootL l)))) else False
  | _, _ => False
theorem lroot_ok : POK Tryd.prog 44 lrootT := by
  intro ms K h
  unfold lrootT at h ⊢
  split at h
  · obtain ⟨hb0, l, he0, h0⟩ := cond_false_elim (b := Nat.beq _ _) h
    have hs0 := Nat.eq_of_beq_eq_true hb0
    subst hs0
    exact ⟨_, h0.2, (root_spec _ h0.1.1 h0.1.2.1 h0.1.2.2).seen (.cons (.view he0) .nil), rfl, fun _ hk => by show cond _ _ _; refine (show cond true _ _ from ⟨_, he0, ?_⟩); exact ⟨h0.1, hk⟩⟩
  · exact h.elim


noncomputable def sidesL (l : List BTy) (a : Nat) : List (List Int) := sidesF prF l.length (lev0 l) a
structure S2T (l : List BTy) (a0 : Nat) where
  lev : List (List Int)
  R : List (List Int)
  f : Nat
  a : Nat
  acc : List (List Int)
  cap : Nat
  hR : R.length = l.length
  hL : lev.length ≤ l.length
  hp : ∀ j (h : j < lev.length), R[j]? = some lev[j]
  hf : lev.length ≤ f
  ha : a < 1000
  hc : acc.length ≤ cap
  hs : acc ++ sidesF prF f lev a = sidesL l a0
  hz : acc.length + lev.length ≤ 1000
  ok : Ok32 lev
structure S3T (l : List BTy) (a0 : Nat) where
  lev : List (List Int)
  R : List (List Int)
  f : Nat
  a : Nat
  acc : List (List Int)
  cap : Nat
  n : Nat
  hR : R.length = l.length
  hL : lev.length ≤ l.length
  h1 : ∀ j, j < n → R[j]? = (nextF prF lev)[j]?
  h2 : ∀ j (h : j < lev.length), 2 * n ≤ j → R[j]? = some lev[j]
  hn : 2 * n ≤ lev.length
  hb : 1 < lev.length
  hf : (nextF prF lev).length ≤ f
  ha : a < 1000
  hc : acc.length ≤ cap
  hs : acc ++ sidesF prF f (nextF prF lev) (a / 2) = sidesL l a0
  hz : acc.length + (nextF prF lev).length ≤ 1000
  ok : Ok32 lev
noncomputable abbrev pvI (x : Value) (l : List BTy) (c0 : List SV) (a0 : Nat) : List (Nat × Inv) := [
  (3, ⟨L1T l, fun p => ⟨4, [(1, int a0), (2, .one (.clo 83 [.ptr 1 0])), (6, .one (.ptr 2 0)), (7, .one (.slc 3 32 0 l.length l.length)), (15, bV x l), (16, int l.length), (17, int p.i)], [(0, .cells c0), (1, .cells [.v (.int .i64 a0), .v (.int .i64 l.length), .v (.slice none 0 0)]), (2, .cells [.ints .u8 32 z32]), (3, .row 32 H32 (row1 l p.i) l.length)]⟩, fun p => l.length - p.i, fun _ _ => True⟩),
  (7, ⟨S2T l a0, fun p => ⟨5, [(1, int p.a), (2, .one (.clo 83 [.ptr 1 0])), (6, .one (.ptr 2 0)), (7, .one (.slc 3 32 0 p.lev.length l.length))], [(0, .cells c0), (1, .cells [.v (.int .i64 a0), .v (.int .i64 l.length), .nslc 4 32 p.acc.length p.cap]), (2, .cells [.ints .u8 32 z32]), (3, .row 32 H32 p.R l.length), (4, .row 32 H32 p.acc p.cap)]⟩, fun p => p.lev.length, fun _ _ => True⟩),
  (11, ⟨S3T l a0, fun p => ⟨5, [(1, int p.a), (2, .one (.clo 83 [.ptr 1 0])), (6, .one (.ptr 2 0)), (7, .one (.slc 3 32 0 p.lev.length l.length)), (10, int p.n), (11, int (2 * p.n : Nat))], [(0, .cells c0), (1, .cells [.v (.int .i64 a0), .v (.int .i64 l.length), .nslc 4 32 p.acc.length p.cap]), (2, .cells [.ints .u8 32 z32]), (3, .row 32 H32 p.R l.length), (4, .row 32 H32 p.acc p.cap)]⟩, fun p => p.lev.length - 2 * p.n, fun i j => j.lev = i.lev⟩)]
def inP (place : Int) (l : List BTy) : Bool := decide (0 ≤ place) && decide (place < l.length)
noncomputable def proveF (place : Int) (l : List BTy) : (Int × Int) × (List (List Int) × Int) := bif inP place l then ((place, (l.length : Int)), (sidesL l place.toNat, 0)) else ((0, 0), ([], 1))
abbrev p00 : List SV := [.v (.int .i64 0), .v (.int .i64 0), .v (.slice none 0 0)]
abbrev pfM (y : Value) (p : Int × Int) (s : List (List Int)) : M := .agg [.v (.int .i64 p.1), .v (.int .i64 p.2), .view y 32 H32.enc s]
theorem half_i (a : Nat) (h : a < 1000000000) : IntKind.i64.wrap (Int.tdiv (a : Int) 2) = ((a / 2 : Nat) : Int) := by
  rw [Int.tdiv_eq_ediv_of_nonneg (by omega), wrap64 (by omega) (by omega)]
  omega
theorem proven_spec (x : Value) {l : List BTy} {a0 : Nat} (ha : a0 < l.length) (h : l.length ≤ 1000) (h2 : ∀ y ∈ l, (bl y).length ≤ 1000000000) (hB : ∀ y ∈ l, By (bl y)) :
    SMem Tryd.prog 42 [int a0, bV x l] 0 [] (fun y : Value => ⟨0, .tup [pfM y (a0, l.length) (sidesL l a0), int 0], []⟩) := by
  refine SMem.inf 32 H32 [(89, itemT), (26, pairT)] (SOK.cons item_ok (SOK.cons pair_ok SOK.nil)) [] MSOK.nil tok mixed [(82, ⟨Tryd.f82, false, (pvI x l p00 a0), []⟩), (83, ⟨Tryd.f83, false, [], []⟩)] (IOK.cons Tryd.func82 Tryd.call82 (IOK.cons Tryd.func83 Tryd.call83 IOK.nil)) false [] [] Tryd.call42 Tryd.func42 rfl (by rfl) ?_
  refine Eq.mp (α := (@Bool.rec (fun _ => Prop) (And ((0 : Int) ≤ (↑(List.length l) : Int)) (And ((0 : Int) ≤ (↑(List.length l) : Int)) (And (Int.toNat (↑(List.length l) : Int) ≤ Int.toNat (↑(List.length l) : Int)) (And ((32 : Nat) * Int.toNat (↑(List.length l) : Int) ≤ (281474976710656 : Nat)) (And (Int.toNat (↑(List.length l) : Int) ≤ (9223372036854775807 : Nat)) (∃ i0 : L1T l, (And (And True (And (And ((↑a0 : Int) = (↑a0 : Int)) (And (And ((83 : Nat) = (83 : Nat)) (And ((true : Bool) = true) True)) (And (And ((true : Bool) = true) ((0 : Nat) = (0 : Nat))) (And (And ((true : Bool) = true) (And ((0 : Nat) = (0 : Nat)) (And (List.length l = Int.toNat (↑(List.length l) : Int)) (List.length l = Int.toNat (↑(List.length l) : Int))))) (And (SV.view x (1 : Nat) (Enc.enc BE) l = SV.view x (1 : Nat) (Enc.enc BE) l) (And ((↑(List.length l) : Int) = (↑(List.length l) : Int)) (And ((↑(L1T.i i0) : Int) = (0 : Int)) True))))))) (And (And (And ((0 : Int) = (0 : Int)) (And ((0 : Int) = (0 : Int)) (And (Value.slice none (0 : Nat) (0 : Nat) = Value.slice none (0 : Nat) (0 : Nat)) True))) (And ((true : Bool) = true) (And (And ((↑a0 : Int) = (↑a0 : Int)) (And ((↑(List.length l) : Int) = (↑(List.length l) : Int)) (And (Value.slice none (0 : Nat) (0 : Nat) = Value.slice none (0 : Nat) (0 : Nat)) True))) (And ((true : Bool) = true) (And (And (z32 = List.replicate (32 : Nat) (0 : Int)) True) (And ((true : Bool) = true) (And (And ((true : Bool) = true) (And (List.length l = Int.toNat (↑(List.length l) : Int)) (And (List.map (Enc.enc H32) (row1 l (L1T.i i0)) = List.map (Enc.enc (encInts IntKind.u8 (32 : Nat))) (List.replicate (Int.toNat (↑(List.length l) : Int)) (Enc.of (encInts IntKind.u8 (32 : Nat)) (List.replicate (32 : Nat) (0 : Int), ())))) (∀ x_1 : List Int, (∀ a : x_1 ∈ row1 l (L1T.i i0), (∀ s : SV, (∀ a_1 : s ∈ Enc.enc H32 x_1, ((SV.isPure s : Bool) = (true))))))))) (And ((true : Bool) = true) True)))))))) ((true : Bool) = true)))) (∀ i : L1T l, (∀ a : True, (@Bool.rec (fun _ => Prop) (∃ i0_1 : S2T l a0, (And (And True (And (And ((↑(S2T.a i0_1) : Int) = (↑a0 : Int)) (And (And ((83 : Nat) = (83 : Nat)) (And ((true : Bool) = true) True)) (And (And ((true : Bool) = true) ((0 : Nat) = (0 : Nat))) (And (And ((true : Bool) = true) (And ((0 : Nat) = (0 : Nat)) (And (List.length (S2T.lev i0_1) = List.length l) (List.length l = List.length l)))) True)))) (And (And (And ((0 : Int) = (0 : Int)) (And ((0 : Int) = (0 : Int)) (And (Value.slice none (0 : Nat) (0 : Nat) = Value.slice none (0 : Nat) (0 : Nat)) True))) (And ((true : Bool) = true) (And (And ((↑a0 : Int) = (↑a0 : Int)) (And ((↑(List.length l) : Int) = (↑(List.length l) : Int)) (And (And ((true : Bool) = true) (And (List.length (S2T.acc i0_1) = (0 : Nat)) (S2T.cap i0_1 = (0 : Nat)))) True))) (And ((true : Bool) = true) (And (And (z32 = z32) True) (And ((true : Bool) = true) (And (And ((true : Bool) = true) (And (List.length l = List.length l) (And (List.map (Enc.enc H32) (S2T.R i0_1) = List.map (Enc.enc H32) (row1 l (L1T.i i))) (∀ x_1 : List Int, (∀ a_1 : x_1 ∈ S2T.R i0_1, (∀ s : SV, (∀ a_2 : s ∈ Enc.enc H32 x_1, ((SV.isPure s : Bool) = (true))))))))) (And ((true : Bool) = true) (And (And ((true : Bool) = true) (And (S2T.cap i0_1 = (0 : Nat)) (And (List.map (Enc.enc H32) (S2T.acc i0_1) = List.map (Enc.enc H32) []) (∀ x_1 : List Int, (∀ a_1 : x_1 ∈ S2T.acc i0_1, (∀ s : SV, (∀ a_2 : s ∈ Enc.enc H32 x_1, ((SV.isPure s : Bool) = (true))))))))) (And ((true : Bool) = true) True)))))))))) ((true : Bool) = true)))) (∀ i_1 : S2T l a0, (∀ a_1 : True, (@Bool.rec (fun _ => Prop) (@Bool.rec (fun _ => Prop) (And ((0 : Int) ≤ (0 : Int)) (And (Int.toNat (0 : Int) < List.length (S2T.lev i_1)) (∃ hi : (0 : Nat) + Int.toNat (0 : Int) < List.length (S2T.R i_1), (And (List.length (S2T.acc i_1) ≤ List.length (S2T.acc i_1)) (And (List.length (S2T.acc i_1) ≤ S2T.cap i_1) (And (S2T.cap i_1 = S2T.cap i_1) (And (∀ y : List Int, ((true : Bool) = true)) (∀ x_1 : Value, (∃ o : Value, (And (And (And (And ((↑a0 : Int) = (↑a0 : Int)) (And ((↑(List.length l) : Int) = (↑(List.length l) : Int)) (And (SV.view o (32 : Nat) (Enc.enc H32) (sidesL l a0) = nilV (32 : Nat) H32 (SV.view x_1 (32 : Nat) (Enc.enc H32) (List.take (List.length (S2T.acc i_1)) (S2T.acc i_1)))) True))) (And ((0 : Int) = (0 : Int)) True)) True) (And True ((true : Bool) = true)))))))))))) (And (List.length (S2T.acc i_1) ≤ List.length (S2T.acc i_1)) (And (List.length (S2T.acc i_1) ≤ S2T.cap i_1) (And (S2T.cap i_1 = S2T.cap i_1) (And (∀ y : List Int, ((true : Bool) = true)) (∀ x_1 : Value, (∃ o : Value, (And (And (And (And ((↑a0 : Int) = (↑a0 : Int)) (And ((↑(List.length l) : Int) = (↑(List.length l) : Int)) (And (SV.view o (32 : Nat) (Enc.enc H32) (sidesL l a0) = nilV (32 : Nat) H32 (SV.view x_1 (32 : Nat) (Enc.enc H32) (List.take (List.length (S2T.acc i_1)) (S2T.acc i_1)))) True))) (And ((0 : Int) = (0 : Int)) True)) True) (And True ((true : Bool) = true))))))))) ((↑(List.length (S2T.lev i_1)) : Int) == (0 : Int))) (@Bool.rec (fun _ => Prop) (∃ i0_2 : S3T l a0, (And (And (S3T.lev i0_2 = S3T.lev i0_2) (And (And ((↑(S3T.a i0_2) : Int) = (↑(S2T.a i_1) : Int)) (And (And ((83 : Nat) = (83 : Nat)) (And ((true : Bool) = true) True)) (And (And ((true : Bool) = true) ((0 : Nat) = (0 : Nat))) (And (And ((true : Bool) = true) (And ((0 : Nat) = (0 : Nat)) (And (List.length (S3T.lev i0_2) = List.length (S2T.lev i_1)) (List.length l = List.length l)))) (And ((↑(S3T.n i0_2) : Int) = (0 : Int)) (And ((↑((2 : Nat) * S3T.n i0_2) : Int) = (0 : Int)) True)))))) (And (And (And ((0 : Int) = (0 : Int)) (And ((0 : Int) = (0 : Int)) (And (Value.slice none (0 : Nat) (0 : Nat) = Value.slice none (0 : Nat) (0 : Nat)) True))) (And ((true : Bool) = true) (And (And ((↑a0 : Int) = (↑a0 : Int)) (And ((↑(List.length l) : Int) = (↑(List.length l) : Int)) (And (And ((true : Bool) = true) (And (List.length (S3T.acc i0_2) = List.length (S2T.acc i_1)) (S3T.cap i0_2 = S2T.cap i_1))) True))) (And ((true : Bool) = true) (And (And (z32 = z32) True) (And ((true : Bool) = true) (And (And ((true : Bool) = true) (And (List.length l = List.length l) (And (List.map (Enc.enc H32) (S3T.R i0_2) = List.map (Enc.enc H32) (S2T.R i_1)) (∀ x_1 : List Int, (∀ a_2 : x_1 ∈ S3T.R i0_2, (∀ s : SV, (∀ a_3 : s ∈ Enc.enc H32 x_1, ((SV.isPure s : Bool) = (true))))))))) (And ((true : Bool) = true) (And (And ((true : Bool) = true) (And (S3T.cap i0_2 = S2T.cap i_1) (And (List.map (Enc.enc H32) (S3T.acc i0_2) = List.map (Enc.enc H32) (S2T.acc i_1)) (∀ x_1 : List Int, (∀ a_2 : x_1 ∈ S3T.acc i0_2, (∀ s : SV, (∀ a_3 : s ∈ Enc.enc H32 x_1, ((SV.isPure s : Bool) = (true))))))))) (And ((true : Bool) = true) True)))))))))) ((true : Bool) = true)))) (∀ i_2 : S3T l a0, (∀ a_2 : S3T.lev i_2 = S3T.lev i0_2, (@Bool.rec (fun _ => Prop) (And ((0 : Int) ≤ (↑(S3T.n i_2) : Int)) (And ((0 : Nat) ≤ Int.toNat (↑(S3T.n i_2) : Int)) (And (Int.toNat (↑(S3T.n i_2) : Int) ≤ List.length l) (And (List.length l ≤ List.length l) (And ((2 : Int) ≠ (0 : Int)) (∃ i' : S2T l a0, (And (And (List.length (S2T.lev i') < List.length (S2T.lev i_1)) True) (And (And ((↑(S2T.a i') : Int) = IntKind.wrap IntKind.i64 (Int.tdiv (↑(S3T.a i_2) : Int) (2 : Int))) (And (And ((83 : Nat) = (83 : Nat)) (And ((true : Bool) = true) True)) (And (And ((true : Bool) = true) ((0 : Nat) = (0 : Nat))) (And (And ((true : Bool) = true) (And ((0 : Nat) = if List.length l = (0 : Nat) then (0 : Nat) else (0 : Nat) + (0 : Nat)) (And (List.length (S2T.lev i') = Int.toNat (↑(S3T.n i_2) : Int) - (0 : Nat)) (List.length l = List.length l - (0 : Nat))))) True)))) (And (And (And ((0 : Int) = (0 : Int)) (And ((0 : Int) = (0 : Int)) (And (Value.slice none (0 : Nat) (0 : Nat) = Value.slice none (0 : Nat) (0 : Nat)) True))) (And ((true : Bool) = true) (And (And ((↑a0 : Int) = (↑a0 : Int)) (And ((↑(List.length l) : Int) = (↑(List.length l) : Int)) (And (And ((true : Bool) = true) (And (List.length (S2T.acc i') = List.length (S3T.acc i_2)) (S2T.cap i' = S3T.cap i_2))) True))) (And ((true : Bool) = true) (And (And (z32 = z32) True) (And ((true : Bool) = true) (And (And ((true : Bool) = true) (And (List.length l = List.length l) (And (List.map (Enc.enc H32) (S2T.R i') = List.map (Enc.enc H32) (S3T.R i_2)) (∀ x_1 : List Int, (∀ a_3 : x_1 ∈ S2T.R i', (∀ s : SV, (∀ a_4 : s ∈ Enc.enc H32 x_1, ((SV.isPure s : Bool) = (true))))))))) (And ((true : Bool) = true) (And (And ((true : Bool) = true) (And (S2T.cap i' = S3T.cap i_2) (And (List.map (Enc.enc H32) (S2T.acc i') = List.map (Enc.enc H32) (S3T.acc i_2)) (∀ x_1 : List Int, (∀ a_3 : x_1 ∈ S2T.acc i', (∀ s : SV, (∀ a_4 : s ∈ Enc.enc H32 x_1, ((SV.isPure s : Bool) = (true))))))))) (And ((true : Bool) = true) True)))))))))) ((true : Bool) = true)))))))))) (@Bool.rec (fun _ => Prop) (And ((0 : Int) ≤ (↑((2 : Nat) * S3T.n i_2) : Int)) (And (Int.toNat (↑((2 : Nat) * S3T.n i_2) : Int) < List.length (S3T.lev i_2)) (∃ hi : (0 : Nat) + Int.toNat (↑((2 : Nat) * S3T.n i_2) : Int) < List.length (S3T.R i_2), (And ((0 : Int) ≤ IntKind.wrap IntKind.i64 ((↑((2 : Nat) * S3T.n i_2) : Int) + (1 : Int))) (And (Int.toNat (IntKind.wrap IntKind.i64 ((↑((2 : Nat) * S3T.n i_2) : Int) + (1 : Int))) < List.length (S3T.lev i_2)) (∃ hi_1 : (0 : Nat) + Int.toNat (IntKind.wrap IntKind.i64 ((↑((2 : Nat) * S3T.n i_2) : Int) + (1 : Int))) < List.length (S3T.R i_2), (And (And (List.length (S3T.R i_2)[(0 : Nat) + Int.toNat (↑((2 : Nat) * S3T.n i_2) : Int)] = (32 : Nat)) (And (List.length (S3T.R i_2)[(0 : Nat) + Int.toNat (IntKind.wrap IntKind.i64 ((↑((2 : Nat) * S3T.n i_2) : Int) + (1 : Int)))] = (32 : Nat)) (And (∀ x_1 : Int, (∀ a_3 : x_1 ∈ (S3T.R i_2)[(0 : Nat) + Int.toNat (↑((2 : Nat) * S3T.n i_2) : Int)], (And ((0 : Int) ≤ x_1) (x_1 < (256 : Int))))) (∀ x_1 : Int, (∀ a_3 : x_1 ∈ (S3T.R i_2)[(0 : Nat) + Int.toNat (IntKind.wrap IntKind.i64 ((↑((2 : Nat) * S3T.n i_2) : Int) + (1 : Int)))], (And ((0 : Int) ≤ x_1) (x_1 < (256 : Int)))))))) (And ((0 : Int) ≤ (↑(S3T.n i_2) : Int)) (And (Int.toNat (↑(S3T.n i_2) : Int) < List.length (S3T.lev i_2)) (∃ hi_2 : (0 : Nat) + Int.toNat (↑(S3T.n i_2) : Int) < List.length (S3T.R i_2), (∃ i' : S3T l a0, (And (And (List.length (S3T.lev i') - (2 : Nat) * S3T.n i' < List.length (S3T.lev i_2) - (2 : Nat) * S3T.n i_2) (S3T.lev i' = S3T.lev i0_2)) (And (And ((↑(S3T.a i') : Int) = (↑(S3T.a i_2) : Int)) (And (And ((83 : Nat) = (83 : Nat)) (And ((true : Bool) = true) True)) (And (And ((true : Bool) = true) ((0 : Nat) = (0 : Nat))) (And (And ((true : Bool) = true) (And ((0 : Nat) = (0 : Nat)) (And (List.length (S3T.lev i') = List.length (S3T.lev i_2)) (List.length l = List.length l)))) (And ((↑(S3T.n i') : Int) = IntKind.wrap IntKind.i64 ((↑(S3T.n i_2) : Int) + (1 : Int))) (And ((↑((2 : Nat) * S3T.n i') : Int) = IntKind.wrap IntKind.i64 ((↑((2 : Nat) * S3T.n i_2) : Int) + (2 : Int))) True)))))) (And (And (And ((0 : Int) = (0 : Int)) (And ((0 : Int) = (0 : Int)) (And (Value.slice none (0 : Nat) (0 : Nat) = Value.slice none (0 : Nat) (0 : Nat)) True))) (And ((true : Bool) = true) (And (And ((↑a0 : Int) = (↑a0 : Int)) (And ((↑(List.length l) : Int) = (↑(List.length l) : Int)) (And (And ((true : Bool) = true) (And (List.length (S3T.acc i') = List.length (S3T.acc i_2)) (S3T.cap i' = S3T.cap i_2))) True))) (And ((true : Bool) = true) (And (And (z32 = z32) True) (And ((true : Bool) = true) (And (And ((true : Bool) = true) (And (List.length l = List.length l) (And (List.map (Enc.enc H32) (S3T.R i') = List.map (Enc.enc H32) (List.set (S3T.R i_2) ((0 : Nat) + Int.toNat (↑(S3T.n i_2) : Int)) (Enc.of H32 (shaF (pairF (S3T.R i_2)[(0 : Nat) + Int.toNat (↑((2 : Nat) * S3T.n i_2) : Int)] (S3T.R i_2)[(0 : Nat) + Int.toNat (IntKind.wrap IntKind.i64 ((↑((2 : Nat) * S3T.n i_2) : Int) + (1 : Int)))]), ())))) (∀ x_1 : List Int, (∀ a_3 : x_1 ∈ S3T.R i', (∀ s : SV, (∀ a_4 : s ∈ Enc.enc H32 x_1, ((SV.isPure s : Bool) = (true))))))))) (And ((true : Bool) = true) (And (And ((true : Bool) = true) (And (S3T.cap i' = S3T.cap i_2) (And (List.map (Enc.enc H32) (S3T.acc i') = List.map (Enc.enc H32) (S3T.acc i_2)) (∀ x_1 : List Int, (∀ a_3 : x_1 ∈ S3T.acc i', (∀ s : SV, (∀ a_4 : s ∈ Enc.enc H32 x_1, ((SV.isPure s : Bool) = (true))))))))) (And ((true : Bool) = true) True)))))))))) ((true : Bool) = true))))))))))))))) (And ((0 : Int) ≤ (↑((2 : Nat) * S3T.n i_2) : Int)) (And (Int.toNat (↑((2 : Nat) * S3T.n i_2) : Int) < List.length (S3T.lev i_2)) (∃ hi : (0 : Nat) + Int.toNat (↑((2 : Nat) * S3T.n i_2) : Int) < List.length (S3T.R i_2), (And ((0 : Int) ≤ (↑(S3T.n i_2) : Int)) (And (Int.toNat (↑(S3T.n i_2) : Int) < List.length (S3T.lev i_2)) (∃ hi_1 : (0 : Nat) + Int.toNat (↑(S3T.n i_2) : Int) < List.length (S3T.R i_2), (And ((0 : Int) ≤ IntKind.wrap IntKind.i64 ((↑(S3T.n i_2) : Int) + (1 : Int))) (And ((0 : Nat) ≤ Int.toNat (IntKind.wrap IntKind.i64 ((↑(S3T.n i_2) : Int) + (1 : Int)))) (And (Int.toNat (IntKind.wrap IntKind.i64 ((↑(S3T.n i_2) : Int) + (1 : Int))) ≤ List.length l) (And (List.length l ≤ List.length l) (And ((2 : Int) ≠ (0 : Int)) (∃ i' : S2T l a0, (And (And (List.length (S2T.lev i') < List.length (S2T.lev i_1)) True) (And (And ((↑(S2T.a i') : Int) = IntKind.wrap IntKind.i64 (Int.tdiv (↑(S3T.a i_2) : Int) (2 : Int))) (And (And ((83 : Nat) = (83 : Nat)) (And ((true : Bool) = true) True)) (And (And ((true : Bool) = true) ((0 : Nat) = (0 : Nat))) (And (And ((true : Bool) = true) (And ((0 : Nat) = if List.length l = (0 : Nat) then (0 : Nat) else (0 : Nat) + (0 : Nat)) (And (List.length (S2T.lev i') = Int.toNat (IntKind.wrap IntKind.i64 ((↑(S3T.n i_2) : Int) + (1 : Int))) - (0 : Nat)) (List.length l = List.length l - (0 : Nat))))) True)))) (And (And (And ((0 : Int) = (0 : Int)) (And ((0 : Int) = (0 : Int)) (And (Value.slice none (0 : Nat) (0 : Nat) = Value.slice none (0 : Nat) (0 : Nat)) True))) (And ((true : Bool) = true) (And (And ((↑a0 : Int) = (↑a0 : Int)) (And ((↑(List.length l) : Int) = (↑(List.length l) : Int)) (And (And ((true : Bool) = true) (And (List.length (S2T.acc i') = List.length (S3T.acc i_2)) (S2T.cap i' = S3T.cap i_2))) True))) (And ((true : Bool) = true) (And (And (z32 = z32) True) (And ((true : Bool) = true) (And (And ((true : Bool) = true) (And (List.length l = List.length l) (And (List.map (Enc.enc H32) (S2T.R i') = List.map (Enc.enc H32) (List.set (S3T.R i_2) ((0 : Nat) + Int.toNat (↑(S3T.n i_2) : Int)) (Enc.of H32 ((S3T.R i_2)[(0 : Nat) + Int.toNat (↑((2 : Nat) * S3T.n i_2) : Int)], ())))) (∀ x_1 : List Int, (∀ a_3 : x_1 ∈ S2T.R i', (∀ s : SV, (∀ a_4 : s ∈ Enc.enc H32 x_1, ((SV.isPure s : Bool) = (true))))))))) (And ((true : Bool) = true) (And (And ((true : Bool) = true) (And (S2T.cap i' = S3T.cap i_2) (And (List.map (Enc.enc H32) (S2T.acc i') = List.map (Enc.enc H32) (S3T.acc i_2)) (∀ x_1 : List Int, (∀ a_3 : x_1 ∈ S2T.acc i', (∀ s : SV, (∀ a_4 : s ∈ Enc.enc H32 x_1, ((SV.isPure s : Bool) = (true))))))))) (And ((true : Bool) = true) True)))))))))) ((true : Bool) = true)))))))))))))))) (IntKind.wrap IntKind.i64 ((↑((2 : Nat) * S3T.n i_2) : Int) + (1 : Int)) == (↑(List.length (S3T.lev i_2)) : Int))) (decide ((↑((2 : Nat) * S3T.n i_2) : Int) < (↑(List.length (S3T.lev i_2)) : Int)))))))) (And ((0 : Int) ≤ Sx.bits BinOp.xor IntKind.i64 (↑(S2T.a i_1) : Int) (1 : Int)) (And (Int.toNat (Sx.bits BinOp.xor IntKind.i64 (↑(S2T.a i_1) : Int) (1 : Int)) < List.length (S2T.lev i_1)) (∃ hi : (0 : Nat) + Int.toNat (Sx.bits BinOp.xor IntKind.i64 (↑(S2T.a i_1) : Int) (1 : Int)) < List.length (S2T.R i_1), (And (List.length (S2T.acc i_1) = List.length (S2T.acc i_1)) (And (S2T.cap i_1 = S2T.cap i_1) (And ((0 : Nat) + (1 : Nat) ≤ (1 : Nat)) (And ((List.length (S2T.acc i_1) + (1 : Nat)) * (32 : Nat) ≤ (150000000000000 : Nat)) (∀ cap2 : Nat, (∀ a_2 : List.length (S2T.acc i_1) + (1 : Nat) ≤ cap2, (∃ i0_2 : S3T l a0, (And (And (S3T.lev i0_2 = S3T.lev i0_2) (And (And ((↑(S3T.a i0_2) : Int) = (↑(S2T.a i_1) : Int)) (And (And ((83 : Nat) = (83 : Nat)) (And ((true : Bool) = true) True)) (And (And ((true : Bool) = true) ((0 : Nat) = (0 : Nat))) (And (And ((true : Bool) = true) (And ((0 : Nat) = (0 : Nat)) (And (List.length (S3T.lev i0_2) = List.length (S2T.lev i_1)) (List.length l = List.length l)))) (And ((↑(S3T.n i0_2) : Int) = (0 : Int)) (And ((↑((2 : Nat) * S3T.n i0_2) : Int) = (0 : Int)) True)))))) (And (And (And ((0 : Int) = (0 : Int)) (And ((0 : Int) = (0 : Int)) (And (Value.slice none (0 : Nat) (0 : Nat) = Value.slice none (0 : Nat) (0 : Nat)) True))) (And ((true : Bool) = true) (And (And ((↑a0 : Int) = (↑a0 : Int)) (And ((↑(List.length l) : Int) = (↑(List.length l) : Int)) (And (And ((true : Bool) = true) (And (List.length (S3T.acc i0_2) = List.length (S2T.acc i_1 ++ castL (encInts IntKind.u8 (32 : Nat)) H32 (List.take (1 : Nat) (List.drop (0 : Nat) [Enc.of (encInts IntKind.u8 (32 : Nat)) ((S2T.R i_1)[(0 : Nat) + Int.toNat (Sx.bits BinOp.xor IntKind.i64 (↑(S2T.a i_1) : Int) (1 : Int))], ())])))) (S3T.cap i0_2 = cap2))) True))) (And ((true : Bool) = true) (And (And (z32 = z32) True) (And ((true : Bool) = true) (And (And ((true : Bool) = true) (And (List.length l = List.length l) (And (List.map (Enc.enc H32) (S3T.R i0_2) = List.map (Enc.enc H32) (S2T.R i_1)) (∀ x_1 : List Int, (∀ a_3 : x_1 ∈ S3T.R i0_2, (∀ s : SV, (∀ a_4 : s ∈ Enc.enc H32 x_1, ((SV.isPure s : Bool) = (true))))))))) (And ((true : Bool) = true) (And (And ((true : Bool) = true) (And (S3T.cap i0_2 = cap2) (And (List.map (Enc.enc H32) (S3T.acc i0_2) = List.map (Enc.enc H32) (S2T.acc i_1 ++ castL (encInts IntKind.u8 (32 : Nat)) H32 (List.take (1 : Nat) (List.drop (0 : Nat) [Enc.of (encInts IntKind.u8 (32 : Nat)) ((S2T.R i_1)[(0 : Nat) + Int.toNat (Sx.bits BinOp.xor IntKind.i64 (↑(S2T.a i_1) : Int) (1 : Int))], ())])))) (∀ x_1 : List Int, (∀ a_3 : x_1 ∈ S3T.acc i0_2, (∀ s : SV, (∀ a_4 : s ∈ Enc.enc H32 x_1, ((SV.isPure s : Bool) = (true))))))))) (And ((true : Bool) = true) True)))))))))) ((true : Bool) = true)))) (∀ i_2 : S3T l a0, (∀ a_3 : S3T.lev i_2 = S3T.lev i0_2, (@Bool.rec (fun _ => Prop) (And ((0 : Int) ≤ (↑(S3T.n i_2) : Int)) (And ((0 : Nat) ≤ Int.toNat (↑(S3T.n i_2) : Int)) (And (Int.toNat (↑(S3T.n i_2) : Int) ≤ List.length l) (And (List.length l ≤ List.length l) (And ((2 : Int) ≠ (0 : Int)) (∃ i' : S2T l a0, (And (And (List.length (S2T.lev i') < List.length (S2T.lev i_1)) True) (And (And ((↑(S2T.a i') : Int) = IntKind.wrap IntKind.i64 (Int.tdiv (↑(S3T.a i_2) : Int) (2 : Int))) (And (And ((83 : Nat) = (83 : Nat)) (And ((true : Bool) = true) True)) (And (And ((true : Bool) = true) ((0 : Nat) = (0 : Nat))) (And (And ((true : Bool) = true) (And ((0 : Nat) = if List.length l = (0 : Nat) then (0 : Nat) else (0 : Nat) + (0 : Nat)) (And (List.length (S2T.lev i') = Int.toNat (↑(S3T.n i_2) : Int) - (0 : Nat)) (List.length l = List.length l - (0 : Nat))))) True)))) (And (And (And ((0 : Int) = (0 : Int)) (And ((0 : Int) = (0 : Int)) (And (Value.slice none (0 : Nat) (0 : Nat) = Value.slice none (0 : Nat) (0 : Nat)) True))) (And ((true : Bool) = true) (And (And ((↑a0 : Int) = (↑a0 : Int)) (And ((↑(List.length l) : Int) = (↑(List.length l) : Int)) (And (And ((true : Bool) = true) (And (List.length (S2T.acc i') = List.length (S3T.acc i_2)) (S2T.cap i' = S3T.cap i_2))) True))) (And ((true : Bool) = true) (And (And (z32 = z32) True) (And ((true : Bool) = true) (And (And ((true : Bool) = true) (And (List.length l = List.length l) (And (List.map (Enc.enc H32) (S2T.R i') = List.map (Enc.enc H32) (S3T.R i_2)) (∀ x_1 : List Int, (∀ a_4 : x_1 ∈ S2T.R i', (∀ s : SV, (∀ a_5 : s ∈ Enc.enc H32 x_1, ((SV.isPure s : Bool) = (true))))))))) (And ((true : Bool) = true) (And (And ((true : Bool) = true) (And (S2T.cap i' = S3T.cap i_2) (And (List.map (Enc.enc H32) (S2T.acc i') = List.map (Enc.enc H32) (S3T.acc i_2)) (∀ x_1 : List Int, (∀ a_4 : x_1 ∈ S2T.acc i', (∀ s : SV, (∀ a_5 : s ∈ Enc.enc H32 x_1, ((SV.isPure s : Bool) = (true))))))))) (And ((true : Bool) = true) True)))))))))) ((true : Bool) = true)))))))))) (@Bool.rec (fun _ => Prop) (And ((0 : Int) ≤ (↑((2 : Nat) * S3T.n i_2) : Int)) (And (Int.toNat (↑((2 : Nat) * S3T.n i_2) : Int) < List.length (S3T.lev i_2)) (∃ hi_1 : (0 : Nat) + Int.toNat (↑((2 : Nat) * S3T.n i_2) : Int) < List.length (S3T.R i_2), (And ((0 : Int) ≤ IntKind.wrap IntKind.i64 ((↑((2 : Nat) * S3T.n i_2) : Int) + (1 : Int))) (And (Int.toNat (IntKind.wrap IntKind.i64 ((↑((2 : Nat) * S3T.n i_2) : Int) + (1 : Int))) < List.length (S3T.lev i_2)) (∃ hi_2 : (0 : Nat) + Int.toNat (IntKind.wrap IntKind.i64 ((↑((2 : Nat) * S3T.n i_2) : Int) + (1 : Int))) < List.length (S3T.R i_2), (And (And (List.length (S3T.R i_2)[(0 : Nat) + Int.toNat (↑((2 : Nat) * S3T.n i_2) : Int)] = (32 : Nat)) (And (List.length (S3T.R i_2)[(0 : Nat) + Int.toNat (IntKind.wrap IntKind.i64 ((↑((2 : Nat) * S3T.n i_2) : Int) + (1 : Int)))] = (32 : Nat)) (And (∀ x_1 : Int, (∀ a_4 : x_1 ∈ (S3T.R i_2)[(0 : Nat) + Int.toNat (↑((2 : Nat) * S3T.n i_2) : Int)], (And ((0 : Int) ≤ x_1) (x_1 < (256 : Int))))) (∀ x_1 : Int, (∀ a_4 : x_1 ∈ (S3T.R i_2)[(0 : Nat) + Int.toNat (IntKind.wrap IntKind.i64 ((↑((2 : Nat) * S3T.n i_2) : Int) + (1 : Int)))], (And ((0 : Int) ≤ x_1) (x_1 < (256 : Int)))))))) (And ((0 : Int) ≤ (↑(S3T.n i_2) : Int)) (And (Int.toNat (↑(S3T.n i_2) : Int) < List.length (S3T.lev i_2)) (∃ hi_3 : (0 : Nat) + Int.toNat (↑(S3T.n i_2) : Int) < List.length (S3T.R i_2), (∃ i' : S3T l a0, (And (And (List.length (S3T.lev i') - (2 : Nat) * S3T.n i' < List.length (S3T.lev i_2) - (2 : Nat) * S3T.n i_2) (S3T.lev i' = S3T.lev i0_2)) (And (And ((↑(S3T.a i') : Int) = (↑(S3T.a i_2) : Int)) (And (And ((83 : Nat) = (83 : Nat)) (And ((true : Bool) = true) True)) (And (And ((true : Bool) = true) ((0 : Nat) = (0 : Nat))) (And (And ((true : Bool) = true) (And ((0 : Nat) = (0 : Nat)) (And (List.length (S3T.lev i') = List.length (S3T.lev i_2)) (List.length l = List.length l)))) (And ((↑(S3T.n i') : Int) = IntKind.wrap IntKind.i64 ((↑(S3T.n i_2) : Int) + (1 : Int))) (And ((↑((2 : Nat) * S3T.n i') : Int) = IntKind.wrap IntKind.i64 ((↑((2 : Nat) * S3T.n i_2) : Int) + (2 : Int))) True)))))) (And (And (And ((0 : Int) = (0 : Int)) (And ((0 : Int) = (0 : Int)) (And (Value.slice none (0 : Nat) (0 : Nat) = Value.slice none (0 : Nat) (0 : Nat)) True))) (And ((true : Bool) = true) (And (And ((↑a0 : Int) = (↑a0 : Int)) (And ((↑(List.length l) : Int) = (↑(List.length l) : Int)) (And (And ((true : Bool) = true) (And (List.length (S3T.acc i') = List.length (S3T.acc i_2)) (S3T.cap i' = S3T.cap i_2))) True))) (And ((true : Bool) = true) (And (And (z32 = z32) True) (And ((true : Bool) = true) (And (And ((true : Bool) = true) (And (List.length l = List.length l) (And (List.map (Enc.enc H32) (S3T.R i') = List.map (Enc.enc H32) (List.set (S3T.R i_2) ((0 : Nat) + Int.toNat (↑(S3T.n i_2) : Int)) (Enc.of H32 (shaF (pairF (S3T.R i_2)[(0 : Nat) + Int.toNat (↑((2 : Nat) * S3T.n i_2) : Int)] (S3T.R i_2)[(0 : Nat) + Int.toNat (IntKind.wrap IntKind.i64 ((↑((2 : Nat) * S3T.n i_2) : Int) + (1 : Int)))]), ())))) (∀ x_1 : List Int, (∀ a_4 : x_1 ∈ S3T.R i', (∀ s : SV, (∀ a_5 : s ∈ Enc.enc H32 x_1, ((SV.isPure s : Bool) = (true))))))))) (And ((true : Bool) = true) (And (And ((true : Bool) = true) (And (S3T.cap i' = S3T.cap i_2) (And (List.map (Enc.enc H32) (S3T.acc i') = List.map (Enc.enc H32) (S3T.acc i_2)) (∀ x_1 : List Int, (∀ a_4 : x_1 ∈ S3T.acc i', (∀ s : SV, (∀ a_5 : s ∈ Enc.enc H32 x_1, ((SV.isPure s : Bool) = (true))))))))) (And ((true : Bool) = true) True)))))))))) ((true : Bool) = true))))))))))))))) (And ((0 : Int) ≤ (↑((2 : Nat) * S3T.n i_2) : Int)) (And (Int.toNat (↑((2 : Nat) * S3T.n i_2) : Int) < List.length (S3T.lev i_2)) (∃ hi_1 : (0 : Nat) + Int.toNat (↑((2 : Nat) * S3T.n i_2) : Int) < List.length (S3T.R i_2), (And ((0 : Int) ≤ (↑(S3T.n i_2) : Int)) (And (Int.toNat (↑(S3T.n i_2) : Int) < List.length (S3T.lev i_2)) (∃ hi_2 : (0 : Nat) + Int.toNat (↑(S3T.n i_2) : Int) < List.length (S3T.R i_2), (And ((0 : Int) ≤ IntKind.wrap IntKind.i64 ((↑(S3T.n i_2) : Int) + (1 : Int))) (And ((0 : Nat) ≤ Int.toNat (IntKind.wrap IntKind.i64 ((↑(S3T.n i_2) : Int) + (1 : Int)))) (And (Int.toNat (IntKind.wrap IntKind.i64 ((↑(S3T.n i_2) : Int) + (1 : Int))) ≤ List.length l) (And (List.length l ≤ List.length l) (And ((2 : Int) ≠ (0 : Int)) (∃ i' : S2T l a0, (And (And (List.length (S2T.lev i') < List.length (S2T.lev i_1)) True) (And (And ((↑(S2T.a i') : Int) = IntKind.wrap IntKind.i64 (Int.tdiv (↑(S3T.a i_2) : Int) (2 : Int))) (And (And ((83 : Nat) = (83 : Nat)) (And ((true : Bool) = true) True)) (And (And ((true : Bool) = true) ((0 : Nat) = (0 : Nat))) (And (And ((true : Bool) = true) (And ((0 : Nat) = if List.length l = (0 : Nat) then (0 : Nat) else (0 : Nat) + (0 : Nat)) (And (List.length (S2T.lev i') = Int.toNat (IntKind.wrap IntKind.i64 ((↑(S3T.n i_2) : Int) + (1 : Int))) - (0 : Nat)) (List.length l = List.length l - (0 : Nat))))) True)))) (And (And (And ((0 : Int) = (0 : Int)) (And ((0 : Int) = (0 : Int)) (And (Value.slice none (0 : Nat) (0 : Nat) = Value.slice none (0 : Nat) (0 : Nat)) True))) (And ((true : Bool) = true) (And (And ((↑a0 : Int) = (↑a0 : Int)) (And ((↑(List.length l) : Int) = (↑(List.length l) : Int)) (And (And ((true : Bool) = true) (And (List.length (S2T.acc i') = List.length (S3T.acc i_2)) (S2T.cap i' = S3T.cap i_2))) True))) (And ((true : Bool) = true) (And (And (z32 = z32) True) (And ((true : Bool) = true) (And (And ((true : Bool) = true) (And (List.length l = List.length l) (And (List.map (Enc.enc H32) (S2T.R i') = List.map (Enc.enc H32) (List.set (S3T.R i_2) ((0 : Nat) + Int.toNat (↑(S3T.n i_2) : Int)) (Enc.of H32 ((S3T.R i_2)[(0 : Nat) + Int.toNat (↑((2 : Nat) * S3T.n i_2) : Int)], ())))) (∀ x_1 : List Int, (∀ a_4 : x_1 ∈ S2T.R i', (∀ s : SV, (∀ a_5 : s ∈ Enc.enc H32 x_1, ((SV.isPure s : Bool) = (true))))))))) (And ((true : Bool) = true) (And (And ((true : Bool) = true) (And (S2T.cap i' = S3T.cap i_2) (And (List.map (Enc.enc H32) (S2T.acc i') = List.map (Enc.enc H32) (S3T.acc i_2)) (∀ x_1 : List Int, (∀ a_4 : x_1 ∈ S2T.acc i', (∀ s : SV, (∀ a_5 : s ∈ Enc.enc H32 x_1, ((SV.isPure s : Bool) = (true))))))))) (And ((true : Bool) = true) True)))))))))) ((true : Bool) = true)))))))))))))))) (IntKind.wrap IntKind.i64 ((↑((2 : Nat) * S3T.n i_2) : Int) + (1 : Int)) == (↑(List.length (S3T.lev i_2)) : Int))) (decide ((↑((2 : Nat) * S3T.n i_2) : Int) < (↑(List.length (S3T.lev i_2)) : Int))))))))))))))))) (decide (Sx.bits BinOp.xor IntKind.i64 (↑(S2T.a i_1) : Int) (1 : Int) < (↑(List.length (S2T.lev i_1)) : Int)))) (decide ((1 : Int) < (↑(List.length (S2T.lev i_1)) : Int)))))))) (And ((0 : Int) ≤ (↑(L1T.i i) : Int)) (∃ hk : Int.toNat (↑(L1T.i i) : Int) < List.length l, (∃ b : List Int, (And (List.map (RK.svs._f [RK.int IntKind.u8] ⟨⟨RK.sv._f (RK.int IntKind.u8) PUnit.unit, PUnit.unit⟩, RK.svs._f [] PUnit.unit, PUnit.unit⟩) (Prod.snd (Prod.fst l[Int.toNat (↑(L1T.i i) : Int)])) = List.map eB b) (And (And ((0 : Int) ≤ (↑(L1T.i i) : Int)) (And ((↑(L1T.i i) : Int) < (9223372036854775808 : Int)) (And (∀ x_1 : Int, (∀ a_1 : x_1 ∈ b, (And ((0 : Int) ≤ x_1) (x_1 < (256 : Int))))) (List.length b ≤ (1000000000 : Nat))))) (And ((0 : Int) ≤ (↑(L1T.i i) : Int)) (And (Int.toNat (↑(L1T.i i) : Int) < List.length l) (∃ hi : (0 : Nat) + Int.toNat (↑(L1T.i i) : Int) < List.length (row1 l (L1T.i i)), (∃ i' : L1T l, (And (And (List.length l - L1T.i i' < List.length l - L1T.i i) True) (And (And ((↑a0 : Int) = (↑a0 : Int)) (And (And ((83 : Nat) = (83 : Nat)) (And ((true : Bool) = true) True)) (And (And ((true : Bool) = true) ((0 : Nat) = (0 : Nat))) (And (And ((true : Bool) = true) (And ((0 : Nat) = (0 : Nat)) (And (List.length l = List.length l) (List.length l = List.length l)))) (And (SV.view x (1 : Nat) (Enc.enc BE) l = SV.view x (1 : Nat) (Enc.enc BE) l) (And ((↑(List.length l) : Int) = (↑(List.length l) : Int)) (And ((↑(L1T.i i') : Int) = IntKind.wrap IntKind.i64 ((↑(L1T.i i) : Int) + (1 : Int))) True))))))) (And (And (And ((0 : Int) = (0 : Int)) (And ((0 : Int) = (0 : Int)) (And (Value.slice none (0 : Nat) (0 : Nat) = Value.slice none (0 : Nat) (0 : Nat)) True))) (And ((true : Bool) = true) (And (And ((↑a0 : Int) = (↑a0 : Int)) (And ((↑(List.length l) : Int) = (↑(List.length l) : Int)) (And (Value.slice none (0 : Nat) (0 : Nat) = Value.slice none (0 : Nat) (0 : Nat)) True))) (And ((true : Bool) = true) (And (And (z32 = z32) True) (And ((true : Bool) = true) (And (And ((true : Bool) = true) (And (List.length l = List.length l) (And (List.map (Enc.enc H32) (row1 l (L1T.i i')) = List.map (Enc.enc H32) (List.set (row1 l (L1T.i i)) ((0 : Nat) + Int.toNat (↑(L1T.i i) : Int)) (Enc.of H32 (itF (↑(L1T.i i) : Int) b, ())))) (∀ x_1 : List Int, (∀ a_1 : x_1 ∈ row1 l (L1T.i i'), (∀ s : SV, (∀ a_2 : s ∈ Enc.enc H32 x_1, ((SV.isPure s : Bool) = (true))))))))) (And ((true : Bool) = true) True)))))))) ((true : Bool) = true))))))))))))) (decide ((↑(L1T.i i) : Int) < (↑(List.length l) : Int))))))))))))) (∃ o : Value, (And (And (And (And ((↑a0 : Int) = (0 : Int)) (And ((↑(List.length l) : Int) = (0 : Int)) (And (SV.view o (32 : Nat) (Enc.enc H32) (sidesL l a0) = nilV (32 : Nat) H32 (SV.v (Value.slice none (0 : Nat) (0 : Nat)))) True))) (And ((0 : Int) = (1 : Int)) True)) True) (And True ((true : Bool) = true)))) (decide ((↑(List.length l) : Int) ≤ (↑a0 : Int))))) (by kernel_rfl) ?_
  have xa0 : Sx.bits .xor .i64 ((0 : Nat) : Int) 1 = ((sideN 0 : Nat) : Int) := xor1 (by decide) (by decide)
  refine bif_dec (fun h0 => absurd h0 (by omega)) (fun _ => ?_)
  refine ⟨by omega, by omega, by omega, by omega, by omega, ⟨0, Nat.zero_le _⟩, ?_, ?_⟩
  · simp only [Int.toNat_natCast, row1_zero]
    repeat' first | exact H32_pure _ | exact trivial | refine And.intro ?_ ?_ | with_reducible refine bif_dt (by assumption) ?_ | with_reducible refine bif_df (by assumption) ?_ | with_reducible refine bif_dec (fun _ => ?_) (fun _ => ?_) | with_reducible refine bif_not ?_ | with_reducible refine bif_and ?_ | with_reducible refine bif_or ?_ | with_reducible refine bif_t (by assumption) ?_ | with_reducible refine bif_f (by assumption) ?_ | with_reducible refine bif_t (beq_self_eq_true _) ?_ | with_reducible refine bif_b (fun _ => ?_) (fun _ => ?_) | with_reducible refine ⟨_, Eq.refl (List.map _ _), ?_⟩ | (with_reducible refine Exists.intro (by omega) ?_) | rfl | (intro h0; omega) | omega
  rintro ⟨i, hi⟩ -
  dsimp only
  refine bif_dec (fun h3 => ?_) (fun h3 => ?_)
  · have hi' : i < l.length := by omega
    have hset := row1_set hi'
    have hw : IntKind.i64.wrap ((i : Int) + 1) = ((i + 1 : Nat) : Int) := inext (by omega)
    simp only [Int.toNat_natCast, Nat.zero_add, hw]
    refine ⟨by omega, hi', bl l[i], (bl_enc _).symm, ⟨by omega, by omega, hB _ (List.getElem_mem hi'), h2 _ (List.getElem_mem hi')⟩, by omega, hi', by rw [row1_length hi]; exact hi', ⟨i + 1, hi'⟩, ⟨show l.length - (i + 1) < l.length - i by omega, trivial⟩, ?_⟩
    have hof : H32.of (itF (i : Int) (bl l[i]), ()) = itF (i : Int) (bl l[i]) := rfl
    rw [hof, hset]
    repeat' first | exact H32_pure _ | exact trivial | refine And.intro ?_ ?_ | with_reducible refine bif_dt (by assumption) ?_ | with_reducible refine bif_df (by assumption) ?_ | with_reducible refine bif_dec (fun _ => ?_) (fun _ => ?_) | with_reducible refine bif_not ?_ | with_reducible refine bif_and ?_ | with_reducible refine bif_or ?_ | with_reducible refine bif_t (by assumption) ?_ | with_reducible refine bif_f (by assumption) ?_ | with_reducible refine bif_t (beq_self_eq_true _) ?_ | with_reducible refine bif_b (fun _ => ?_) (fun _ => ?_) | with_reducible refine ⟨_, Eq.refl (List.map _ _), ?_⟩ | (with_reducible refine Exists.intro (by omega) ?_) | rfl | (intro h0; omega) | omega
  have hil : i = l.length := by omega
  subst hil
  rw [row1_all]
  refine ⟨⟨lev0 l, lev0 l, l.length, a0, [], 0, lev0_length l, Nat.le_of_eq (lev0_length l), fun j h => List.getElem?_eq_getElem h, Nat.le_of_eq (lev0_length l), by omega, Nat.le_refl _, rfl, by rw [lev0_length]; show 0 + l.length ≤ 1000; omega, lev0_ok l⟩, ?_, ?_⟩
  · refine ⟨trivial, ?_, ?_⟩
    · simp only [lev0_length]
      repeat' first | exact trivial | refine And.intro ?_ ?_ | with_reducible refine bif_dt (by assumption) ?_ | with_reducible refine bif_df (by assumption) ?_ | with_reducible refine bif_dec (fun _ => ?_) (fun _ => ?_) | with_reducible refine bif_not ?_ | with_reducible refine bif_and ?_ | with_reducible refine bif_or ?_ | with_reducible refine bif_t (by assumption) ?_ | with_reducible refine bif_f (by assumption) ?_ | with_reducible refine bif_t (beq_self_eq_true _) ?_ | with_reducible refine bif_b (fun _ => ?_) (fun _ => ?_) | with_reducible refine ⟨_, Eq.refl (List.map _ _), ?_⟩ | (with_reducible refine Exists.intro (by omega) ?_) | rfl | (intro h0; omega) | omega
    ·
      repeat' first | exact H32_pure _ | exact trivial | refine And.intro ?_ ?_ | with_reducible refine bif_dt (by assumption) ?_ | with_reducible refine bif_df (by assumption) ?_ | with_reducible refine bif_dec (fun _ => ?_) (fun _ => ?_) | with_reducible refine bif_not ?_ | with_reducible refine bif_and ?_ | with_reducible refine bif_or ?_ | with_reducible refine bif_t (by assumption) ?_ | with_reducible refine bif_f (by assumption) ?_ | with_reducible refine bif_t (beq_self_eq_true _) ?_ | with_reducible refine bif_b (fun _ => ?_) (fun _ => ?_) | with_reducible refine ⟨_, Eq.refl (List.map _ _), ?_⟩ | (with_reducible refine Exists.intro (by omega) ?_) | rfl | (intro h0; omega) | omega
  rintro ⟨lev, R, f, a, acc, cap, hR, hL, hp, hf, ha1, hc, hs, hz, ok⟩ -
  dsimp only
  refine bif_dec (fun h3 => ?_) (fun h3 => ?_)
  rotate_left
  · have hacc : acc = sidesL l a0 := by
      rw [← hs, sidesF_end (by omega), List.append_nil]
    subst hacc
    refine bif_b (fun h4 => ?_) (fun h4 => ?_)
    · refine ⟨Nat.le_refl _, hc, rfl, fun _ => rfl, fun y => ⟨y, ?_⟩⟩
      rw [List.take_length]
      repeat' first | exact trivial | refine And.intro ?_ ?_ | with_reducible refine bif_dt (by assumption) ?_ | with_reducible refine bif_df (by assumption) ?_ | with_reducible refine bif_dec (fun _ => ?_) (fun _ => ?_) | with_reducible refine bif_not ?_ | with_reducible refine bif_and ?_ | with_reducible refine bif_or ?_ | with_reducible refine bif_t (by assumption) ?_ | with_reducible refine bif_f (by assumption) ?_ | with_reducible refine bif_t (beq_self_eq_true _) ?_ | with_reducible refine bif_b (fun _ => ?_) (fun _ => ?_) | with_reducible refine ⟨_, Eq.refl (List.map _ _), ?_⟩ | (with_reducible refine Exists.intro (by omega) ?_) | rfl | (intro h0; omega) | omega
    · have h4 : lev.length = 1 := by
        have : ¬ ((lev.length : Int) = 0) := fun e => by rw [e] at h4; cases h4
        omega
      refine ⟨by omega, by show 0 < lev.length; omega, by show 0 < R.length; omega, Nat.le_refl _, hc, rfl, fun _ => rfl, fun y => ⟨y, ?_⟩⟩
      rw [List.take_length]
      repeat' first | exact trivial | refine And.intro ?_ ?_ | with_reducible refine bif_dt (by assumption) ?_ | with_reducible refine bif_df (by assumption) ?_ | with_reducible refine bif_dec (fun _ => ?_) (fun _ => ?_) | with_reducible refine bif_not ?_ | with_reducible refine bif_and ?_ | with_reducible refine bif_or ?_ | with_reducible refine bif_t (by assumption) ?_ | with_reducible refine bif_f (by assumption) ?_ | with_reducible refine bif_t (beq_self_eq_true _) ?_ | with_reducible refine bif_b (fun _ => ?_) (fun _ => ?_) | with_reducible refine ⟨_, Eq.refl (List.map _ _), ?_⟩ | (with_reducible refine Exists.intro (by omega) ?_) | rfl | (intro h0; omega) | omega
  have h3 : 1 < lev.length := by omega
  obtain ⟨g, rfl, hg, _, hr2⟩ := rootF_step (pr := prF) (z := z32) h3 hf
  have hnl := nextF_length prF lev
  have hx : Sx.bits .xor .i64 (a : Int) 1 = ((sideN a : Nat) : Int) := xor1 (by omega) (by omega)
  simp only [hx]
  refine bif_dec (fun h4 => ?_) (fun h4 => ?_)
  · have h4 : sideN a < lev.length := by omega
    have hsd : lev[sideN a]? = some lev[sideN a] := List.getElem?_eq_getElem h4
    have hrs : R[sideN a]'(by omega) = lev[sideN a] := by
      have := hp _ h4
      rw [List.getElem?_eq_getElem (by omega)] at this
      exact Option.some.inj this
    simp only [Int.toNat_natCast, Nat.zero_add]
    refine ⟨by omega, h4, by omega, trivial, trivial, by omega, by omega, fun cap2 k2 => ?_⟩
    have hcl : castL (encInts IntKind.u8 32) H32 (List.take 1 (List.drop 0 [(encInts IntKind.u8 32).of (R[sideN a]'(by omega), ())])) = [lev[sideN a]] := by
      rw [hrs]
      exact castL_self _ _ rfl
    simp only [hcl]
    refine ⟨⟨lev, R, g, a, acc ++ [lev[sideN a]], cap2, 0, hR, hL, fun j hj => absurd hj (Nat.not_lt_zero _), fun j h _ => hp j h, Nat.zero_le _, h3, hg, ha1, by rw [List.length_append]; exact k2, by rw [← hs, hr2 a, hsd]; simp, by rw [List.length_append, List.length_singleton]; omega, ok⟩, ?_, ?_⟩
    ·
      repeat' first | exact H32_pure _ | exact trivial | refine And.intro ?_ ?_ | with_reducible refine bif_dt (by assumption) ?_ | with_reducible refine bif_df (by assumption) ?_ | with_reducible refine bif_dec (fun _ => ?_) (fun _ => ?_) | with_reducible refine bif_not ?_ | with_reducible refine bif_and ?_ | with_reducible refine bif_or ?_ | with_reducible refine bif_t (by assumption) ?_ | with_reducible refine bif_f (by assumption) ?_ | with_reducible refine bif_t (beq_self_eq_true _) ?_ | with_reducible refine bif_b (fun _ => ?_) (fun _ => ?_) | with_reducible refine ⟨_, Eq.refl (List.map _ _), ?_⟩ | (with_reducible refine Exists.intro (by omega) ?_) | rfl | (intro h0; omega) | omega
    rintro ⟨lev', R, f', a', acc', cap', n, hR, hL, h1, h2, hn, hb, hf', ha', hc', hs', hz', ok'⟩ hrel
    dsimp only at hrel
    subst hrel
    dsimp only
    have w1 : IntKind.i64.wrap (((2 * n : Nat) : Int) + 1) = ((2 * n + 1 : Nat) : Int) := inext (by omega)
    have w2 : IntKind.i64.wrap (((2 * n : Nat) : Int) + 2) = ((2 * (n + 1) : Nat) : Int) := by rw [wrap64 (by omega) (by omega)]; omega
    have w3 : IntKind.i64.wrap ((n : Int) + 1) = ((n + 1 : Nat) : Int) := inext (by omega)
    have w4 := half_i a' (by omega)
    simp only [w1, w2, w3, w4, Int.toNat_natCast, Nat.zero_add, Nat.sub_zero, ite_self]
    refine bif_dec (fun h5 => ?_) (fun h5 => ?_)
    · refine bif_b (fun h6 => ?_) (fun h6 => ?_)
      · have h6 : 2 * n + 1 = lev'.length := by have := eq_of_beq h6; omega
        have hq := set_one (by omega) h1 h2 h6
        refine ⟨by omega, by omega, by omega, by omega, by omega, by omega, by omega, by omega, by omega, by omega, by omega, ⟨nextF prF lev', R.set n (R[2 * n]'(by omega)), f', a' / 2, acc', cap', by rw [List.length_set]; exact hR, by omega, hq, hf', by omega, hc', hs', hz', next_ok ok'⟩, ?_, ?_⟩
        ·
          dsimp only
          repeat' first | exact trivial | refine And.intro ?_ ?_ | with_reducible refine bif_dt (by assumption) ?_ | with_reducible refine bif_df (by assumption) ?_ | with_reducible refine bif_dec (fun _ => ?_) (fun _ => ?_) | with_reducible refine bif_not ?_ | with_reducible refine bif_and ?_ | with_reducible refine bif_or ?_ | with_reducible refine bif_t (by assumption) ?_ | with_reducible refine bif_f (by assumption) ?_ | with_reducible refine bif_t (beq_self_eq_true _) ?_ | with_reducible refine bif_b (fun _ => ?_) (fun _ => ?_) | with_reducible refine ⟨_, Eq.refl (List.map _ _), ?_⟩ | (with_reducible refine Exists.intro (by omega) ?_) | rfl | (intro h0; omega) | omega
        ·
          dsimp only
          repeat' first | exact H32_pure _ | exact trivial | refine And.intro ?_ ?_ | with_reducible refine bif_dt (by assumption) ?_ | with_reducible refine bif_df (by assumption) ?_ | with_reducible refine bif_dec (fun _ => ?_) (fun _ => ?_) | with_reducible refine bif_not ?_ | with_reducible refine bif_and ?_ | with_reducible refine bif_or ?_ | with_reducible refine bif_t (by assumption) ?_ | with_reducible refine bif_f (by assumption) ?_ | with_reducible refine bif_t (beq_self_eq_true _) ?_ | with_reducible refine bif_b (fun _ => ?_) (fun _ => ?_) | with_reducible refine ⟨_, Eq.refl (List.map _ _), ?_⟩ | (with_reducible refine Exists.intro (by omega) ?_) | rfl | (intro h0; omega) | omega
      · have h6 : 2 * n + 1 < lev'.length := by
            have : ¬ (((2 * n + 1 : Nat) : Int) = (lev'.length : Int)) := fun e => by rw [e] at h6; simp at h6
            omega
        obtain ⟨a1, b1, hs1, hs2⟩ := set_two (by omega) h1 h2 h6
        have oa := ok' _ (List.getElem_mem (show 2 * n < lev'.length by omega))
        have ob := ok' _ (List.getElem_mem h6)
        refine ⟨by omega, by omega, by omega, by omega, by omega, by omega, ⟨by rw [a1]; exact oa.1, by rw [b1]; exact ob.1, by rw [a1]; exact oa.2, by rw [b1]; exact ob.2⟩, by omega, by omega, by omega, ⟨lev', R.set n (prF (R[2 * n]'(by omega)) (R[2 * n + 1]'(by omega))), f', a', acc', cap', n + 1, by rw [List.length_set]; exact hR, hL, hs1, hs2, by omega, hb, hf', ha', hc', hs', hz', ok'⟩, ?_, ?_⟩
        ·
          dsimp only
          repeat' first | exact trivial | refine And.intro ?_ ?_ | with_reducible refine bif_dt (by assumption) ?_ | with_reducible refine bif_df (by assumption) ?_ | with_reducible refine bif_dec (fun _ => ?_) (fun _ => ?_) | with_reducible refine bif_not ?_ | with_reducible refine bif_and ?_ | with_reducible refine bif_or ?_ | with_reducible refine bif_t (by assumption) ?_ | with_reducible refine bif_f (by assumption) ?_ | with_reducible refine bif_t (beq_self_eq_true _) ?_ | with_reducible refine bif_b (fun _ => ?_) (fun _ => ?_) | with_reducible refine ⟨_, Eq.refl (List.map _ _), ?_⟩ | (with_reducible refine Exists.intro (by omega) ?_) | rfl | (intro h0; omega) | omega
        ·
          dsimp only
          repeat' first | exact H32_pure _ | exact trivial | refine And.intro ?_ ?_ | with_reducible refine bif_dt (by assumption) ?_ | with_reducible refine bif_df (by assumption) ?_ | with_reducible refine bif_dec (fun _ => ?_) (fun _ => ?_) | with_reducible refine bif_not ?_ | with_reducible refine bif_and ?_ | with_reducible refine bif_or ?_ | with_reducible refine bif_t (by assumption) ?_ | with_reducible refine bif_f (by assumption) ?_ | with_reducible refine bif_t (beq_self_eq_true _) ?_ | with_reducible refine bif_b (fun _ => ?_) (fun _ => ?_) | with_reducible refine ⟨_, Eq.refl (List.map _ _), ?_⟩ | (with_reducible refine Exists.intro (by omega) ?_) | rfl | (intro h0; omega) | omega
    · have h5 : 2 * n = lev'.length := by omega
      refine ⟨by omega, by omega, by omega, by omega, by omega, ⟨nextF prF lev', R, f', a' / 2, acc', cap', hR, by omega, fun j hj => by rw [← List.getElem?_eq_getElem hj]; exact h1 j (by omega), hf', by omega, hc', hs', hz', next_ok ok'⟩, ?_, ?_⟩
      ·
        dsimp only
        repeat' first | exact trivial | refine And.intro ?_ ?_ | with_reducible refine bif_dt (by assumption) ?_ | with_reducible refine bif_df (by assumption) ?_ | with_reducible refine bif_dec (fun _ => ?_) (fun _ => ?_) | with_reducible refine bif_not ?_ | with_reducible refine bif_and ?_ | with_reducible refine bif_or ?_ | with_reducible refine bif_t (by assumption) ?_ | with_reducible refine bif_f (by assumption) ?_ | with_reducible refine bif_t (beq_self_eq_true _) ?_ | with_reducible refine bif_b (fun _ => ?_) (fun _ => ?_) | with_reducible refine ⟨_, Eq.refl (List.map _ _), ?_⟩ | (with_reducible refine Exists.intro (by omega) ?_) | rfl | (intro h0; omega) | omega
      ·
        dsimp only
        repeat' first | exact H32_pure _ | exact trivial | refine And.intro ?_ ?_ | with_reducible refine bif_dt (by assumption) ?_ | with_reducible refine bif_df (by assumption) ?_ | with_reducible refine bif_dec (fun _ => ?_) (fun _ => ?_) | with_reducible refine bif_not ?_ | with_reducible refine bif_and ?_ | with_reducible refine bif_or ?_ | with_reducible refine bif_t (by assumption) ?_ | with_reducible refine bif_f (by assumption) ?_ | with_reducible refine bif_t (beq_self_eq_true _) ?_ | with_reducible refine bif_b (fun _ => ?_) (fun _ => ?_) | with_reducible refine ⟨_, Eq.refl (List.map _ _), ?_⟩ | (with_reducible refine Exists.intro (by omega) ?_) | rfl | (intro h0; omega) | omega
  · have hsd : lev[sideN a]? = none := List.getElem?_eq_none (by omega)
    refine ⟨⟨lev, R, g, a, acc, cap, 0, hR, hL, fun j hj => absurd hj (Nat.not_lt_zero _), fun j h _ => hp j h, Nat.zero_le _, h3, hg, ha1, hc, by rw [← hs, hr2 a, hsd]; rfl, by omega, ok⟩, ?_, ?_⟩
    ·
      repeat' first | exact H32_pure _ | exact trivial | refine And.intro ?_ ?_ | with_reducible refine bif_dt (by assumption) ?_ | with_reducible refine bif_df (by assumption) ?_ | with_reducible refine bif_dec (fun _ => ?_) (fun _ => ?_) | with_reducible refine bif_not ?_ | with_reducible refine bif_and ?_ | with_reducible refine bif_or ?_ | with_reducible refine bif_t (by assumption) ?_ | with_reducible refine bif_f (by assumption) ?_ | with_reducible refine bif_t (beq_self_eq_true _) ?_ | with_reducible refine bif_b (fun _ => ?_) (fun _ => ?_) | with_reducible refine ⟨_, Eq.refl (List.map _ _), ?_⟩ | (with_reducible refine Exists.intro (by omega) ?_) | rfl | (intro h0; omega) | omega
    rintro ⟨lev', R, f', a', acc', cap', n, hR, hL, h1, h2, hn, hb, hf', ha', hc', hs', hz', ok'⟩ hrel
    dsimp only at hrel
    subst hrel
    dsimp only
    have w1 : IntKind.i64.wrap (((2 * n : Nat) : Int) + 1) = ((2 * n + 1 : Nat) : Int) := inext (by omega)
    have w2 : IntKind.i64.wrap (((2 * n : Nat) : Int) + 2) = ((2 * (n + 1) : Nat) : Int) := by rw [wrap64 (by omega) (by omega)]; omega
    have w3 : IntKind.i64.wrap ((n : Int) + 1) = ((n + 1 : Nat) : Int) := inext (by omega)
    have w4 := half_i a' (by omega)
    simp only [w1, w2, w3, w4, Int.toNat_natCast, Nat.zero_add, Nat.sub_zero, ite_self]
    refine bif_dec (fun h5 => ?_) (fun h5 => ?_)
    · refine bif_b (fun h6 => ?_) (fun h6 => ?_)
      · have h6 : 2 * n + 1 = lev'.length := by have := eq_of_beq h6; omega
        have hq := set_one (by omega) h1 h2 h6
        refine ⟨by omega, by omega, by omega, by omega, by omega, by omega, by omega, by omega, by omega, by omega, by omega, ⟨nextF prF lev', R.set n (R[2 * n]'(by omega)), f', a' / 2, acc', cap', by rw [List.length_set]; exact hR, by omega, hq, hf', by omega, hc', hs', hz', next_ok ok'⟩, ?_, ?_⟩
        ·
          dsimp only
          repeat' first | exact trivial | refine And.intro ?_ ?_ | with_reducible refine bif_dt (by assumption) ?_ | with_reducible refine bif_df (by assumption) ?_ | with_reducible refine bif_dec (fun _ => ?_) (fun _ => ?_) | with_reducible refine bif_not ?_ | with_reducible refine bif_and ?_ | with_reducible refine bif_or ?_ | with_reducible refine bif_t (by assumption) ?_ | with_reducible refine bif_f (by assumption) ?_ | with_reducible refine bif_t (beq_self_eq_true _) ?_ | with_reducible refine bif_b (fun _ => ?_) (fun _ => ?_) | with_reducible refine ⟨_, Eq.refl (List.map _ _), ?_⟩ | (with_reducible refine Exists.intro (by omega) ?_) | rfl | (intro h0; omega) | omega
        ·
          dsimp only
          repeat' first | exact H32_pure _ | exact trivial | refine And.intro ?_ ?_ | with_reducible refine bif_dt (by assumption) ?_ | with_reducible refine bif_df (by assumption) ?_ | with_reducible refine bif_dec (fun _ => ?_) (fun _ => ?_) | with_reducible refine bif_not ?_ | with_reducible refine bif_and ?_ | with_reducible refine bif_or ?_ | with_reducible refine bif_t (by assumption) ?_ | with_reducible refine bif_f (by assumption) ?_ | with_reducible refine bif_t (beq_self_eq_true _) ?_ | with_reducible refine bif_b (fun _ => ?_) (fun _ => ?_) | with_reducible refine ⟨_, Eq.refl (List.map _ _), ?_⟩ | (with_reducible refine Exists.intro (by omega) ?_) | rfl | (intro h0; omega) | omega
      · have h6 : 2 * n + 1 < lev'.length := by
            have : ¬ (((2 * n + 1 : Nat) : Int) = (lev'.length : Int)) := fun e => by rw [e] at h6; simp at h6
            omega
        obtain ⟨a1, b1, hs1, hs2⟩ := set_two (by omega) h1 h2 h6
        have oa := ok' _ (List.getElem_mem (show 2 * n < lev'.length by omega))
        have ob := ok' _ (List.getElem_mem h6)
        refine ⟨by omega, by omega, by omega, by omega, by omega, by omega, ⟨by rw [a1]; exact oa.1, by rw [b1]; exact ob.1, by rw [a1]; exact oa.2, by rw [b1]; exact ob.2⟩, by omega, by omega, by omega, ⟨lev', R.set n (prF (R[2 * n]'(by omega)) (R[2 * n + 1]'(by omega))), f', a', acc', cap', n + 1, by rw [List.length_set]; exact hR, hL, hs1, hs2, by omega, hb, hf', ha', hc', hs', hz', ok'⟩, ?_, ?_⟩
        ·
          dsimp only
          repeat' first | exact trivial | refine And.intro ?_ ?_ | with_reducible refine bif_dt (by assumption) ?_ | with_reducible refine bif_df (by assumption) ?_ | with_reducible refine bif_dec (fun _ => ?_) (fun _ => ?_) | with_reducible refine bif_not ?_ | with_reducible refine bif_and ?_ | with_reducible refine bif_or ?_ | with_reducible refine bif_t (by assumption) ?_ | with_reducible refine bif_f (by assumption) ?_ | with_reducible refine bif_t (beq_self_eq_true _) ?_ | with_reducible refine bif_b (fun _ => ?_) (fun _ => ?_) | with_reducible refine ⟨_, Eq.refl (List.map _ _), ?_⟩ | (with_reducible refine Exists.intro (by omega) ?_) | rfl | (intro h0; omega) | omega
        ·
          dsimp only
          repeat' first | exact H32_pure _ | exact trivial | refine And.intro ?_ ?_ | with_reducible refine bif_dt (by assumption) ?_ | with_reducible refine bif_df (by assumption) ?_ | with_reducible refine bif_dec (fun _ => ?_) (fun _ => ?_) | with_reducible refine bif_not ?_ | with_reducible refine bif_and ?_ | with_reducible refine bif_or ?_ | with_reducible refine bif_t (by assumption) ?_ | with_reducible refine bif_f (by assumption) ?_ | with_reducible refine bif_t (beq_self_eq_true _) ?_ | with_reducible refine bif_b (fun _ => ?_) (fun _ => ?_) | with_reducible refine ⟨_, Eq.refl (List.map _ _), ?_⟩ | (with_reducible refine Exists.intro (by omega) ?_) | rfl | (intro h0; omega) | omega
    · have h5 : 2 * n = lev'.length := by omega
      refine ⟨by omega, by omega, by omega, by omega, by omega, ⟨nextF prF lev', R, f', a' / 2, acc', cap', hR, by omega, fun j hj => by rw [← List.getElem?_eq_getElem hj]; exact h1 j (by omega), hf', by omega, hc', hs', hz', next_ok ok'⟩, ?_, ?_⟩
      ·
        dsimp only
        repeat' first | exact trivial | refine And.intro ?_ ?_ | with_reducible refine bif_dt (by assumption) ?_ | with_reducible refine bif_df (by assumption) ?_ | with_reducible refine bif_dec (fun _ => ?_) (fun _ => ?_) | with_reducible refine bif_not ?_ | with_reducible refine bif_and ?_ | with_reducible refine bif_or ?_ | with_reducible refine bif_t (by assumption) ?_ | with_reducible refine bif_f (by assumption) ?_ | with_reducible refine bif_t (beq_self_eq_true _) ?_ | with_reducible refine bif_b (fun _ => ?_) (fun _ => ?_) | with_reducible refine ⟨_, Eq.refl (List.map _ _), ?_⟩ | (with_reducible refine Exists.intro (by omega) ?_) | rfl | (intro h0; omega) | omega
      ·
        dsimp only
        repeat' first | exact H32_pure _ | exact trivial | refine And.intro ?_ ?_ | with_reducible refine bif_dt (by assumption) ?_ | with_reducible refine bif_df (by assumption) ?_ | with_reducible refine bif_dec (fun _ => ?_) (fun _ => ?_) | with_reducible refine bif_not ?_ | with_reducible refine bif_and ?_ | with_reducible refine bif_or ?_ | with_reducible refine bif_t (by assumption) ?_ | with_reducible refine bif_f (by assumption) ?_ | with_reducible refine bif_t (beq_self_eq_true _) ?_ | with_reducible refine bif_b (fun _ => ?_) (fun _ => ?_) | with_reducible refine ⟨_, Eq.refl (List.map _ _), ?_⟩ | (with_reducible refine Exists.intro (by omega) ?_) | rfl | (intro h0; omega) | omega
end Go.Proofs.YtblapbjafbmndaaDoor

namespace Go.Proofs.YtblapbjafbmndaaDoor
open Go Go.Sx Go.Sha
set_option linter.unusedVariables false
set_option linter.unusedSimpArgs false
set_option maxRecDepth 100000
set_option maxHeartbeats 4000000

theorem cast1 (v : List Int) : castL (encInts IntKind.u8 32) H32 (List.take 1 (List.drop 0 [(encInts IntKind.u8 32).of (v, ())])) = [v] := castL_self _ _ rfl
theorem prove_spec (x : Value) (place : Int) {l : List BTy} (h : l.length ≤ 1000) (h2 : ∀ y ∈ l, (bl y).length ≤ 1000000000) (hB : ∀ y ∈ l, By (bl y)) :
    SMem Tryd.prog 42 [int place, bV x l] 0 [] (fun y : Value => ⟨0, .tup [pfM y (proveF place l).1 (proveF place l).2.1, int (proveF place l).2.2], []⟩) := by
  cases hi : inP place l with
  | true =>
    unfold proveF
    rw [hi]
    unfold inP at hi
    simp only [Bool.and_eq_true, decide_eq_true_eq] at hi
    obtain ⟨a0, rfl⟩ : ∃ n : Nat, place = n := ⟨place.toNat, by omega⟩
    exact proven_spec x (by omega) h h2 hB
  | false =>
    unfold proveF
    rw [hi]
    unfold inP at hi
    refine SMem.inf 32 H32 [] SOK.nil [] MSOK.nil tok mixed [] IOK.nil true [] [] Tryd.call42 Tryd.func42 rfl (by rfl) ?_
    refine Eq.mp (α := (@Bool.rec (fun _ => Prop) (@Bool.rec (fun _ => Prop) False (∃ o : Value, (And (And (And (And ((0 : Int) = (0 : Int)) (And ((0 : Int) = (0 : Int)) (And (SV.view o (32 : Nat) (Enc.enc H32) [] = nilV (32 : Nat) H32 (SV.v (Value.slice none (0 : Nat) (0 : Nat)))) True))) (And ((1 : Int) = (1 : Int)) True)) True) (And True ((true : Bool) = true)))) (decide ((↑(List.length l) : Int) ≤ place))) (∃ o : Value, (And (And (And (And ((0 : Int) = (0 : Int)) (And ((0 : Int) = (0 : Int)) (And (SV.view o (32 : Nat) (Enc.enc H32) [] = nilV (32 : Nat) H32 (SV.v (Value.slice none (0 : Nat) (0 : Nat)))) True))) (And ((1 : Int) = (1 : Int)) True)) True) (And True ((true : Bool) = true)))) (decide (place < (0 : Int))))) (by kernel_rfl) ?_
    refine bif_dec (fun h0 => ?_) (fun h0 => ?_)
    · refine ⟨.slice none 0 0, ?_⟩
      repeat' first | exact trivial | refine And.intro ?_ ?_ | with_reducible refine bif_dt (by assumption) ?_ | with_reducible refine bif_df (by assumption) ?_ | with_reducible refine bif_dec (fun _ => ?_) (fun _ => ?_) | with_reducible refine bif_not ?_ | with_reducible refine bif_and ?_ | with_reducible refine bif_or ?_ | with_reducible refine bif_t (by assumption) ?_ | with_reducible refine bif_f (by assumption) ?_ | with_reducible refine bif_t (beq_self_eq_true _) ?_ | with_reducible refine bif_b (fun _ => ?_) (fun _ => ?_) | with_reducible refine ⟨_, Eq.refl (List.map _ _), ?_⟩ | (with_reducible refine Exists.intro (by omega) ?_) | rfl | (intro h0; omega) | omega
    refine bif_dec (fun h1 => ?_) (fun h1 => ?_)
    · refine ⟨.slice none 0 0, ?_⟩
      repeat' first | exact trivial | refine And.intro ?_ ?_ | with_reducible refine bif_dt (by assumption) ?_ | with_reducible refine bif_df (by assumption) ?_ | with_reducible refine bif_dec (fun _ => ?_) (fun _ => ?_) | with_reducible refine bif_not ?_ | with_reducible refine bif_and ?_ | with_reducible refine bif_or ?_ | with_reducible refine bif_t (by assumption) ?_ | with_reducible refine bif_f (by assumption) ?_ | with_reducible refine bif_t (beq_self_eq_true _) ?_ | with_reducible refine bif_b (fun _ => ?_) (fun _ => ?_) | with_reducible refine ⟨_, Eq.refl (List.map _ _), ?_⟩ | (with_reducible refine Exists.intro (by omega) ?_) | rfl | (intro h0; omega) | omega
    · rw [decide_eq_true (by omega), decide_eq_true (by omega)] at hi
      cases hi
def proveT : MT := fun ms n h K => match ms with
  | [.one (.v (.int .i64 place)), .one (.view vx0 ve0 en0 vl0)] => bif Nat.beq ve0 1 && noDup [] then ∃ l : List (BTy), vl0.map en0 = l.map eBl ∧ ((l.length ≤ 1000 ∧ (∀ y ∈ l, (bl y).length ≤ 1000000000) ∧ ∀ y ∈ l, By (bl y))) ∧ (∀ y : Value, K (n + 0) (.tup [pfM y (proveF place l).1 (proveF place l).2.1, int (proveF place l).2.2]) ([] ++ delL [] h)) else False
  | _ => False
theorem prove_mono : MMono proveT := by
  intro ms n h K K' hkk hk
  unfold proveT at hk ⊢
  split at hk
  · rename_i place vx0 ve0 va0 en0 vl0
    obtain ⟨hb, y0, z0, h1, h2⟩ := cond_false_elim hk
    rw [hb]
    exact ⟨y0, z0, h1, fun o => hkk _ _ _ (h2 o)⟩
  · exact hk.elim
theorem prove_ok : MOK Tryd.prog 42 proveT := by
  refine ⟨?_, prove_mono⟩
  intro ms n hB K hk
  unfold proveT at hk
  split at hk
  · rename_i place vx0 ve0 va0 en0 vl0
    obtain ⟨hb, l, he0, h, hk2⟩ := cond_false_elim hk
    clear hk
    simp only [Bool.and_eq_true] at hb
    obtain ⟨hc0, hnd⟩ := hb
    have hs0 := Nat.eq_of_beq_eq_true hc0
    subst hs0
    refine SCall.seen ?_ (.cons (.refl _) (.cons (.view he0) .nil))
    exact (prove_spec _ _ h.1 h.2.1 h.2.2).use (fun _ => 0) rfl rfl trivial hnd (fun j hj => absurd hj (Nat.not_lt_zero j)) (fun o => hk2 o)
  · exact hk.elim

end Go.Proofs.YtblapbjafbmndaaDoor
