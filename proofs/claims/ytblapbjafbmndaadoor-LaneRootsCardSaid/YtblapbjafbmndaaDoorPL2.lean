/- The root; what proves a place. -/
import Derived.Test.YtblapbjafbmndaaDoorPL1
import Derived.Test.YtblapbjafbmndaaDoorSx24
namespace Go.Proofs.YtblapbjafbmndaaDoor
open Go Go.Sx Go.Sha
set_option linter.unusedVariables false
set_option linter.unusedSimpArgs false
set_option maxRecDepth 100000
set_option maxHeartbeats 4000000

def levels0T : MT := fun ms n h K => match ms with
  | [.one (.view vx0 ve0 en0 vl0), .one (.v (.int .i64 0)), .one (.clo 87 [])] => bif Nat.beq ve0 1 && noDup [] then ∃ l : List (BTy), vl0.map en0 = l.map eBl ∧ ((l.length ≤ 1000 ∧ (∀ y ∈ l, (bl y).length ≤ 1000000000) ∧ ∀ y ∈ l, By (bl y))) ∧ (∀ o : Unit, K (n + 0) (h32 (rootL l)) ([] ++ delL [] h)) else False
  | _ => False
theorem levels0_mono : MMono levels0T := by
  intro ms n h K K' hkk hk
  unfold levels0T at hk ⊢
  split at hk
  · rename_i vx0 ve0 va0 en0 vl0
    obtain ⟨hb, y0, z0, h1, h2⟩ := cond_false_elim hk
    rw [hb]
    exact ⟨y0, z0, h1, fun o => hkk _ _ _ (h2 o)⟩
  · exact hk.elim
theorem levels0_ok : MOK Tryd.prog 82 levels0T := by
  refine ⟨?_, levels0_mono⟩
  intro ms n hB K hk
  unfold levels0T at hk
  split at hk
  · rename_i vx0 ve0 va0 en0 vl0
    obtain ⟨hb, l, he0, h, hk2⟩ := cond_false_elim hk
    clear hk
    simp only [Bool.and_eq_true] at hb
    obtain ⟨hc0, hnd⟩ := hb
    have hs0 := Nat.eq_of_beq_eq_true hc0
    subst hs0
    refine SCall.seen ?_ (.cons (.view he0) (.cons (.refl _) (.cons (.refl _) .nil)))
    exact (levels0_spec _ h.1 h.2.1 h.2.2).use (fun _ => 0) rfl rfl trivial hnd (fun j hj => absurd hj (Nat.not_lt_zero j)) (fun o => hk2 o)
  · exact hk.elim

theorem rootF_ok : ∀ (f : Nat) (l : List (List Int)), Ok32 l → (rootF prF z32 f l).length = 32 ∧ By (rootF prF z32 f l)
  | 0, [], _ => ⟨rfl, By.rep 32⟩
  | 0, a :: r, h => h a (by simp)
  | f + 1, l, h => by
    unfold rootF
    cases Nat.ble l.length 1 with
    | true =>
      match l, h with
      | [], _ => exact ⟨rfl, By.rep 32⟩
      | a :: r, h => exact h a (by simp)
    | false => exact rootF_ok f _ (next_ok h)
theorem rootL_ok (l : List BTy) : (rootL l).length = 32 ∧ By (rootL l) := rootF_ok _ _ (lev0_ok l)
theorem root_spec (x : Value) {l : List BTy} (h : l.length ≤ 1000) (h2 : ∀ y ∈ l, (bl y).length ≤ 1000000000) (hB : ∀ y ∈ l, By (bl y)) : SFun Tryd.prog 44 [bV x l] (h32 (topF (l.length : Int) (rootL l))) := by
  refine SFun.inm [(86, topT)] (SOK.cons top_ok SOK.nil) [(82, levels0T)] (MSOK.cons levels0_ok MSOK.nil) tok mixed [] IOK.nil true [] [] Tryd.call44 Tryd.func44 rfl (by rfl) ?_
  refine Eq.mp (α := (∃ l_1 : List BTy, (And (List.map (Enc.enc BE) l = List.map eBl l_1) (And (And (List.length l_1 ≤ (1000 : Nat)) (And (∀ y : BTy, (∀ a : y ∈ l_1, (List.length (bl y) ≤ (1000000000 : Nat)))) (∀ y : BTy, (∀ a : y ∈ l_1, (∀ x_1 : Int, (∀ a_1 : x_1 ∈ bl y, (And ((0 : Int) ≤ x_1) (x_1 < (256 : Int))))))))) (∀ o : Unit, (And (And ((0 : Int) ≤ (↑(List.length l) : Int)) (And ((↑(List.length l) : Int) < (9223372036854775808 : Int)) (And (∀ x_1 : Int, (∀ a : x_1 ∈ rootL l_1, (And ((0 : Int) ≤ x_1) (x_1 < (256 : Int))))) (List.length (rootL l_1) = (32 : Nat))))) (And (M.agg [SV.ints IntKind.u8 (32 : Nat) (topF (↑(List.length l) : Int) (rootL l_1))] = M.agg [SV.ints IntKind.u8 (32 : Nat) (topF (↑(List.length l) : Int) (rootL l))]) ((true : Bool) = true)))))))) (by kernel_rfl) ?_
  refine ⟨l, rfl, ⟨h, h2, hB⟩, fun _ => ⟨⟨by omega, by omega, (rootL_ok l).2, (rootL_ok l).1⟩, ?_⟩⟩
  exact ⟨rfl, rfl⟩
def lrootT : List M → (M → Prop) → Prop
  | [.one (.view x0 es0 en0 l0)], K => bif Nat.beq es0 1 then ∃ l : List (BTy), l0.map en0 = l.map eBl ∧ ((l.length ≤ 1000 ∧ (∀ y ∈ l, (bl y).length ≤ 1000000000) ∧ ∀ y ∈ l, By (bl y)) ∧ K (h32 (topF (l.length : Int) (rootL l)))) else False
  | _, _ => False
theorem lroot_ok : POK Tryd.prog 44 lrootT := by
  intro ms K h
  unfold lrootT at h ⊢
  split at h
  · obtain ⟨hb0, l, he0, h0⟩ := cond_false_elim (b := Nat.beq _ _) h
    have hs0 := Nat.eq_of_beq_eq_true hb0
    subst hs0
    exact ⟨_, h0.2, (root_spec _ h0.1.1 h0.1.2.1 h0.1.2.2).seen (.cons (.view he0) .nil), rfl, fun _ hk => by show cond _ _ _; refine (show cond true _ _ from ⟨_, he0, ?_⟩); exact ⟨h0.1, hk⟩⟩
  · exact h.elim


noncomputable def sidesL (l : List BTy) (a : Nat) : List (List Int) := sidesF prF l.length (lev0 l) a
structure S2T (l : List BTy) (a0 : Nat) where
  lev : List (List Int)
  R : List (List Int)
  f : Nat
  a : Nat
  acc : List (List Int)
  cap : Nat
  hR : R.length = l.length
  hL : lev.length ≤ l.length
  hp : ∀ j (h : j < lev.length), R[j]? = some lev[j]
  hf : lev.length ≤ f
  ha : a < 1000
  hc : acc.length ≤ cap
  hs : acc ++ sidesF prF f lev a = sidesL l a0
  hz : acc.length + lev.length ≤ 1000
  ok : Ok32 lev
structure S3T (l : List BTy) (a0 : Nat) where
  lev : List (List Int)
  R : List (List Int)
  f : Nat
  a : Nat
  acc : List (List Int)
  cap : Nat
  n : Nat
  hR : R.length = l.length
  hL : lev.length ≤ l.length
  h1 : ∀ j, j < n → R[j]? = (nextF prF lev)[j]?
  h2 : ∀ j (h : j < lev.length), 2 * n ≤ j → R[j]? = some lev[j]
  hn : 2 * n ≤ lev.length
  hb : 1 < lev.length
  hf : (nextF prF lev).length ≤ f
  ha : a < 1000
  hc : acc.length ≤ cap
  hs : acc ++ sidesF prF f (nextF prF lev) (a / 2) = sidesL l a0
  hz : acc.length + (nextF prF lev).length ≤ 1000
  ok : Ok32 lev
noncomputable abbrev pvI (x : Value) (l : List BTy) (c0 : List SV) (a0 : Nat) : List (Nat × Inv) := [
  (3, ⟨L1T l, fun p => ⟨4, [(1, int a0), (2, .one (.clo 83 [.ptr 1 0])), (6, .one (.ptr 2 0)), (7, .one (.slc 3 32 0 l.length l.length)), (15, bV x l), (16, int l.length), (17, int p.i)], [(0, .cells c0), (1, .cells [.v (.int .i64 a0), .v (.int .i64 l.length), .v (.slice none 0 0)]), (2, .cells [.ints .u8 32 z32]), (3, .row 32 H32 (row1 l p.i) l.length)]⟩, fun p => l.length - p.i, fun _ _ => True⟩),
  (7, ⟨S2T l a0, fun p => ⟨5, [(1, int p.a), (2, .one (.clo 83 [.ptr 1 0])), (6, .one (.ptr 2 0)), (7, .one (.slc 3 32 0 p.lev.length l.length))], [(0, .cells c0), (1, .cells [.v (.int .i64 a0), .v (.int .i64 l.length), .nslc 4 32 p.acc.length p.cap]), (2, .cells [.ints .u8 32 z32]), (3, .row 32 H32 p.R l.length), (4, .row 32 H32 p.acc p.cap)]⟩, fun p => p.lev.length, fun _ _ => True⟩),
  (11, ⟨S3T l a0, fun p => ⟨5, [(1, int p.a), (2, .one (.clo 83 [.ptr 1 0])), (6, .one (.ptr 2 0)), (7, .one (.slc 3 32 0 p.lev.length l.length)), (10, int p.n), (11, int (2 * p.n : Nat))], [(0, .cells c0), (1, .cells [.v (.int .i64 a0), .v (.int .i64 l.length), .nslc 4 32 p.acc.length p.cap]), (2, .cells [.ints .u8 32 z32]), (3, .row 32 H32 p.R l.length), (4, .row 32 H32 p.acc p.cap)]⟩, fun p => p.lev.length - 2 * p.n, fun i j => j.lev = i.lev⟩)]
def inP (place : Int) (l : List BTy) : Bool := decide (0 ≤ place) && decide (place < l.length)
noncomputable def proveF (place : Int) (l : List BTy) : (Int × Int) × (List (List Int) × Int) := bif inP place l then ((place, (l.length : Int)), (sidesL l place.toNat, 0)) else ((0, 0), ([], 1))
abbrev p00 : List SV := [.v (.int .i64 0), .v (.int .i64 0), .v (.slice none 0 0)]
abbrev pfM (y : Value) (p : Int × Int) (s : List (List Int)) : M := .agg [.v (.int .i64 p.1), .v (.int .i64 p.2), .view y 32 H32.enc s]
theorem half_i (a : Nat) (h : a < 1000000000) : IntKind.i64.wrap (Int.tdiv (a : Int) 2) = ((a / 2 : Nat) : Int) := by
  rw [Int.tdiv_eq_ediv_of_nonneg (by omega), wrap64 (by omega) (by omega)]
  omega
theorem proven_spec (x : Value) {l : List BTy} {a0 : Nat} (ha : a0 < l.length) (h : l.length ≤ 1000) (h2 : ∀ y ∈ l, (bl y).length ≤ 1000000000) (hB : ∀ y ∈ l, By (bl y)) :
    SMem Tryd.prog 42 [int a0, bV x l] 0 [] (fun y : Value => ⟨0, .tup [pfM y (a0, l.length) (sidesL l a0), int 0], []⟩) := by
  refine SMem.inf 32 H32 [(89, itemT), (26, pairT)] (SOK.cons item_ok (SOK.cons pair_ok SOK.nil)) [] MSOK.nil tok mixed [(82, ⟨Tryd.f82, false, (pvI x l p00 a0), []⟩), (83, ⟨Tryd.f83, false, [], []⟩)] (IOK.cons Tryd.func82 Tryd.call82 (IOK.cons Tryd.func83 Tryd.call83 IOK.nil)) false [] [] Tryd.call42 Tryd.func42 rfl (by rfl) ?_
  refine Eq.mp (α := (@Bool.rec (fun _ => Prop) (And ((0 : Int) ≤ (↑(List.length l) : Int)) (And ((0 : Int) ≤ (↑(List.length l) : Int)) (And (Int.toNat (↑(List.length l) : Int) ≤ Int.toNat (↑(List.length l) : Int)) (And ((32 : Nat) * Int.toNat (↑(List.length l) : Int) ≤ (281474976710656 : Nat)) (And (Int.toNat (↑(List.length l) : Int) ≤ (9223372036854775807 : Nat)) (∃ i0 : L1T l, (And (And True (And (And ((↑a0 : Int) = (↑a0 : Int)) (And (And ((83 : Nat) = (83 : Nat)) (And ((true : Bool) = true) True)) (And (And ((true : Bool) = true) ((0 : Nat) = (0 : Nat))) (And (And ((true : Bool) = true) (And ((0 : Nat) = (0 : Nat)) (And (List.length l = Int.toNat (↑(List.length l) : Int)) (List.length l = Int.toNat (↑(List.length l) : Int))))) (And (SV.view x (1 : Nat) (Enc.enc BE) l = SV.view x (1 : Nat) (Enc.enc BE) l) (And ((↑(List.length l) : Int) = (↑(List.length l) : Int)) (And ((↑(L1T.i i0) : Int) = (0 : Int)) True))))))) (And (And (And ((0 : Int) = (0 : Int)) (And ((0 : Int) = (0 : Int)) (And (Value.slice none (0 : Nat) (0 : Nat) = Value.slice none (0 : Nat) (0 : Nat)) True))) (And ((true : Bool) = true) (And (And ((↑a0 : Int) = (↑a0 : Int)) (And ((↑(List.length l) : Int) = (↑(List.length l) : Int)) (And (Value.slice none (0 : Nat) (0 : Nat) = Value.slice none (0 : Nat) (0 : Nat)) True))) (And ((true : Bool) = true) (And (And (z32 = List.replicate (32 : Nat) (0 : Int)) True) (And ((true : Bool) = true) (And (And ((true : Bool) = true) (And (List.length l = Int.toNat (↑(List.length l) : Int)) (And (List.map (Enc.enc H32) (row1 l (L1T.i i0)) = List.map (Enc.enc (encInts IntKind.u8 (32 : Nat))) (List.replicate (Int.toNat (↑(List.length l) : Int)) (Enc.of (encInts IntKind.u8 (32 : Nat)) (List.replicate (32 : Nat) (0 : Int), ())))) (∀ x_1 : List Int, (∀ a : x_1 ∈ row1 l (L1T.i i0), (∀ s : SV, (∀ a_1 : s ∈ Enc.enc H32 x_1, ((SV.isPure s : Bool) = (true))))))))) (And ((true : Bool) = true) True)))))))) ((true : Bool) = true)))) (∀ i : L1T l, (∀ a : True, (@Bool.rec (fun _ => Prop) (∃ i0_1 : S2T l a0, (And (And True (And (And ((↑(S2T.a i0_1) : Int) = (↑a0 : Int)) (And (And ((83 : Nat) = (83 : Nat)) (And ((true : Bool) = true) True)) (And (And ((true : Bool) = true) ((0 : Nat) = (0 : Nat))) (And (And ((true : Bool) = true) (And ((0 : Nat) = (0 : Nat)) (And (List.length (S2T.lev i0_1) = List.length l) (List.length l = List.length l)))) True)))) (And (And (And ((0 : Int) = (0 : Int)) (And ((0 : Int) = (0 : Int)) (And (Value.slice none (0 : Nat) (0 : Nat) = Value.slice none (0 : Nat) (0 : Nat)) True))) (And ((true : Bool) = true) (And (And ((↑a0 : Int) = (↑a0 : Int)) (And ((↑(List.length l) : Int) = (↑(List.length l) : Int)) (And (And ((true : Bool) = true) (And (List.length (S2T.acc i0_1) = (0 : Nat)) (S2T.cap i0_1 = (0 : Nat)))) True))) (And ((true : Bool) = true) (And (And (z32 = z32) True) (And ((true : Bool) = true) (And (And ((true : Bool) = true) (And (List.length l = List.length l) (And (List.map (Enc.enc H32) (S2T.R i0_1) = List.map (Enc.enc H32) (row1 l (L1T.i i))) (∀ x_1 : List Int, (∀ a_1 : x_1 ∈ S2T.R i0_1, (∀ s : SV, (∀ a_2 : s ∈ Enc.enc H32 x_1, ((SV.isPure s : Bool) = (true))))))))) (And ((true : Bool) = true) (And (And ((true : Bool) = true) (And (S2T.cap i0_1 = (0 : Nat)) (And (List.map (Enc.enc H32) (S2T.acc i0_1) = List.map (Enc.enc H32) []) (∀ x_1 : List Int, (∀ a_1 : x_1 ∈ S2T.acc i0_1, (∀ s : SV, (∀ a_2 : s ∈ Enc.enc H32 x_1, ((SV.isPure s : Bool) = (true))))))))) (And ((true : Bool) = true) True)))))))))) ((true : Bool) = true)))) (∀ i_1 : S2T l a0, (∀ a_1 : True, (@Bool.rec (fun _ => Prop) (@Bool.rec (fun _ => Prop) (And ((0 : Int) ≤ (0 : Int)) (And (Int.toNat (0 : Int) < List.length (S2T.lev i_1)) (∃ hi : (0 : Nat) + Int.toNat (0 : Int) < List.length (S2T.R i_1), (And (List.length (S2T.acc i_1) ≤ List.length (S2T.acc i_1)) (And (List.length (S2T.acc i_1) ≤ S2T.cap i_1) (And (S2T.cap i_1 = S2T.cap i_1) (And (∀ y : List Int, ((true : Bool) = true)) (∀ x_1 : Value, (∃ o : Value, (And (And (And (And ((↑a0 : Int) = (↑a0 : Int)) (And ((↑(List.length l) : Int) = (↑(List.length l) : Int)) (And (SV.view o (32 : Nat) (Enc.enc H32) (sidesL l a0) = nilV (32 : Nat) H32 (SV.view x_1 (32 : Nat) (Enc.enc H32) (List.take (List.length (S2T.acc i_1)) (S2T.acc i_1)))) True))) (And ((0 : Int) = (0 : Int)) True)) True) (And True ((true : Bool) = true)))))))))))) (And (List.length (S2T.acc i_1) ≤ List.length (S2T.acc i_1)) (And (List.length (S2T.acc i_1) ≤ S2T.cap i_1) (And (S2T.cap i_1 = S2T.cap i_1) (And (∀ y : List Int, ((true : Bool) = true)) (∀ x_1 : Value, (∃ o : Value, (And (And (And (And ((↑a0 : Int) = (↑a0 : Int)) (And ((↑(List.length l) : Int) = (↑(List.length l) : Int)) (And (SV.view o (32 : Nat) (Enc.enc H32) (sidesL l a0) = nilV (32 : Nat) H32 (SV.view x_1 (32 : Nat) (Enc.enc H32) (List.take (List.length (S2T.acc i_1)) (S2T.acc i_1)))) True))) (And ((0 : Int) = (0 : Int)) True)) True) (And True ((true : Bool) = true))))))))) ((↑(List.length (S2T.lev i_1)) : Int) == (0 : Int))) (@Bool.rec (fun _ => Prop) (∃ i0_2 : S3T l a0, (And (And (S3T.lev i0_2 = S3T.lev i0_2) (And (And ((↑(S3T.a i0_2) : Int) = (↑(S2T.a i_1) : Int)) (And (And ((83 : Nat) = (83 : Nat)) (And ((true : Bool) = true) True)) (And (And ((true : Bool) = true) ((0 : Nat) = (0 : Nat))) (And (And ((true : Bool) = true) (And ((0 : Nat) = (0 : Nat)) (And (List.length (S3T.lev i0_2) = List.length (S2T.lev i_1)) (List.length l = List.length l)))) (And ((↑(S3T.n i0_2) : Int) = (0 : Int)) (And ((↑((2 : Nat) * S3T.n i0_2) : Int) = (0 : Int)) True)))))) (And (And (And ((0 : Int) = (0 : Int)) (And ((0 : Int) = (0 : Int)) (And (Value.slice none (0 : Nat) (0 : Nat) = Value.slice none (0 : Nat) (0 : Nat)) True))) (And ((true : Bool) = true) (And (And ((↑a0 : Int) = (↑a0 : Int)) (And ((↑(List.length l) : Int) = (↑(List.length l) : Int)) (And (And ((true : Bool) = true) (And (List.length (S3T.acc i0_2) = List.length (S2T.acc i_1)) (S3T.cap i0_2 = S2T.cap i_1))) True))) (And ((true : Bool) = true) (And (And (z32 = z32) True) (And ((true : Bool) = true) (And (And ((true : Bool) = true) (And (List.length l = List.length l) (And (List.map (Enc.enc H32) (S3T.R i0_2) = List.map (Enc.enc H32) (S2T.R i_1)) (∀ x_1 : List Int, (∀ a_2 : x_1 ∈ S3T.R i0_2, (∀ s : SV, (∀ a_3 : s ∈ Enc.enc H32 x_1, ((SV.isPure s : Bool) = (true))))))))) (And ((true : Bool) = true) (And (And ((true : Bool) = true) (And (S3T.cap i0_2 = S2T.cap i_1) (And (List.map (Enc.enc H32) (S3T.acc i0_2) = List.map (Enc.enc H32) (S2T.acc i_1)) (∀ x_1 : List Int, (∀ a_2 : x_1 ∈ S3T.acc i0_2, (∀ s : SV, (∀ a_3 : s ∈ Enc.enc H32 x_1, ((SV.isPure s : Bool) = (true))))))))) (And ((true : Bool) = true) True)))))))))) ((true : Bool) = true)))) (∀ i_2 : S3T l a0, (∀ a_2 : S3T.lev i_2 = S3T.lev i0_2, (@Bool.rec (fun _ => Prop) (And ((0 : Int) ≤ (↑(S3T.n i_2) : Int)) (And ((0 : Nat) ≤ Int.toNat (↑(S3T.n i_2) : Int)) (And (Int.toNat (↑(S3T.n i_2) : Int) ≤ List.length l) (And (List.length l ≤ List.length l) (And ((2 : Int) ≠ (0 : Int)) (∃ i' : S2T l a0, (And (And (List.length (S2T.lev i') < List.length (S2T.lev i_1)) True) (And (And ((↑(S2T.a i') : Int) = IntKind.wrap IntKind.i64 (Int.tdiv (↑(S3T.a i_2) : Int) (2 : Int))) (And (And ((83 : Nat) = (83 : Nat)) (And ((true : Bool) = true) True)) (And (And ((true : Bool) = true) ((0 : Nat) = (0 : Nat))) (And (And ((true : Bool) = true) (And ((0 : Nat) = if List.length l = (0 : Nat) then (0 : Nat) else (0 : Nat) + (0 : Nat)) (And (List.length (S2T.lev i') = Int.toNat (↑(S3T.n i_2) : Int) - (0 : Nat)) (List.length l = List.length l - (0 : Nat))))) True)))) (And (And (And ((0 : Int) = (0 : Int)) (And ((0 : Int) = (0 : Int)) (And (Value.slice none (0 : Nat) (0 : Nat) = Value.slice none (0 : Nat) (0 : Nat)) True))) (And ((true : Bool) = true) (And (And ((↑a0 : Int) = (↑a0 : Int)) (And ((↑(List.length l) : Int) = (↑(List.length l) : Int)) (And (And ((true : Bool) = true) (And (List.length (S2T.acc i') = List.length (S3T.acc i_2)) (S2T.cap i' = S3T.cap i_2))) True))) (And ((true : Bool) = true) (And (And (z32 = z32) True) (And ((true : Bool) = true) (And (And ((true : Bool) = true) (And (List.length l = List.length l) (And (List.map (Enc.enc H32) (S2T.R i') = List.map (Enc.enc H32) (S3T.R i_2)) (∀ x_1 : List Int, (∀ a_3 : x_1 ∈ S2T.R i', (∀ s : SV, (∀ a_4 : s ∈ Enc.enc H32 x_1, ((SV.isPure s : Bool) = (true))))))))) (And ((true : Bool) = true) (And (And ((true : Bool) = true) (And (S2T.cap i' = S3T.cap i_2) (And (List.map (Enc.enc H32) (S2T.acc i') = List.map (Enc.enc H32) (S3T.acc i_2)) (∀ x_1 : List Int, (∀ a_3 : x_1 ∈ S2T.acc i', (∀ s : SV, (∀ a_4 : s ∈ Enc.enc H32 x_1, ((SV.isPure s : Bool) = (true))))))))) (And ((true : Bool) = true) True)))))))))) ((true : Bool) = true)))))))))) (@Bool.rec (fun _ => Prop) (And ((0 : Int) ≤ (↑((2 : Nat) * S3T.n i_2) : Int)) (And (Int.toNat (↑((2 : Nat) * S3T.n i_2) : Int) < List.length (S3T.lev i_2)) (∃ hi : (0 : Nat) + Int.toNat (↑((2 : Nat) * S3T.n i_2) : Int) < List.length (S3T.R i_2), (And ((0 : Int) ≤ IntKind.wrap IntKind.i64 ((↑((2 : Nat) * S3T.n i_2) : Int) + (1 : Int))) (And (Int.toNat (IntKind.wrap IntKind.i64 ((↑((2 : Nat) * S3T.n i_2) : Int) + (1 : Int))) < List.length (S3T.lev i_2)) (∃ hi_1 : (0 : Nat) + Int.toNat (IntKind.wrap IntKind.i64 ((↑((2 : Nat) * S3T.n i_2) : Int) + (1 : Int))) < List.length (S3T.R i_2), (And (And (List.length (S3T.R i_2)[(0 : Nat) + Int.toNat (↑((2 : Nat) * S3T.n i_2) : Int)] = (32 : Nat)) (And (List.length (S3T.R i_2)[(0 : Nat) + Int.toNat (IntKind.wrap IntKind.i64 ((↑((2 : Nat) * S3T.n i_2) : Int) + (1 : Int)))] = (32 : Nat)) (And (∀ x_1 : Int, (∀ a_3 : x_1 ∈ (S3T.R i_2)[(0 : Nat) + Int.toNat (↑((2 : Nat) * S3T.n i_2) : Int)], (And ((0 : Int) ≤ x_1) (x_1 < (256 : Int))))) (∀ x_1 : Int, (∀ a_3 : x_1 ∈ (S3T.R i_2)[(0 : Nat) + Int.toNat (IntKind.wrap IntKind.i64 ((↑((2 : Nat) * S3T.n i_2) : Int) + (1 : Int)))], (And ((0 : Int) ≤ x_1) (x_1 < (256 : Int)))))))) (And ((0 : Int) ≤ (↑(S3T.n i_2) : Int)) (And (Int.toNat (↑(S3T.n i_2) : Int) < List.length (S3T.lev i_2)) (∃ hi_2 : (0 : Nat) + Int.toNat (↑(S3T.n i_2) : Int) < List.length (S3T.R i_2), (∃ i' : S3T l a0, (And (And (List.length (S3T.lev i') - (2 : Nat) * S3T.n i' < List.length (S3T.lev i_2) - (2 : Nat) * S3T.n i_2) (S3T.lev i' = S3T.lev i0_2)) (And (And ((↑(S3T.a i') : Int) = (↑(S3T.a i_2) : Int)) (And (And ((83 : Nat) = (83 : Nat)) (And ((true : Bool) = true) True)) (And (And ((true : Bool) = true) ((0 : Nat) = (0 : Nat))) (And (And ((true : Bool) = true) (And ((0 : Nat) = (0 : Nat)) (And (List.length (S3T.lev i') = List.length (S3T.lev i_2)) (List.length l = List.length l)))) (And ((↑(S3T.n i') : Int) = IntKind.wrap IntKind.i64 ((↑(S3T.n i_2) : Int) + (1 : Int))) (And ((↑((2 : Nat) * S3T.n i') : Int) = IntKind.wrap IntKind.i64 ((↑((2 : Nat) * S3T.n i_2) : Int) + (2 : Int))) True)))))) (And (And (And ((0 : Int) = (0 : Int)) (And ((0 : Int) = (0 : Int)) (And (Value.slice none (0 : Nat) (0 : Nat) = Value.slice none (0 : Nat) (0 : Nat)) True))) (And ((true : Bool) = true) (And (And ((↑a0 : Int) = (↑a0 : Int)) (And ((↑(List.length l) : Int) = (↑(List.length l) : Int)) (And (And ((true : Bool) = true) (And (List.length (S3T.acc i') = List.length (S3T.acc i_2)) (S3T.cap i' = S3T.cap i_2))) True))) (And ((true : Bool) = true) (And (And (z32 = z32) True) (And ((true : Bool) = true) (And (And ((true : Bool) = true) (And (List.length l = List.length l) (And (List.map (Enc.enc H32) (S3T.R i') = List.map (Enc.enc H32) (List.set (S3T.R i_2) ((0 : Nat) + Int.toNat (↑(S3T.n i_2) : Int)) (Enc.of H32 (shaF (pairF (S3T.R i_2)[(0 : Nat) + Int.toNat (↑((2 : Nat) * S3T.n i_2) : Int)] (S3T.R i_2)[(0 : Nat) + Int.toNat (IntKind.wrap IntKind.i64 ((↑((2 : Nat) * S3T.n i_2) : Int) + (1 : Int)))]), ())))) (∀ x_1 : List Int, (∀ a_3 : x_1 ∈ S3T.R i', (∀ s : SV, (∀ a_4 : s ∈ Enc.enc H32 x_1, ((SV.isPure s : Bool) = (true))))))))) (And ((true : Bool) = true) (And (And ((true : Bool) = true) (And (S3T.cap i' = S3T.cap i_2) (And (List.map (Enc.enc H32) (S3T.acc i') = List.map (Enc.enc H32) (S3T.acc i_2)) (∀ x_1 : List Int, (∀ a_3 : x_1 ∈ S3T.acc i', (∀ s : SV, (∀ a_4 : s ∈ Enc.enc H32 x_1, ((SV.isPure s : Bool) = (true))))))))) (And ((true : Bool) = true) True)))))))))) ((true : Bool) = true))))))))))))))) (And ((0 : Int) ≤ (↑((2 : Nat) * S3T.n i_2) : Int)) (And (Int.toNat (↑((2 : Nat) * S3T.n i_2) : Int) < List.length (S3T.lev i_2)) (∃ hi : (0 : Nat) + Int.toNat (↑((2 : Nat) * S3T.n i_2) : Int) < List.length (S3T.R i_2), (And ((0 : Int) ≤ (↑(S3T.n i_2) : Int)) (And (Int.toNat (↑(S3T.n i_2) : Int) < List.length (S3T.lev i_2)) (∃ hi_1 : (0 : Nat) + Int.toNat (↑(S3T.n i_2) : Int) < List.length (S3T.R i_2), (And ((0 : Int) ≤ IntKind.wrap IntKind.i64 ((↑(S3T.n i_2) : Int) + (1 : Int))) (And ((0 : Nat) ≤ Int.toNat (IntKind.wrap IntKind.i64 ((↑(S3T.n i_2) : Int) + (1 : Int)))) (And (Int.toNat (IntKind.wrap IntKind.i64 ((↑(S3T.n i_2) : Int) + (1 : Int))) ≤ List.length l) (And (List.length l ≤ List.length l) (And ((2 : Int) ≠ (0 : Int)) (∃ i' : S2T l a0, (And (And (List.length (S2T.lev i') < List.length (S2T.lev i_1)) True) (And (And ((↑(S2T.a i') : Int) = IntKind.wrap IntKind.i64 (Int.tdiv (↑(S3T.a i_2) : Int) (2 : Int))) (And (And ((83 : Nat) = (83 : Nat)) (And ((true : Bool) = true) True)) (And (And ((true : Bool) = true) ((0 : Nat) = (0 : Nat))) (And (And ((true : Bool) = true) (And ((0 : Nat) = if List.length l = (0 : Nat) then (0 : Nat) else (0 : Nat) + (0 : Nat)) (And (List.length (S2T.lev i') = Int.toNat (IntKind.wrap IntKind.i64 ((↑(S3T.n i_2) : Int) + (1 : Int))) - (0 : Nat)) (List.length l = List.length l - (0 : Nat))))) True)))) (And (And (And ((0 : Int) = (0 : Int)) (And ((0 : Int) = (0 : Int)) (And (Value.slice none (0 : Nat) (0 : Nat) = Value.slice none (0 : Nat) (0 : Nat)) True))) (And ((true : Bool) = true) (And (And ((↑a0 : Int) = (↑a0 : Int)) (And ((↑(List.length l) : Int) = (↑(List.length l) : Int)) (And (And ((true : Bool) = true) (And (List.length (S2T.acc i') = List.length (S3T.acc i_2)) (S2T.cap i' = S3T.cap i_2))) True))) (And ((true : Bool) = true) (And (And (z32 = z32) True) (And ((true : Bool) = true) (And (And ((true : Bool) = true) (And (List.length l = List.length l) (And (List.map (Enc.enc H32) (S2T.R i') = List.map (Enc.enc H32) (List.set (S3T.R i_2) ((0 : Nat) + Int.toNat (↑(S3T.n i_2) : Int)) (Enc.of H32 ((S3T.R i_2)[(0 : Nat) + Int.toNat (↑((2 : Nat) * S3T.n i_2) : Int)], ())))) (∀ x_1 : List Int, (∀ a_3 : x_1 ∈ S2T.R i', (∀ s : SV, (∀ a_4 : s ∈ Enc.enc H32 x_1, ((SV.isPure s : Bool) = (true))))))))) (And ((true : Bool) = true) (And (And ((true : Bool) = true) (And (S2T.cap i' = S3T.cap i_2) (And (List.map (Enc.enc H32) (S2T.acc i') = List.map (Enc.enc H32) (S3T.acc i_2)) (∀ x_1 : List Int, (∀ a_3 : x_1 ∈ S2T.acc i', (∀ s : SV, (∀ a_4 : s ∈ Enc.enc H32 x_1, ((SV.isPure s : Bool) = (true))))))))) (And ((true : Bool) = true) True)))))))))) ((true : Bool) = true)))))))))))))))) (IntKind.wrap IntKind.i64 ((↑((2 : Nat) * S3T.n i_2) : Int) + (1 : Int)) == (↑(List.length (S3T.lev i_2)) : Int))) (decide ((↑((2 : Nat) * S3T.n i_2) : Int) < (↑(List.length (S3T.lev i_2)) : Int)))))))) (And ((0 : Int) ≤ Sx.bits BinOp.xor IntKind.i64 (↑(S2T.a i_1) : Int) (1 : Int)) (And (Int.toNat (Sx.bits BinOp.xor IntKind.i64 (↑(S2T.a i_1) : Int) (1 : Int)) < List.length (S2T.lev i_1)) (∃ hi : (0 : Nat) + Int.toNat (Sx.bits BinOp.xor IntKind.i64 (↑(S2T.a i_1) : Int) (1 : Int)) < List.length (S2T.R i_1), (And (List.length (S2T.acc i_1) = List.length (S2T.acc i_1)) (And (S2T.cap i_1 = S2T.cap i_1) (And ((0 : Nat) + (1 : Nat) ≤ (1 : Nat)) (And ((List.length (S2T.acc i_1) + (1 : Nat)) * (32 : Nat) ≤ (150000000000000 : Nat)) (∀ cap2 : Nat, (∀ a_2 : List.length (S2T.acc i_1) + (1 : Nat) ≤ cap2, (∃ i0_2 : S3T l a0, (And (And (S3T.lev i0_2 = S3T.lev i0_2) (And (And ((↑(S3T.a i0_2) : Int) = (↑(S2T.a i_1) : Int)) (And (And ((83 : Nat) = (83 : Nat)) (And ((true : Bool) = true) True)) (And (And ((true : Bool) = true) ((0 : Nat) = (0 : Nat))) (And (And ((true : Bool) = true) (And ((0 : Nat) = (0 : Nat)) (And (List.length (S3T.lev i0_2) = List.length (S2T.lev i_1)) (List.length l = List.length l)))) (And ((↑(S3T.n i0_2) : Int) = (0 : Int)) (And ((↑((2 : Nat) * S3T.n i0_2) : Int) = (0 : Int)) True)))))) (And (And (And ((0 : Int) = (0 : Int)) (And ((0 : Int) = (0 : Int)) (And (Value.slice none (0 : Nat) (0 : Nat) = Value.slice none (0 : Nat) (0 : Nat)) True))) (And ((true : Bool) = true) (And (And ((↑a0 : Int) = (↑a0 : Int)) (And ((↑(List.length l) : Int) = (↑(List.length l) : Int)) (And (And ((true : Bool) = true) (And (List.length (S3T.acc i0_2) = List.length (S2T.acc i_1 ++ castL (encInts IntKind.u8 (32 : Nat)) H32 (List.take (1 : Nat) (List.drop (0 : Nat) [Enc.of (encInts IntKind.u8 (32 : Nat)) ((S2T.R i_1)[(0 : Nat) + Int.toNat (Sx.bits BinOp.xor IntKind.i64 (↑(S2T.a i_1) : Int) (1 : Int))], ())])))) (S3T.cap i0_2 = cap2))) True))) (And ((true : Bool) = true) (And (And (z32 = z32) True) (And ((true : Bool) = true) (And (And ((true : Bool) = true) (And (List.length l = List.length l) (And (List.map (Enc.enc H32) (S3T.R i0_2) = List.map (Enc.enc H32) (S2T.R i_1)) (∀ x_1 : List Int, (∀ a_3 : x_1 ∈ S3T.R i0_2, (∀ s : SV, (∀ a_4 : s ∈ Enc.enc H32 x_1, ((SV.isPure s : Bool) = (true))))))))) (And ((true : Bool) = true) (And (And ((true : Bool) = true) (And (S3T.cap i0_2 = cap2) (And (List.map (Enc.enc H32) (S3T.acc i0_2) = List.map (Enc.enc H32) (S2T.acc i_1 ++ castL (encInts IntKind.u8 (32 : Nat)) H32 (List.take (1 : Nat) (List.drop (0 : Nat) [Enc.of (encInts IntKind.u8 (32 : Nat)) ((S2T.R i_1)[(0 : Nat) + Int.toNat (Sx.bits BinOp.xor IntKind.i64 (↑(S2T.a i_1) : Int) (1 : Int))], ())])))) (∀ x_1 : List Int, (∀ a_3 : x_1 ∈ S3T.acc i0_2, (∀ s : SV, (∀ a_4 : s ∈ Enc.enc H32 x_1, ((SV.isPure s : Bool) = (true))))))))) (And ((true : Bool) = true) True)))))))))) ((true : Bool) = true)))) (∀ i_2 : S3T l a0, (∀ a_3 : S3T.lev i_2 = S3T.lev i0_2, (@Bool.rec (fun _ => Prop) (And ((0 : Int) ≤ (↑(S3T.n i_2) : Int)) (And ((0 : Nat) ≤ Int.toNat (↑(S3T.n i_2) : Int)) (And (Int.toNat (↑(S3T.n i_2) : Int) ≤ List.length l) (And (List.length l ≤ List.length l) (And ((2 : Int) ≠ (0 : Int)) (∃ i' : S2T l a0, (And (And (List.length (S2T.lev i') < List.length (S2T.lev i_1)) True) (And (And ((↑(S2T.a i') : Int) = IntKind.wrap IntKind.i64 (Int.tdiv (↑(S3T.a i_2) : Int) (2 : Int))) (And (And ((83 : Nat) = (83 : Nat)) (And ((true : Bool) = true) True)) (And (And ((true : Bool) = true) ((0 : Nat) = (0 : Nat))) (And (And ((true : Bool) = true) (And ((0 : Nat) = if List.length l = (0 : Nat) then (0 : Nat) else (0 : Nat) + (0 : Nat)) (And (List.length (S2T.lev i') = Int.toNat (↑(S3T.n i_2) : Int) - (0 : Nat)) (List.length l = List.length l - (0 : Nat))))) True)))) (And (And (And ((0 : Int) = (0 : Int)) (And ((0 : Int) = (0 : Int)) (And (Value.slice none (0 : Nat) (0 : Nat) = Value.slice none (0 : Nat) (0 : Nat)) True))) (And ((true : Bool) = true) (And (And ((↑a0 : Int) = (↑a0 : Int)) (And ((↑(List.length l) : Int) = (↑(List.length l) : Int)) (And (And ((true : Bool) = true) (And (List.length (S2T.acc i') = List.length (S3T.acc i_2)) (S2T.cap i' = S3T.cap i_2))) True))) (And ((true : Bool) = true) (And (And (z32 = z32) True) (And ((true : Bool) = true) (And (And ((true : Bool) = true) (And (List.length l = List.length l) (And (List.map (Enc.enc H32) (S2T.R i') = List.map (Enc.enc H32) (S3T.R i_2)) (∀ x_1 : List Int, (∀ a_4 : x_1 ∈ S2T.R i', (∀ s : SV, (∀ a_5 : s ∈ Enc.enc H32 x_1, ((SV.isPure s : Bool) = (true))))))))) (And ((true : Bool) = true) (And (And ((true : Bool) = true) (And (S2T.cap i' = S3T.cap i_2) (And (List.map (Enc.enc H32) (S2T.acc i') = List.map (Enc.enc H32) (S3T.acc i_2)) (∀ x_1 : List Int, (∀ a_4 : x_1 ∈ S2T.acc i', (∀ s : SV, (∀ a_5 : s ∈ Enc.enc H32 x_1, ((SV.isPure s : Bool) = (true))))))))) (And ((true : Bool) = true) True)))))))))) ((true : Bool) = true)))))))))) (@Bool.rec (fun _ => Prop) (And ((0 : Int) ≤ (↑((2 : Nat) * S3T.n i_2) : Int)) (And (Int.toNat (↑((2 : Nat) * S3T.n i_2) : Int) < List.length (S3T.lev i_2)) (∃ hi_1 : (0 : Nat) + Int.toNat (↑((2 : Nat) * S3T.n i_2) : Int) < List.length (S3T.R i_2), (And ((0 : Int) ≤ IntKind.wrap IntKind.i64 ((↑((2 : Nat) * S3T.n i_2) : Int) + (1 : Int))) (And (Int.toNat (IntKind.wrap IntKind.i64 ((↑((2 : Nat) * S3T.n i_2) : Int) + (1 : Int))) < List.length (S3T.lev i_2)) (∃ hi_2 : (0 : Nat) + Int.toNat (IntKind.wrap IntKind.i64 ((↑((2 : Nat) * S3T.n i_2) : Int) + (1 : Int))) < List.length (S3T.R i_2), (And (And (List.length (S3T.R i_2)[(0 : Nat) + Int.toNat (↑((2 : Nat) * S3T.n i_2) : Int)] = (32 : Nat)) (And (List.length (S3T.R i_2)[(0 : Nat) + Int.toNat (IntKind.wrap IntKind.i64 ((↑((2 : Nat) * S3T.n i_2) : Int) + (1 : Int)))] = (32 : Nat)) (And (∀ x_1 : Int, (∀ a_4 : x_1 ∈ (S3T.R i_2)[(0 : Nat) + Int.toNat (↑((2 : Nat) * S3T.n i_2) : Int)], (And ((0 : Int) ≤ x_1) (x_1 < (256 : Int))))) (∀ x_1 : Int, (∀ a_4 : x_1 ∈ (S3T.R i_2)[(0 : Nat) + Int.toNat (IntKind.wrap IntKind.i64 ((↑((2 : Nat) * S3T.n i_2) : Int) + (1 : Int)))], (And ((0 : Int) ≤ x_1) (x_1 < (256 : Int)))))))) (And ((0 : Int) ≤ (↑(S3T.n i_2) : Int)) (And (Int.toNat (↑(S3T.n i_2) : Int) < List.length (S3T.lev i_2)) (∃ hi_3 : (0 : Nat) + Int.toNat (↑(S3T.n i_2) : Int) < List.length (S3T.R i_2), (∃ i' : S3T l a0, (And (And (List.length (S3T.lev i') - (2 : Nat) * S3T.n i' < List.length (S3T.lev i_2) - (2 : Nat) * S3T.n i_2) (S3T.lev i' = S3T.lev i0_2)) (And (And ((↑(S3T.a i') : Int) = (↑(S3T.a i_2) : Int)) (And (And ((83 : Nat) = (83 : Nat)) (And ((true : Bool) = true) True)) (And (And ((true : Bool) = true) ((0 : Nat) = (0 : Nat))) (And (And ((true : Bool) = true) (And ((0 : Nat) = (0 : Nat)) (And (List.length (S3T.lev i') = List.length (S3T.lev i_2)) (List.length l = List.length l)))) (And ((↑(S3T.n i') : Int) = IntKind.wrap IntKind.i64 ((↑(S3T.n i_2) : Int) + (1 : Int))) (And ((↑((2 : Nat) * S3T.n i') : Int) = IntKind.wrap IntKind.i64 ((↑((2 : Nat) * S3T.n i_2) : Int) + (2 : Int))) True)))))) (And (And (And ((0 : Int) = (0 : Int)) (And ((0 : Int) = (0 : Int)) (And (Value.slice none (0 : Nat) (0 : Nat) = Value.slice none (0 : Nat) (0 : Nat)) True))) (And ((true : Bool) = true) (And (And ((↑a0 : Int) = (↑a0 : Int)) (And ((↑(List.length l) : Int) = (↑(List.length l) : Int)) (And (And ((true : Bool) = true) (And (List.length (S3T.acc i') = List.length (S3T.acc i_2)) (S3T.cap i' = S3T.cap i_2))) True))) (And ((true : Bool) = true) (And (And (z32 = z32) True) (And ((true : Bool) = true) (And (And ((true : Bool) = true) (And (List.length l = List.length l) (And (List.map (Enc.enc H32) (S3T.R i') = List.map (Enc.enc H32) (List.set (S3T.R i_2) ((0 : Nat) + Int.toNat (↑(S3T.n i_2) : Int)) (Enc.of H32 (shaF (pairF (S3T.R i_2)[(0 : Nat) + Int.toNat (↑((2 : Nat) * S3T.n i_2) : Int)] (S3T.R i_2)[(0 : Nat) + Int.toNat (IntKind.wrap IntKind.i64 ((↑((2 : Nat) * S3T.n i_2) : Int) + (1 : Int)))]), ())))) (∀ x_1 : List Int, (∀ a_4 : x_1 ∈ S3T.R i', (∀ s : SV, (∀ a_5 : s ∈ Enc.enc H32 x_1, ((SV.isPure s : Bool) = (true))))))))) (And ((true : Bool) = true) (And (And ((true : Bool) = true) (And (S3T.cap i' = S3T.cap i_2) (And (List.map (Enc.enc H32) (S3T.acc i') = List.map (Enc.enc H32) (S3T.acc i_2)) (∀ x_1 : List Int, (∀ a_4 : x_1 ∈ S3T.acc i', (∀ s : SV, (∀ a_5 : s ∈ Enc.enc H32 x_1, ((SV.isPure s : Bool) = (true))))))))) (And ((true : Bool) = true) True)))))))))) ((true : Bool) = true))))))))))))))) (And ((0 : Int) ≤ (↑((2 : Nat) * S3T.n i_2) : Int)) (And (Int.toNat (↑((2 : Nat) * S3T.n i_2) : Int) < List.length (S3T.lev i_2)) (∃ hi_1 : (0 : Nat) + Int.toNat (↑((2 : Nat) * S3T.n i_2) : Int) < List.length (S3T.R i_2), (And ((0 : Int) ≤ (↑(S3T.n i_2) : Int)) (And (Int.toNat (↑(S3T.n i_2) : Int) < List.length (S3T.lev i_2)) (∃ hi_2 : (0 : Nat) + Int.toNat (↑(S3T.n i_2) : Int) < List.length (S3T.R i_2), (And ((0 : Int) ≤ IntKind.wrap IntKind.i64 ((↑(S3T.n i_2) : Int) + (1 : Int))) (And ((0 : Nat) ≤ Int.toNat (IntKind.wrap IntKind.i64 ((↑(S3T.n i_2) : Int) + (1 : Int)))) (And (Int.toNat (IntKind.wrap IntKind.i64 ((↑(S3T.n i_2) : Int) + (1 : Int))) ≤ List.length l) (And (List.length l ≤ List.length l) (And ((2 : Int) ≠ (0 : Int)) (∃ i' : S2T l a0, (And (And (List.length (S2T.lev i') < List.length (S2T.lev i_1)) True) (And (And ((↑(S2T.a i') : Int) = IntKind.wrap IntKind.i64 (Int.tdiv (↑(S3T.a i_2) : Int) (2 : Int))) (And (And ((83 : Nat) = (83 : Nat)) (And ((true : Bool) = true) True)) (And (And ((true : Bool) = true) ((0 : Nat) = (0 : Nat))) (And (And ((true : Bool) = true) (And ((0 : Nat) = if List.length l = (0 : Nat) then (0 : Nat) else (0 : Nat) + (0 : Nat)) (And (List.length (S2T.lev i') = Int.toNat (IntKind.wrap IntKind.i64 ((↑(S3T.n i_2) : Int) + (1 : Int))) - (0 : Nat)) (List.length l = List.length l - (0 : Nat))))) True)))) (And (And (And ((0 : Int) = (0 : Int)) (And ((0 : Int) = (0 : Int)) (And (Value.slice none (0 : Nat) (0 : Nat) = Value.slice none (0 : Nat) (0 : Nat)) True))) (And ((true : Bool) = true) (And (And ((↑a0 : Int) = (↑a0 : Int)) (And ((↑(List.length l) : Int) = (↑(List.length l) : Int)) (And (And ((true : Bool) = true) (And (List.length (S2T.acc i') = List.length (S3T.acc i_2)) (S2T.cap i' = S3T.cap i_2))) True))) (And ((true : Bool) = true) (And (And (z32 = z32) True) (And ((true : Bool) = true) (And (And ((true : Bool) = true) (And (List.length l = List.length l) (And (List.map (Enc.enc H32) (S2T.R i') = List.map (Enc.enc H32) (List.set (S3T.R i_2) ((0 : Nat) + Int.toNat (↑(S3T.n i_2) : Int)) (Enc.of H32 ((S3T.R i_2)[(0 : Nat) + Int.toNat (↑((2 : Nat) * S3T.n i_2) : Int)], ())))) (∀ x_1 : List Int, (∀ a_4 : x_1 ∈ S2T.R i', (∀ s : SV, (∀ a_5 : s ∈ Enc.enc H32 x_1, ((SV.isPure s : Bool) = (true))))))))) (And ((true : Bool) = true) (And (And ((true : Bool) = true) (And (S2T.cap i' = S3T.cap i_2) (And (List.map (Enc.enc H32) (S2T.acc i') = List.map (Enc.enc H32) (S3T.acc i_2)) (∀ x_1 : List Int, (∀ a_4 : x_1 ∈ S2T.acc i', (∀ s : SV, (∀ a_5 : s ∈ Enc.enc H32 x_1, ((SV.isPure s : Bool) = (true))))))))) (And ((true : Bool) = true) True)))))))))) ((true : Bool) = true)))))))))))))))) (IntKind.wrap IntKind.i64 ((↑((2 : Nat) * S3T.n i_2) : Int) + (1 : Int)) == (↑(List.length (S3T.lev i_2)) : Int))) (decide ((↑((2 : Nat) * S3T.n i_2) : Int) < (↑(List.length (S3T.lev i_2)) : Int))))))))))))))))) (decide (Sx.bits BinOp.xor IntKind.i64 (↑(S2T.a i_1) : Int) (1 : Int) < (↑(List.length (S2T.lev i_1)) : Int)))) (decide ((1 : Int) < (↑(List.length (S2T.lev i_1)) : Int)))))))) (And ((0 : Int) ≤ (↑(L1T.i i) : Int)) (∃ hk : Int.toNat (↑(L1T.i i) : Int) < List.length l, (∃ b : List Int, (And (List.map (RK.svs._f [RK.int IntKind.u8] ⟨⟨RK.sv._f (RK.int IntKind.u8) PUnit.unit, PUnit.unit⟩, RK.svs._f [] PUnit.unit, PUnit.unit⟩) (Prod.snd (Prod.fst l[Int.toNat (↑(L1T.i i) : Int)])) = List.map eB b) (And (And ((0 : Int) ≤ (↑(L1T.i i) : Int)) (And ((↑(L1T.i i) : Int) < (9223372036854775808 : Int)) (And (∀ x_1 : Int, (∀ a_1 : x_1 ∈ b, (And ((0 : Int) ≤ x_1) (x_1 < (256 : Int))))) (List.length b ≤ (1000000000 : Nat))))) (And ((0 : Int) ≤ (↑(L1T.i i) : Int)) (And (Int.toNat (↑(L1T.i i) : Int) < List.length l) (∃ hi : (0 : Nat) + Int.toNat (↑(L1T.i i) : Int) < List.length (row1 l (L1T.i i)), (∃ i' : L1T l, (And (And (List.length l - L1T.i i' < List.length l - L1T.i i) True) (And (And ((↑a0 : Int) = (↑a0 : Int)) (And (And ((83 : Nat) = (83 : Nat)) (And ((true : Bool) = true) True)) (And (And ((true : Bool) = true) ((0 : Nat) = (0 : Nat))) (And (And ((true : Bool) = true) (And ((0 : Nat) = (0 : Nat)) (And (List.length l = List.length l) (List.length l = List.length l)))) (And (SV.view x (1 : Nat) (Enc.enc BE) l = SV.view x (1 : Nat) (Enc.enc BE) l) (And ((↑(List.length l) : Int) = (↑(List.length l) : Int)) (And ((↑(L1T.i i') : Int) = IntKind.wrap IntKind.i64 ((↑(L1T.i i) : Int) + (1 : Int))) True))))))) (And (And (And ((0 : Int) = (0 : Int)) (And ((0 : Int) = (0 : Int)) (And (Value.slice none (0 : Nat) (0 : Nat) = Value.slice none (0 : Nat) (0 : Nat)) True))) (And ((true : Bool) = true) (And (And ((↑a0 : Int) = (↑a0 : Int)) (And ((↑(List.length l) : Int) = (↑(List.length l) : Int)) (And (Value.slice none (0 : Nat) (0 : Nat) = Value.slice none (0 : Nat) (0 : Nat)) True))) (And ((true : Bool) = true) (And (And (z32 = z32) True) (And ((true : Bool) = true) (And (And ((true : Bool) = true) (And (List.length l = List.length l) (And (List.map (Enc.enc H32) (row1 l (L1T.i i')) = List.map (Enc.enc H32) (List.set (row1 l (L1T.i i)) ((0 : Nat) + Int.toNat (↑(L1T.i i) : Int)) (Enc.of H32 (itF (↑(L1T.i i) : Int) b, ())))) (∀ x_1 : List Int, (∀ a_1 : x_1 ∈ row1 l (L1T.i i'), (∀ s : SV, (∀ a_2 : s ∈ Enc.enc H32 x_1, ((SV.isPure s : Bool) = (true))))))))) (And ((true : Bool) = true) True)))))))) ((true : Bool) = true))))))))))))) (decide ((↑(L1T.i i) : Int) < (↑(List.length l) : Int))))))))))))) (∃ o : Value, (And (And (And (And ((↑a0 : Int) = (0 : Int)) (And ((↑(List.length l) : Int) = (0 : Int)) (And (SV.view o (32 : Nat) (Enc.enc H32) (sidesL l a0) = nilV (32 : Nat) H32 (SV.v (Value.slice none (0 : Nat) (0 : Nat)))) True))) (And ((0 : Int) = (1 : Int)) True)) True) (And True ((true : Bool) = true)))) (decide ((↑(List.length l) : Int) ≤ (↑a0 : Int))))) (by kernel_rfl) ?_
  have xa0 : Sx.bits .xor .i64 ((0 : Nat) : Int) 1 = ((sideN 0 : Nat) : Int) := xor1 (by decide) (by decide)
  refine bif_dec (fun h0 => absurd h0 (by omega)) (fun _ => ?_)
  refine ⟨by omega, by omega, by omega, by omega, by omega, ⟨0, Nat.zero_le _⟩, ?_, ?_⟩
  · simp only [Int.toNat_natCast, row1_zero]
    repeat' first | exact H32_pure _ | exact trivial | refine And.intro ?_ ?_ | with_reducible refine bif_dt (by assumption) ?_ | with_reducible refine bif_df (by assumption) ?_ | with_reducible refine bif_dec (fun _ => ?_) (fun _ => ?_) | with_reducible refine bif_not ?_ | with_reducible refine bif_and ?_ | with_reducible refine bif_or ?_ | with_reducible refine bif_t (by assumption) ?_ | with_reducible refine bif_f (by assumption) ?_ | with_reducible refine bif_t (beq_self_eq_true _) ?_ | with_reducible refine bif_b (fun _ => ?_) (fun _ => ?_) | with_reducible refine ⟨_, Eq.refl (List.map _ _), ?_⟩ | (with_reducible refine Exists.intro (by omega) ?_) | rfl | (intro h0; omega) | omega
  rintro ⟨i, hi⟩ -
  dsimp only
  refine bif_dec (fun h3 => ?_) (fun h3 => ?_)
  · have hi' : i < l.length := by omega
    have hset := row1_set hi'
    have hw : IntKind.i64.wrap ((i : Int) + 1) = ((i + 1 : Nat) : Int) := inext (by omega)
    simp only [Int.toNat_natCast, Nat.zero_add, hw]
    refine ⟨by omega, hi', bl l[i], (bl_enc _).symm, ⟨by omega, by omega, hB _ (List.getElem_mem hi'), h2 _ (List.getElem_mem hi')⟩, by omega, hi', by rw [row1_length hi]; exact hi', ⟨i + 1, hi'⟩, ⟨show l.length - (i + 1) < l.length - i by omega, trivial⟩, ?_⟩
    have hof : H32.of (itF (i : Int) (bl l[i]), ()) = itF (i : Int) (bl l[i]) := rfl
    rw [hof, hset]
    repeat' first | exact H32_pure _ | exact trivial | refine And.intro ?_ ?_ | with_reducible refine bif_dt (by assumption) ?_ | with_reducible refine bif_df (by assumption) ?_ | with_reducible refine bif_dec (fun _ => ?_) (fun _ => ?_) | with_reducible refine bif_not ?_ | with_reducible refine bif_and ?_ | with_reducible refine bif_or ?_ | with_reducible refine bif_t (by assumption) ?_ | with_reducible refine bif_f (by assumption) ?_ | with_reducible refine bif_t (beq_self_eq_true _) ?_ | with_reducible refine bif_b (fun _ => ?_) (fun _ => ?_) | with_reducible refine ⟨_, Eq.refl (List.map _ _), ?_⟩ | (with_reducible refine Exists.intro (by omega) ?_) | rfl | (intro h0; omega) | omega
  have hil : i = l.length := by omega
  subst hil
  rw [row1_all]
  refine ⟨⟨lev0 l, lev0 l, l.length, a0, [], 0, lev0_length l, Nat.le_of_eq (lev0_length l), fun j h => List.getElem?_eq_getElem h, Nat.le_of_eq (lev0_length l), by omega, Nat.le_refl _, rfl, by rw [lev0_length]; show 0 + l.length ≤ 1000; omega, lev0_ok l⟩, ?_, ?_⟩
  · refine ⟨trivial, ?_, ?_⟩
    · simp only [lev0_length]
      repeat' first | exact trivial | refine And.intro ?_ ?_ | with_reducible refine bif_dt (by assumption) ?_ | with_reducible refine bif_df (by assumption) ?_ | with_reducible refine bif_dec (fun _ => ?_) (fun _ => ?_) | with_reducible refine bif_not ?_ | with_reducible refine bif_and ?_ | with_reducible refine bif_or ?_ | with_reducible refine bif_t (by assumption) ?_ | with_reducible refine bif_f (by assumption) ?_ | with_reducible refine bif_t (beq_self_eq_true _) ?_ | with_reducible refine bif_b (fun _ => ?_) (fun _ => ?_) | with_reducible refine ⟨_, Eq.refl (List.map _ _), ?_⟩ | (with_reducible refine Exists.intro (by omega) ?_) | rfl | (intro h0; omega) | omega
    ·
      repeat' first | exact H32_pure _ | exact trivial | refine And.intro ?_ ?_ | with_reducible refine bif_dt (by assumption) ?_ | with_reducible refine bif_df (by assumption) ?_ | with_reducible refine bif_dec (fun _ => ?_) (fun _ => ?_) | with_reducible refine bif_not ?_ | with_reducible refine bif_and ?_ | with_reducible refine bif_or ?_ | with_reducible refine bif_t (by assumption) ?_ | with_reducible refine bif_f (by assumption) ?_ | with_reducible refine bif_t (beq_self_eq_true _) ?_ | with_reducible refine bif_b (fun _ => ?_) (fun _ => ?_) | with_reducible refine ⟨_, Eq.refl (List.map _ _), ?_⟩ | (with_reducible refine Exists.intro (by omega) ?_) | rfl | (intro h0; omega) | omega
  rintro ⟨lev, R, f, a, acc, cap, hR, hL, hp, hf, ha1, hc, hs, hz, ok⟩ -
  dsimp only
  refine bif_dec (fun h3 => ?_) (fun h3 => ?_)
  rotate_left
  · have hacc : acc = sidesL l a0 := by
      rw [← hs, sidesF_end (by omega), List.append_nil]
    subst hacc
    refine bif_b (fun h4 => ?_) (fun h4 => ?_)
    · refine ⟨Nat.le_refl _, hc, rfl, fun _ => rfl, fun y => ⟨y, ?_⟩⟩
      rw [List.take_length]
      repeat' first | exact trivial | refine And.intro ?_ ?_ | with_reducible refine bif_dt (by assumption) ?_ | with_reducible refine bif_df (by assumption) ?_ | with_reducible refine bif_dec (fun _ => ?_) (fun _ => ?_) | with_reducible refine bif_not ?_ | with_reducible refine bif_and ?_ | with_reducible refine bif_or ?_ | with_reducible refine bif_t (by assumption) ?_ | with_reducible refine bif_f (by assumption) ?_ | with_reducible refine bif_t (beq_self_eq_true _) ?_ | with_reducible refine bif_b (fun _ => ?_) (fun _ => ?_) | with_reducible refine ⟨_, Eq.refl (List.map _ _), ?_⟩ | (with_reducible refine Exists.intro (by omega) ?_) | rfl | (intro h0; omega) | omega
    · have h4 : lev.length = 1 := by
        have : ¬ ((lev.length : Int) = 0) := fun e => by rw [e] at h4; cases h4
        omega
      refine ⟨by omega, by show 0 < lev.length; omega, by show 0 < R.length; omega, Nat.le_refl _, hc, rfl, fun _ => rfl, fun y => ⟨y, ?_⟩⟩
      rw [List.take_length]
      repeat' first | exact trivial | refine And.intro ?_ ?_ | with_reducible refine bif_dt (by assumption) ?_ | with_reducible refine bif_df (by assumption) ?_ | with_reducible refine bif_dec (fun _ => ?_) (fun _ => ?_) | with_reducible refine bif_not ?_ | with_reducible refine bif_and ?_ | with_reducible refine bif_or ?_ | with_reducible refine bif_t (by assumption) ?_ | with_reducible refine bif_f (by assumption) ?_ | with_reducible refine bif_t (beq_self_eq_true _) ?_ | with_reducible refine bif_b (fun _ => ?_) (fun _ => ?_) | with_reducible refine ⟨_, Eq.refl (List.map _ _), ?_⟩ | (with_reducible refine Exists.intro (by omega) ?_) | rfl | (intro h0; omega) | omega
  have h3 : 1 < lev.length := by omega
  obtain ⟨g, rfl, hg, _, hr2⟩ := rootF_step (pr := prF) (z := z32) h3 hf
  have hnl := nextF_length prF lev
  have hx : Sx.bits .xor .i64 (a : Int) 1 = ((sideN a : Nat) : Int) := xor1 (by omega) (by omega)
  simp only [hx]
  refine bif_dec (fun h4 => ?_) (fun h4 => ?_)
  · have h4 : sideN a < lev.length := by omega
    have hsd : lev[sideN a]? = some lev[sideN a] := List.getElem?_eq_getElem h4
    have hrs : R[sideN a]'(by omega) = lev[sideN a] := by
      have := hp _ h4
      rw [List.getElem?_eq_getElem (by omega)] at this
      exact Option.some.inj this
    simp only [Int.toNat_natCast, Nat.zero_add]
    refine ⟨by omega, h4, by omega, trivial, trivial, by omega, by omega, fun cap2 k2 => ?_⟩
    have hcl : castL (encInts IntKind.u8 32) H32 (List.take 1 (List.drop 0 [(encInts IntKind.u8 32).of (R[sideN a]'(by omega), ())])) = [lev[sideN a]] := by
      rw [hrs]
      exact castL_self _ _ rfl
    simp only [hcl]
    refine ⟨⟨lev, R, g, a, acc ++ [lev[sideN a]], cap2, 0, hR, hL, fun j hj => absurd hj (Nat.not_lt_zero _), fun j h _ => hp j h, Nat.zero_le _, h3, hg, ha1, by rw [List.length_append]; exact k2, by rw [← hs, hr2 a, hsd]; simp, by rw [List.length_append, List.length_singleton]; omega, ok⟩, ?_, ?_⟩
    ·
      repeat' first | exact H32_pure _ | exact trivial | refine And.intro ?_ ?_ | with_reducible refine bif_dt (by assumption) ?_ | with_reducible refine bif_df (by assumption) ?_ | with_reducible refine bif_dec (fun _ => ?_) (fun _ => ?_) | with_reducible refine bif_not ?_ | with_reducible refine bif_and ?_ | with_reducible refine bif_or ?_ | with_reducible refine bif_t (by assumption) ?_ | with_reducible refine bif_f (by assumption) ?_ | with_reducible refine bif_t (beq_self_eq_true _) ?_ | with_reducible refine bif_b (fun _ => ?_) (fun _ => ?_) | with_reducible refine ⟨_, Eq.refl (List.map _ _), ?_⟩ | (with_reducible refine Exists.intro (by omega) ?_) | rfl | (intro h0; omega) | omega
    rintro ⟨lev', R, f', a', acc', cap', n, hR, hL, h1, h2, hn, hb, hf', ha', hc', hs', hz', ok'⟩ hrel
    dsimp only at hrel
    subst hrel
    dsimp only
    have w1 : IntKind.i64.wrap (((2 * n : Nat) : Int) + 1) = ((2 * n + 1 : Nat) : Int) := inext (by omega)
    have w2 : IntKind.i64.wrap (((2 * n : Nat) : Int) + 2) = ((2 * (n + 1) : Nat) : Int) := by rw [wrap64 (by omega) (by omega)]; omega
    have w3 : IntKind.i64.wrap ((n : Int) + 1) = ((n + 1 : Nat) : Int) := inext (by omega)
    have w4 := half_i a' (by omega)
    simp only [w1, w2, w3, w4, Int.toNat_natCast, Nat.zero_add, Nat.sub_zero, ite_self]
    refine bif_dec (fun h5 => ?_) (fun h5 => ?_)
    · refine bif_b (fun h6 => ?_) (fun h6 => ?_)
      · have h6 : 2 * n + 1 = lev'.length := by have := eq_of_beq h6; omega
        have hq := set_one (by omega) h1 h2 h6
        refine ⟨by omega, by omega, by omega, by omega, by omega, by omega, by omega, by omega, by omega, by omega, by omega, ⟨nextF prF lev', R.set n (R[2 * n]'(by omega)), f', a' / 2, acc', cap', by rw [List.length_set]; exact hR, by omega, hq, hf', by omega, hc', hs', hz', next_ok ok'⟩, ?_, ?_⟩
        ·
          dsimp only
          repeat' first | exact trivial | refine And.intro ?_ ?_ | with_reducible refine bif_dt (by assumption) ?_ | with_reducible refine bif_df (by assumption) ?_ | with_reducible refine bif_dec (fun _ => ?_) (fun _ => ?_) | with_reducible refine bif_not ?_ | with_reducible refine bif_and ?_ | with_reducible refine bif_or ?_ | with_reducible refine bif_t (by assumption) ?_ | with_reducible refine bif_f (by assumption) ?_ | with_reducible refine bif_t (beq_self_eq_true _) ?_ | with_reducible refine bif_b (fun _ => ?_) (fun _ => ?_) | with_reducible refine ⟨_, Eq.refl (List.map _ _), ?_⟩ | (with_reducible refine Exists.intro (by omega) ?_) | rfl | (intro h0; omega) | omega
        ·
          dsimp only
          repeat' first | exact H32_pure _ | exact trivial | refine And.intro ?_ ?_ | with_reducible refine bif_dt (by assumption) ?_ | with_reducible refine bif_df (by assumption) ?_ | with_reducible refine bif_dec (fun _ => ?_) (fun _ => ?_) | with_reducible refine bif_not ?_ | with_reducible refine bif_and ?_ | with_reducible refine bif_or ?_ | with_reducible refine bif_t (by assumption) ?_ | with_reducible refine bif_f (by assumption) ?_ | with_reducible refine bif_t (beq_self_eq_true _) ?_ | with_reducible refine bif_b (fun _ => ?_) (fun _ => ?_) | with_reducible refine ⟨_, Eq.refl (List.map _ _), ?_⟩ | (with_reducible refine Exists.intro (by omega) ?_) | rfl | (intro h0; omega) | omega
      · have h6 : 2 * n + 1 < lev'.length := by
            have : ¬ (((2 * n + 1 : Nat) : Int) = (lev'.length : Int)) := fun e => by rw [e] at h6; simp at h6
            omega
        obtain ⟨a1, b1, hs1, hs2⟩ := set_two (by omega) h1 h2 h6
        have oa := ok' _ (List.getElem_mem (show 2 * n < lev'.length by omega))
        have ob := ok' _ (List.getElem_mem h6)
        refine ⟨by omega, by omega, by omega, by omega, by omega, by omega, ⟨by rw [a1]; exact oa.1, by rw [b1]; exact ob.1, by rw [a1]; exact oa.2, by rw [b1]; exact ob.2⟩, by omega, by omega, by omega, ⟨lev', R.set n (prF (R[2 * n]'(by omega)) (R[2 * n + 1]'(by omega))), f', a', acc', cap', n + 1, by rw [List.length_set]; exact hR, hL, hs1, hs2, by omega, hb, hf', ha', hc', hs', hz', ok'⟩, ?_, ?_⟩
        ·
          dsimp only
          repeat' first | exact trivial | refine And.intro ?_ ?_ | with_reducible refine bif_dt (by assumption) ?_ | with_reducible refine bif_df (by assumption) ?_ | with_reducible refine bif_dec (fun _ => ?_) (fun _ => ?_) | with_reducible refine bif_not ?_ | with_reducible refine bif_and ?_ | with_reducible refine bif_or ?_ | with_reducible refine bif_t (by assumption) ?_ | with_reducible refine bif_f (by assumption) ?_ | with_reducible refine bif_t (beq_self_eq_true _) ?_ | with_reducible refine bif_b (fun _ => ?_) (fun _ => ?_) | with_reducible refine ⟨_, Eq.refl (List.map _ _), ?_⟩ | (with_reducible refine Exists.intro (by omega) ?_) | rfl | (intro h0; omega) | omega
        ·
          dsimp only
          repeat' first | exact H32_pure _ | exact trivial | refine And.intro ?_ ?_ | with_reducible refine bif_dt (by assumption) ?_ | with_reducible refine bif_df (by assumption) ?_ | with_reducible refine bif_dec (fun _ => ?_) (fun _ => ?_) | with_reducible refine bif_not ?_ | with_reducible refine bif_and ?_ | with_reducible refine bif_or ?_ | with_reducible refine bif_t (by assumption) ?_ | with_reducible refine bif_f (by assumption) ?_ | with_reducible refine bif_t (beq_self_eq_true _) ?_ | with_reducible refine bif_b (fun _ => ?_) (fun _ => ?_) | with_reducible refine ⟨_, Eq.refl (List.map _ _), ?_⟩ | (with_reducible refine Exists.intro (by omega) ?_) | rfl | (intro h0; omega) | omega
    · have h5 : 2 * n = lev'.length := by omega
      refine ⟨by omega, by omega, by omega, by omega, by omega, ⟨nextF prF lev', R, f', a' / 2, acc', cap', hR, by omega, fun j hj => by rw [← List.getElem?_eq_getElem hj]; exact h1 j (by omega), hf', by omega, hc', hs', hz', next_ok ok'⟩, ?_, ?_⟩
      ·
        dsimp only
        repeat' first | exact trivial | refine And.intro ?_ ?_ | with_reducible refine bif_dt (by assumption) ?_ | with_reducible refine bif_df (by assumption) ?_ | with_reducible refine bif_dec (fun _ => ?_) (fun _ => ?_) | with_reducible refine bif_not ?_ | with_reducible refine bif_and ?_ | with_reducible refine bif_or ?_ | with_reducible refine bif_t (by assumption) ?_ | with_reducible refine bif_f (by assumption) ?_ | with_reducible refine bif_t (beq_self_eq_true _) ?_ | with_reducible refine bif_b (fun _ => ?_) (fun _ => ?_) | with_reducible refine ⟨_, Eq.refl (List.map _ _), ?_⟩ | (with_reducible refine Exists.intro (by omega) ?_) | rfl | (intro h0; omega) | omega
      ·
        dsimp only
        repeat' first | exact H32_pure _ | exact trivial | refine And.intro ?_ ?_ | with_reducible refine bif_dt (by assumption) ?_ | with_reducible refine bif_df (by assumption) ?_ | with_reducible refine bif_dec (fun _ => ?_) (fun _ => ?_) | with_reducible refine bif_not ?_ | with_reducible refine bif_and ?_ | with_reducible refine bif_or ?_ | with_reducible refine bif_t (by assumption) ?_ | with_reducible refine bif_f (by assumption) ?_ | with_reducible refine bif_t (beq_self_eq_true _) ?_ | with_reducible refine bif_b (fun _ => ?_) (fun _ => ?_) | with_reducible refine ⟨_, Eq.refl (List.map _ _), ?_⟩ | (with_reducible refine Exists.intro (by omega) ?_) | rfl | (intro h0; omega) | omega
  · have hsd : lev[sideN a]? = none := List.getElem?_eq_none (by omega)
    refine ⟨⟨lev, R, g, a, acc, cap, 0, hR, hL, fun j hj => absurd hj (Nat.not_lt_zero _), fun j h _ => hp j h, Nat.zero_le _, h3, hg, ha1, hc, by rw [← hs, hr2 a, hsd]; rfl, by omega, ok⟩, ?_, ?_⟩
    ·
      repeat' first | exact H32_pure _ | exact trivial | refine And.intro ?_ ?_ | with_reducible refine bif_dt (by assumption) ?_ | with_reducible refine bif_df (by assumption) ?_ | with_reducible refine bif_dec (fun _ => ?_) (fun _ => ?_) | with_reducible refine bif_not ?_ | with_reducible refine bif_and ?_ | with_reducible refine bif_or ?_ | with_reducible refine bif_t (by assumption) ?_ | with_reducible refine bif_f (by assumption) ?_ | with_reducible refine bif_t (beq_self_eq_true _) ?_ | with_reducible refine bif_b (fun _ => ?_) (fun _ => ?_) | with_reducible refine ⟨_, Eq.refl (List.map _ _), ?_⟩ | (with_reducible refine Exists.intro (by omega) ?_) | rfl | (intro h0; omega) | omega
    rintro ⟨lev', R, f', a', acc', cap', n, hR, hL, h1, h2, hn, hb, hf', ha', hc', hs', hz', ok'⟩ hrel
    dsimp only at hrel
    subst hrel
    dsimp only
    have w1 : IntKind.i64.wrap (((2 * n : Nat) : Int) + 1) = ((2 * n + 1 : Nat) : Int) := inext (by omega)
    have w2 : IntKind.i64.wrap (((2 * n : Nat) : Int) + 2) = ((2 * (n + 1) : Nat) : Int) := by rw [wrap64 (by omega) (by omega)]; omega
    have w3 : IntKind.i64.wrap ((n : Int) + 1) = ((n + 1 : Nat) : Int) := inext (by omega)
    have w4 := half_i a' (by omega)
    simp only [w1, w2, w3, w4, Int.toNat_natCast, Nat.zero_add, Nat.sub_zero, ite_self]
    refine bif_dec (fun h5 => ?_) (fun h5 => ?_)
    · refine bif_b (fun h6 => ?_) (fun h6 => ?_)
      · have h6 : 2 * n + 1 = lev'.length := by have := eq_of_beq h6; omega
        have hq := set_one (by omega) h1 h2 h6
        refine ⟨by omega, by omega, by omega, by omega, by omega, by omega, by omega, by omega, by omega, by omega, by omega, ⟨nextF prF lev', R.set n (R[2 * n]'(by omega)), f', a' / 2, acc', cap', by rw [List.length_set]; exact hR, by omega, hq, hf', by omega, hc', hs', hz', next_ok ok'⟩, ?_, ?_⟩
        ·
          dsimp only
          repeat' first | exact trivial | refine And.intro ?_ ?_ | with_reducible refine bif_dt (by assumption) ?_ | with_reducible refine bif_df (by assumption) ?_ | with_reducible refine bif_dec (fun _ => ?_) (fun _ => ?_) | with_reducible refine bif_not ?_ | with_reducible refine bif_and ?_ | with_reducible refine bif_or ?_ | with_reducible refine bif_t (by assumption) ?_ | with_reducible refine bif_f (by assumption) ?_ | with_reducible refine bif_t (beq_self_eq_true _) ?_ | with_reducible refine bif_b (fun _ => ?_) (fun _ => ?_) | with_reducible refine ⟨_, Eq.refl (List.map _ _), ?_⟩ | (with_reducible refine Exists.intro (by omega) ?_) | rfl | (intro h0; omega) | omega
        ·
          dsimp only
          repeat' first | exact H32_pure _ | exact trivial | refine And.intro ?_ ?_ | with_reducible refine bif_dt (by assumption) ?_ | with_reducible refine bif_df (by assumption) ?_ | with_reducible refine bif_dec (fun _ => ?_) (fun _ => ?_) | with_reducible refine bif_not ?_ | with_reducible refine bif_and ?_ | with_reducible refine bif_or ?_ | with_reducible refine bif_t (by assumption) ?_ | with_reducible refine bif_f (by assumption) ?_ | with_reducible refine bif_t (beq_self_eq_true _) ?_ | with_reducible refine bif_b (fun _ => ?_) (fun _ => ?_) | with_reducible refine ⟨_, Eq.refl (List.map _ _), ?_⟩ | (with_reducible refine Exists.intro (by omega) ?_) | rfl | (intro h0; omega) | omega
      · have h6 : 2 * n + 1 < lev'.length := by
            have : ¬ (((2 * n + 1 : Nat) : Int) = (lev'.length : Int)) := fun e => by rw [e] at h6; simp at h6
            omega
        obtain ⟨a1, b1, hs1, hs2⟩ := set_two (by omega) h1 h2 h6
        have oa := ok' _ (List.getElem_mem (show 2 * n < lev'.length by omega))
        have ob := ok' _ (List.getElem_mem h6)
        refine ⟨by omega, by omega, by omega, by omega, by omega, by omega, ⟨by rw [a1]; exact oa.1, by rw [b1]; exact ob.1, by rw [a1]; exact oa.2, by rw [b1]; exact ob.2⟩, by omega, by omega, by omega, ⟨lev', R.set n (prF (R[2 * n]'(by omega)) (R[2 * n + 1]'(by omega))), f', a', acc', cap', n + 1, by rw [List.length_set]; exact hR, hL, hs1, hs2, by omega, hb, hf', ha', hc', hs', hz', ok'⟩, ?_, ?_⟩
        ·
          dsimp only
          repeat' first | exact trivial | refine And.intro ?_ ?_ | with_reducible refine bif_dt (by assumption) ?_ | with_reducible refine bif_df (by assumption) ?_ | with_reducible refine bif_dec (fun _ => ?_) (fun _ => ?_) | with_reducible refine bif_not ?_ | with_reducible refine bif_and ?_ | with_reducible refine bif_or ?_ | with_reducible refine bif_t (by assumption) ?_ | with_reducible refine bif_f (by assumption) ?_ | with_reducible refine bif_t (beq_self_eq_true _) ?_ | with_reducible refine bif_b (fun _ => ?_) (fun _ => ?_) | with_reducible refine ⟨_, Eq.refl (List.map _ _), ?_⟩ | (with_reducible refine Exists.intro (by omega) ?_) | rfl | (intro h0; omega) | omega
        ·
          dsimp only
          repeat' first | exact H32_pure _ | exact trivial | refine And.intro ?_ ?_ | with_reducible refine bif_dt (by assumption) ?_ | with_reducible refine bif_df (by assumption) ?_ | with_reducible refine bif_dec (fun _ => ?_) (fun _ => ?_) | with_reducible refine bif_not ?_ | with_reducible refine bif_and ?_ | with_reducible refine bif_or ?_ | with_reducible refine bif_t (by assumption) ?_ | with_reducible refine bif_f (by assumption) ?_ | with_reducible refine bif_t (beq_self_eq_true _) ?_ | with_reducible refine bif_b (fun _ => ?_) (fun _ => ?_) | with_reducible refine ⟨_, Eq.refl (List.map _ _), ?_⟩ | (with_reducible refine Exists.intro (by omega) ?_) | rfl | (intro h0; omega) | omega
    · have h5 : 2 * n = lev'.length := by omega
      refine ⟨by omega, by omega, by omega, by omega, by omega, ⟨nextF prF lev', R, f', a' / 2, acc', cap', hR, by omega, fun j hj => by rw [← List.getElem?_eq_getElem hj]; exact h1 j (by omega), hf', by omega, hc', hs', hz', next_ok ok'⟩, ?_, ?_⟩
      ·
        dsimp only
        repeat' first | exact trivial | refine And.intro ?_ ?_ | with_reducible refine bif_dt (by assumption) ?_ | with_reducible refine bif_df (by assumption) ?_ | with_reducible refine bif_dec (fun _ => ?_) (fun _ => ?_) | with_reducible refine bif_not ?_ | with_reducible refine bif_and ?_ | with_reducible refine bif_or ?_ | with_reducible refine bif_t (by assumption) ?_ | with_reducible refine bif_f (by assumption) ?_ | with_reducible refine bif_t (beq_self_eq_true _) ?_ | with_reducible refine bif_b (fun _ => ?_) (fun _ => ?_) | with_reducible refine ⟨_, Eq.refl (List.map _ _), ?_⟩ | (with_reducible refine Exists.intro (by omega) ?_) | rfl | (intro h0; omega) | omega
      ·
        dsimp only
        repeat' first | exact H32_pure _ | exact trivial | refine And.intro ?_ ?_ | with_reducible refine bif_dt (by assumption) ?_ | with_reducible refine bif_df (by assumption) ?_ | with_reducible refine bif_dec (fun _ => ?_) (fun _ => ?_) | with_reducible refine bif_not ?_ | with_reducible refine bif_and ?_ | with_reducible refine bif_or ?_ | with_reducible refine bif_t (by assumption) ?_ | with_reducible refine bif_f (by assumption) ?_ | with_reducible refine bif_t (beq_self_eq_true _) ?_ | with_reducible refine bif_b (fun _ => ?_) (fun _ => ?_) | with_reducible refine ⟨_, Eq.refl (List.map _ _), ?_⟩ | (with_reducible refine Exists.intro (by omega) ?_) | rfl | (intro h0; omega) | omega
end Go.Proofs.YtblapbjafbmndaaDoor

namespace Go.Proofs.YtblapbjafbmndaaDoor
open Go Go.Sx Go.Sha
set_option linter.unusedVariables false
set_option linter.unusedSimpArgs false
set_option maxRecDepth 100000
set_option maxHeartbeats 4000000

theorem cast1 (v : List Int) : castL (encInts IntKind.u8 32) H32 (List.take 1 (List.drop 0 [(encInts IntKind.u8 32).of (v, ())])) = [v] := castL_self _ _ rfl
theorem take_app {L : List (List Int)} {i : Nat} {v : List Int} (h : L[i]? = some v) : L.take (i + 1) = L.take i ++ [v] := by
  rw [List.take_add_one, h]
  rfl
structure OwnT (n : Nat) where
  i : Nat
  cap : Nat
  hi : i ≤ n
  hc : i ≤ cap
theorem prove_spec (x : Value) (place : Int) {l : List BTy} (h : l.length ≤ 1000) (h2 : ∀ y ∈ l, (bl y).length ≤ 1000000000) (hB : ∀ y ∈ l, By (bl y)) :
    SMem Tryd.prog 42 [int place, bV x l] 0 [] (fun y : Value => ⟨0, .tup [pfM y (proveF place l).1 (proveF place l).2.1, int (proveF place l).2.2], []⟩) := by
  cases hi : inP place l with
  | true =>
    unfold proveF
    rw [hi]
    unfold inP at hi
    simp only [Bool.and_eq_true, decide_eq_true_eq] at hi
    obtain ⟨a0, rfl⟩ : ∃ n : Nat, place = n := ⟨place.toNat, by omega⟩
    exact proven_spec x (by omega) h h2 hB
  | false =>
    unfold proveF
    rw [hi]
    unfold inP at hi
    refine SMem.inf 32 H32 [] SOK.nil [] MSOK.nil tok mixed [] IOK.nil true [] [] Tryd.call42 Tryd.func42 rfl (by rfl) ?_
    refine Eq.mp (α := (@Bool.rec (fun _ => Prop) (@Bool.rec (fun _ => Prop) False (∃ o : Value, (And (And (And (And ((0 : Int) = (0 : Int)) (And ((0 : Int) = (0 : Int)) (And (SV.view o (32 : Nat) (Enc.enc H32) [] = nilV (32 : Nat) H32 (SV.v (Value.slice none (0 : Nat) (0 : Nat)))) True))) (And ((1 : Int) = (1 : Int)) True)) True) (And True ((true : Bool) = true)))) (decide ((↑(List.length l) : Int) ≤ place))) (∃ o : Value, (And (And (And (And ((0 : Int) = (0 : Int)) (And ((0 : Int) = (0 : Int)) (And (SV.view o (32 : Nat) (Enc.enc H32) [] = nilV (32 : Nat) H32 (SV.v (Value.slice none (0 : Nat) (0 : Nat)))) True))) (And ((1 : Int) = (1 : Int)) True)) True) (And True ((true : Bool) = true)))) (decide (place < (0 : Int))))) (by kernel_rfl) ?_
    refine bif_dec (fun h0 => ?_) (fun h0 => ?_)
    · refine ⟨.slice none 0 0, ?_⟩
      repeat' first | exact trivial | refine And.intro ?_ ?_ | with_reducible refine bif_dt (by assumption) ?_ | with_reducible refine bif_df (by assumption) ?_ | with_reducible refine bif_dec (fun _ => ?_) (fun _ => ?_) | with_reducible refine bif_not ?_ | with_reducible refine bif_and ?_ | with_reducible refine bif_or ?_ | with_reducible refine bif_t (by assumption) ?_ | with_reducible refine bif_f (by assumption) ?_ | with_reducible refine bif_t (beq_self_eq_true _) ?_ | with_reducible refine bif_b (fun _ => ?_) (fun _ => ?_) | with_reducible refine ⟨_, Eq.refl (List.map _ _), ?_⟩ | (with_reducible refine Exists.intro (by omega) ?_) | rfl | (intro h0; omega) | omega
    refine bif_dec (fun h1 => ?_) (fun h1 => ?_)
    · refine ⟨.slice none 0 0, ?_⟩
      repeat' first | exact trivial | refine And.intro ?_ ?_ | with_reducible refine bif_dt (by assumption) ?_ | with_reducible refine bif_df (by assumption) ?_ | with_reducible refine bif_dec (fun _ => ?_) (fun _ => ?_) | with_reducible refine bif_not ?_ | with_reducible refine bif_and ?_ | with_reducible refine bif_or ?_ | with_reducible refine bif_t (by assumption) ?_ | with_reducible refine bif_f (by assumption) ?_ | with_reducible refine bif_t (beq_self_eq_true _) ?_ | with_reducible refine bif_b (fun _ => ?_) (fun _ => ?_) | with_reducible refine ⟨_, Eq.refl (List.map _ _), ?_⟩ | (with_reducible refine Exists.intro (by omega) ?_) | rfl | (intro h0; omega) | omega
    · rw [decide_eq_true (by omega), decide_eq_true (by omega)] at hi
      cases hi
theorem first_spec (x : Value) {l : List BTy} (h : l.length ≤ 1000) (h2 : ∀ y ∈ l, (bl y).length ≤ 1000000000) (hB : ∀ y ∈ l, By (bl y)) :
    SMem Tryd.prog 84 [bV x l] 0 [] (fun y : Value => ⟨0, .one (.view y 32 H32.enc (lev0 l)), []⟩) := by
  refine SMem.inf 32 H32 [(92, ritemT)] (SOK.cons ritem_ok SOK.nil) [] MSOK.nil tok mixed [] IOK.nil false [(3, ⟨OwnT l.length, fun p => ⟨1, [(0, bV x l), (3, .one (.nslc 0 32 p.i p.cap)), (4, int p.i)], [(0, .row 32 H32 ((lev0 l).take p.i) p.cap)]⟩, fun p => l.length - p.i, fun _ _ => True⟩)] [] Tryd.call84 Tryd.func84 rfl (by rfl) ?_
  refine Eq.mp (α := (∃ i0 : OwnT (List.length l), (And (And True (And (And (SV.view x (1 : Nat) (Enc.enc BE) l = SV.view x (1 : Nat) (Enc.enc BE) l) (And (And ((true : Bool) = true) (And (OwnT.i i0 = (0 : Nat)) (OwnT.cap i0 = (0 : Nat)))) (And ((↑(OwnT.i i0) : Int) = (0 : Int)) True))) (And (And (And ((true : Bool) = true) (And (OwnT.cap i0 = (0 : Nat)) (And (List.map (Enc.enc H32) (List.take (OwnT.i i0) (lev0 l)) = List.map (Enc.enc H32) []) (∀ x_1 : List Int, (∀ a : x_1 ∈ List.take (OwnT.i i0) (lev0 l), (∀ s : SV, (∀ a_1 : s ∈ Enc.enc H32 x_1, ((SV.isPure s : Bool) = (true))))))))) (And ((true : Bool) = true) True)) ((true : Bool) = true)))) (∀ i : OwnT (List.length l), (∀ a : True, (@Bool.rec (fun _ => Prop) (And (OwnT.i i ≤ List.length (List.take (OwnT.i i) (lev0 l))) (And (OwnT.i i ≤ OwnT.cap i) (And (OwnT.cap i = OwnT.cap i) (And (∀ y : List Int, ((true : Bool) = true)) (∀ x_1 : Value, (∃ o : Value, (And (And (SV.view o (32 : Nat) (Enc.enc H32) (lev0 l) = nilV (32 : Nat) H32 (SV.view x_1 (32 : Nat) (Enc.enc H32) (List.take (OwnT.i i) (List.take (OwnT.i i) (lev0 l))))) True) (And True ((true : Bool) = true))))))))) (And ((0 : Int) ≤ (↑(OwnT.i i) : Int)) (∃ hk : Int.toNat (↑(OwnT.i i) : Int) < List.length l, (∃ b : List Int, (And (List.map (RK.svs._f [RK.int IntKind.u8] ⟨⟨RK.sv._f (RK.int IntKind.u8) PUnit.unit, PUnit.unit⟩, RK.svs._f [] PUnit.unit, PUnit.unit⟩) (Prod.snd (Prod.fst l[Int.toNat (↑(OwnT.i i) : Int)])) = List.map eB b) (And (And ((0 : Int) ≤ (↑(OwnT.i i) : Int)) (And ((↑(OwnT.i i) : Int) < (9223372036854775808 : Int)) (And (∀ x_1 : Int, (∀ a_1 : x_1 ∈ b, (And ((0 : Int) ≤ x_1) (x_1 < (256 : Int))))) (List.length b ≤ (1000000000 : Nat))))) (And (OwnT.i i = List.length (List.take (OwnT.i i) (lev0 l))) (And (OwnT.cap i = OwnT.cap i) (And ((0 : Nat) + (1 : Nat) ≤ (1 : Nat)) (And ((List.length (List.take (OwnT.i i) (lev0 l)) + (1 : Nat)) * (32 : Nat) ≤ (150000000000000 : Nat)) (∀ cap2 : Nat, (∀ a_1 : List.length (List.take (OwnT.i i) (lev0 l)) + (1 : Nat) ≤ cap2, (∃ i' : OwnT (List.length l), (And (And (List.length l - OwnT.i i' < List.length l - OwnT.i i) True) (And (And (SV.view x (1 : Nat) (Enc.enc BE) l = SV.view x (1 : Nat) (Enc.enc BE) l) (And (And ((true : Bool) = true) (And (OwnT.i i' = List.length (List.take (OwnT.i i) (lev0 l) ++ castL (encInts IntKind.u8 (32 : Nat)) H32 (List.take (1 : Nat) (List.drop (0 : Nat) [Enc.of (encInts IntKind.u8 (32 : Nat)) (itF (↑(OwnT.i i) : Int) b, ())])))) (OwnT.cap i' = cap2))) (And ((↑(OwnT.i i') : Int) = IntKind.wrap IntKind.i64 ((↑(OwnT.i i) : Int) + (1 : Int))) True))) (And (And (And ((true : Bool) = true) (And (OwnT.cap i' = cap2) (And (List.map (Enc.enc H32) (List.take (OwnT.i i') (lev0 l)) = List.map (Enc.enc H32) (List.take (OwnT.i i) (lev0 l) ++ castL (encInts IntKind.u8 (32 : Nat)) H32 (List.take (1 : Nat) (List.drop (0 : Nat) [Enc.of (encInts IntKind.u8 (32 : Nat)) (itF (↑(OwnT.i i) : Int) b, ())])))) (∀ x_1 : List Int, (∀ a_2 : x_1 ∈ List.take (OwnT.i i') (lev0 l), (∀ s : SV, (∀ a_3 : s ∈ Enc.enc H32 x_1, ((SV.isPure s : Bool) = (true))))))))) (And ((true : Bool) = true) True)) ((true : Bool) = true)))))))))))))))) (decide ((↑(OwnT.i i) : Int) < (↑(List.length l) : Int))))))))) (by kernel_rfl) ?_
  refine ⟨⟨0, 0, Nat.zero_le _, Nat.le_refl _⟩, ?_, ?_⟩
  ·
    repeat' first | exact H32_pure _ | exact trivial | refine And.intro ?_ ?_ | with_reducible refine bif_dt (by assumption) ?_ | with_reducible refine bif_df (by assumption) ?_ | with_reducible refine bif_dec (fun _ => ?_) (fun _ => ?_) | with_reducible refine bif_not ?_ | with_reducible refine bif_and ?_ | with_reducible refine bif_or ?_ | with_reducible refine bif_t (by assumption) ?_ | with_reducible refine bif_f (by assumption) ?_ | with_reducible refine bif_t (beq_self_eq_true _) ?_ | with_reducible refine bif_b (fun _ => ?_) (fun _ => ?_) | with_reducible refine ⟨_, Eq.refl (List.map _ _), ?_⟩ | (with_reducible refine Exists.intro (by omega) ?_) | rfl | (intro h0; omega) | omega
  rintro ⟨i, cap, hi, hc⟩ -
  dsimp only
  have hlen : ((lev0 l).take i).length = i := by rw [List.length_take, lev0_length]; omega
  refine bif_dec (fun h3 => ?_) (fun h3 => ?_)
  · have hi' : i < l.length := by omega
    have hw : IntKind.i64.wrap ((i : Int) + 1) = ((i + 1 : Nat) : Int) := inext (by omega)
    refine ⟨by omega, hi', bl l[i], (bl_enc _).symm, ⟨by omega, by omega, hB _ (List.getElem_mem hi'), h2 _ (List.getElem_mem hi')⟩, hlen.symm, rfl, by omega, by omega, fun cap2 k2 => ?_⟩
    have hcl : (lev0 l).take i ++ castL (encInts IntKind.u8 32) H32 (List.take 1 (List.drop 0 [(encInts IntKind.u8 32).of (itF (i : Int) (bl l[i]), ())])) = (lev0 l).take (i + 1) := by
      rw [cast1]
      exact (take_app (by rw [List.getElem?_eq_getElem (by rw [lev0_length]; exact hi'), lev0_get l i hi'])).symm
    rw [hcl, hw]
    have hlen2 : ((lev0 l).take (i + 1)).length = i + 1 := by rw [List.length_take, lev0_length]; omega
    refine ⟨⟨i + 1, cap2, hi', by omega⟩, ⟨show l.length - (i + 1) < l.length - i by omega, trivial⟩, ?_, ?_⟩
    · rw [hlen2]
      repeat' first | exact trivial | refine And.intro ?_ ?_ | with_reducible refine bif_dt (by assumption) ?_ | with_reducible refine bif_df (by assumption) ?_ | with_reducible refine bif_dec (fun _ => ?_) (fun _ => ?_) | with_reducible refine bif_not ?_ | with_reducible refine bif_and ?_ | with_reducible refine bif_or ?_ | with_reducible refine bif_t (by assumption) ?_ | with_reducible refine bif_f (by assumption) ?_ | with_reducible refine bif_t (beq_self_eq_true _) ?_ | with_reducible refine bif_b (fun _ => ?_) (fun _ => ?_) | with_reducible refine ⟨_, Eq.refl (List.map _ _), ?_⟩ | (with_reducible refine Exists.intro (by omega) ?_) | rfl | (intro h0; omega) | omega
    ·
      repeat' first | exact H32_pure _ | exact trivial | refine And.intro ?_ ?_ | with_reducible refine bif_dt (by assumption) ?_ | with_reducible refine bif_df (by assumption) ?_ | with_reducible refine bif_dec (fun _ => ?_) (fun _ => ?_) | with_reducible refine bif_not ?_ | with_reducible refine bif_and ?_ | with_reducible refine bif_or ?_ | with_reducible refine bif_t (by assumption) ?_ | with_reducible refine bif_f (by assumption) ?_ | with_reducible refine bif_t (beq_self_eq_true _) ?_ | with_reducible refine bif_b (fun _ => ?_) (fun _ => ?_) | with_reducible refine ⟨_, Eq.refl (List.map _ _), ?_⟩ | (with_reducible refine Exists.intro (by omega) ?_) | rfl | (intro h0; omega) | omega
  · have hil : i = l.length := by omega
    subst hil
    have e1 : (lev0 l).take l.length = lev0 l := List.take_of_length_le (by rw [lev0_length]; exact Nat.le_refl _)
    rw [e1, e1, lev0_length]
    refine ⟨Nat.le_refl _, hc, rfl, fun _ => rfl, fun y => ⟨y, ?_⟩⟩
    repeat' first | exact trivial | refine And.intro ?_ ?_ | with_reducible refine bif_dt (by assumption) ?_ | with_reducible refine bif_df (by assumption) ?_ | with_reducible refine bif_dec (fun _ => ?_) (fun _ => ?_) | with_reducible refine bif_not ?_ | with_reducible refine bif_and ?_ | with_reducible refine bif_or ?_ | with_reducible refine bif_t (by assumption) ?_ | with_reducible refine bif_f (by assumption) ?_ | with_reducible refine bif_t (beq_self_eq_true _) ?_ | with_reducible refine bif_b (fun _ => ?_) (fun _ => ?_) | with_reducible refine ⟨_, Eq.refl (List.map _ _), ?_⟩ | (with_reducible refine Exists.intro (by omega) ?_) | rfl | (intro h0; omega) | omega
def firstT : MT := fun ms n h K => match ms with
  | [.one (.view vx0 ve0 en0 vl0)] => bif Nat.beq ve0 1 && noDup [] then ∃ l : List (BTy), vl0.map en0 = l.map eBl ∧ ((l.length ≤ 1000 ∧ (∀ y ∈ l, (bl y).length ≤ 1000000000) ∧ ∀ y ∈ l, By (bl y))) ∧ (∀ y : Value, K (n + 0) (.one (.view y 32 H32.enc (lev0 l))) ([] ++ delL [] h)) else False
  | _ => False
theorem first_mono : MMono firstT := by
  intro ms n h K K' hkk hk
  unfold firstT at hk ⊢
  split at hk
  · rename_i vx0 ve0 va0 en0 vl0
    obtain ⟨hb, y0, z0, h1, h2⟩ := cond_false_elim hk
    rw [hb]
    exact ⟨y0, z0, h1, fun o => hkk _ _ _ (h2 o)⟩
  · exact hk.elim
theorem first_ok : MOK Tryd.prog 84 firstT := by
  refine ⟨?_, first_mono⟩
  intro ms n hB K hk
  unfold firstT at hk
  split at hk
  · rename_i vx0 ve0 va0 en0 vl0
    obtain ⟨hb, l, he0, h, hk2⟩ := cond_false_elim hk
    clear hk
    simp only [Bool.and_eq_true] at hb
    obtain ⟨hc0, hnd⟩ := hb
    have hs0 := Nat.eq_of_beq_eq_true hc0
    subst hs0
    refine SCall.seen ?_ (.cons (.view he0) .nil)
    exact (first_spec _ h.1 h.2.1 h.2.2).use (fun _ => 0) rfl rfl trivial hnd (fun j hj => absurd hj (Nat.not_lt_zero j)) (fun o => hk2 o)
  · exact hk.elim

theorem next_spec (x : Value) {l : List (List Int)} (h : l.length ≤ 1000) (hl : Ok32 l) :
    SMem Tryd.prog 85 [.one (.view x 32 H32.enc l)] 0 [] (fun y : Value => ⟨0, .one (.view y 32 H32.enc (nextF prF l)), []⟩) := by
  refine SMem.inf 32 H32 [(27, rpairT)] (SOK.cons rpair_ok SOK.nil) [] MSOK.nil tok mixed [] IOK.nil false [(3, ⟨OwnT (nextF prF l).length, fun p => ⟨1, [(0, .one (.view x 32 H32.enc l)), (3, .one (.nslc 0 32 p.i p.cap)), (4, int (2 * p.i : Nat))], [(0, .row 32 H32 ((nextF prF l).take p.i) p.cap)]⟩, fun p => (nextF prF l).length - p.i, fun _ _ => True⟩)] [] Tryd.call85 Tryd.func85 rfl (by rfl) ?_
  refine Eq.mp (α := (∃ i0 : OwnT (List.length (nextF prF l)), (And (And True (And (And (SV.view x (32 : Nat) (Enc.enc H32) l = SV.view x (32 : Nat) (Enc.enc H32) l) (And (And ((true : Bool) = true) (And (OwnT.i i0 = (0 : Nat)) (OwnT.cap i0 = (0 : Nat)))) (And ((↑((2 : Nat) * OwnT.i i0) : Int) = (0 : Int)) True))) (And (And (And ((true : Bool) = true) (And (OwnT.cap i0 = (0 : Nat)) (And (List.map (Enc.enc H32) (List.take (OwnT.i i0) (nextF prF l)) = List.map (Enc.enc H32) []) (∀ x_1 : List Int, (∀ a : x_1 ∈ List.take (OwnT.i i0) (nextF prF l), (∀ s : SV, (∀ a_1 : s ∈ Enc.enc H32 x_1, ((SV.isPure s : Bool) = (true))))))))) (And ((true : Bool) = true) True)) ((true : Bool) = true)))) (∀ i : OwnT (List.length (nextF prF l)), (∀ a : True, (@Bool.rec (fun _ => Prop) (And (OwnT.i i ≤ List.length (List.take (OwnT.i i) (nextF prF l))) (And (OwnT.i i ≤ OwnT.cap i) (And (OwnT.cap i = OwnT.cap i) (And (∀ y : List Int, ((true : Bool) = true)) (∀ x_1 : Value, (∃ o : Value, (And (And (SV.view o (32 : Nat) (Enc.enc H32) (nextF prF l) = nilV (32 : Nat) H32 (SV.view x_1 (32 : Nat) (Enc.enc H32) (List.take (OwnT.i i) (List.take (OwnT.i i) (nextF prF l))))) True) (And True ((true : Bool) = true))))))))) (@Bool.rec (fun _ => Prop) (And ((0 : Int) ≤ (↑((2 : Nat) * OwnT.i i) : Int)) (∃ hk : Int.toNat (↑((2 : Nat) * OwnT.i i) : Int) < List.length l, (And (OwnT.i i = List.length (List.take (OwnT.i i) (nextF prF l))) (And (OwnT.cap i = OwnT.cap i) (And ((0 : Nat) + (1 : Nat) ≤ (1 : Nat)) (And ((List.length (List.take (OwnT.i i) (nextF prF l)) + (1 : Nat)) * (32 : Nat) ≤ (150000000000000 : Nat)) (∀ cap2 : Nat, (∀ a_1 : List.length (List.take (OwnT.i i) (nextF prF l)) + (1 : Nat) ≤ cap2, (∃ i' : OwnT (List.length (nextF prF l)), (And (And (List.length (nextF prF l) - OwnT.i i' < List.length (nextF prF l) - OwnT.i i) True) (And (And (SV.view x (32 : Nat) (Enc.enc H32) l = SV.view x (32 : Nat) (Enc.enc H32) l) (And (And ((true : Bool) = true) (And (OwnT.i i' = List.length (List.take (OwnT.i i) (nextF prF l) ++ castL (encInts IntKind.u8 (32 : Nat)) H32 (List.take (1 : Nat) (List.drop (0 : Nat) [Enc.of (encInts IntKind.u8 (32 : Nat)) (l[Int.toNat (↑((2 : Nat) * OwnT.i i) : Int)], ())])))) (OwnT.cap i' = cap2))) (And ((↑((2 : Nat) * OwnT.i i') : Int) = IntKind.wrap IntKind.i64 ((↑((2 : Nat) * OwnT.i i) : Int) + (2 : Int))) True))) (And (And (And ((true : Bool) = true) (And (OwnT.cap i' = cap2) (And (List.map (Enc.enc H32) (List.take (OwnT.i i') (nextF prF l)) = List.map (Enc.enc H32) (List.take (OwnT.i i) (nextF prF l) ++ castL (encInts IntKind.u8 (32 : Nat)) H32 (List.take (1 : Nat) (List.drop (0 : Nat) [Enc.of (encInts IntKind.u8 (32 : Nat)) (l[Int.toNat (↑((2 : Nat) * OwnT.i i) : Int)], ())])))) (∀ x_1 : List Int, (∀ a_2 : x_1 ∈ List.take (OwnT.i i') (nextF prF l), (∀ s : SV, (∀ a_3 : s ∈ Enc.enc H32 x_1, ((SV.isPure s : Bool) = (true))))))))) (And ((true : Bool) = true) True)) ((true : Bool) = true))))))))))))) (And ((0 : Int) ≤ (↑((2 : Nat) * OwnT.i i) : Int)) (∃ hk : Int.toNat (↑((2 : Nat) * OwnT.i i) : Int) < List.length l, (And ((0 : Int) ≤ IntKind.wrap IntKind.i64 ((↑((2 : Nat) * OwnT.i i) : Int) + (1 : Int))) (∃ hk_1 : Int.toNat (IntKind.wrap IntKind.i64 ((↑((2 : Nat) * OwnT.i i) : Int) + (1 : Int))) < List.length l, (And (And (List.length l[Int.toNat (↑((2 : Nat) * OwnT.i i) : Int)] = (32 : Nat)) (And (List.length l[Int.toNat (IntKind.wrap IntKind.i64 ((↑((2 : Nat) * OwnT.i i) : Int) + (1 : Int)))] = (32 : Nat)) (And (∀ x_1 : Int, (∀ a_1 : x_1 ∈ l[Int.toNat (↑((2 : Nat) * OwnT.i i) : Int)], (And ((0 : Int) ≤ x_1) (x_1 < (256 : Int))))) (∀ x_1 : Int, (∀ a_1 : x_1 ∈ l[Int.toNat (IntKind.wrap IntKind.i64 ((↑((2 : Nat) * OwnT.i i) : Int) + (1 : Int)))], (And ((0 : Int) ≤ x_1) (x_1 < (256 : Int)))))))) (And (OwnT.i i = List.length (List.take (OwnT.i i) (nextF prF l))) (And (OwnT.cap i = OwnT.cap i) (And ((0 : Nat) + (1 : Nat) ≤ (1 : Nat)) (And ((List.length (List.take (OwnT.i i) (nextF prF l)) + (1 : Nat)) * (32 : Nat) ≤ (150000000000000 : Nat)) (∀ cap2 : Nat, (∀ a_1 : List.length (List.take (OwnT.i i) (nextF prF l)) + (1 : Nat) ≤ cap2, (∃ i' : OwnT (List.length (nextF prF l)), (And (And (List.length (nextF prF l) - OwnT.i i' < List.length (nextF prF l) - OwnT.i i) True) (And (And (SV.view x (32 : Nat) (Enc.enc H32) l = SV.view x (32 : Nat) (Enc.enc H32) l) (And (And ((true : Bool) = true) (And (OwnT.i i' = List.length (List.take (OwnT.i i) (nextF prF l) ++ castL (encInts IntKind.u8 (32 : Nat)) H32 (List.take (1 : Nat) (List.drop (0 : Nat) [Enc.of (encInts IntKind.u8 (32 : Nat)) (shaF (pairF l[Int.toNat (↑((2 : Nat) * OwnT.i i) : Int)] l[Int.toNat (IntKind.wrap IntKind.i64 ((↑((2 : Nat) * OwnT.i i) : Int) + (1 : Int)))]), ())])))) (OwnT.cap i' = cap2))) (And ((↑((2 : Nat) * OwnT.i i') : Int) = IntKind.wrap IntKind.i64 ((↑((2 : Nat) * OwnT.i i) : Int) + (2 : Int))) True))) (And (And (And ((true : Bool) = true) (And (OwnT.cap i' = cap2) (And (List.map (Enc.enc H32) (List.take (OwnT.i i') (nextF prF l)) = List.map (Enc.enc H32) (List.take (OwnT.i i) (nextF prF l) ++ castL (encInts IntKind.u8 (32 : Nat)) H32 (List.take (1 : Nat) (List.drop (0 : Nat) [Enc.of (encInts IntKind.u8 (32 : Nat)) (shaF (pairF l[Int.toNat (↑((2 : Nat) * OwnT.i i) : Int)] l[Int.toNat (IntKind.wrap IntKind.i64 ((↑((2 : Nat) * OwnT.i i) : Int) + (1 : Int)))]), ())])))) (∀ x_1 : List Int, (∀ a_2 : x_1 ∈ List.take (OwnT.i i') (nextF prF l), (∀ s : SV, (∀ a_3 : s ∈ Enc.enc H32 x_1, ((SV.isPure s : Bool) = (true))))))))) (And ((true : Bool) = true) True)) ((true : Bool) = true)))))))))))))))) (decide (IntKind.wrap IntKind.i64 ((↑((2 : Nat) * OwnT.i i) : Int) + (1 : Int)) < (↑(List.length l) : Int)))) (decide ((↑((2 : Nat) * OwnT.i i) : Int) < (↑(List.length l) : Int))))))))) (by kernel_rfl) ?_
  have hN := nextF_length prF l
  refine ⟨⟨0, 0, Nat.zero_le _, Nat.le_refl _⟩, ?_, ?_⟩
  ·
    repeat' first | exact H32_pure _ | exact trivial | refine And.intro ?_ ?_ | with_reducible refine bif_dt (by assumption) ?_ | with_reducible refine bif_df (by assumption) ?_ | with_reducible refine bif_dec (fun _ => ?_) (fun _ => ?_) | with_reducible refine bif_not ?_ | with_reducible refine bif_and ?_ | with_reducible refine bif_or ?_ | with_reducible refine bif_t (by assumption) ?_ | with_reducible refine bif_f (by assumption) ?_ | with_reducible refine bif_t (beq_self_eq_true _) ?_ | with_reducible refine bif_b (fun _ => ?_) (fun _ => ?_) | with_reducible refine ⟨_, Eq.refl (List.map _ _), ?_⟩ | (with_reducible refine Exists.intro (by omega) ?_) | rfl | (intro h0; omega) | omega
  rintro ⟨i, cap, hi, hc⟩ -
  dsimp only
  have hlen : ((nextF prF l).take i).length = i := by rw [List.length_take]; omega
  have w1 : IntKind.i64.wrap (((2 * i : Nat) : Int) + 1) = ((2 * i + 1 : Nat) : Int) := inext (by omega)
  have w2 : IntKind.i64.wrap (((2 * i : Nat) : Int) + 2) = ((2 * (i + 1) : Nat) : Int) := by rw [wrap64 (by omega) (by omega)]; omega
  have tl : ∀ v : List Int, (nextF prF l)[i]? = some v → i < (nextF prF l).length → (nextF prF l).take i ++ castL (encInts IntKind.u8 32) H32 (List.take 1 (List.drop 0 [(encInts IntKind.u8 32).of (v, ())])) = (nextF prF l).take (i + 1) := by
    intro v hv hlt
    rw [cast1]
    exact (take_app hv).symm
  refine bif_dec (fun h3 => ?_) (fun h3 => ?_)
  · have hi' : i < (nextF prF l).length := by omega
    have hlen2 : ((nextF prF l).take (i + 1)).length = i + 1 := by rw [List.length_take]; omega
    simp only [w1, w2]
    refine bif_dec (fun h4 => ?_) (fun h4 => ?_)
    · have oa := hl _ (List.getElem_mem (show 2 * i < l.length by omega))
      have ob := hl _ (List.getElem_mem (show 2 * i + 1 < l.length by omega))
      refine ⟨by omega, by omega, by omega, by omega, ⟨oa.1, ob.1, oa.2, ob.2⟩, hlen.symm, trivial, by omega, by omega, fun cap2 k2 => ?_⟩
      have e := tl _ (nextF_two prF l i (by omega)) hi'
      refine ⟨⟨i + 1, cap2, hi', by omega⟩, ⟨show (nextF prF l).length - (i + 1) < (nextF prF l).length - i by omega, trivial⟩, ?_⟩
      repeat' first | exact H32_pure _ | exact hlen2.symm.trans (congrArg List.length e.symm) | exact congrArg (List.map H32.enc) e.symm | exact trivial | refine And.intro ?_ ?_ | with_reducible refine bif_dt (by assumption) ?_ | with_reducible refine bif_df (by assumption) ?_ | with_reducible refine bif_dec (fun _ => ?_) (fun _ => ?_) | with_reducible refine bif_not ?_ | with_reducible refine bif_and ?_ | with_reducible refine bif_or ?_ | with_reducible refine bif_t (by assumption) ?_ | with_reducible refine bif_f (by assumption) ?_ | with_reducible refine bif_t (beq_self_eq_true _) ?_ | with_reducible refine bif_b (fun _ => ?_) (fun _ => ?_) | with_reducible refine ⟨_, Eq.refl (List.map _ _), ?_⟩ | (with_reducible refine Exists.intro (by omega) ?_) | rfl | (intro h0; omega) | omega
    · refine ⟨by omega, by omega, hlen.symm, trivial, by omega, by omega, fun cap2 k2 => ?_⟩
      have e := tl _ (nextF_one prF l i (by omega)) hi'
      refine ⟨⟨i + 1, cap2, hi', by omega⟩, ⟨show (nextF prF l).length - (i + 1) < (nextF prF l).length - i by omega, trivial⟩, ?_⟩
      repeat' first | exact H32_pure _ | exact hlen2.symm.trans (congrArg List.length e.symm) | exact congrArg (List.map H32.enc) e.symm | exact trivial | refine And.intro ?_ ?_ | with_reducible refine bif_dt (by assumption) ?_ | with_reducible refine bif_df (by assumption) ?_ | with_reducible refine bif_dec (fun _ => ?_) (fun _ => ?_) | with_reducible refine bif_not ?_ | with_reducible refine bif_and ?_ | with_reducible refine bif_or ?_ | with_reducible refine bif_t (by assumption) ?_ | with_reducible refine bif_f (by assumption) ?_ | with_reducible refine bif_t (beq_self_eq_true _) ?_ | with_reducible refine bif_b (fun _ => ?_) (fun _ => ?_) | with_reducible refine ⟨_, Eq.refl (List.map _ _), ?_⟩ | (with_reducible refine Exists.intro (by omega) ?_) | rfl | (intro h0; omega) | omega
  · have hil : i = (nextF prF l).length := by omega
    subst hil
    rw [List.take_length, List.take_length]
    refine ⟨Nat.le_refl _, hc, rfl, fun _ => rfl, fun y => ⟨y, ?_⟩⟩
    repeat' first | exact trivial | refine And.intro ?_ ?_ | with_reducible refine bif_dt (by assumption) ?_ | with_reducible refine bif_df (by assumption) ?_ | with_reducible refine bif_dec (fun _ => ?_) (fun _ => ?_) | with_reducible refine bif_not ?_ | with_reducible refine bif_and ?_ | with_reducible refine bif_or ?_ | with_reducible refine bif_t (by assumption) ?_ | with_reducible refine bif_f (by assumption) ?_ | with_reducible refine bif_t (beq_self_eq_true _) ?_ | with_reducible refine bif_b (fun _ => ?_) (fun _ => ?_) | with_reducible refine ⟨_, Eq.refl (List.map _ _), ?_⟩ | (with_reducible refine Exists.intro (by omega) ?_) | rfl | (intro h0; omega) | omega
def rnextT : MT := fun ms n h K => match ms with
  | [.one (.view vx0 ve0 en0 vl0)] => bif Nat.beq ve0 32 && noDup [] then ∃ l : List (List Int), vl0.map en0 = l.map eH ∧ ((l.length ≤ 1000 ∧ Ok32 l)) ∧ (∀ y : Value, K (n + 0) (.one (.view y 32 H32.enc (nextF prF l))) ([] ++ delL [] h)) else False
  | _ => False
theorem rnext_mono : MMono rnextT := by
  intro ms n h K K' hkk hk
  unfold rnextT at hk ⊢
  split at hk
  · rename_i vx0 ve0 va0 en0 vl0
    obtain ⟨hb, y0, z0, h1, h2⟩ := cond_false_elim hk
    rw [hb]
    exact ⟨y0, z0, h1, fun o => hkk _ _ _ (h2 o)⟩
  · exact hk.elim
theorem rnext_ok : MOK Tryd.prog 85 rnextT := by
  refine ⟨?_, rnext_mono⟩
  intro ms n hB K hk
  unfold rnextT at hk
  split at hk
  · rename_i vx0 ve0 va0 en0 vl0
    obtain ⟨hb, l, he0, h, hk2⟩ := cond_false_elim hk
    clear hk
    simp only [Bool.and_eq_true] at hb
    obtain ⟨hc0, hnd⟩ := hb
    have hs0 := Nat.eq_of_beq_eq_true hc0
    subst hs0
    refine SCall.seen ?_ (.cons (.view he0) .nil)
    exact (next_spec _ h.1 h.2).use (fun _ => 0) rfl rfl trivial hnd (fun j hj => absurd hj (Nat.not_lt_zero j)) (fun o => hk2 o)
  · exact hk.elim

structure RrT (l : List BTy) where
  lev : List (List Int)
  f : Nat
  y : Value
  hL : lev.length ≤ 1000
  hf : lev.length ≤ f
  hr : rootF prF z32 f lev = rootL l
  hb : 0 < lev.length
  ok : Ok32 lev
theorem rroot_spec (x : Value) {l : List BTy} (h : l.length ≤ 1000) (h2 : ∀ y ∈ l, (bl y).length ≤ 1000000000) (hB : ∀ y ∈ l, By (bl y)) : SFun Tryd.prog 45 [bV x l] (h32 (topF (l.length : Int) (rootL l))) := by
  refine SFun.inm [(88, rtopT)] (SOK.cons rtop_ok SOK.nil) [(84, firstT), (85, rnextT)] (MSOK.cons first_ok (MSOK.cons rnext_ok MSOK.nil)) tok mixed [] IOK.nil false [(4, ⟨RrT l, fun p => ⟨1, [(0, bV x l), (2, .one (.ptr 0 0)), (3, .one (.view p.y 32 H32.enc p.lev))], [(0, .cells [.ints .u8 32 z32])]⟩, fun p => p.lev.length, fun _ _ => True⟩)] [] Tryd.call45 Tryd.func45 rfl (by rfl) ?_
  refine Eq.mp (α := (@Bool.rec (fun _ => Prop) (∃ l_1 : List BTy, (And (List.map (Enc.enc BE) l = List.map eBl l_1) (And (And (List.length l_1 ≤ (1000 : Nat)) (And (∀ y : BTy, (∀ a : y ∈ l_1, (List.length (bl y) ≤ (1000000000 : Nat)))) (∀ y : BTy, (∀ a : y ∈ l_1, (∀ x_1 : Int, (∀ a_1 : x_1 ∈ bl y, (And ((0 : Int) ≤ x_1) (x_1 < (256 : Int))))))))) (∀ y : Value, (∃ i0 : RrT l, (And (And True (And (And (SV.view x (1 : Nat) (Enc.enc BE) l = SV.view x (1 : Nat) (Enc.enc BE) l) (And (And ((true : Bool) = true) ((0 : Nat) = (0 : Nat))) (And (SV.view (RrT.y i0) (32 : Nat) (Enc.enc H32) (RrT.lev i0) = SV.view y (32 : Nat) (Enc.enc H32) (lev0 l_1)) True))) (And (And (And (z32 = List.replicate (32 : Nat) (0 : Int)) True) (And ((true : Bool) = true) True)) ((true : Bool) = true)))) (∀ i : RrT l, (∀ a : True, (@Bool.rec (fun _ => Prop) (And ((0 : Int) ≤ (0 : Int)) (∃ hk : Int.toNat (0 : Int) < List.length (RrT.lev i), (And (And ((0 : Int) ≤ (↑(List.length l) : Int)) (And ((↑(List.length l) : Int) < (9223372036854775808 : Int)) (And (∀ x_1 : Int, (∀ a_1 : x_1 ∈ (RrT.lev i)[Int.toNat (0 : Int)], (And ((0 : Int) ≤ x_1) (x_1 < (256 : Int))))) (List.length (RrT.lev i)[Int.toNat (0 : Int)] = (32 : Nat))))) (And (M.agg [SV.ints IntKind.u8 (32 : Nat) (topF (↑(List.length l) : Int) (RrT.lev i)[Int.toNat (0 : Int)])] = M.agg [SV.ints IntKind.u8 (32 : Nat) (topF (↑(List.length l) : Int) (rootL l))]) ((true : Bool) = true))))) (∃ l_2 : List (List Int), (And (List.map (Enc.enc H32) (RrT.lev i) = List.map eH l_2) (And (And (List.length l_2 ≤ (1000 : Nat)) (∀ a_1 : List Int, (∀ a_2 : a_1 ∈ l_2, (And (List.length a_1 = (32 : Nat)) (∀ x_1 : Int, (∀ a_3 : x_1 ∈ a_1, (And ((0 : Int) ≤ x_1) (x_1 < (256 : Int))))))))) (∀ y_1 : Value, (∃ i' : RrT l, (And (And (List.length (RrT.lev i') < List.length (RrT.lev i)) True) (And (And (SV.view x (1 : Nat) (Enc.enc BE) l = SV.view x (1 : Nat) (Enc.enc BE) l) (And (And ((true : Bool) = true) ((0 : Nat) = (0 : Nat))) (And (SV.view (RrT.y i') (32 : Nat) (Enc.enc H32) (RrT.lev i') = SV.view y_1 (32 : Nat) (Enc.enc H32) (nextF prF l_2)) True))) (And (And (And (z32 = z32) True) (And ((true : Bool) = true) True)) ((true : Bool) = true))))))))) (decide ((1 : Int) < (↑(List.length (RrT.lev i)) : Int)))))))))))) (And (And ((0 : Int) ≤ (0 : Int)) (And ((0 : Int) < (9223372036854775808 : Int)) (And (∀ x_1 : Int, (∀ a : x_1 ∈ List.replicate (32 : Nat) (0 : Int), (And ((0 : Int) ≤ x_1) (x_1 < (256 : Int))))) ((32 : Nat) = (32 : Nat))))) (And (M.agg [SV.ints IntKind.u8 (32 : Nat) (topF (0 : Int) (List.replicate (32 : Nat) (0 : Int)))] = M.agg [SV.ints IntKind.u8 (32 : Nat) (topF (↑(List.length l) : Int) (rootL l))]) ((true : Bool) = true))) ((↑(List.length l) : Int) == (0 : Int)))) (by kernel_rfl) ?_
  refine bif_b (fun h3 => ?_) (fun h3 => ?_)
  · have h3 : l.length = 0 := by have := eq_of_beq h3; omega
    have : l = [] := List.eq_nil_of_length_eq_zero h3
    subst this
    refine ⟨⟨by omega, by omega, By.rep 32, rfl⟩, ?_⟩
    exact ⟨rfl, rfl⟩
  have h3 : 0 < l.length := by
    have : ¬ ((l.length : Int) = 0) := fun e => by rw [e] at h3; cases h3
    omega
  refine ⟨l, rfl, ⟨h, h2, hB⟩, fun y => ⟨⟨lev0 l, l.length, y, by rw [lev0_length]; exact h, Nat.le_of_eq (lev0_length l), rfl, by rw [lev0_length]; exact h3, lev0_ok l⟩, ?_, ?_⟩⟩
  ·
    repeat' first | exact trivial | refine And.intro ?_ ?_ | with_reducible refine bif_dt (by assumption) ?_ | with_reducible refine bif_df (by assumption) ?_ | with_reducible refine bif_dec (fun _ => ?_) (fun _ => ?_) | with_reducible refine bif_not ?_ | with_reducible refine bif_and ?_ | with_reducible refine bif_or ?_ | with_reducible refine bif_t (by assumption) ?_ | with_reducible refine bif_f (by assumption) ?_ | with_reducible refine bif_t (beq_self_eq_true _) ?_ | with_reducible refine bif_b (fun _ => ?_) (fun _ => ?_) | with_reducible refine ⟨_, Eq.refl (List.map _ _), ?_⟩ | (with_reducible refine Exists.intro (by omega) ?_) | rfl | (intro h0; omega) | omega
  rintro ⟨lev, f, y, hL, hf, hr, hb, ok⟩ -
  dsimp only
  refine bif_dec (fun h4 => ?_) (fun h4 => ?_)
  · obtain ⟨g, rfl, hg, hr2, _⟩ := rootF_step (pr := prF) (z := z32) (show 1 < lev.length by omega) hf
    have hnl := nextF_length prF lev
    refine ⟨lev, rfl, ⟨hL, ok⟩, fun y1 => ⟨⟨nextF prF lev, g, y1, by omega, hg, by rw [← hr2, hr], by omega, next_ok ok⟩, ⟨show (nextF prF lev).length < lev.length by omega, trivial⟩, ?_⟩⟩
    repeat' first | exact trivial | refine And.intro ?_ ?_ | with_reducible refine bif_dt (by assumption) ?_ | with_reducible refine bif_df (by assumption) ?_ | with_reducible refine bif_dec (fun _ => ?_) (fun _ => ?_) | with_reducible refine bif_not ?_ | with_reducible refine bif_and ?_ | with_reducible refine bif_or ?_ | with_reducible refine bif_t (by assumption) ?_ | with_reducible refine bif_f (by assumption) ?_ | with_reducible refine bif_t (beq_self_eq_true _) ?_ | with_reducible refine bif_b (fun _ => ?_) (fun _ => ?_) | with_reducible refine ⟨_, Eq.refl (List.map _ _), ?_⟩ | (with_reducible refine Exists.intro (by omega) ?_) | rfl | (intro h0; omega) | omega
  · have e0 : rootL l = lev[0]'hb := by
      rw [← hr, rootF_end (by omega)]
      match lev, hb with
      | a :: _, _ => rfl
    have o := ok _ (List.getElem_mem hb)
    refine ⟨by omega, hb, ⟨by omega, by omega, o.2, o.1⟩, ?_⟩
    rw [e0]
    exact ⟨rfl, rfl⟩
def rrootT : List M → (M → Prop) → Prop
  | [.one (.view x0 es0 en0 l0)], K => bif Nat.beq es0 1 then ∃ l : List (BTy), l0.map en0 = l.map eBl ∧ ((l.length ≤ 1000 ∧ (∀ y ∈ l, (bl y).length ≤ 1000000000) ∧ ∀ y ∈ l, By (bl y)) ∧ K (h32 (topF (l.length : Int) (rootL l)))) else False
  | _, _ => False
theorem rroot_ok : POK Tryd.prog 45 rrootT := by
  intro ms K h
  unfold rrootT at h ⊢
  split at h
  · obtain ⟨hb0, l, he0, h0⟩ := cond_false_elim (b := Nat.beq _ _) h
    have hs0 := Nat.eq_of_beq_eq_true hb0
    subst hs0
    exact ⟨_, h0.2, (rroot_spec _ h0.1.1 h0.1.2.1 h0.1.2.2).seen (.cons (.view he0) .nil), rfl, fun _ hk => by show cond _ _ _; refine (show cond true _ _ from ⟨_, he0, ?_⟩); exact ⟨h0.1, hk⟩⟩
  · exact h.elim

structure RpT (l : List BTy) (a0 : Nat) where
  lev : List (List Int)
  f : Nat
  y : Value
  a : Nat
  acc : List (List Int)
  cap : Nat
  hL : lev.length ≤ 1000
  hf : lev.length ≤ f
  ha : a < 1000
  hc : acc.length ≤ cap
  hs : acc ++ sidesF prF f lev a = sidesL l a0
  hz : acc.length + lev.length ≤ 1000
  ok : Ok32 lev
theorem rproven_spec (x : Value) {l : List BTy} {a0 : Nat} (ha : a0 < l.length) (h : l.length ≤ 1000) (h2 : ∀ y ∈ l, (bl y).length ≤ 1000000000) (hB : ∀ y ∈ l, By (bl y)) :
    SMem Tryd.prog 43 [int a0, bV x l] 0 [] (fun y : Value => ⟨0, .tup [pfM y (a0, l.length) (sidesL l a0), int 0], []⟩) := by
  refine SMem.inf 32 H32 [] SOK.nil [(84, firstT), (85, rnextT)] (MSOK.cons first_ok (MSOK.cons rnext_ok MSOK.nil)) tok mixed [] IOK.nil false [(6, ⟨RpT l a0, fun p => ⟨3, [(4, .one (.ptr 0 0)), (6, .one (.ptr 1 0)), (7, .one (.view p.y 32 H32.enc p.lev)), (8, int p.a)], [(0, .cells p00), (1, .cells [.v (.int .i64 a0), .v (.int .i64 l.length), .nslc 2 32 p.acc.length p.cap]), (2, .row 32 H32 p.acc p.cap)]⟩, fun p => p.lev.length, fun _ _ => True⟩)] [] Tryd.call43 Tryd.func43 rfl (by rfl) ?_
  refine Eq.mp (α := (@Bool.rec (fun _ => Prop) (∃ l_1 : List BTy, (And (List.map (Enc.enc BE) l = List.map eBl l_1) (And (And (List.length l_1 ≤ (1000 : Nat)) (And (∀ y : BTy, (∀ a : y ∈ l_1, (List.length (bl y) ≤ (1000000000 : Nat)))) (∀ y : BTy, (∀ a : y ∈ l_1, (∀ x_1 : Int, (∀ a_1 : x_1 ∈ bl y, (And ((0 : Int) ≤ x_1) (x_1 < (256 : Int))))))))) (∀ y : Value, (∃ i0 : RpT l a0, (And (And True (And (And (And ((true : Bool) = true) ((0 : Nat) = (0 : Nat))) (And (And ((true : Bool) = true) ((0 : Nat) = (0 : Nat))) (And (SV.view (RpT.y i0) (32 : Nat) (Enc.enc H32) (RpT.lev i0) = SV.view y (32 : Nat) (Enc.enc H32) (lev0 l_1)) (And ((↑(RpT.a i0) : Int) = (↑a0 : Int)) True)))) (And (And (And ((0 : Int) = (0 : Int)) (And ((0 : Int) = (0 : Int)) (And (Value.slice none (0 : Nat) (0 : Nat) = Value.slice none (0 : Nat) (0 : Nat)) True))) (And ((true : Bool) = true) (And (And ((↑a0 : Int) = (↑a0 : Int)) (And ((↑(List.length l) : Int) = (↑(List.length l) : Int)) (And (And ((true : Bool) = true) (And (List.length (RpT.acc i0) = (0 : Nat)) (RpT.cap i0 = (0 : Nat)))) True))) (And ((true : Bool) = true) (And (And ((true : Bool) = true) (And (RpT.cap i0 = (0 : Nat)) (And (List.map (Enc.enc H32) (RpT.acc i0) = List.map (Enc.enc H32) []) (∀ x_1 : List Int, (∀ a : x_1 ∈ RpT.acc i0, (∀ s : SV, (∀ a_1 : s ∈ Enc.enc H32 x_1, ((SV.isPure s : Bool) = (true))))))))) (And ((true : Bool) = true) True)))))) ((true : Bool) = true)))) (∀ i : RpT l a0, (∀ a : True, (@Bool.rec (fun _ => Prop) (And (List.length (RpT.acc i) ≤ List.length (RpT.acc i)) (And (List.length (RpT.acc i) ≤ RpT.cap i) (And (RpT.cap i = RpT.cap i) (And (∀ y_1 : List Int, ((true : Bool) = true)) (∀ x_1 : Value, (∃ o : Value, (And (And (And (And ((↑a0 : Int) = (↑a0 : Int)) (And ((↑(List.length l) : Int) = (↑(List.length l) : Int)) (And (SV.view o (32 : Nat) (Enc.enc H32) (sidesL l a0) = nilV (32 : Nat) H32 (SV.view x_1 (32 : Nat) (Enc.enc H32) (List.take (List.length (RpT.acc i)) (RpT.acc i)))) True))) (And ((0 : Int) = (0 : Int)) True)) True) (And True ((true : Bool) = true))))))))) (And ((2 : Int) ≠ (0 : Int)) (@Bool.rec (fun _ => Prop) (@Bool.rec (fun _ => Prop) (∃ l_2 : List (List Int), (And (List.map (Enc.enc H32) (RpT.lev i) = List.map eH l_2) (And (And (List.length l_2 ≤ (1000 : Nat)) (∀ a_1 : List Int, (∀ a_2 : a_1 ∈ l_2, (And (List.length a_1 = (32 : Nat)) (∀ x_1 : Int, (∀ a_3 : x_1 ∈ a_1, (And ((0 : Int) ≤ x_1) (x_1 < (256 : Int))))))))) (∀ y_1 : Value, (And ((2 : Int) ≠ (0 : Int)) (∃ i' : RpT l a0, (And (And (List.length (RpT.lev i') < List.length (RpT.lev i)) True) (And (And (And ((true : Bool) = true) ((0 : Nat) = (0 : Nat))) (And (And ((true : Bool) = true) ((0 : Nat) = (0 : Nat))) (And (SV.view (RpT.y i') (32 : Nat) (Enc.enc H32) (RpT.lev i') = SV.view y_1 (32 : Nat) (Enc.enc H32) (nextF prF l_2)) (And ((↑(RpT.a i') : Int) = IntKind.wrap IntKind.i64 (Int.tdiv (↑(RpT.a i) : Int) (2 : Int))) True)))) (And (And (And ((0 : Int) = (0 : Int)) (And ((0 : Int) = (0 : Int)) (And (Value.slice none (0 : Nat) (0 : Nat) = Value.slice none (0 : Nat) (0 : Nat)) True))) (And ((true : Bool) = true) (And (And ((↑a0 : Int) = (↑a0 : Int)) (And ((↑(List.length l) : Int) = (↑(List.length l) : Int)) (And (And ((true : Bool) = true) (And (List.length (RpT.acc i') = List.length (RpT.acc i)) (RpT.cap i' = RpT.cap i))) True))) (And ((true : Bool) = true) (And (And ((true : Bool) = true) (And (RpT.cap i' = RpT.cap i) (And (List.map (Enc.enc H32) (RpT.acc i') = List.map (Enc.enc H32) (RpT.acc i)) (∀ x_1 : List Int, (∀ a_1 : x_1 ∈ RpT.acc i', (∀ s : SV, (∀ a_2 : s ∈ Enc.enc H32 x_1, ((SV.isPure s : Bool) = (true))))))))) (And ((true : Bool) = true) True)))))) ((true : Bool) = true)))))))))) (And ((0 : Int) ≤ IntKind.wrap IntKind.i64 ((↑(RpT.a i) : Int) + (1 : Int))) (∃ hk : Int.toNat (IntKind.wrap IntKind.i64 ((↑(RpT.a i) : Int) + (1 : Int))) < List.length (RpT.lev i), (And (List.length (RpT.acc i) = List.length (RpT.acc i)) (And (RpT.cap i = RpT.cap i) (And ((0 : Nat) + (1 : Nat) ≤ (1 : Nat)) (And ((List.length (RpT.acc i) + (1 : Nat)) * (32 : Nat) ≤ (150000000000000 : Nat)) (∀ cap2 : Nat, (∀ a_1 : List.length (RpT.acc i) + (1 : Nat) ≤ cap2, (∃ l_2 : List (List Int), (And (List.map (Enc.enc H32) (RpT.lev i) = List.map eH l_2) (And (And (List.length l_2 ≤ (1000 : Nat)) (∀ a_2 : List Int, (∀ a_3 : a_2 ∈ l_2, (And (List.length a_2 = (32 : Nat)) (∀ x_1 : Int, (∀ a_4 : x_1 ∈ a_2, (And ((0 : Int) ≤ x_1) (x_1 < (256 : Int))))))))) (∀ y_1 : Value, (And ((2 : Int) ≠ (0 : Int)) (∃ i' : RpT l a0, (And (And (List.length (RpT.lev i') < List.length (RpT.lev i)) True) (And (And (And ((true : Bool) = true) ((0 : Nat) = (0 : Nat))) (And (And ((true : Bool) = true) ((0 : Nat) = (0 : Nat))) (And (SV.view (RpT.y i') (32 : Nat) (Enc.enc H32) (RpT.lev i') = SV.view y_1 (32 : Nat) (Enc.enc H32) (nextF prF l_2)) (And ((↑(RpT.a i') : Int) = IntKind.wrap IntKind.i64 (Int.tdiv (↑(RpT.a i) : Int) (2 : Int))) True)))) (And (And (And ((0 : Int) = (0 : Int)) (And ((0 : Int) = (0 : Int)) (And (Value.slice none (0 : Nat) (0 : Nat) = Value.slice none (0 : Nat) (0 : Nat)) True))) (And ((true : Bool) = true) (And (And ((↑a0 : Int) = (↑a0 : Int)) (And ((↑(List.length l) : Int) = (↑(List.length l) : Int)) (And (And ((true : Bool) = true) (And (List.length (RpT.acc i') = List.length (RpT.acc i ++ castL (encInts IntKind.u8 (32 : Nat)) H32 (List.take (1 : Nat) (List.drop (0 : Nat) [Enc.of (encInts IntKind.u8 (32 : Nat)) ((RpT.lev i)[Int.toNat (IntKind.wrap IntKind.i64 ((↑(RpT.a i) : Int) + (1 : Int)))], ())])))) (RpT.cap i' = cap2))) True))) (And ((true : Bool) = true) (And (And ((true : Bool) = true) (And (RpT.cap i' = cap2) (And (List.map (Enc.enc H32) (RpT.acc i') = List.map (Enc.enc H32) (RpT.acc i ++ castL (encInts IntKind.u8 (32 : Nat)) H32 (List.take (1 : Nat) (List.drop (0 : Nat) [Enc.of (encInts IntKind.u8 (32 : Nat)) ((RpT.lev i)[Int.toNat (IntKind.wrap IntKind.i64 ((↑(RpT.a i) : Int) + (1 : Int)))], ())])))) (∀ x_1 : List Int, (∀ a_2 : x_1 ∈ RpT.acc i', (∀ s : SV, (∀ a_3 : s ∈ Enc.enc H32 x_1, ((SV.isPure s : Bool) = (true))))))))) (And ((true : Bool) = true) True)))))) ((true : Bool) = true)))))))))))))))))) (decide (IntKind.wrap IntKind.i64 ((↑(RpT.a i) : Int) + (1 : Int)) < (↑(List.length (RpT.lev i)) : Int)))) (@Bool.rec (fun _ => Prop) (∃ l_2 : List (List Int), (And (List.map (Enc.enc H32) (RpT.lev i) = List.map eH l_2) (And (And (List.length l_2 ≤ (1000 : Nat)) (∀ a_1 : List Int, (∀ a_2 : a_1 ∈ l_2, (And (List.length a_1 = (32 : Nat)) (∀ x_1 : Int, (∀ a_3 : x_1 ∈ a_1, (And ((0 : Int) ≤ x_1) (x_1 < (256 : Int))))))))) (∀ y_1 : Value, (And ((2 : Int) ≠ (0 : Int)) (∃ i' : RpT l a0, (And (And (List.length (RpT.lev i') < List.length (RpT.lev i)) True) (And (And (And ((true : Bool) = true) ((0 : Nat) = (0 : Nat))) (And (And ((true : Bool) = true) ((0 : Nat) = (0 : Nat))) (And (SV.view (RpT.y i') (32 : Nat) (Enc.enc H32) (RpT.lev i') = SV.view y_1 (32 : Nat) (Enc.enc H32) (nextF prF l_2)) (And ((↑(RpT.a i') : Int) = IntKind.wrap IntKind.i64 (Int.tdiv (↑(RpT.a i) : Int) (2 : Int))) True)))) (And (And (And ((0 : Int) = (0 : Int)) (And ((0 : Int) = (0 : Int)) (And (Value.slice none (0 : Nat) (0 : Nat) = Value.slice none (0 : Nat) (0 : Nat)) True))) (And ((true : Bool) = true) (And (And ((↑a0 : Int) = (↑a0 : Int)) (And ((↑(List.length l) : Int) = (↑(List.length l) : Int)) (And (And ((true : Bool) = true) (And (List.length (RpT.acc i') = List.length (RpT.acc i)) (RpT.cap i' = RpT.cap i))) True))) (And ((true : Bool) = true) (And (And ((true : Bool) = true) (And (RpT.cap i' = RpT.cap i) (And (List.map (Enc.enc H32) (RpT.acc i') = List.map (Enc.enc H32) (RpT.acc i)) (∀ x_1 : List Int, (∀ a_1 : x_1 ∈ RpT.acc i', (∀ s : SV, (∀ a_2 : s ∈ Enc.enc H32 x_1, ((SV.isPure s : Bool) = (true))))))))) (And ((true : Bool) = true) True)))))) ((true : Bool) = true)))))))))) (And ((0 : Int) ≤ IntKind.wrap IntKind.i64 ((↑(RpT.a i) : Int) - (1 : Int))) (∃ hk : Int.toNat (IntKind.wrap IntKind.i64 ((↑(RpT.a i) : Int) - (1 : Int))) < List.length (RpT.lev i), (And (List.length (RpT.acc i) = List.length (RpT.acc i)) (And (RpT.cap i = RpT.cap i) (And ((0 : Nat) + (1 : Nat) ≤ (1 : Nat)) (And ((List.length (RpT.acc i) + (1 : Nat)) * (32 : Nat) ≤ (150000000000000 : Nat)) (∀ cap2 : Nat, (∀ a_1 : List.length (RpT.acc i) + (1 : Nat) ≤ cap2, (∃ l_2 : List (List Int), (And (List.map (Enc.enc H32) (RpT.lev i) = List.map eH l_2) (And (And (List.length l_2 ≤ (1000 : Nat)) (∀ a_2 : List Int, (∀ a_3 : a_2 ∈ l_2, (And (List.length a_2 = (32 : Nat)) (∀ x_1 : Int, (∀ a_4 : x_1 ∈ a_2, (And ((0 : Int) ≤ x_1) (x_1 < (256 : Int))))))))) (∀ y_1 : Value, (And ((2 : Int) ≠ (0 : Int)) (∃ i' : RpT l a0, (And (And (List.length (RpT.lev i') < List.length (RpT.lev i)) True) (And (And (And ((true : Bool) = true) ((0 : Nat) = (0 : Nat))) (And (And ((true : Bool) = true) ((0 : Nat) = (0 : Nat))) (And (SV.view (RpT.y i') (32 : Nat) (Enc.enc H32) (RpT.lev i') = SV.view y_1 (32 : Nat) (Enc.enc H32) (nextF prF l_2)) (And ((↑(RpT.a i') : Int) = IntKind.wrap IntKind.i64 (Int.tdiv (↑(RpT.a i) : Int) (2 : Int))) True)))) (And (And (And ((0 : Int) = (0 : Int)) (And ((0 : Int) = (0 : Int)) (And (Value.slice none (0 : Nat) (0 : Nat) = Value.slice none (0 : Nat) (0 : Nat)) True))) (And ((true : Bool) = true) (And (And ((↑a0 : Int) = (↑a0 : Int)) (And ((↑(List.length l) : Int) = (↑(List.length l) : Int)) (And (And ((true : Bool) = true) (And (List.length (RpT.acc i') = List.length (RpT.acc i ++ castL (encInts IntKind.u8 (32 : Nat)) H32 (List.take (1 : Nat) (List.drop (0 : Nat) [Enc.of (encInts IntKind.u8 (32 : Nat)) ((RpT.lev i)[Int.toNat (IntKind.wrap IntKind.i64 ((↑(RpT.a i) : Int) - (1 : Int)))], ())])))) (RpT.cap i' = cap2))) True))) (And ((true : Bool) = true) (And (And ((true : Bool) = true) (And (RpT.cap i' = cap2) (And (List.map (Enc.enc H32) (RpT.acc i') = List.map (Enc.enc H32) (RpT.acc i ++ castL (encInts IntKind.u8 (32 : Nat)) H32 (List.take (1 : Nat) (List.drop (0 : Nat) [Enc.of (encInts IntKind.u8 (32 : Nat)) ((RpT.lev i)[Int.toNat (IntKind.wrap IntKind.i64 ((↑(RpT.a i) : Int) - (1 : Int)))], ())])))) (∀ x_1 : List Int, (∀ a_2 : x_1 ∈ RpT.acc i', (∀ s : SV, (∀ a_3 : s ∈ Enc.enc H32 x_1, ((SV.isPure s : Bool) = (true))))))))) (And ((true : Bool) = true) True)))))) ((true : Bool) = true)))))))))))))))))) (decide (IntKind.wrap IntKind.i64 ((↑(RpT.a i) : Int) - (1 : Int)) < (↑(List.length (RpT.lev i)) : Int)))) (Int.tmod (↑(RpT.a i) : Int) (2 : Int) == (1 : Int)))) (decide ((1 : Int) < (↑(List.length (RpT.lev i)) : Int)))))))))))) (∃ o : Value, (And (And (And (And ((↑a0 : Int) = (0 : Int)) (And ((↑(List.length l) : Int) = (0 : Int)) (And (SV.view o (32 : Nat) (Enc.enc H32) (sidesL l a0) = nilV (32 : Nat) H32 (SV.v (Value.slice none (0 : Nat) (0 : Nat)))) True))) (And ((0 : Int) = (1 : Int)) True)) True) (And True ((true : Bool) = true)))) (decide ((↑(List.length l) : Int) ≤ (↑a0 : Int))))) (by kernel_rfl) ?_
  refine bif_dec (fun h0 => absurd h0 (by omega)) (fun _ => ?_)
  refine ⟨l, rfl, ⟨h, h2, hB⟩, fun y => ⟨⟨lev0 l, l.length, y, a0, [], 0, by rw [lev0_length]; exact h, Nat.le_of_eq (lev0_length l), by omega, Nat.le_refl _, rfl, by rw [lev0_length]; show 0 + l.length ≤ 1000; omega, lev0_ok l⟩, ?_, ?_⟩⟩
  ·
    repeat' first | exact H32_pure _ | exact trivial | refine And.intro ?_ ?_ | with_reducible refine bif_dt (by assumption) ?_ | with_reducible refine bif_df (by assumption) ?_ | with_reducible refine bif_dec (fun _ => ?_) (fun _ => ?_) | with_reducible refine bif_not ?_ | with_reducible refine bif_and ?_ | with_reducible refine bif_or ?_ | with_reducible refine bif_t (by assumption) ?_ | with_reducible refine bif_f (by assumption) ?_ | with_reducible refine bif_t (beq_self_eq_true _) ?_ | with_reducible refine bif_b (fun _ => ?_) (fun _ => ?_) | with_reducible refine ⟨_, Eq.refl (List.map _ _), ?_⟩ | (with_reducible refine Exists.intro (by omega) ?_) | rfl | (intro h0; omega) | omega
  rintro ⟨lev, f, y, a, acc, cap, hL, hf, ha1, hc, hs, hz, ok⟩ -
  dsimp only
  refine bif_dec (fun h4 => ?_) (fun h4 => ?_)
  rotate_left
  · have hacc : acc = sidesL l a0 := by
      rw [← hs, sidesF_end (by omega), List.append_nil]
    subst hacc
    refine ⟨Nat.le_refl _, hc, rfl, fun _ => rfl, fun y => ⟨y, ?_⟩⟩
    rw [List.take_length]
    repeat' first | exact trivial | refine And.intro ?_ ?_ | with_reducible refine bif_dt (by assumption) ?_ | with_reducible refine bif_df (by assumption) ?_ | with_reducible refine bif_dec (fun _ => ?_) (fun _ => ?_) | with_reducible refine bif_not ?_ | with_reducible refine bif_and ?_ | with_reducible refine bif_or ?_ | with_reducible refine bif_t (by assumption) ?_ | with_reducible refine bif_f (by assumption) ?_ | with_reducible refine bif_t (beq_self_eq_true _) ?_ | with_reducible refine bif_b (fun _ => ?_) (fun _ => ?_) | with_reducible refine ⟨_, Eq.refl (List.map _ _), ?_⟩ | (with_reducible refine Exists.intro (by omega) ?_) | rfl | (intro h0; omega) | omega
  obtain ⟨g, rfl, hg, _, hr2⟩ := rootF_step (pr := prF) (z := z32) (show 1 < lev.length by omega) hf
  have hnl := nextF_length prF lev
  have w4 := half_i a (by omega)
  have wp : IntKind.i64.wrap ((a : Int) + 1) = ((a + 1 : Nat) : Int) := inext (by omega)
  simp only [w4, wp]
  refine ⟨by decide, ?_⟩
  refine bif_b (fun h6 => ?_) (fun h6 => ?_)
  · have h6 : a % 2 = 1 := by
      have := eq_of_beq h6
      rw [Int.tmod_eq_emod_of_nonneg (by omega)] at this
      omega
    have hsn : sideN a = a - 1 := by unfold sideN; rw [h6]; rfl
    have wm : IntKind.i64.wrap ((a : Int) - 1) = ((a - 1 : Nat) : Int) := by rw [wrap64 (by omega) (by omega)]; omega
    simp only [wm]
    refine bif_dec (fun h5 => ?_) (fun h5 => ?_)
    · have h5 : a - 1 < lev.length := by omega
      have hsd : lev[sideN a]? = some (lev[a - 1]'h5) := by rw [hsn, List.getElem?_eq_getElem h5]
      refine ⟨by omega, h5, trivial, trivial, by omega, by omega, fun cap2 k2 => ⟨lev, rfl, ⟨hL, ok⟩, fun y1 => ⟨by decide, ⟨nextF prF lev, g, y1, a / 2, acc ++ [lev[a - 1]'h5], cap2, by omega, hg, by omega, by rw [List.length_append]; exact k2, by rw [← hs, hr2 a, hsd]; simp, by rw [List.length_append, List.length_singleton]; omega, next_ok ok⟩, ⟨show (nextF prF lev).length < lev.length by omega, trivial⟩, ?_⟩⟩⟩
      rw [cast1]
      repeat' first | exact H32_pure _ | exact trivial | refine And.intro ?_ ?_ | with_reducible refine bif_dt (by assumption) ?_ | with_reducible refine bif_df (by assumption) ?_ | with_reducible refine bif_dec (fun _ => ?_) (fun _ => ?_) | with_reducible refine bif_not ?_ | with_reducible refine bif_and ?_ | with_reducible refine bif_or ?_ | with_reducible refine bif_t (by assumption) ?_ | with_reducible refine bif_f (by assumption) ?_ | with_reducible refine bif_t (beq_self_eq_true _) ?_ | with_reducible refine bif_b (fun _ => ?_) (fun _ => ?_) | with_reducible refine ⟨_, Eq.refl (List.map _ _), ?_⟩ | (with_reducible refine Exists.intro (by omega) ?_) | rfl | (intro h0; omega) | omega
    · have h5 : ¬ a - 1 < lev.length := by omega
      have hsd : lev[sideN a]? = none := by rw [hsn]; exact List.getElem?_eq_none (by omega)
      refine ⟨lev, rfl, ⟨hL, ok⟩, fun y1 => ⟨by decide, ⟨nextF prF lev, g, y1, a / 2, acc, cap, by omega, hg, by omega, hc, by rw [← hs, hr2 a, hsd]; rfl, by omega, next_ok ok⟩, ⟨show (nextF prF lev).length < lev.length by omega, trivial⟩, ?_⟩⟩
      repeat' first | exact H32_pure _ | exact trivial | refine And.intro ?_ ?_ | with_reducible refine bif_dt (by assumption) ?_ | with_reducible refine bif_df (by assumption) ?_ | with_reducible refine bif_dec (fun _ => ?_) (fun _ => ?_) | with_reducible refine bif_not ?_ | with_reducible refine bif_and ?_ | with_reducible refine bif_or ?_ | with_reducible refine bif_t (by assumption) ?_ | with_reducible refine bif_f (by assumption) ?_ | with_reducible refine bif_t (beq_self_eq_true _) ?_ | with_reducible refine bif_b (fun _ => ?_) (fun _ => ?_) | with_reducible refine ⟨_, Eq.refl (List.map _ _), ?_⟩ | (with_reducible refine Exists.intro (by omega) ?_) | rfl | (intro h0; omega) | omega
  · have h6 : a % 2 = 0 := by
      have : ¬ (Int.tmod (a : Int) 2 = 1) := fun e => by rw [e] at h6; cases h6
      rw [Int.tmod_eq_emod_of_nonneg (by omega)] at this
      omega
    have hsn : sideN a = a + 1 := by unfold sideN; rw [h6]; rfl
    refine bif_dec (fun h5 => ?_) (fun h5 => ?_)
    · have h5 : a + 1 < lev.length := by omega
      have hsd : lev[sideN a]? = some (lev[a + 1]'h5) := by rw [hsn, List.getElem?_eq_getElem h5]
      refine ⟨by omega, h5, trivial, trivial, by omega, by omega, fun cap2 k2 => ⟨lev, rfl, ⟨hL, ok⟩, fun y1 => ⟨by decide, ⟨nextF prF lev, g, y1, a / 2, acc ++ [lev[a + 1]'h5], cap2, by omega, hg, by omega, by rw [List.length_append]; exact k2, by rw [← hs, hr2 a, hsd]; simp, by rw [List.length_append, List.length_singleton]; omega, next_ok ok⟩, ⟨show (nextF prF lev).length < lev.length by omega, trivial⟩, ?_⟩⟩⟩
      rw [cast1]
      repeat' first | exact H32_pure _ | exact trivial | refine And.intro ?_ ?_ | with_reducible refine bif_dt (by assumption) ?_ | with_reducible refine bif_df (by assumption) ?_ | with_reducible refine bif_dec (fun _ => ?_) (fun _ => ?_) | with_reducible refine bif_not ?_ | with_reducible refine bif_and ?_ | with_reducible refine bif_or ?_ | with_reducible refine bif_t (by assumption) ?_ | with_reducible refine bif_f (by assumption) ?_ | with_reducible refine bif_t (beq_self_eq_true _) ?_ | with_reducible refine bif_b (fun _ => ?_) (fun _ => ?_) | with_reducible refine ⟨_, Eq.refl (List.map _ _), ?_⟩ | (with_reducible refine Exists.intro (by omega) ?_) | rfl | (intro h0; omega) | omega
    · have h5 : ¬ a + 1 < lev.length := by omega
      have hsd : lev[sideN a]? = none := by rw [hsn]; exact List.getElem?_eq_none (by omega)
      refine ⟨lev, rfl, ⟨hL, ok⟩, fun y1 => ⟨by decide, ⟨nextF prF lev, g, y1, a / 2, acc, cap, by omega, hg, by omega, hc, by rw [← hs, hr2 a, hsd]; rfl, by omega, next_ok ok⟩, ⟨show (nextF prF lev).length < lev.length by omega, trivial⟩, ?_⟩⟩
      repeat' first | exact H32_pure _ | exact trivial | refine And.intro ?_ ?_ | with_reducible refine bif_dt (by assumption) ?_ | with_reducible refine bif_df (by assumption) ?_ | with_reducible refine bif_dec (fun _ => ?_) (fun _ => ?_) | with_reducible refine bif_not ?_ | with_reducible refine bif_and ?_ | with_reducible refine bif_or ?_ | with_reducible refine bif_t (by assumption) ?_ | with_reducible refine bif_f (by assumption) ?_ | with_reducible refine bif_t (beq_self_eq_true _) ?_ | with_reducible refine bif_b (fun _ => ?_) (fun _ => ?_) | with_reducible refine ⟨_, Eq.refl (List.map _ _), ?_⟩ | (with_reducible refine Exists.intro (by omega) ?_) | rfl | (intro h0; omega) | omega
theorem rprove_spec (x : Value) (place : Int) {l : List BTy} (h : l.length ≤ 1000) (h2 : ∀ y ∈ l, (bl y).length ≤ 1000000000) (hB : ∀ y ∈ l, By (bl y)) :
    SMem Tryd.prog 43 [int place, bV x l] 0 [] (fun y : Value => ⟨0, .tup [pfM y (proveF place l).1 (proveF place l).2.1, int (proveF place l).2.2], []⟩) := by
  cases hi : inP place l with
  | true =>
    unfold proveF
    rw [hi]
    unfold inP at hi
    simp only [Bool.and_eq_true, decide_eq_true_eq] at hi
    obtain ⟨a0, rfl⟩ : ∃ n : Nat, place = n := ⟨place.toNat, by omega⟩
    exact rproven_spec x (by omega) h h2 hB
  | false =>
    unfold proveF
    rw [hi]
    unfold inP at hi
    refine SMem.inf 32 H32 [] SOK.nil [] MSOK.nil tok mixed [] IOK.nil true [] [] Tryd.call43 Tryd.func43 rfl (by rfl) ?_
    refine Eq.mp (α := (@Bool.rec (fun _ => Prop) (@Bool.rec (fun _ => Prop) False (∃ o : Value, (And (And (And (And ((0 : Int) = (0 : Int)) (And ((0 : Int) = (0 : Int)) (And (SV.view o (32 : Nat) (Enc.enc H32) [] = nilV (32 : Nat) H32 (SV.v (Value.slice none (0 : Nat) (0 : Nat)))) True))) (And ((1 : Int) = (1 : Int)) True)) True) (And True ((true : Bool) = true)))) (decide ((↑(List.length l) : Int) ≤ place))) (∃ o : Value, (And (And (And (And ((0 : Int) = (0 : Int)) (And ((0 : Int) = (0 : Int)) (And (SV.view o (32 : Nat) (Enc.enc H32) [] = nilV (32 : Nat) H32 (SV.v (Value.slice none (0 : Nat) (0 : Nat)))) True))) (And ((1 : Int) = (1 : Int)) True)) True) (And True ((true : Bool) = true)))) (decide (place < (0 : Int))))) (by kernel_rfl) ?_
    refine bif_dec (fun h0 => ?_) (fun h0 => ?_)
    · refine ⟨.slice none 0 0, ?_⟩
      repeat' first | exact trivial | refine And.intro ?_ ?_ | with_reducible refine bif_dt (by assumption) ?_ | with_reducible refine bif_df (by assumption) ?_ | with_reducible refine bif_dec (fun _ => ?_) (fun _ => ?_) | with_reducible refine bif_not ?_ | with_reducible refine bif_and ?_ | with_reducible refine bif_or ?_ | with_reducible refine bif_t (by assumption) ?_ | with_reducible refine bif_f (by assumption) ?_ | with_reducible refine bif_t (beq_self_eq_true _) ?_ | with_reducible refine bif_b (fun _ => ?_) (fun _ => ?_) | with_reducible refine ⟨_, Eq.refl (List.map _ _), ?_⟩ | (with_reducible refine Exists.intro (by omega) ?_) | rfl | (intro h0; omega) | omega
    refine bif_dec (fun h1 => ?_) (fun h1 => ?_)
    · refine ⟨.slice none 0 0, ?_⟩
      repeat' first | exact trivial | refine And.intro ?_ ?_ | with_reducible refine bif_dt (by assumption) ?_ | with_reducible refine bif_df (by assumption) ?_ | with_reducible refine bif_dec (fun _ => ?_) (fun _ => ?_) | with_reducible refine bif_not ?_ | with_reducible refine bif_and ?_ | with_reducible refine bif_or ?_ | with_reducible refine bif_t (by assumption) ?_ | with_reducible refine bif_f (by assumption) ?_ | with_reducible refine bif_t (beq_self_eq_true _) ?_ | with_reducible refine bif_b (fun _ => ?_) (fun _ => ?_) | with_reducible refine ⟨_, Eq.refl (List.map _ _), ?_⟩ | (with_reducible refine Exists.intro (by omega) ?_) | rfl | (intro h0; omega) | omega
    · rw [decide_eq_true (by omega), decide_eq_true (by omega)] at hi
      cases hi
def proveT : MT := fun ms n h K => match ms with
  | [.one (.v (.int .i64 place)), .one (.view vx0 ve0 en0 vl0)] => bif Nat.beq ve0 1 && noDup [] then ∃ l : List (BTy), vl0.map en0 = l.map eBl ∧ ((l.length ≤ 1000 ∧ (∀ y ∈ l, (bl y).length ≤ 1000000000) ∧ ∀ y ∈ l, By (bl y))) ∧ (∀ y : Value, K (n + 0) (.tup [pfM y (proveF place l).1 (proveF place l).2.1, int (proveF place l).2.2]) ([] ++ delL [] h)) else False
  | _ => False
theorem prove_mono : MMono proveT := by
  intro ms n h K K' hkk hk
  unfold proveT at hk ⊢
  split at hk
  · rename_i place vx0 ve0 va0 en0 vl0
    obtain ⟨hb, y0, z0, h1, h2⟩ := cond_false_elim hk
    rw [hb]
    exact ⟨y0, z0, h1, fun o => hkk _ _ _ (h2 o)⟩
  · exact hk.elim
theorem prove_ok : MOK Tryd.prog 42 proveT := by
  refine ⟨?_, prove_mono⟩
  intro ms n hB K hk
  unfold proveT at hk
  split at hk
  · rename_i place vx0 ve0 va0 en0 vl0
    obtain ⟨hb, l, he0, h, hk2⟩ := cond_false_elim hk
    clear hk
    simp only [Bool.and_eq_true] at hb
    obtain ⟨hc0, hnd⟩ := hb
    have hs0 := Nat.eq_of_beq_eq_true hc0
    subst hs0
    refine SCall.seen ?_ (.cons (.refl _) (.cons (.view he0) .nil))
    exact (prove_spec _ _ h.1 h.2.1 h.2.2).use (fun _ => 0) rfl rfl trivial hnd (fun j hj => absurd hj (Nat.not_lt_zero j)) (fun o => hk2 o)
  · exact hk.elim

def rproveT : MT := fun ms n h K => match ms with
  | [.one (.v (.int .i64 place)), .one (.view vx0 ve0 en0 vl0)] => bif Nat.beq ve0 1 && noDup [] then ∃ l : List (BTy), vl0.map en0 = l.map eBl ∧ ((l.length ≤ 1000 ∧ (∀ y ∈ l, (bl y).length ≤ 1000000000) ∧ ∀ y ∈ l, By (bl y))) ∧ (∀ y : Value, K (n + 0) (.tup [pfM y (proveF place l).1 (proveF place l).2.1, int (proveF place l).2.2]) ([] ++ delL [] h)) else False
  | _ => False
theorem rprove_mono : MMono rproveT := by
  intro ms n h K K' hkk hk
  unfold rproveT at hk ⊢
  split at hk
  · rename_i place vx0 ve0 va0 en0 vl0
    obtain ⟨hb, y0, z0, h1, h2⟩ := cond_false_elim hk
    rw [hb]
    exact ⟨y0, z0, h1, fun o => hkk _ _ _ (h2 o)⟩
  · exact hk.elim
theorem rprove_ok : MOK Tryd.prog 43 rproveT := by
  refine ⟨?_, rprove_mono⟩
  intro ms n hB K hk
  unfold rproveT at hk
  split at hk
  · rename_i place vx0 ve0 va0 en0 vl0
    obtain ⟨hb, l, he0, h, hk2⟩ := cond_false_elim hk
    clear hk
    simp only [Bool.and_eq_true] at hb
    obtain ⟨hc0, hnd⟩ := hb
    have hs0 := Nat.eq_of_beq_eq_true hc0
    subst hs0
    refine SCall.seen ?_ (.cons (.refl _) (.cons (.view he0) .nil))
    exact (rprove_spec _ _ h.1 h.2.1 h.2.2).use (fun _ => 0) rfl rfl trivial hnd (fun j hj => absurd hj (Nat.not_lt_zero j)) (fun o => hk2 o)
  · exact hk.elim

end Go.Proofs.YtblapbjafbmndaaDoor
