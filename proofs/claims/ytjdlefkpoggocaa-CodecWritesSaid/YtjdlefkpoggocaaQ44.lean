/- The document's bytes of an item. -/
import Derived.Test.YtjdlefkpoggocaaQ43
import Derived.Test.YtjdlefkpoggocaaWW
import Derived.Test.YtjdlefkpoggocaaSx24
namespace Go.Proofs.Ytjdlefkpoggocaa
open Go Go.Sx Go.Wide
set_option linter.unusedVariables false
set_option linter.unusedSimpArgs false
set_option maxRecDepth 100000
set_option maxHeartbeats 4000000

theorem ruint_spec (x : Int) : SMem Try.prog 65 [u64 x] 0 [] (fun c : CapT 8 => ⟨1, .one (.nslc 0 1 8 c.cap), [(0, .row 1 (encInt .u8) (be8 x) c.cap)]⟩) := by
  refine SMem.inm [] SOK.nil [] MSOK.nil tok mixed [] IOK.nil true [] [] Try.call65 Try.func65 rfl (by rfl) ?_
  refine Eq.mp (α := (And ((0 : Int) ≤ (56 : Int)) (And ((0 : Nat) + (1 : Nat) ≤ (1 : Nat)) (And ((1 : Nat) * (1 : Nat) ≤ (150000000000000 : Nat)) (∀ cap : Nat, (∀ a : (1 : Nat) ≤ cap, (And ((0 : Int) ≤ (48 : Int)) (And ((1 : Nat) = (1 : Nat)) (And (cap = cap) (And ((0 : Nat) + (1 : Nat) ≤ (1 : Nat)) (And (((1 : Nat) + (1 : Nat)) * (1 : Nat) ≤ (150000000000000 : Nat)) (∀ cap2 : Nat, (∀ a_1 : (1 : Nat) + (1 : Nat) ≤ cap2, (And ((0 : Int) ≤ (40 : Int)) (And ((2 : Nat) = (2 : Nat)) (And (cap2 = cap2) (And ((0 : Nat) + (1 : Nat) ≤ (1 : Nat)) (And (((2 : Nat) + (1 : Nat)) * (1 : Nat) ≤ (150000000000000 : Nat)) (∀ cap2_1 : Nat, (∀ a_2 : (2 : Nat) + (1 : Nat) ≤ cap2_1, (And ((0 : Int) ≤ (32 : Int)) (And ((3 : Nat) = (3 : Nat)) (And (cap2_1 = cap2_1) (And ((0 : Nat) + (1 : Nat) ≤ (1 : Nat)) (And (((3 : Nat) + (1 : Nat)) * (1 : Nat) ≤ (150000000000000 : Nat)) (∀ cap2_2 : Nat, (∀ a_3 : (3 : Nat) + (1 : Nat) ≤ cap2_2, (And ((0 : Int) ≤ (24 : Int)) (And ((4 : Nat) = (4 : Nat)) (And (cap2_2 = cap2_2) (And ((0 : Nat) + (1 : Nat) ≤ (1 : Nat)) (And (((4 : Nat) + (1 : Nat)) * (1 : Nat) ≤ (150000000000000 : Nat)) (∀ cap2_3 : Nat, (∀ a_4 : (4 : Nat) + (1 : Nat) ≤ cap2_3, (And ((0 : Int) ≤ (16 : Int)) (And ((5 : Nat) = (5 : Nat)) (And (cap2_3 = cap2_3) (And ((0 : Nat) + (1 : Nat) ≤ (1 : Nat)) (And (((5 : Nat) + (1 : Nat)) * (1 : Nat) ≤ (150000000000000 : Nat)) (∀ cap2_4 : Nat, (∀ a_5 : (5 : Nat) + (1 : Nat) ≤ cap2_4, (And ((0 : Int) ≤ (8 : Int)) (And ((6 : Nat) = (6 : Nat)) (And (cap2_4 = cap2_4) (And ((0 : Nat) + (1 : Nat) ≤ (1 : Nat)) (And (((6 : Nat) + (1 : Nat)) * (1 : Nat) ≤ (150000000000000 : Nat)) (∀ cap2_5 : Nat, (∀ a_6 : (6 : Nat) + (1 : Nat) ≤ cap2_5, (And ((0 : Int) ≤ (0 : Int)) (And ((7 : Nat) = (7 : Nat)) (And (cap2_5 = cap2_5) (And ((0 : Nat) + (1 : Nat) ≤ (1 : Nat)) (And (((7 : Nat) + (1 : Nat)) * (1 : Nat) ≤ (150000000000000 : Nat)) (∀ cap2_6 : Nat, (∀ a_7 : (7 : Nat) + (1 : Nat) ≤ cap2_6, (∃ o : CapT (8 : Nat), (And (And (And ((true : Bool) = true) (And ((8 : Nat) = (8 : Nat)) (CapT.cap o = cap2_6))) True) (And (And (And ((true : Bool) = true) (And (CapT.cap o = cap2_6) (And (List.map (Enc.enc (encInt IntKind.u8)) (be8 x) = List.map (Enc.enc (encInt IntKind.u8)) (castL (encInt IntKind.u8) (encInt IntKind.u8) (List.take (1 : Nat) (List.drop (0 : Nat) [Enc.of (encInt IntKind.u8) (IntKind.wrap IntKind.u8 (shr IntKind.u64 x (56 : Int)), ())])) ++ castL (encInt IntKind.u8) (encInt IntKind.u8) (List.take (1 : Nat) (List.drop (0 : Nat) [Enc.of (encInt IntKind.u8) (IntKind.wrap IntKind.u8 (shr IntKind.u64 x (48 : Int)), ())])) ++ castL (encInt IntKind.u8) (encInt IntKind.u8) (List.take (1 : Nat) (List.drop (0 : Nat) [Enc.of (encInt IntKind.u8) (IntKind.wrap IntKind.u8 (shr IntKind.u64 x (40 : Int)), ())])) ++ castL (encInt IntKind.u8) (encInt IntKind.u8) (List.take (1 : Nat) (List.drop (0 : Nat) [Enc.of (encInt IntKind.u8) (IntKind.wrap IntKind.u8 (shr IntKind.u64 x (32 : Int)), ())])) ++ castL (encInt IntKind.u8) (encInt IntKind.u8) (List.take (1 : Nat) (List.drop (0 : Nat) [Enc.of (encInt IntKind.u8) (IntKind.wrap IntKind.u8 (shr IntKind.u64 x (24 : Int)), ())])) ++ castL (encInt IntKind.u8) (encInt IntKind.u8) (List.take (1 : Nat) (List.drop (0 : Nat) [Enc.of (encInt IntKind.u8) (IntKind.wrap IntKind.u8 (shr IntKind.u64 x (16 : Int)), ())])) ++ castL (encInt IntKind.u8) (encInt IntKind.u8) (List.take (1 : Nat) (List.drop (0 : Nat) [Enc.of (encInt IntKind.u8) (IntKind.wrap IntKind.u8 (shr IntKind.u64 x (8 : Int)), ())])) ++ castL (encInt IntKind.u8) (encInt IntKind.u8) (List.take (1 : Nat) (List.drop (0 : Nat) [Enc.of (encInt IntKind.u8) (IntKind.wrap IntKind.u8 (shr IntKind.u64 x (0 : Int)), ())])))) (∀ x_1 : Int, (∀ a_8 : x_1 ∈ be8 x, (∀ s : SV, (∀ a_9 : s ∈ Enc.enc (encInt IntKind.u8) x_1, ((SV.isPure s : Bool) = true)))))))) (And ((true : Bool) = true) True)) ((true : Bool) = true))))))))))))))))))))))))))))))))))))))))))))))))))))))))))) (by kernel_rfl) ?_
  have h56 : IntKind.u8.wrap (shr .u64 x 56) = x / 72057594037927936 % 256 := sh8 x 56 (by decide)
  have h48 : IntKind.u8.wrap (shr .u64 x 48) = x / 281474976710656 % 256 := sh8 x 48 (by decide)
  have h40 : IntKind.u8.wrap (shr .u64 x 40) = x / 1099511627776 % 256 := sh8 x 40 (by decide)
  have h32 : IntKind.u8.wrap (shr .u64 x 32) = x / 4294967296 % 256 := sh8 x 32 (by decide)
  have h24 : IntKind.u8.wrap (shr .u64 x 24) = x / 16777216 % 256 := sh8 x 24 (by decide)
  have h16 : IntKind.u8.wrap (shr .u64 x 16) = x / 65536 % 256 := sh8 x 16 (by decide)
  have h08 : IntKind.u8.wrap (shr .u64 x 8) = x / 256 % 256 := sh8 x 8 (by decide)
  have h00 : IntKind.u8.wrap (shr .u64 x 0) = x % 256 := by
    have := sh8 x 0 (by decide)
    rwa [show x / 2 ^ 0 = x by simp] at this
  simp only [h56, h48, h40, h32, h24, h16, h08, h00, ofB, castB, List.take_succ_cons, List.take_zero, List.drop_zero, List.nil_append, List.cons_append, List.length_cons, List.length_nil, List.length_append]
  repeat (with_reducible refine And.intro (by first | exact trivial | omega | decide) ?_)
  intro c1 k1
  repeat (with_reducible refine And.intro (by first | exact trivial | omega | decide) ?_)
  intro c2 k2
  repeat (with_reducible refine And.intro (by first | exact trivial | omega | decide) ?_)
  intro c3 k3
  repeat (with_reducible refine And.intro (by first | exact trivial | omega | decide) ?_)
  intro c4 k4
  repeat (with_reducible refine And.intro (by first | exact trivial | omega | decide) ?_)
  intro c5 k5
  repeat (with_reducible refine And.intro (by first | exact trivial | omega | decide) ?_)
  intro c6 k6
  repeat (with_reducible refine And.intro (by first | exact trivial | omega | decide) ?_)
  intro c7 k7
  repeat (with_reducible refine And.intro (by first | exact trivial | omega | decide) ?_)
  intro c8 k8
  refine ⟨⟨c8, by omega⟩, ?_⟩
  repeat' first | exact encB_pure _ | exact trivial | refine And.intro ?_ ?_ | with_reducible refine bif_dt (by assumption) ?_ | with_reducible refine bif_df (by assumption) ?_ | with_reducible refine bif_dec (fun _ => ?_) (fun _ => ?_) | with_reducible refine bif_not ?_ | with_reducible refine bif_and ?_ | with_reducible refine bif_or ?_ | with_reducible refine bif_t (by assumption) ?_ | with_reducible refine bif_f (by assumption) ?_ | with_reducible refine bif_t (beq_self_eq_true _) ?_ | with_reducible refine bif_b (fun _ => ?_) (fun _ => ?_) | with_reducible refine ⟨_, Eq.refl (List.map _ _), ?_⟩ | (with_reducible refine Exists.intro (by omega) ?_) | rfl | (intro h0; omega) | omega
def ruintT : MT := fun ms n h K => match ms with
  | [.one (.v (.int .u64 x))] => bif true then True ∧ (∀ c : CapT 8, K (n + 1) (.one (.nslc n 1 8 c.cap)) ([(n, .row 1 (encInt .u8) (be8 x) c.cap)] ++ delL [] h)) else False
  | _ => False
theorem ruint_mono : MMono ruintT := by
  intro ms n h K K' hkk hk
  unfold ruintT at hk ⊢
  split at hk
  · rename_i x
    obtain ⟨hb, h1, h2⟩ := cond_false_elim hk
    rw [hb]
    exact ⟨h1, fun o => hkk _ _ _ (h2 o)⟩
  · exact hk.elim
theorem ruint_ok : MOK Try.prog 65 ruintT := by
  refine ⟨?_, ruint_mono⟩
  intro ms n hB K hk
  unfold ruintT at hk
  split at hk
  · rename_i x
    obtain ⟨hb, h, hk2⟩ := cond_false_elim hk
    clear hk
    have hnd : noDup [] = true := rfl
    refine SCall.seen ?_ (.cons (.refl _) .nil)
    exact (ruint_spec x).use (fun _ => 0) rfl rfl trivial hnd (fun j hj => absurd hj (Nat.not_lt_zero j)) (fun o => hk2 o)
  · exact hk.elim

theorem rblob_spec (x : Value) {l : List Int} (h : l.length ≤ 140737488351232) : SMem Try.prog 66 [byV x l] 0 [] (fun c : CapT (blb l).length => ⟨1, .one (.nslc 0 1 (blb l).length c.cap), [(0, .row 1 (encInt .u8) (blb l) c.cap)]⟩) := by
  refine SMem.inm [] SOK.nil [(65, ruintT)] (MSOK.cons ruint_ok MSOK.nil) tok mixed [] IOK.nil true [] [] Try.call66 Try.func66 rfl (by rfl) ?_
  refine Eq.mp (α := (And True (∀ c : CapT (8 : Nat), (And ((8 : Nat) = (8 : Nat)) (And (CapT.cap c = CapT.cap c) (∃ ys : List Int, (And (List.map (Enc.enc (encInt IntKind.u8)) ys = List.map (Enc.enc (encInt IntKind.u8)) l) (And (((8 : Nat) + List.length ys) * (1 : Nat) ≤ (150000000000000 : Nat)) (∀ cap2 : Nat, (∀ a : (8 : Nat) + List.length ys ≤ cap2, (∃ o : CapT (List.length (blb l)), (And (And (And ((true : Bool) = true) (And (List.length (blb l) = List.length (be8 (IntKind.wrap IntKind.u64 (↑(List.length l) : Int)) ++ ys)) (CapT.cap o = cap2))) True) (And (And (And ((true : Bool) = true) (And (CapT.cap o = cap2) (And (List.map (Enc.enc (encInt IntKind.u8)) (blb l) = List.map (Enc.enc (encInt IntKind.u8)) (be8 (IntKind.wrap IntKind.u64 (↑(List.length l) : Int)) ++ ys)) (∀ x_1 : Int, (∀ a_1 : x_1 ∈ blb l, (∀ s : SV, (∀ a_2 : s ∈ Enc.enc (encInt IntKind.u8) x_1, ((SV.isPure s : Bool) = true)))))))) (And ((true : Bool) = true) True)) ((true : Bool) = true)))))))))))))) (by kernel_rfl) ?_
  have hw : IntKind.u64.wrap (l.length : Int) = (l.length : Int) := by rw [wrap_u64]; omega
  have hb : be8 (l.length : Int) ++ l = blb l := rfl
  have hbl : (blb l).length = 8 + l.length := blb_length l
  refine ⟨trivial, ?_⟩
  rintro ⟨c1, k1⟩
  repeat (with_reducible refine And.intro (by first | exact trivial | omega | decide) ?_)
  refine ⟨l, rfl, by omega, fun c2 k2 => ⟨⟨c2, by omega⟩, ?_⟩⟩
  simp only [hw, hb]
  repeat' first | exact encB_pure _ | exact trivial | refine And.intro ?_ ?_ | with_reducible refine bif_dt (by assumption) ?_ | with_reducible refine bif_df (by assumption) ?_ | with_reducible refine bif_dec (fun _ => ?_) (fun _ => ?_) | with_reducible refine bif_not ?_ | with_reducible refine bif_and ?_ | with_reducible refine bif_or ?_ | with_reducible refine bif_t (by assumption) ?_ | with_reducible refine bif_f (by assumption) ?_ | with_reducible refine bif_t (beq_self_eq_true _) ?_ | with_reducible refine bif_b (fun _ => ?_) (fun _ => ?_) | with_reducible refine ⟨_, Eq.refl (List.map _ _), ?_⟩ | (with_reducible refine Exists.intro (by omega) ?_) | rfl | (intro h0; omega) | omega
def rblobT : MT := fun ms n h K => match ms with
  | [.one (.view vx0 ve0 en0 vl0)] => bif Nat.beq ve0 1 && noDup [] then ∃ l : List (Int), vl0.map en0 = l.map eB ∧ (l.length ≤ 140737488351232) ∧ (∀ c : CapT (blb l).length, K (n + 1) (.one (.nslc n 1 (blb l).length c.cap)) ([(n, .row 1 (encInt .u8) (blb l) c.cap)] ++ delL [] h)) else False
  | _ => False
theorem rblob_mono : MMono rblobT := by
  intro ms n h K K' hkk hk
  unfold rblobT at hk ⊢
  split at hk
  · rename_i vx0 ve0 va0 en0 vl0
    obtain ⟨hb, y0, z0, h1, h2⟩ := cond_false_elim hk
    rw [hb]
    exact ⟨y0, z0, h1, fun o => hkk _ _ _ (h2 o)⟩
  · exact hk.elim
theorem rblob_ok : MOK Try.prog 66 rblobT := by
  refine ⟨?_, rblob_mono⟩
  intro ms n hB K hk
  unfold rblobT at hk
  split at hk
  · rename_i vx0 ve0 va0 en0 vl0
    obtain ⟨hb, l, he0, h, hk2⟩ := cond_false_elim hk
    clear hk
    simp only [Bool.and_eq_true] at hb
    obtain ⟨hc0, hnd⟩ := hb
    have hs0 := Nat.eq_of_beq_eq_true hc0
    subst hs0
    refine SCall.seen ?_ (.cons (.view he0) .nil)
    exact (rblob_spec _ h).use (fun _ => 0) rfl rfl trivial hnd (fun j hj => absurd hj (Nat.not_lt_zero j)) (fun o => hk2 o)
  · exact hk.elim


structure It where
  k : Int
  u : List Int
  w : List (List Int)
  h : List (List Int)
  b : List BTy
/-- What is written of it. -/
def itW (x : It) : List Int := bif decide (x.k = 0) then x.u.flatMap be8 else bif decide (x.k = 1) then x.w.flatMap fW else bif decide (x.k = 2) then x.h.flatMap fH else x.b.flatMap fB
structure ItOk (x : It) : Prop where
  u : x.u.length * 8 ≤ 140737488351232
  w : x.w.length * 32 ≤ 140737488351232
  wd : ∀ a ∈ x.w, L4 a
  h : x.h.length * 32 ≤ 140737488351232
  hl : ∀ a ∈ x.h, a.length = 32
  b : x.b.length * 24 ≤ 140737488351232
  bl : ∀ y ∈ x.b, y.1.2.length ≤ 140737488351232
abbrev itC (a b c d : Value) (x : It) : List SV := [.v (.int .i64 x.k), .view a 1 eU x.u, .view b 4 eW x.w, .view c 32 eH x.h, .view d 1 eBl x.b]
structure CutT (full : List Int) where
  r : List Int
  cap : Nat
  hc : r.length ≤ cap
  hr : CutOf full r
theorem fB_blb (y : BTy) : fB y = blb (bl y) := rfl
def itI (a b c d : Value) (x : It) {α : Type} (f : α → List Int) (l : List α) (t : Nat) : Inv := ⟨FlT f l, fun p => ⟨2, [(1, .one (.ptr 0 0)), (3, .one (.nslc 1 1 ((l.take p.i).flatMap f).length p.cap)), (t, int p.i)], [(0, .cells (itC a b c d x)), (1, .row 1 (encInt .u8) ((l.take p.i).flatMap f) p.cap)]⟩, fun p => l.length - p.i, fun _ _ => True⟩
theorem ritem_spec (a b c d : Value) {x : It} (hx : ItOk x) : SMem Try.prog 43 [.agg (itC a b c d x)] 0 [] (fun o : CutT (itW x) => ⟨1, .one (.nslc 0 1 o.r.length o.cap), [(0, .row 1 (encInt .u8) o.r o.cap)]⟩) := by
  refine SMem.inm [] SOK.nil [(65, ruintT), (66, rblobT), (35, rbytesT)] (MSOK.cons ruint_ok (MSOK.cons rblob_ok (MSOK.cons rbytes_ok MSOK.nil))) tok mixed [] IOK.nil false [(9, itI a b c d x be8 x.u 4), (14, itI a b c d x fW x.w 5), (19, itI a b c d x fH x.h 6), (4, itI a b c d x fB x.b 7)] [] Try.call43 Try.func43 rfl (by rfl) ?_
  refine Eq.mp (α := (@Bool.rec (fun _ => Prop) (@Bool.rec (fun _ => Prop) (@Bool.rec (fun _ => Prop) (∃ i0 : Inv.ι (itI a b c d x fB (It.b x) (7 : Nat)), (And (And True (And (And (And ((true : Bool) = true) ((0 : Nat) = (0 : Nat))) (And (And ((true : Bool) = true) (And (List.length (List.flatMap fB (List.take (FlT.i i0) (It.b x))) = (0 : Nat)) (FlT.cap i0 = (0 : Nat)))) (And ((↑(FlT.i i0) : Int) = (0 : Int)) True))) (And (And (And (It.k x = It.k x) (And (SV.view a (1 : Nat) eU (It.u x) = SV.view a (1 : Nat) eU (It.u x)) (And (SV.view b (4 : Nat) eW (It.w x) = SV.view b (4 : Nat) eW (It.w x)) (And (SV.view c (32 : Nat) eH (It.h x) = SV.view c (32 : Nat) eH (It.h x)) (And (SV.view d (1 : Nat) eBl (It.b x) = SV.view d (1 : Nat) eBl (It.b x)) True))))) (And ((true : Bool) = true) (And (And ((true : Bool) = true) (And (FlT.cap i0 = (0 : Nat)) (And (List.map (Enc.enc (encInt IntKind.u8)) (List.flatMap fB (List.take (FlT.i i0) (It.b x))) = List.map (Enc.enc (encInt IntKind.u8)) []) (∀ x_1 : Int, (∀ a_1 : x_1 ∈ List.flatMap fB (List.take (FlT.i i0) (It.b x)), (∀ s : SV, (∀ a_2 : s ∈ Enc.enc (encInt IntKind.u8) x_1, ((SV.isPure s : Bool) = true)))))))) (And ((true : Bool) = true) True)))) ((true : Bool) = true)))) (∀ i : Inv.ι (itI a b c d x fB (It.b x) (7 : Nat)), (∀ a_1 : Inv.R (itI a b c d x fB (It.b x) (7 : Nat)) i0 i, (@Bool.rec (fun _ => Prop) (∃ o : CutT (itW x), (And (And (And ((true : Bool) = true) (And (List.length (CutT.r o) = List.length (List.flatMap fB (List.take (FlT.i i) (It.b x)))) (CutT.cap o = FlT.cap i))) True) (And (And (And ((true : Bool) = true) (And (CutT.cap o = FlT.cap i) (And (List.map (Enc.enc (encInt IntKind.u8)) (CutT.r o) = List.map (Enc.enc (encInt IntKind.u8)) (List.flatMap fB (List.take (FlT.i i) (It.b x)))) (∀ x_1 : Int, (∀ a_2 : x_1 ∈ CutT.r o, (∀ s : SV, (∀ a_3 : s ∈ Enc.enc (encInt IntKind.u8) x_1, ((SV.isPure s : Bool) = true)))))))) (And ((true : Bool) = true) True)) ((true : Bool) = true)))) (@Bool.rec (fun _ => Prop) (∃ o : CutT (itW x), (And (And (And ((true : Bool) = true) (And (List.length (CutT.r o) = List.length (List.flatMap fB (List.take (FlT.i i) (It.b x)))) (CutT.cap o = FlT.cap i))) True) (And (And (And ((true : Bool) = true) (And (CutT.cap o = FlT.cap i) (And (List.map (Enc.enc (encInt IntKind.u8)) (CutT.r o) = List.map (Enc.enc (encInt IntKind.u8)) (List.flatMap fB (List.take (FlT.i i) (It.b x)))) (∀ x_1 : Int, (∀ a_2 : x_1 ∈ CutT.r o, (∀ s : SV, (∀ a_3 : s ∈ Enc.enc (encInt IntKind.u8) x_1, ((SV.isPure s : Bool) = true)))))))) (And ((true : Bool) = true) True)) ((true : Bool) = true)))) (And ((0 : Int) ≤ (↑(FlT.i i) : Int)) (∃ hk : Int.toNat (↑(FlT.i i) : Int) < List.length (It.b x), (∃ l : List Int, (And (List.map (RK.svs._f [RK.int IntKind.u8] ⟨⟨RK.sv._f (RK.int IntKind.u8) PUnit.unit, PUnit.unit⟩, RK.svs._f [] PUnit.unit, PUnit.unit⟩) (Prod.snd (Prod.fst (It.b x)[Int.toNat (↑(FlT.i i) : Int)])) = List.map eB l) (And (List.length l ≤ (140737488351232 : Nat)) (∀ c_1 : CapT (List.length (blb l)), (And (List.length (List.flatMap fB (List.take (FlT.i i) (It.b x))) = List.length (List.flatMap fB (List.take (FlT.i i) (It.b x)))) (And (FlT.cap i = FlT.cap i) (And (List.length (blb l) ≤ List.length (blb l)) (And (CapT.cap c_1 = CapT.cap c_1) (And ((List.length (List.flatMap fB (List.take (FlT.i i) (It.b x))) + List.length (castL (encInt IntKind.u8) (encInt IntKind.u8) (List.take (List.length (blb l)) (blb l)))) * (1 : Nat) ≤ (150000000000000 : Nat)) (∀ cap2 : Nat, (∀ a_2 : List.length (List.flatMap fB (List.take (FlT.i i) (It.b x))) + List.length (castL (encInt IntKind.u8) (encInt IntKind.u8) (List.take (List.length (blb l)) (blb l))) ≤ cap2, (∃ i' : Inv.ι (itI a b c d x fB (It.b x) (7 : Nat)), (And (And (Inv.μ (itI a b c d x fB (It.b x) (7 : Nat)) i' < Inv.μ (itI a b c d x fB (It.b x) (7 : Nat)) i) True) (And (And (And ((true : Bool) = true) ((0 : Nat) = (0 : Nat))) (And (And ((true : Bool) = true) (And (List.length (List.flatMap fB (List.take (FlT.i i') (It.b x))) = List.length (List.flatMap fB (List.take (FlT.i i) (It.b x)) ++ castL (encInt IntKind.u8) (encInt IntKind.u8) (List.take (List.length (blb l)) (blb l)))) (FlT.cap i' = cap2))) (And ((↑(FlT.i i') : Int) = IntKind.wrap IntKind.i64 ((↑(FlT.i i) : Int) + (1 : Int))) True))) (And (And (And (It.k x = It.k x) (And (SV.view a (1 : Nat) eU (It.u x) = SV.view a (1 : Nat) eU (It.u x)) (And (SV.view b (4 : Nat) eW (It.w x) = SV.view b (4 : Nat) eW (It.w x)) (And (SV.view c (32 : Nat) eH (It.h x) = SV.view c (32 : Nat) eH (It.h x)) (And (SV.view d (1 : Nat) eBl (It.b x) = SV.view d (1 : Nat) eBl (It.b x)) True))))) (And ((true : Bool) = true) (And (And ((true : Bool) = true) (And (FlT.cap i' = cap2) (And (List.map (Enc.enc (encInt IntKind.u8)) (List.flatMap fB (List.take (FlT.i i') (It.b x))) = List.map (Enc.enc (encInt IntKind.u8)) (List.flatMap fB (List.take (FlT.i i) (It.b x)) ++ castL (encInt IntKind.u8) (encInt IntKind.u8) (List.take (List.length (blb l)) (blb l)))) (∀ x_1 : Int, (∀ a_3 : x_1 ∈ List.flatMap fB (List.take (FlT.i i') (It.b x)), (∀ s : SV, (∀ a_4 : s ∈ Enc.enc (encInt IntKind.u8) x_1, ((SV.isPure s : Bool) = true)))))))) (And ((true : Bool) = true) True)))) ((true : Bool) = true)))))))))))))))))) (decide ((↑(List.length (List.flatMap fB (List.take (FlT.i i) (It.b x)))) : Int) ≤ (65536 : Int)))) (decide ((↑(FlT.i i) : Int) < (↑(List.length (It.b x)) : Int)))))))) (∃ i0 : Inv.ι (itI a b c d x fH (It.h x) (6 : Nat)), (And (And True (And (And (And ((true : Bool) = true) ((0 : Nat) = (0 : Nat))) (And (And ((true : Bool) = true) (And (List.length (List.flatMap fH (List.take (FlT.i i0) (It.h x))) = (0 : Nat)) (FlT.cap i0 = (0 : Nat)))) (And ((↑(FlT.i i0) : Int) = (0 : Int)) True))) (And (And (And (It.k x = It.k x) (And (SV.view a (1 : Nat) eU (It.u x) = SV.view a (1 : Nat) eU (It.u x)) (And (SV.view b (4 : Nat) eW (It.w x) = SV.view b (4 : Nat) eW (It.w x)) (And (SV.view c (32 : Nat) eH (It.h x) = SV.view c (32 : Nat) eH (It.h x)) (And (SV.view d (1 : Nat) eBl (It.b x) = SV.view d (1 : Nat) eBl (It.b x)) True))))) (And ((true : Bool) = true) (And (And ((true : Bool) = true) (And (FlT.cap i0 = (0 : Nat)) (And (List.map (Enc.enc (encInt IntKind.u8)) (List.flatMap fH (List.take (FlT.i i0) (It.h x))) = List.map (Enc.enc (encInt IntKind.u8)) []) (∀ x_1 : Int, (∀ a_1 : x_1 ∈ List.flatMap fH (List.take (FlT.i i0) (It.h x)), (∀ s : SV, (∀ a_2 : s ∈ Enc.enc (encInt IntKind.u8) x_1, ((SV.isPure s : Bool) = true)))))))) (And ((true : Bool) = true) True)))) ((true : Bool) = true)))) (∀ i : Inv.ι (itI a b c d x fH (It.h x) (6 : Nat)), (∀ a_1 : Inv.R (itI a b c d x fH (It.h x) (6 : Nat)) i0 i, (@Bool.rec (fun _ => Prop) (∃ o : CutT (itW x), (And (And (And ((true : Bool) = true) (And (List.length (CutT.r o) = List.length (List.flatMap fH (List.take (FlT.i i) (It.h x)))) (CutT.cap o = FlT.cap i))) True) (And (And (And ((true : Bool) = true) (And (CutT.cap o = FlT.cap i) (And (List.map (Enc.enc (encInt IntKind.u8)) (CutT.r o) = List.map (Enc.enc (encInt IntKind.u8)) (List.flatMap fH (List.take (FlT.i i) (It.h x)))) (∀ x_1 : Int, (∀ a_2 : x_1 ∈ CutT.r o, (∀ s : SV, (∀ a_3 : s ∈ Enc.enc (encInt IntKind.u8) x_1, ((SV.isPure s : Bool) = true)))))))) (And ((true : Bool) = true) True)) ((true : Bool) = true)))) (@Bool.rec (fun _ => Prop) (∃ o : CutT (itW x), (And (And (And ((true : Bool) = true) (And (List.length (CutT.r o) = List.length (List.flatMap fH (List.take (FlT.i i) (It.h x)))) (CutT.cap o = FlT.cap i))) True) (And (And (And ((true : Bool) = true) (And (CutT.cap o = FlT.cap i) (And (List.map (Enc.enc (encInt IntKind.u8)) (CutT.r o) = List.map (Enc.enc (encInt IntKind.u8)) (List.flatMap fH (List.take (FlT.i i) (It.h x)))) (∀ x_1 : Int, (∀ a_2 : x_1 ∈ CutT.r o, (∀ s : SV, (∀ a_3 : s ∈ Enc.enc (encInt IntKind.u8) x_1, ((SV.isPure s : Bool) = true)))))))) (And ((true : Bool) = true) True)) ((true : Bool) = true)))) (And ((0 : Int) ≤ (↑(FlT.i i) : Int)) (∃ hk : Int.toNat (↑(FlT.i i) : Int) < List.length (It.h x), (And (List.length (List.flatMap fH (List.take (FlT.i i) (It.h x))) = List.length (List.flatMap fH (List.take (FlT.i i) (It.h x)))) (And (FlT.cap i = FlT.cap i) (∃ ys : List Int, (And (List.map (Enc.enc (encInt IntKind.u8)) ys = List.map (fun b => [SV.v (Value.int IntKind.u8 b)]) (It.h x)[Int.toNat (↑(FlT.i i) : Int)]) (And ((List.length (List.flatMap fH (List.take (FlT.i i) (It.h x))) + List.length ys) * (1 : Nat) ≤ (150000000000000 : Nat)) (∀ cap2 : Nat, (∀ a_2 : List.length (List.flatMap fH (List.take (FlT.i i) (It.h x))) + List.length ys ≤ cap2, (∃ i' : Inv.ι (itI a b c d x fH (It.h x) (6 : Nat)), (And (And (Inv.μ (itI a b c d x fH (It.h x) (6 : Nat)) i' < Inv.μ (itI a b c d x fH (It.h x) (6 : Nat)) i) True) (And (And (And ((true : Bool) = true) ((0 : Nat) = (0 : Nat))) (And (And ((true : Bool) = true) (And (List.length (List.flatMap fH (List.take (FlT.i i') (It.h x))) = List.length (List.flatMap fH (List.take (FlT.i i) (It.h x)) ++ ys)) (FlT.cap i' = cap2))) (And ((↑(FlT.i i') : Int) = IntKind.wrap IntKind.i64 ((↑(FlT.i i) : Int) + (1 : Int))) True))) (And (And (And (It.k x = It.k x) (And (SV.view a (1 : Nat) eU (It.u x) = SV.view a (1 : Nat) eU (It.u x)) (And (SV.view b (4 : Nat) eW (It.w x) = SV.view b (4 : Nat) eW (It.w x)) (And (SV.view c (32 : Nat) eH (It.h x) = SV.view c (32 : Nat) eH (It.h x)) (And (SV.view d (1 : Nat) eBl (It.b x) = SV.view d (1 : Nat) eBl (It.b x)) True))))) (And ((true : Bool) = true) (And (And ((true : Bool) = true) (And (FlT.cap i' = cap2) (And (List.map (Enc.enc (encInt IntKind.u8)) (List.flatMap fH (List.take (FlT.i i') (It.h x))) = List.map (Enc.enc (encInt IntKind.u8)) (List.flatMap fH (List.take (FlT.i i) (It.h x)) ++ ys)) (∀ x_1 : Int, (∀ a_3 : x_1 ∈ List.flatMap fH (List.take (FlT.i i') (It.h x)), (∀ s : SV, (∀ a_4 : s ∈ Enc.enc (encInt IntKind.u8) x_1, ((SV.isPure s : Bool) = true)))))))) (And ((true : Bool) = true) True)))) ((true : Bool) = true)))))))))))))) (decide ((↑(List.length (List.flatMap fH (List.take (FlT.i i) (It.h x)))) : Int) ≤ (65536 : Int)))) (decide ((↑(FlT.i i) : Int) < (↑(List.length (It.h x)) : Int)))))))) (It.k x == (2 : Int))) (∃ i0 : Inv.ι (itI a b c d x fW (It.w x) (5 : Nat)), (And (And True (And (And (And ((true : Bool) = true) ((0 : Nat) = (0 : Nat))) (And (And ((true : Bool) = true) (And (List.length (List.flatMap fW (List.take (FlT.i i0) (It.w x))) = (0 : Nat)) (FlT.cap i0 = (0 : Nat)))) (And ((↑(FlT.i i0) : Int) = (0 : Int)) True))) (And (And (And (It.k x = It.k x) (And (SV.view a (1 : Nat) eU (It.u x) = SV.view a (1 : Nat) eU (It.u x)) (And (SV.view b (4 : Nat) eW (It.w x) = SV.view b (4 : Nat) eW (It.w x)) (And (SV.view c (32 : Nat) eH (It.h x) = SV.view c (32 : Nat) eH (It.h x)) (And (SV.view d (1 : Nat) eBl (It.b x) = SV.view d (1 : Nat) eBl (It.b x)) True))))) (And ((true : Bool) = true) (And (And ((true : Bool) = true) (And (FlT.cap i0 = (0 : Nat)) (And (List.map (Enc.enc (encInt IntKind.u8)) (List.flatMap fW (List.take (FlT.i i0) (It.w x))) = List.map (Enc.enc (encInt IntKind.u8)) []) (∀ x_1 : Int, (∀ a_1 : x_1 ∈ List.flatMap fW (List.take (FlT.i i0) (It.w x)), (∀ s : SV, (∀ a_2 : s ∈ Enc.enc (encInt IntKind.u8) x_1, ((SV.isPure s : Bool) = true)))))))) (And ((true : Bool) = true) True)))) ((true : Bool) = true)))) (∀ i : Inv.ι (itI a b c d x fW (It.w x) (5 : Nat)), (∀ a_1 : Inv.R (itI a b c d x fW (It.w x) (5 : Nat)) i0 i, (@Bool.rec (fun _ => Prop) (∃ o : CutT (itW x), (And (And (And ((true : Bool) = true) (And (List.length (CutT.r o) = List.length (List.flatMap fW (List.take (FlT.i i) (It.w x)))) (CutT.cap o = FlT.cap i))) True) (And (And (And ((true : Bool) = true) (And (CutT.cap o = FlT.cap i) (And (List.map (Enc.enc (encInt IntKind.u8)) (CutT.r o) = List.map (Enc.enc (encInt IntKind.u8)) (List.flatMap fW (List.take (FlT.i i) (It.w x)))) (∀ x_1 : Int, (∀ a_2 : x_1 ∈ CutT.r o, (∀ s : SV, (∀ a_3 : s ∈ Enc.enc (encInt IntKind.u8) x_1, ((SV.isPure s : Bool) = true)))))))) (And ((true : Bool) = true) True)) ((true : Bool) = true)))) (@Bool.rec (fun _ => Prop) (∃ o : CutT (itW x), (And (And (And ((true : Bool) = true) (And (List.length (CutT.r o) = List.length (List.flatMap fW (List.take (FlT.i i) (It.w x)))) (CutT.cap o = FlT.cap i))) True) (And (And (And ((true : Bool) = true) (And (CutT.cap o = FlT.cap i) (And (List.map (Enc.enc (encInt IntKind.u8)) (CutT.r o) = List.map (Enc.enc (encInt IntKind.u8)) (List.flatMap fW (List.take (FlT.i i) (It.w x)))) (∀ x_1 : Int, (∀ a_2 : x_1 ∈ CutT.r o, (∀ s : SV, (∀ a_3 : s ∈ Enc.enc (encInt IntKind.u8) x_1, ((SV.isPure s : Bool) = true)))))))) (And ((true : Bool) = true) True)) ((true : Bool) = true)))) (And ((0 : Int) ≤ (↑(FlT.i i) : Int)) (∃ hk : Int.toNat (↑(FlT.i i) : Int) < List.length (It.w x), (And (And (List.length (It.w x)[Int.toNat (↑(FlT.i i) : Int)] = (4 : Nat)) (∀ x_1 : Int, (∀ a_2 : x_1 ∈ (It.w x)[Int.toNat (↑(FlT.i i) : Int)], (And ((0 : Int) ≤ x_1) (x_1 < (↑N64 : Int)))))) (∀ o : CapT (32 : Nat), (And (List.length (List.flatMap fW (List.take (FlT.i i) (It.w x))) = List.length (List.flatMap fW (List.take (FlT.i i) (It.w x)))) (And (FlT.cap i = FlT.cap i) (And ((32 : Nat) ≤ (32 : Nat)) (And (CapT.cap o = CapT.cap o) (And ((List.length (List.flatMap fW (List.take (FlT.i i) (It.w x))) + (32 : Nat)) * (1 : Nat) ≤ (150000000000000 : Nat)) (∀ cap2 : Nat, (∀ a_2 : List.length (List.flatMap fW (List.take (FlT.i i) (It.w x))) + (32 : Nat) ≤ cap2, (∃ i' : Inv.ι (itI a b c d x fW (It.w x) (5 : Nat)), (And (And (Inv.μ (itI a b c d x fW (It.w x) (5 : Nat)) i' < Inv.μ (itI a b c d x fW (It.w x) (5 : Nat)) i) True) (And (And (And ((true : Bool) = true) ((0 : Nat) = (0 : Nat))) (And (And ((true : Bool) = true) (And (List.length (List.flatMap fW (List.take (FlT.i i') (It.w x))) = List.length (List.flatMap fW (List.take (FlT.i i) (It.w x)) ++ castL (encInt IntKind.u8) (encInt IntKind.u8) (List.take (32 : Nat) (by32 (N (It.w x)[Int.toNat (↑(FlT.i i) : Int)]))))) (FlT.cap i' = cap2))) (And ((↑(FlT.i i') : Int) = IntKind.wrap IntKind.i64 ((↑(FlT.i i) : Int) + (1 : Int))) True))) (And (And (And (It.k x = It.k x) (And (SV.view a (1 : Nat) eU (It.u x) = SV.view a (1 : Nat) eU (It.u x)) (And (SV.view b (4 : Nat) eW (It.w x) = SV.view b (4 : Nat) eW (It.w x)) (And (SV.view c (32 : Nat) eH (It.h x) = SV.view c (32 : Nat) eH (It.h x)) (And (SV.view d (1 : Nat) eBl (It.b x) = SV.view d (1 : Nat) eBl (It.b x)) True))))) (And ((true : Bool) = true) (And (And ((true : Bool) = true) (And (FlT.cap i' = cap2) (And (List.map (Enc.enc (encInt IntKind.u8)) (List.flatMap fW (List.take (FlT.i i') (It.w x))) = List.map (Enc.enc (encInt IntKind.u8)) (List.flatMap fW (List.take (FlT.i i) (It.w x)) ++ castL (encInt IntKind.u8) (encInt IntKind.u8) (List.take (32 : Nat) (by32 (N (It.w x)[Int.toNat (↑(FlT.i i) : Int)]))))) (∀ x_1 : Int, (∀ a_3 : x_1 ∈ List.flatMap fW (List.take (FlT.i i') (It.w x)), (∀ s : SV, (∀ a_4 : s ∈ Enc.enc (encInt IntKind.u8) x_1, ((SV.isPure s : Bool) = true)))))))) (And ((true : Bool) = true) True)))) ((true : Bool) = true)))))))))))))))) (decide ((↑(List.length (List.flatMap fW (List.take (FlT.i i) (It.w x)))) : Int) ≤ (65536 : Int)))) (decide ((↑(FlT.i i) : Int) < (↑(List.length (It.w x)) : Int)))))))) (It.k x == (1 : Int))) (∃ i0 : Inv.ι (itI a b c d x be8 (It.u x) (4 : Nat)), (And (And True (And (And (And ((true : Bool) = true) ((0 : Nat) = (0 : Nat))) (And (And ((true : Bool) = true) (And (List.length (List.flatMap be8 (List.take (FlT.i i0) (It.u x))) = (0 : Nat)) (FlT.cap i0 = (0 : Nat)))) (And ((↑(FlT.i i0) : Int) = (0 : Int)) True))) (And (And (And (It.k x = It.k x) (And (SV.view a (1 : Nat) eU (It.u x) = SV.view a (1 : Nat) eU (It.u x)) (And (SV.view b (4 : Nat) eW (It.w x) = SV.view b (4 : Nat) eW (It.w x)) (And (SV.view c (32 : Nat) eH (It.h x) = SV.view c (32 : Nat) eH (It.h x)) (And (SV.view d (1 : Nat) eBl (It.b x) = SV.view d (1 : Nat) eBl (It.b x)) True))))) (And ((true : Bool) = true) (And (And ((true : Bool) = true) (And (FlT.cap i0 = (0 : Nat)) (And (List.map (Enc.enc (encInt IntKind.u8)) (List.flatMap be8 (List.take (FlT.i i0) (It.u x))) = List.map (Enc.enc (encInt IntKind.u8)) []) (∀ x_1 : Int, (∀ a_1 : x_1 ∈ List.flatMap be8 (List.take (FlT.i i0) (It.u x)), (∀ s : SV, (∀ a_2 : s ∈ Enc.enc (encInt IntKind.u8) x_1, ((SV.isPure s : Bool) = true)))))))) (And ((true : Bool) = true) True)))) ((true : Bool) = true)))) (∀ i : Inv.ι (itI a b c d x be8 (It.u x) (4 : Nat)), (∀ a_1 : Inv.R (itI a b c d x be8 (It.u x) (4 : Nat)) i0 i, (@Bool.rec (fun _ => Prop) (∃ o : CutT (itW x), (And (And (And ((true : Bool) = true) (And (List.length (CutT.r o) = List.length (List.flatMap be8 (List.take (FlT.i i) (It.u x)))) (CutT.cap o = FlT.cap i))) True) (And (And (And ((true : Bool) = true) (And (CutT.cap o = FlT.cap i) (And (List.map (Enc.enc (encInt IntKind.u8)) (CutT.r o) = List.map (Enc.enc (encInt IntKind.u8)) (List.flatMap be8 (List.take (FlT.i i) (It.u x)))) (∀ x_1 : Int, (∀ a_2 : x_1 ∈ CutT.r o, (∀ s : SV, (∀ a_3 : s ∈ Enc.enc (encInt IntKind.u8) x_1, ((SV.isPure s : Bool) = true)))))))) (And ((true : Bool) = true) True)) ((true : Bool) = true)))) (@Bool.rec (fun _ => Prop) (∃ o : CutT (itW x), (And (And (And ((true : Bool) = true) (And (List.length (CutT.r o) = List.length (List.flatMap be8 (List.take (FlT.i i) (It.u x)))) (CutT.cap o = FlT.cap i))) True) (And (And (And ((true : Bool) = true) (And (CutT.cap o = FlT.cap i) (And (List.map (Enc.enc (encInt IntKind.u8)) (CutT.r o) = List.map (Enc.enc (encInt IntKind.u8)) (List.flatMap be8 (List.take (FlT.i i) (It.u x)))) (∀ x_1 : Int, (∀ a_2 : x_1 ∈ CutT.r o, (∀ s : SV, (∀ a_3 : s ∈ Enc.enc (encInt IntKind.u8) x_1, ((SV.isPure s : Bool) = true)))))))) (And ((true : Bool) = true) True)) ((true : Bool) = true)))) (And ((0 : Int) ≤ (↑(FlT.i i) : Int)) (∃ hk : Int.toNat (↑(FlT.i i) : Int) < List.length (It.u x), (And True (∀ c_1 : CapT (8 : Nat), (And (List.length (List.flatMap be8 (List.take (FlT.i i) (It.u x))) = List.length (List.flatMap be8 (List.take (FlT.i i) (It.u x)))) (And (FlT.cap i = FlT.cap i) (And ((8 : Nat) ≤ (8 : Nat)) (And (CapT.cap c_1 = CapT.cap c_1) (And ((List.length (List.flatMap be8 (List.take (FlT.i i) (It.u x))) + (8 : Nat)) * (1 : Nat) ≤ (150000000000000 : Nat)) (∀ cap2 : Nat, (∀ a_2 : List.length (List.flatMap be8 (List.take (FlT.i i) (It.u x))) + (8 : Nat) ≤ cap2, (∃ i' : Inv.ι (itI a b c d x be8 (It.u x) (4 : Nat)), (And (And (Inv.μ (itI a b c d x be8 (It.u x) (4 : Nat)) i' < Inv.μ (itI a b c d x be8 (It.u x) (4 : Nat)) i) True) (And (And (And ((true : Bool) = true) ((0 : Nat) = (0 : Nat))) (And (And ((true : Bool) = true) (And (List.length (List.flatMap be8 (List.take (FlT.i i') (It.u x))) = List.length (List.flatMap be8 (List.take (FlT.i i) (It.u x)) ++ castL (encInt IntKind.u8) (encInt IntKind.u8) (List.take (8 : Nat) (be8 (It.u x)[Int.toNat (↑(FlT.i i) : Int)])))) (FlT.cap i' = cap2))) (And ((↑(FlT.i i') : Int) = IntKind.wrap IntKind.i64 ((↑(FlT.i i) : Int) + (1 : Int))) True))) (And (And (And (It.k x = It.k x) (And (SV.view a (1 : Nat) eU (It.u x) = SV.view a (1 : Nat) eU (It.u x)) (And (SV.view b (4 : Nat) eW (It.w x) = SV.view b (4 : Nat) eW (It.w x)) (And (SV.view c (32 : Nat) eH (It.h x) = SV.view c (32 : Nat) eH (It.h x)) (And (SV.view d (1 : Nat) eBl (It.b x) = SV.view d (1 : Nat) eBl (It.b x)) True))))) (And ((true : Bool) = true) (And (And ((true : Bool) = true) (And (FlT.cap i' = cap2) (And (List.map (Enc.enc (encInt IntKind.u8)) (List.flatMap be8 (List.take (FlT.i i') (It.u x))) = List.map (Enc.enc (encInt IntKind.u8)) (List.flatMap be8 (List.take (FlT.i i) (It.u x)) ++ castL (encInt IntKind.u8) (encInt IntKind.u8) (List.take (8 : Nat) (be8 (It.u x)[Int.toNat (↑(FlT.i i) : Int)])))) (∀ x_1 : Int, (∀ a_3 : x_1 ∈ List.flatMap be8 (List.take (FlT.i i') (It.u x)), (∀ s : SV, (∀ a_4 : s ∈ Enc.enc (encInt IntKind.u8) x_1, ((SV.isPure s : Bool) = true)))))))) (And ((true : Bool) = true) True)))) ((true : Bool) = true)))))))))))))))) (decide ((↑(List.length (List.flatMap be8 (List.take (FlT.i i) (It.u x)))) : Int) ≤ (65536 : Int)))) (decide ((↑(FlT.i i) : Int) < (↑(List.length (It.u x)) : Int)))))))) (It.k x == (0 : Int)))) (by kernel_rfl) ?_
  have hu := hx.u
  have hw := hx.w
  have hh := hx.h
  have hb := hx.b
  rw [show (x.k == 0) = decide (x.k = 0) from rfl, show (x.k == 1) = decide (x.k = 1) from rfl, show (x.k == 2) = decide (x.k = 2) from rfl]
  refine bif_dec (fun h0 => ?_) (fun h0 => ?_)
  · have hW : itW x = x.u.flatMap be8 := by unfold itW; rw [decide_eq_true h0]; rfl
    rw [hW]
    refine ⟨⟨0, 0, Nat.zero_le _, Nat.le_refl _⟩, ?_, ?_⟩
    ·
      repeat' first | exact encB_pure _ | exact trivial | refine And.intro ?_ ?_ | with_reducible refine bif_dt (by assumption) ?_ | with_reducible refine bif_df (by assumption) ?_ | with_reducible refine bif_dec (fun _ => ?_) (fun _ => ?_) | with_reducible refine bif_not ?_ | with_reducible refine bif_and ?_ | with_reducible refine bif_or ?_ | with_reducible refine bif_t (by assumption) ?_ | with_reducible refine bif_f (by assumption) ?_ | with_reducible refine bif_t (beq_self_eq_true _) ?_ | with_reducible refine bif_b (fun _ => ?_) (fun _ => ?_) | with_reducible refine ⟨_, Eq.refl (List.map _ _), ?_⟩ | (with_reducible refine Exists.intro (by omega) ?_) | rfl | (intro h0; omega) | omega
    rintro ⟨i, cap1, hi, hc⟩ -
    dsimp only [itI]
    refine bif_dec (fun h => ?_) (fun h => ?_)
    · have hi' : i < x.u.length := by omega
      have hft := flat_take be8 x.u hi'
      refine bif_dec (fun hs => ?_) (fun hs => ?_)
      · simp only [Int.toNat_natCast, castB, inext2 (show i < 9223372036854775807 by omega)]
        repeat (with_reducible refine And.intro (by first | exact trivial | omega | decide) ?_)
        refine ⟨hi', trivial, ?_⟩
        rintro ⟨c1, k1⟩
        try dsimp only
        rw [show List.take 8 (be8 x.u[i]) = be8 x.u[i] from rfl]
        repeat (with_reducible refine And.intro (by first | exact trivial | omega | decide) ?_)
        intro cap2 k2'
        have k2 : ((x.u.take i).flatMap be8).length + (be8 x.u[i]).length ≤ cap2 := k2'
        refine ⟨⟨i + 1, cap2, hi', by rw [← hft, List.length_append]; exact k2⟩, ⟨show x.u.length - (i + 1) < x.u.length - i by omega, trivial⟩, ?_⟩
        simp only [← hft]
        repeat' first | exact encB_pure _ | exact trivial | refine And.intro ?_ ?_ | with_reducible refine bif_dt (by assumption) ?_ | with_reducible refine bif_df (by assumption) ?_ | with_reducible refine bif_dec (fun _ => ?_) (fun _ => ?_) | with_reducible refine bif_not ?_ | with_reducible refine bif_and ?_ | with_reducible refine bif_or ?_ | with_reducible refine bif_t (by assumption) ?_ | with_reducible refine bif_f (by assumption) ?_ | with_reducible refine bif_t (beq_self_eq_true _) ?_ | with_reducible refine bif_b (fun _ => ?_) (fun _ => ?_) | with_reducible refine ⟨_, Eq.refl (List.map _ _), ?_⟩ | (with_reducible refine Exists.intro (by omega) ?_) | rfl | (intro h0; omega) | omega
      · refine ⟨⟨_, cap1, hc, CutOf.take _ _ i (by omega)⟩, ?_⟩
        repeat' first | exact encB_pure _ | exact trivial | refine And.intro ?_ ?_ | with_reducible refine bif_dt (by assumption) ?_ | with_reducible refine bif_df (by assumption) ?_ | with_reducible refine bif_dec (fun _ => ?_) (fun _ => ?_) | with_reducible refine bif_not ?_ | with_reducible refine bif_and ?_ | with_reducible refine bif_or ?_ | with_reducible refine bif_t (by assumption) ?_ | with_reducible refine bif_f (by assumption) ?_ | with_reducible refine bif_t (beq_self_eq_true _) ?_ | with_reducible refine bif_b (fun _ => ?_) (fun _ => ?_) | with_reducible refine ⟨_, Eq.refl (List.map _ _), ?_⟩ | (with_reducible refine Exists.intro (by omega) ?_) | rfl | (intro h0; omega) | omega
    · have hil : i = x.u.length := by omega
      subst hil
      rw [flat_all be8 x.u (Nat.le_refl _)] at hc ⊢
      refine ⟨⟨_, cap1, hc, .inl rfl⟩, ?_⟩
      repeat' first | exact encB_pure _ | exact trivial | refine And.intro ?_ ?_ | with_reducible refine bif_dt (by assumption) ?_ | with_reducible refine bif_df (by assumption) ?_ | with_reducible refine bif_dec (fun _ => ?_) (fun _ => ?_) | with_reducible refine bif_not ?_ | with_reducible refine bif_and ?_ | with_reducible refine bif_or ?_ | with_reducible refine bif_t (by assumption) ?_ | with_reducible refine bif_f (by assumption) ?_ | with_reducible refine bif_t (beq_self_eq_true _) ?_ | with_reducible refine bif_b (fun _ => ?_) (fun _ => ?_) | with_reducible refine ⟨_, Eq.refl (List.map _ _), ?_⟩ | (with_reducible refine Exists.intro (by omega) ?_) | rfl | (intro h0; omega) | omega
  refine bif_dec (fun h1 => ?_) (fun h1 => ?_)
  · have hW : itW x = x.w.flatMap fW := by unfold itW; rw [decide_eq_false h0, decide_eq_true h1]; rfl
    rw [hW]
    refine ⟨⟨0, 0, Nat.zero_le _, Nat.le_refl _⟩, ?_, ?_⟩
    ·
      repeat' first | exact encB_pure _ | exact trivial | refine And.intro ?_ ?_ | with_reducible refine bif_dt (by assumption) ?_ | with_reducible refine bif_df (by assumption) ?_ | with_reducible refine bif_dec (fun _ => ?_) (fun _ => ?_) | with_reducible refine bif_not ?_ | with_reducible refine bif_and ?_ | with_reducible refine bif_or ?_ | with_reducible refine bif_t (by assumption) ?_ | with_reducible refine bif_f (by assumption) ?_ | with_reducible refine bif_t (beq_self_eq_true _) ?_ | with_reducible refine bif_b (fun _ => ?_) (fun _ => ?_) | with_reducible refine ⟨_, Eq.refl (List.map _ _), ?_⟩ | (with_reducible refine Exists.intro (by omega) ?_) | rfl | (intro h0; omega) | omega
    rintro ⟨i, cap1, hi, hc⟩ -
    dsimp only [itI]
    refine bif_dec (fun h => ?_) (fun h => ?_)
    · have hi' : i < x.w.length := by omega
      have hft := flat_take fW x.w hi'
      refine bif_dec (fun hs => ?_) (fun hs => ?_)
      · simp only [Int.toNat_natCast, castB, inext2 (show i < 9223372036854775807 by omega)]
        repeat (with_reducible refine And.intro (by first | exact trivial | omega | decide) ?_)
        refine ⟨hi', hx.wd _ (List.getElem_mem hi'), ?_⟩
        rintro ⟨c1, k1⟩
        try dsimp only
        rw [t32']
        have hl32 : (fW x.w[i]).length = 32 := by32_length _
        have hfw : by32 (N x.w[i]) = fW x.w[i] := rfl
        rw [hfw]
        repeat (with_reducible refine And.intro (by first | exact trivial | omega | decide) ?_)
        intro cap2 k2'
        have k2 : ((x.w.take i).flatMap fW).length + (fW x.w[i]).length ≤ cap2 := by omega
        refine ⟨⟨i + 1, cap2, hi', by rw [← hft, List.length_append]; exact k2⟩, ⟨show x.w.length - (i + 1) < x.w.length - i by omega, trivial⟩, ?_⟩
        simp only [← hft]
        repeat' first | exact encB_pure _ | exact trivial | refine And.intro ?_ ?_ | with_reducible refine bif_dt (by assumption) ?_ | with_reducible refine bif_df (by assumption) ?_ | with_reducible refine bif_dec (fun _ => ?_) (fun _ => ?_) | with_reducible refine bif_not ?_ | with_reducible refine bif_and ?_ | with_reducible refine bif_or ?_ | with_reducible refine bif_t (by assumption) ?_ | with_reducible refine bif_f (by assumption) ?_ | with_reducible refine bif_t (beq_self_eq_true _) ?_ | with_reducible refine bif_b (fun _ => ?_) (fun _ => ?_) | with_reducible refine ⟨_, Eq.refl (List.map _ _), ?_⟩ | (with_reducible refine Exists.intro (by omega) ?_) | rfl | (intro h0; omega) | omega
      · refine ⟨⟨_, cap1, hc, CutOf.take _ _ i (by omega)⟩, ?_⟩
        repeat' first | exact encB_pure _ | exact trivial | refine And.intro ?_ ?_ | with_reducible refine bif_dt (by assumption) ?_ | with_reducible refine bif_df (by assumption) ?_ | with_reducible refine bif_dec (fun _ => ?_) (fun _ => ?_) | with_reducible refine bif_not ?_ | with_reducible refine bif_and ?_ | with_reducible refine bif_or ?_ | with_reducible refine bif_t (by assumption) ?_ | with_reducible refine bif_f (by assumption) ?_ | with_reducible refine bif_t (beq_self_eq_true _) ?_ | with_reducible refine bif_b (fun _ => ?_) (fun _ => ?_) | with_reducible refine ⟨_, Eq.refl (List.map _ _), ?_⟩ | (with_reducible refine Exists.intro (by omega) ?_) | rfl | (intro h0; omega) | omega
    · have hil : i = x.w.length := by omega
      subst hil
      rw [flat_all fW x.w (Nat.le_refl _)] at hc ⊢
      refine ⟨⟨_, cap1, hc, .inl rfl⟩, ?_⟩
      repeat' first | exact encB_pure _ | exact trivial | refine And.intro ?_ ?_ | with_reducible refine bif_dt (by assumption) ?_ | with_reducible refine bif_df (by assumption) ?_ | with_reducible refine bif_dec (fun _ => ?_) (fun _ => ?_) | with_reducible refine bif_not ?_ | with_reducible refine bif_and ?_ | with_reducible refine bif_or ?_ | with_reducible refine bif_t (by assumption) ?_ | with_reducible refine bif_f (by assumption) ?_ | with_reducible refine bif_t (beq_self_eq_true _) ?_ | with_reducible refine bif_b (fun _ => ?_) (fun _ => ?_) | with_reducible refine ⟨_, Eq.refl (List.map _ _), ?_⟩ | (with_reducible refine Exists.intro (by omega) ?_) | rfl | (intro h0; omega) | omega
  refine bif_dec (fun h2 => ?_) (fun h2 => ?_)
  · have hW : itW x = x.h.flatMap fH := by unfold itW; rw [decide_eq_false h0, decide_eq_false h1, decide_eq_true h2]; rfl
    rw [hW]
    refine ⟨⟨0, 0, Nat.zero_le _, Nat.le_refl _⟩, ?_, ?_⟩
    ·
      repeat' first | exact encB_pure _ | exact trivial | refine And.intro ?_ ?_ | with_reducible refine bif_dt (by assumption) ?_ | with_reducible refine bif_df (by assumption) ?_ | with_reducible refine bif_dec (fun _ => ?_) (fun _ => ?_) | with_reducible refine bif_not ?_ | with_reducible refine bif_and ?_ | with_reducible refine bif_or ?_ | with_reducible refine bif_t (by assumption) ?_ | with_reducible refine bif_f (by assumption) ?_ | with_reducible refine bif_t (beq_self_eq_true _) ?_ | with_reducible refine bif_b (fun _ => ?_) (fun _ => ?_) | with_reducible refine ⟨_, Eq.refl (List.map _ _), ?_⟩ | (with_reducible refine Exists.intro (by omega) ?_) | rfl | (intro h0; omega) | omega
    rintro ⟨i, cap1, hi, hc⟩ -
    dsimp only [itI]
    refine bif_dec (fun h => ?_) (fun h => ?_)
    · have hi' : i < x.h.length := by omega
      have hft := flat_take fH x.h hi'
      refine bif_dec (fun hs => ?_) (fun hs => ?_)
      · simp only [Int.toNat_natCast, castB, inext2 (show i < 9223372036854775807 by omega)]
        repeat (with_reducible refine And.intro (by first | exact trivial | omega | decide) ?_)
        have hl32 := hx.hl _ (List.getElem_mem hi')
        refine ⟨hi', trivial, trivial, x.h[i], rfl, by omega, fun cap2 k2' => ?_⟩
        have k2 : ((x.h.take i).flatMap fH).length + (fH x.h[i]).length ≤ cap2 := k2'
        have hfh : x.h[i] = fH x.h[i] := rfl
        rw [hfh]
        refine ⟨⟨i + 1, cap2, hi', by rw [← hft, List.length_append]; exact k2⟩, ⟨show x.h.length - (i + 1) < x.h.length - i by omega, trivial⟩, ?_⟩
        simp only [← hft]
        repeat' first | exact encB_pure _ | exact trivial | refine And.intro ?_ ?_ | with_reducible refine bif_dt (by assumption) ?_ | with_reducible refine bif_df (by assumption) ?_ | with_reducible refine bif_dec (fun _ => ?_) (fun _ => ?_) | with_reducible refine bif_not ?_ | with_reducible refine bif_and ?_ | with_reducible refine bif_or ?_ | with_reducible refine bif_t (by assumption) ?_ | with_reducible refine bif_f (by assumption) ?_ | with_reducible refine bif_t (beq_self_eq_true _) ?_ | with_reducible refine bif_b (fun _ => ?_) (fun _ => ?_) | with_reducible refine ⟨_, Eq.refl (List.map _ _), ?_⟩ | (with_reducible refine Exists.intro (by omega) ?_) | rfl | (intro h0; omega) | omega
      · refine ⟨⟨_, cap1, hc, CutOf.take _ _ i (by omega)⟩, ?_⟩
        repeat' first | exact encB_pure _ | exact trivial | refine And.intro ?_ ?_ | with_reducible refine bif_dt (by assumption) ?_ | with_reducible refine bif_df (by assumption) ?_ | with_reducible refine bif_dec (fun _ => ?_) (fun _ => ?_) | with_reducible refine bif_not ?_ | with_reducible refine bif_and ?_ | with_reducible refine bif_or ?_ | with_reducible refine bif_t (by assumption) ?_ | with_reducible refine bif_f (by assumption) ?_ | with_reducible refine bif_t (beq_self_eq_true _) ?_ | with_reducible refine bif_b (fun _ => ?_) (fun _ => ?_) | with_reducible refine ⟨_, Eq.refl (List.map _ _), ?_⟩ | (with_reducible refine Exists.intro (by omega) ?_) | rfl | (intro h0; omega) | omega
    · have hil : i = x.h.length := by omega
      subst hil
      rw [flat_all fH x.h (Nat.le_refl _)] at hc ⊢
      refine ⟨⟨_, cap1, hc, .inl rfl⟩, ?_⟩
      repeat' first | exact encB_pure _ | exact trivial | refine And.intro ?_ ?_ | with_reducible refine bif_dt (by assumption) ?_ | with_reducible refine bif_df (by assumption) ?_ | with_reducible refine bif_dec (fun _ => ?_) (fun _ => ?_) | with_reducible refine bif_not ?_ | with_reducible refine bif_and ?_ | with_reducible refine bif_or ?_ | with_reducible refine bif_t (by assumption) ?_ | with_reducible refine bif_f (by assumption) ?_ | with_reducible refine bif_t (beq_self_eq_true _) ?_ | with_reducible refine bif_b (fun _ => ?_) (fun _ => ?_) | with_reducible refine ⟨_, Eq.refl (List.map _ _), ?_⟩ | (with_reducible refine Exists.intro (by omega) ?_) | rfl | (intro h0; omega) | omega
  · have hW : itW x = x.b.flatMap fB := by unfold itW; rw [decide_eq_false h0, decide_eq_false h1, decide_eq_false h2]; rfl
    rw [hW]
    refine ⟨⟨0, 0, Nat.zero_le _, Nat.le_refl _⟩, ?_, ?_⟩
    ·
      repeat' first | exact encB_pure _ | exact trivial | refine And.intro ?_ ?_ | with_reducible refine bif_dt (by assumption) ?_ | with_reducible refine bif_df (by assumption) ?_ | with_reducible refine bif_dec (fun _ => ?_) (fun _ => ?_) | with_reducible refine bif_not ?_ | with_reducible refine bif_and ?_ | with_reducible refine bif_or ?_ | with_reducible refine bif_t (by assumption) ?_ | with_reducible refine bif_f (by assumption) ?_ | with_reducible refine bif_t (beq_self_eq_true _) ?_ | with_reducible refine bif_b (fun _ => ?_) (fun _ => ?_) | with_reducible refine ⟨_, Eq.refl (List.map _ _), ?_⟩ | (with_reducible refine Exists.intro (by omega) ?_) | rfl | (intro h0; omega) | omega
    rintro ⟨i, cap1, hi, hc⟩ -
    dsimp only [itI]
    refine bif_dec (fun h => ?_) (fun h => ?_)
    · have hi' : i < x.b.length := by omega
      have hft := flat_take fB x.b hi'
      refine bif_dec (fun hs => ?_) (fun hs => ?_)
      · simp only [Int.toNat_natCast, castB, inext2 (show i < 9223372036854775807 by omega)]
        repeat (with_reducible refine And.intro (by first | exact trivial | omega | decide) ?_)
        refine ⟨hi', bl x.b[i], (bl_enc _).symm, ?_, ?_⟩
        · have := hx.bl _ (List.getElem_mem hi')
          rw [bl_length]; exact this
        rintro ⟨c1, k1⟩
        try dsimp only
        rw [List.take_length]
        have hfb : blb (bl x.b[i]) = fB x.b[i] := rfl
        rw [hfb]
        have hb3 : (fB x.b[i]).length ≤ 8 + 140737488351232 := by
          have h3 := hx.bl _ (List.getElem_mem hi')
          rw [fB_blb, blb_length, bl_length]
          exact Nat.add_le_add_left h3 8
        repeat (with_reducible refine And.intro (by first | exact trivial | omega | decide) ?_)
        intro cap2 k2'
        have k2 : ((x.b.take i).flatMap fB).length + (fB x.b[i]).length ≤ cap2 := k2'
        refine ⟨⟨i + 1, cap2, hi', by rw [← hft, List.length_append]; exact k2⟩, ⟨show x.b.length - (i + 1) < x.b.length - i by omega, trivial⟩, ?_⟩
        simp only [← hft]
        repeat' first | exact encB_pure _ | exact trivial | refine And.intro ?_ ?_ | with_reducible refine bif_dt (by assumption) ?_ | with_reducible refine bif_df (by assumption) ?_ | with_reducible refine bif_dec (fun _ => ?_) (fun _ => ?_) | with_reducible refine bif_not ?_ | with_reducible refine bif_and ?_ | with_reducible refine bif_or ?_ | with_reducible refine bif_t (by assumption) ?_ | with_reducible refine bif_f (by assumption) ?_ | with_reducible refine bif_t (beq_self_eq_true _) ?_ | with_reducible refine bif_b (fun _ => ?_) (fun _ => ?_) | with_reducible refine ⟨_, Eq.refl (List.map _ _), ?_⟩ | (with_reducible refine Exists.intro (by omega) ?_) | rfl | (intro h0; omega) | omega
      · refine ⟨⟨_, cap1, hc, CutOf.take _ _ i (by omega)⟩, ?_⟩
        repeat' first | exact encB_pure _ | exact trivial | refine And.intro ?_ ?_ | with_reducible refine bif_dt (by assumption) ?_ | with_reducible refine bif_df (by assumption) ?_ | with_reducible refine bif_dec (fun _ => ?_) (fun _ => ?_) | with_reducible refine bif_not ?_ | with_reducible refine bif_and ?_ | with_reducible refine bif_or ?_ | with_reducible refine bif_t (by assumption) ?_ | with_reducible refine bif_f (by assumption) ?_ | with_reducible refine bif_t (beq_self_eq_true _) ?_ | with_reducible refine bif_b (fun _ => ?_) (fun _ => ?_) | with_reducible refine ⟨_, Eq.refl (List.map _ _), ?_⟩ | (with_reducible refine Exists.intro (by omega) ?_) | rfl | (intro h0; omega) | omega
    · have hil : i = x.b.length := by omega
      subst hil
      rw [flat_all fB x.b (Nat.le_refl _)] at hc ⊢
      refine ⟨⟨_, cap1, hc, .inl rfl⟩, ?_⟩
      repeat' first | exact encB_pure _ | exact trivial | refine And.intro ?_ ?_ | with_reducible refine bif_dt (by assumption) ?_ | with_reducible refine bif_df (by assumption) ?_ | with_reducible refine bif_dec (fun _ => ?_) (fun _ => ?_) | with_reducible refine bif_not ?_ | with_reducible refine bif_and ?_ | with_reducible refine bif_or ?_ | with_reducible refine bif_t (by assumption) ?_ | with_reducible refine bif_f (by assumption) ?_ | with_reducible refine bif_t (beq_self_eq_true _) ?_ | with_reducible refine bif_b (fun _ => ?_) (fun _ => ?_) | with_reducible refine ⟨_, Eq.refl (List.map _ _), ?_⟩ | (with_reducible refine Exists.intro (by omega) ?_) | rfl | (intro h0; omega) | omega
end Go.Proofs.Ytjdlefkpoggocaa
