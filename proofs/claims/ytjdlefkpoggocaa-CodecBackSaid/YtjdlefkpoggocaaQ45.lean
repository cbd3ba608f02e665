/- An item is written. -/
import Derived.Test.YtjdlefkpoggocaaQ44
import Derived.Test.YtjdlefkpoggocaaSx24
namespace Go.Proofs.Ytjdlefkpoggocaa
open Go Go.Sx Go.Wide
set_option linter.unusedVariables false
set_option linter.unusedSimpArgs false
set_option maxRecDepth 100000
set_option maxHeartbeats 4000000

/-- Rows with the same bytes. -/
structure PaT (l : List BTy) where
  r : List BTy
  cap : Nat
  hc : r.length ≤ cap
  he : r.map bl = l.map bl
structure PiT (l : List BTy) where
  i : Nat
  r : List BTy
  cap : Nat
  hi : i ≤ l.length
  hc : r.length ≤ cap
  he : r.map bl = (l.take i).map bl
theorem PaT.len {l : List BTy} (o : PaT l) : o.r.length = l.length := by have := congrArg List.length o.he; simpa using this
theorem PiT.len {l : List BTy} (o : PiT l) : o.r.length = o.i := by
  have := congrArg List.length o.he
  have h := o.hi
  simp at this
  omega
theorem castE (l : List BTy) : castL (encRec [.sl 1 [.int .u8]]) BE l = l := castL_self _ _ rfl
theorem ofE (x : Value) (l : List Int) : (encRec [.sl 1 [.int .u8]]).of ((x, mkL l), ()) = mkB x l := rfl
theorem pa_step {l r : List BTy} {i : Nat} (he : r.map bl = (l.take i).map bl) (hi : i < l.length) (x : Value) : (r ++ [mkB x (bl l[i])]).map bl = (l.take (i + 1)).map bl := by
  rw [List.map_append, he, List.take_add_one, List.getElem?_eq_getElem hi, List.map_append]
  simp [bl_mk]
theorem encBE_pure (l : List BTy) : ∀ x ∈ l, ∀ s ∈ BE.enc x, s.isPure = true := fun x _ => Enc.pures BE x
theorem cparts_spec (x : Value) {l : List BTy} (h1 : l.length * 24 ≤ 140737488351232) (h2 : ∀ y ∈ l, y.1.2.length ≤ 140737488351232) : SMem Try.prog 70 [bV x l] 0 []
    (fun o : PaT l => ⟨1, .one (.nslc 0 1 o.r.length o.cap), [(0, .row 1 BE o.r o.cap)]⟩) := by
  refine SMem.inm [] SOK.nil [] MSOK.nil tok mixed [] IOK.nil false [(3, ⟨PiT l, fun p => ⟨1, [(0, bV x l), (3, .one (.nslc 0 1 p.r.length p.cap)), (4, int p.i)], [(0, .row 1 BE p.r p.cap)]⟩, fun p => l.length - p.i, fun _ _ => True⟩)] [] Try.call70 Try.func70 rfl (by rfl) ?_
  refine Eq.mp (α := (∃ i0 : PiT l, (And (And True (And (And (SV.view x (1 : Nat) (Enc.enc BE) l = SV.view x (1 : Nat) (Enc.enc BE) l) (And (And ((true : Bool) = true) (And (List.length (PiT.r i0) = (0 : Nat)) (PiT.cap i0 = (0 : Nat)))) (And ((↑(PiT.i i0) : Int) = (0 : Int)) True))) (And (And (And ((true : Bool) = true) (And (PiT.cap i0 = (0 : Nat)) (And (List.map (Enc.enc BE) (PiT.r i0) = List.map (Enc.enc BE) []) (∀ x_1 : RK.TL [RK.sl (1 : Nat) [RK.int IntKind.u8]], (∀ a : x_1 ∈ PiT.r i0, (∀ s : SV, (∀ a_1 : s ∈ Enc.enc BE x_1, ((SV.isPure s : Bool) = (true))))))))) (And ((true : Bool) = true) True)) ((true : Bool) = true)))) (∀ i : PiT l, (∀ a : True, (@Bool.rec (fun _ => Prop) (∃ o : PaT l, (And (And (And ((true : Bool) = true) (And (List.length (PaT.r o) = List.length (PiT.r i)) (PaT.cap o = PiT.cap i))) True) (And (And (And ((true : Bool) = true) (And (PaT.cap o = PiT.cap i) (And (List.map (Enc.enc BE) (PaT.r o) = List.map (Enc.enc BE) (PiT.r i)) (∀ x_1 : RK.TL [RK.sl (1 : Nat) [RK.int IntKind.u8]], (∀ a_1 : x_1 ∈ PaT.r o, (∀ s : SV, (∀ a_2 : s ∈ Enc.enc BE x_1, ((SV.isPure s : Bool) = (true))))))))) (And ((true : Bool) = true) True)) ((true : Bool) = true)))) (And ((0 : Int) ≤ (↑(PiT.i i) : Int)) (∃ hk : Int.toNat (↑(PiT.i i) : Int) < List.length l, (And ((0 : Nat) = (0 : Nat)) (And ((0 : Nat) = (0 : Nat)) (∃ ys : List Int, (And (List.map (Enc.enc (encInt IntKind.u8)) ys = List.map (RK.svs._f [RK.int IntKind.u8] ⟨⟨RK.sv._f (RK.int IntKind.u8) PUnit.unit, PUnit.unit⟩, RK.svs._f [] PUnit.unit, PUnit.unit⟩) (Prod.snd (Prod.fst l[Int.toNat (↑(PiT.i i) : Int)]))) (And (((0 : Nat) + List.length ys) * (1 : Nat) ≤ (150000000000000 : Nat)) (∀ cap2 : Nat, (∀ a_1 : (0 : Nat) + List.length ys ≤ cap2, (And ((0 : Nat) + List.length ([] ++ ys) ≤ List.length ([] ++ ys)) (And (List.length ([] ++ ys) ≤ cap2) (And (∀ y : Int, ((true : Bool) = true)) (∀ x_1 : Value, (∃ l' : List (RK.TL [RK.int IntKind.u8]), (And (List.map (Enc.enc (encInt IntKind.u8)) (List.take (List.length ([] ++ ys)) (List.drop (0 : Nat) ([] ++ ys))) = List.map (RK.svs [RK.int IntKind.u8]) l') (And (List.length (PiT.r i) = List.length (PiT.r i)) (And (PiT.cap i = PiT.cap i) (And ((0 : Nat) + (1 : Nat) ≤ (1 : Nat)) (And ((List.length (PiT.r i) + (1 : Nat)) * (24 : Nat) ≤ (150000000000000 : Nat)) (∀ cap2_1 : Nat, (∀ a_2 : List.length (PiT.r i) + (1 : Nat) ≤ cap2_1, (∃ i' : PiT l, (And (And (List.length l - PiT.i i' < List.length l - PiT.i i) True) (And (And (SV.view x (1 : Nat) (Enc.enc BE) l = SV.view x (1 : Nat) (Enc.enc BE) l) (And (And ((true : Bool) = true) (And (List.length (PiT.r i') = List.length (PiT.r i ++ castL (encRec [RK.sl (1 : Nat) [RK.int IntKind.u8]]) BE (List.take (1 : Nat) (List.drop (0 : Nat) [Enc.of (encRec [RK.sl (1 : Nat) [RK.int IntKind.u8]]) ((x_1, l'), ())])))) (PiT.cap i' = cap2_1))) (And ((↑(PiT.i i') : Int) = IntKind.wrap IntKind.i64 ((↑(PiT.i i) : Int) + (1 : Int))) True))) (And (And (And ((true : Bool) = true) (And (PiT.cap i' = cap2_1) (And (List.map (Enc.enc BE) (PiT.r i') = List.map (Enc.enc BE) (PiT.r i ++ castL (encRec [RK.sl (1 : Nat) [RK.int IntKind.u8]]) BE (List.take (1 : Nat) (List.drop (0 : Nat) [Enc.of (encRec [RK.sl (1 : Nat) [RK.int IntKind.u8]]) ((x_1, l'), ())])))) (∀ x_2 : RK.TL [RK.sl (1 : Nat) [RK.int IntKind.u8]], (∀ a_3 : x_2 ∈ PiT.r i', (∀ s : SV, (∀ a_4 : s ∈ Enc.enc BE x_2, ((SV.isPure s : Bool) = (true))))))))) (And ((true : Bool) = true) True)) ((true : Bool) = true)))))))))))))))))))))))))) (decide ((↑(PiT.i i) : Int) < (↑(List.length l) : Int))))))))) (by kernel_rfl) ?_
  refine ⟨⟨0, [], 0, Nat.zero_le _, Nat.le_refl _, rfl⟩, ?_, ?_⟩
  ·
    repeat' first | exact encBE_pure _ | exact trivial | refine And.intro ?_ ?_ | with_reducible refine bif_dt (by assumption) ?_ | with_reducible refine bif_df (by assumption) ?_ | with_reducible refine bif_dec (fun _ => ?_) (fun _ => ?_) | with_reducible refine bif_not ?_ | with_reducible refine bif_and ?_ | with_reducible refine bif_or ?_ | with_reducible refine bif_t (by assumption) ?_ | with_reducible refine bif_f (by assumption) ?_ | with_reducible refine bif_t (beq_self_eq_true _) ?_ | with_reducible refine bif_b (fun _ => ?_) (fun _ => ?_) | with_reducible refine ⟨_, Eq.refl (List.map _ _), ?_⟩ | (with_reducible refine Exists.intro (by omega) ?_) | rfl | (intro h0; omega) | omega
  rintro ⟨i, r, cap, hi, hc, he⟩ -
  have hlen : r.length = i := (PiT.mk i r cap hi hc he).len
  dsimp only
  refine bif_dec (fun h => ?_) (fun h => ?_)
  · have hi' : i < l.length := by omega
    have hb := h2 _ (List.getElem_mem hi')
    have hbl := bl_length l[i]
    simp only [Int.toNat_natCast, inext2 (show i < 9223372036854775807 by omega)]
    refine ⟨by omega, hi', trivial, trivial, bl l[i], bl_enc _, by omega, fun cap2 k2 => ?_⟩
    rw [List.nil_append, List.drop_zero, List.take_length]
    refine ⟨by omega, by omega, fun _ => trivial, fun x1 => ⟨mkL (bl l[i]), encmk _, trivial, trivial, by omega, by omega, fun cap3 k3 => ?_⟩⟩
    rw [List.drop_zero, List.take_succ_cons, List.take_zero, castE, ofE]
    refine ⟨⟨i + 1, r ++ [mkB x1 (bl l[i])], cap3, hi', by rw [List.length_append]; exact k3, pa_step he hi' x1⟩, ⟨show l.length - (i + 1) < l.length - i by omega, trivial⟩, ?_⟩
    repeat' first | exact encBE_pure _ | exact trivial | refine And.intro ?_ ?_ | with_reducible refine bif_dt (by assumption) ?_ | with_reducible refine bif_df (by assumption) ?_ | with_reducible refine bif_dec (fun _ => ?_) (fun _ => ?_) | with_reducible refine bif_not ?_ | with_reducible refine bif_and ?_ | with_reducible refine bif_or ?_ | with_reducible refine bif_t (by assumption) ?_ | with_reducible refine bif_f (by assumption) ?_ | with_reducible refine bif_t (beq_self_eq_true _) ?_ | with_reducible refine bif_b (fun _ => ?_) (fun _ => ?_) | with_reducible refine ⟨_, Eq.refl (List.map _ _), ?_⟩ | (with_reducible refine Exists.intro (by omega) ?_) | rfl | (intro h0; omega) | omega
  · have hil : i = l.length := by omega
    subst hil
    rw [List.take_length] at he
    refine ⟨⟨r, cap, hc, he⟩, ?_⟩
    repeat' first | exact encBE_pure _ | exact trivial | refine And.intro ?_ ?_ | with_reducible refine bif_dt (by assumption) ?_ | with_reducible refine bif_df (by assumption) ?_ | with_reducible refine bif_dec (fun _ => ?_) (fun _ => ?_) | with_reducible refine bif_not ?_ | with_reducible refine bif_and ?_ | with_reducible refine bif_or ?_ | with_reducible refine bif_t (by assumption) ?_ | with_reducible refine bif_f (by assumption) ?_ | with_reducible refine bif_t (beq_self_eq_true _) ?_ | with_reducible refine bif_b (fun _ => ?_) (fun _ => ?_) | with_reducible refine ⟨_, Eq.refl (List.map _ _), ?_⟩ | (with_reducible refine Exists.intro (by omega) ?_) | rfl | (intro h0; omega) | omega
def cpartsT : MT := fun ms n h K => match ms with
  | [.one (.view vx0 ve0 en0 vl0)] => bif Nat.beq ve0 1 && noDup [] then ∃ l : List (BTy), vl0.map en0 = l.map eBl ∧ ((l.length * 24 ≤ 140737488351232 ∧ ∀ y ∈ l, y.1.2.length ≤ 140737488351232)) ∧ (∀ o : PaT l, K (n + 1) (.one (.nslc n 1 o.r.length o.cap)) ([(n, .row 1 BE o.r o.cap)] ++ delL [] h)) else False
  | _ => False
theorem cparts_mono : MMono cpartsT := by
  intro ms n h K K' hkk hk
  unfold cpartsT at hk ⊢
  split at hk
  · rename_i vx0 ve0 va0 en0 vl0
    obtain ⟨hb, y0, z0, h1, h2⟩ := cond_false_elim hk
    rw [hb]
    exact ⟨y0, z0, h1, fun o => hkk _ _ _ (h2 o)⟩
  · exact hk.elim
theorem cparts_ok : MOK Try.prog 70 cpartsT := by
  refine ⟨?_, cparts_mono⟩
  intro ms n hB K hk
  unfold cpartsT at hk
  split at hk
  · rename_i vx0 ve0 va0 en0 vl0
    obtain ⟨hb, l, he0, h, hk2⟩ := cond_false_elim hk
    clear hk
    simp only [Bool.and_eq_true] at hb
    obtain ⟨hc0, hnd⟩ := hb
    have hs0 := Nat.eq_of_beq_eq_true hc0
    subst hs0
    refine SCall.seen ?_ (.cons (.view he0) .nil)
    exact (cparts_spec _ h.1 h.2).use (fun _ => 0) rfl rfl trivial hnd (fun j hj => absurd hj (Nat.not_lt_zero j)) (fun o => hk2 o)
  · exact hk.elim


theorem flat_bl {l r : List BTy} (h : r.map bl = l.map bl) : r.flatMap fB = l.flatMap fB := by
  have e : ∀ q : List BTy, q.flatMap fB = (q.map bl).flatMap blb := by
    intro q
    induction q with
    | nil => rfl
    | cons y r ih => rw [List.map_cons, List.flatMap_cons, List.flatMap_cons, ih, fB_blb]
  rw [e, e, h]
theorem len_bl {l r : List BTy} {k : Nat} (h : r.map bl = l.map bl) (hl : ∀ y ∈ l, y.1.2.length ≤ k) : ∀ y ∈ r, y.1.2.length ≤ k := by
  intro y hy
  have h1 : bl y ∈ l.map bl := h ▸ List.mem_map.2 ⟨y, hy, rfl⟩
  obtain ⟨z, h2, h3⟩ := List.mem_map.1 h1
  have h4 := hl z h2
  rw [← bl_length, ← h3, bl_length]
  exact h4
theorem put_spec (a b c d : Value) {q : List Int} {x : It} (hx : ItOk x) {len cap cap' : Nat} (h1 : len = q.length) (h2 : cap = cap') (h3 : q.length ≤ 65536) (h4 : q.length ≤ cap') :
    SMem Try.prog 44 [.one (.ptr 0 0), .agg (itC a b c d x)] 2 [(0, .cells [.nslc 1 1 len cap, .v (.bool true), .v (.int .i64 0)]), (1, .row 1 (encInt .u8) q cap')]
    (fun o : CapT (putL q (itW x)).length => ⟨3, int (putE q (itW x)), [(0, .cells [.nslc 2 1 (putL q (itW x)).length o.cap, .v (.bool true), .v (.int .i64 0)]), (2, .row 1 (encInt .u8) (putL q (itW x)) o.cap)]⟩) := by
  subst h1
  subst h2
  refine SMem.inm [] SOK.nil [(67, uintwT), (68, widewT), (69, hashwT), (41, blobwT), (70, cpartsT)] (MSOK.cons uintw_ok (MSOK.cons widew_ok (MSOK.cons hashw_ok (MSOK.cons blobw_ok (MSOK.cons cparts_ok MSOK.nil))))) tok mixed [] IOK.nil false [] [] Try.call44 Try.func44 rfl (by rfl) ?_
  refine Eq.mp (α := (@Bool.rec (fun _ => Prop) (@Bool.rec (fun _ => Prop) (@Bool.rec (fun _ => Prop) (∃ l : List BTy, (And (List.map eBl (It.b x) = List.map eBl l) (And (And (List.length l * (24 : Nat) ≤ (140737488351232 : Nat)) (∀ y : BTy, (∀ a_1 : y ∈ l, (List.length (Prod.snd (Prod.fst y)) ≤ (140737488351232 : Nat))))) (∀ o : PaT l, (And (List.length (PaT.r o) ≤ List.length (PaT.r o)) (And (List.length (PaT.r o) ≤ PaT.cap o) (And (PaT.cap o = PaT.cap o) (And (∀ y : RK.TL [RK.sl (1 : Nat) [RK.int IntKind.u8]], ((true : Bool) = true)) (∀ x_1 : Value, (∃ l_1 : List BTy, (And (List.map (Enc.enc BE) (List.take (List.length (PaT.r o)) (PaT.r o)) = List.map eBl l_1) (∃ b_1 : List Int, (And (List.map (Enc.enc (encInt IntKind.u8)) q = List.map (Enc.enc (encInt IntKind.u8)) b_1) (And (And (List.length q = List.length b_1) (And (cap = cap) (And (List.length b_1 ≤ (65536 : Nat)) (And (List.length b_1 ≤ cap) (∀ y : BTy, (∀ a_1 : y ∈ l_1, (List.length (Prod.snd (Prod.fst y)) ≤ (140737488351232 : Nat)))))))) (∀ c_1 : CapT (List.length (putL b_1 (List.flatMap fB l_1))), (∃ o_1 : CapT (List.length (putL q (itW x))), (And (And (putE q (itW x) = putE b_1 (List.flatMap fB l_1)) True) (And (And (And (And ((true : Bool) = true) (And (List.length (putL q (itW x)) = List.length (putL b_1 (List.flatMap fB l_1))) (CapT.cap o_1 = CapT.cap c_1))) (And ((true : Bool) = true) (And ((0 : Int) = (0 : Int)) True))) (And ((true : Bool) = true) (And (And ((true : Bool) = true) (And (CapT.cap o_1 = CapT.cap c_1) (And (List.map (Enc.enc (encInt IntKind.u8)) (putL q (itW x)) = List.map (Enc.enc (encInt IntKind.u8)) (putL b_1 (List.flatMap fB l_1))) (∀ x_2 : Int, (∀ a_1 : x_2 ∈ putL q (itW x), (∀ s : SV, (∀ a_2 : s ∈ Enc.enc (encInt IntKind.u8) x_2, ((SV.isPure s : Bool) = (true))))))))) (And ((true : Bool) = true) True)))) ((true : Bool) = true))))))))))))))))))) (And ((0 : Nat) = (0 : Nat)) (And ((0 : Nat) = (0 : Nat)) (∃ ys : List (List Int), (And (List.map (Enc.enc (encInts IntKind.u8 (32 : Nat))) ys = List.map eH (It.h x)) (And (((0 : Nat) + List.length ys) * (32 : Nat) ≤ (150000000000000 : Nat)) (∀ cap2 : Nat, (∀ a_1 : (0 : Nat) + List.length ys ≤ cap2, (And ((0 : Nat) + List.length ([] ++ ys) ≤ List.length ([] ++ ys)) (And (List.length ([] ++ ys) ≤ cap2) (And (∀ y : List Int, ((true : Bool) = true)) (∀ x_1 : Value, (∃ l : List (List Int), (And (List.map (Enc.enc (encInts IntKind.u8 (32 : Nat))) (List.take (List.length ([] ++ ys)) (List.drop (0 : Nat) ([] ++ ys))) = List.map eH l) (∃ b_1 : List Int, (And (List.map (Enc.enc (encInt IntKind.u8)) q = List.map (Enc.enc (encInt IntKind.u8)) b_1) (And (And (List.length q = List.length b_1) (And (cap = cap) (And (List.length b_1 ≤ (65536 : Nat)) (And (List.length b_1 ≤ cap) (And (List.length l * (32 : Nat) ≤ (140737488351232 : Nat)) (∀ a_2 : List Int, (∀ a_3 : a_2 ∈ l, (List.length a_2 = (32 : Nat))))))))) (∀ c_1 : CapT (List.length (putL b_1 (List.flatMap fH l))), (∃ o : CapT (List.length (putL q (itW x))), (And (And (putE q (itW x) = putE b_1 (List.flatMap fH l)) True) (And (And (And (And ((true : Bool) = true) (And (List.length (putL q (itW x)) = List.length (putL b_1 (List.flatMap fH l))) (CapT.cap o = CapT.cap c_1))) (And ((true : Bool) = true) (And ((0 : Int) = (0 : Int)) True))) (And ((true : Bool) = true) (And (And ((true : Bool) = true) (And (CapT.cap o = CapT.cap c_1) (And (List.map (Enc.enc (encInt IntKind.u8)) (putL q (itW x)) = List.map (Enc.enc (encInt IntKind.u8)) (putL b_1 (List.flatMap fH l))) (∀ x_2 : Int, (∀ a_2 : x_2 ∈ putL q (itW x), (∀ s : SV, (∀ a_3 : s ∈ Enc.enc (encInt IntKind.u8) x_2, ((SV.isPure s : Bool) = (true))))))))) (And ((true : Bool) = true) True)))) ((true : Bool) = true))))))))))))))))))))) (It.k x == (2 : Int))) (And ((0 : Nat) = (0 : Nat)) (And ((0 : Nat) = (0 : Nat)) (∃ ys : List (List Int), (And (List.map (Enc.enc (encInts IntKind.u64 (4 : Nat))) ys = List.map eW (It.w x)) (And (((0 : Nat) + List.length ys) * (32 : Nat) ≤ (150000000000000 : Nat)) (∀ cap2 : Nat, (∀ a_1 : (0 : Nat) + List.length ys ≤ cap2, (And ((0 : Nat) + List.length ([] ++ ys) ≤ List.length ([] ++ ys)) (And (List.length ([] ++ ys) ≤ cap2) (And (∀ y : List Int, ((true : Bool) = true)) (∀ x_1 : Value, (∃ l : List (List Int), (And (List.map (Enc.enc (encInts IntKind.u64 (4 : Nat))) (List.take (List.length ([] ++ ys)) (List.drop (0 : Nat) ([] ++ ys))) = List.map eW l) (∃ b_1 : List Int, (And (List.map (Enc.enc (encInt IntKind.u8)) q = List.map (Enc.enc (encInt IntKind.u8)) b_1) (And (And (List.length q = List.length b_1) (And (cap = cap) (And (List.length b_1 ≤ (65536 : Nat)) (And (List.length b_1 ≤ cap) (And (List.length l * (32 : Nat) ≤ (140737488351232 : Nat)) (∀ a_2 : List Int, (∀ a_3 : a_2 ∈ l, (And (List.length a_2 = (4 : Nat)) (∀ x_2 : Int, (∀ a_4 : x_2 ∈ a_2, (And ((0 : Int) ≤ x_2) (x_2 < (↑N64 : Int))))))))))))) (∀ c_1 : CapT (List.length (putL b_1 (List.flatMap fW l))), (∃ o : CapT (List.length (putL q (itW x))), (And (And (putE q (itW x) = putE b_1 (List.flatMap fW l)) True) (And (And (And (And ((true : Bool) = true) (And (List.length (putL q (itW x)) = List.length (putL b_1 (List.flatMap fW l))) (CapT.cap o = CapT.cap c_1))) (And ((true : Bool) = true) (And ((0 : Int) = (0 : Int)) True))) (And ((true : Bool) = true) (And (And ((true : Bool) = true) (And (CapT.cap o = CapT.cap c_1) (And (List.map (Enc.enc (encInt IntKind.u8)) (putL q (itW x)) = List.map (Enc.enc (encInt IntKind.u8)) (putL b_1 (List.flatMap fW l))) (∀ x_2 : Int, (∀ a_2 : x_2 ∈ putL q (itW x), (∀ s : SV, (∀ a_3 : s ∈ Enc.enc (encInt IntKind.u8) x_2, ((SV.isPure s : Bool) = (true))))))))) (And ((true : Bool) = true) True)))) ((true : Bool) = true))))))))))))))))))))) (It.k x == (1 : Int))) (And ((0 : Nat) = (0 : Nat)) (And ((0 : Nat) = (0 : Nat)) (∃ ys : List Int, (And (List.map (Enc.enc (encInt IntKind.u64)) ys = List.map eU (It.u x)) (And (((0 : Nat) + List.length ys) * (8 : Nat) ≤ (150000000000000 : Nat)) (∀ cap2 : Nat, (∀ a_1 : (0 : Nat) + List.length ys ≤ cap2, (And ((0 : Nat) + List.length ([] ++ ys) ≤ List.length ([] ++ ys)) (And (List.length ([] ++ ys) ≤ cap2) (And (∀ y : Int, ((true : Bool) = true)) (∀ x_1 : Value, (∃ l : List Int, (And (List.map (Enc.enc (encInt IntKind.u64)) (List.take (List.length ([] ++ ys)) (List.drop (0 : Nat) ([] ++ ys))) = List.map eU l) (∃ b_1 : List Int, (And (List.map (Enc.enc (encInt IntKind.u8)) q = List.map (Enc.enc (encInt IntKind.u8)) b_1) (And (And (List.length q = List.length b_1) (And (cap = cap) (And (List.length b_1 ≤ (65536 : Nat)) (And (List.length b_1 ≤ cap) (List.length l * (8 : Nat) ≤ (140737488351232 : Nat)))))) (∀ c_1 : CapT (List.length (putL b_1 (List.flatMap be8 l))), (∃ o : CapT (List.length (putL q (itW x))), (And (And (putE q (itW x) = putE b_1 (List.flatMap be8 l)) True) (And (And (And (And ((true : Bool) = true) (And (List.length (putL q (itW x)) = List.length (putL b_1 (List.flatMap be8 l))) (CapT.cap o = CapT.cap c_1))) (And ((true : Bool) = true) (And ((0 : Int) = (0 : Int)) True))) (And ((true : Bool) = true) (And (And ((true : Bool) = true) (And (CapT.cap o = CapT.cap c_1) (And (List.map (Enc.enc (encInt IntKind.u8)) (putL q (itW x)) = List.map (Enc.enc (encInt IntKind.u8)) (putL b_1 (List.flatMap be8 l))) (∀ x_2 : Int, (∀ a_2 : x_2 ∈ putL q (itW x), (∀ s : SV, (∀ a_3 : s ∈ Enc.enc (encInt IntKind.u8) x_2, ((SV.isPure s : Bool) = (true))))))))) (And ((true : Bool) = true) True)))) ((true : Bool) = true))))))))))))))))))))) (It.k x == (0 : Int)))) (by kernel_rfl) ?_
  have hu := hx.u
  have hw := hx.w
  have hh := hx.h
  have hb := hx.b
  rw [show (x.k == 0) = decide (x.k = 0) from rfl, show (x.k == 1) = decide (x.k = 1) from rfl, show (x.k == 2) = decide (x.k = 2) from rfl]
  refine bif_dec (fun e0 => ?_) (fun e0 => ?_)
  · have hW : itW x = x.u.flatMap be8 := by unfold itW; rw [decide_eq_true e0]; rfl
    rw [hW]
    refine ⟨rfl, rfl, x.u, rfl, by omega, fun cap2 k2 => ?_⟩
    rw [List.nil_append, List.drop_zero, List.take_length]
    refine ⟨by omega, by omega, fun _ => rfl, fun x1 => ⟨x.u, rfl, q, rfl, ⟨rfl, rfl, h3, h4, hu⟩, fun o => ⟨o, ?_⟩⟩⟩
    repeat' first | exact encB_pure _ | exact trivial | refine And.intro ?_ ?_ | with_reducible refine bif_dt (by assumption) ?_ | with_reducible refine bif_df (by assumption) ?_ | with_reducible refine bif_dec (fun _ => ?_) (fun _ => ?_) | with_reducible refine bif_not ?_ | with_reducible refine bif_and ?_ | with_reducible refine bif_or ?_ | with_reducible refine bif_t (by assumption) ?_ | with_reducible refine bif_f (by assumption) ?_ | with_reducible refine bif_t (beq_self_eq_true _) ?_ | with_reducible refine bif_b (fun _ => ?_) (fun _ => ?_) | with_reducible refine ⟨_, Eq.refl (List.map _ _), ?_⟩ | (with_reducible refine Exists.intro (by omega) ?_) | rfl | (intro h0; omega) | omega
  refine bif_dec (fun e1 => ?_) (fun e1 => ?_)
  · have hW : itW x = x.w.flatMap fW := by unfold itW; rw [decide_eq_false e0, decide_eq_true e1]; rfl
    rw [hW]
    refine ⟨rfl, rfl, x.w, rfl, by omega, fun cap2 k2 => ?_⟩
    rw [List.nil_append, List.drop_zero, List.take_length]
    refine ⟨by omega, by omega, fun _ => rfl, fun x1 => ⟨x.w, rfl, q, rfl, ⟨rfl, rfl, h3, h4, hw, hx.wd⟩, fun o => ⟨o, ?_⟩⟩⟩
    repeat' first | exact encB_pure _ | exact trivial | refine And.intro ?_ ?_ | with_reducible refine bif_dt (by assumption) ?_ | with_reducible refine bif_df (by assumption) ?_ | with_reducible refine bif_dec (fun _ => ?_) (fun _ => ?_) | with_reducible refine bif_not ?_ | with_reducible refine bif_and ?_ | with_reducible refine bif_or ?_ | with_reducible refine bif_t (by assumption) ?_ | with_reducible refine bif_f (by assumption) ?_ | with_reducible refine bif_t (beq_self_eq_true _) ?_ | with_reducible refine bif_b (fun _ => ?_) (fun _ => ?_) | with_reducible refine ⟨_, Eq.refl (List.map _ _), ?_⟩ | (with_reducible refine Exists.intro (by omega) ?_) | rfl | (intro h0; omega) | omega
  refine bif_dec (fun e2 => ?_) (fun e2 => ?_)
  · have hW : itW x = x.h.flatMap fH := by unfold itW; rw [decide_eq_false e0, decide_eq_false e1, decide_eq_true e2]; rfl
    rw [hW]
    refine ⟨rfl, rfl, x.h, rfl, by omega, fun cap2 k2 => ?_⟩
    rw [List.nil_append, List.drop_zero, List.take_length]
    refine ⟨by omega, by omega, fun _ => rfl, fun x1 => ⟨x.h, rfl, q, rfl, ⟨rfl, rfl, h3, h4, hh, hx.hl⟩, fun o => ⟨o, ?_⟩⟩⟩
    repeat' first | exact encB_pure _ | exact trivial | refine And.intro ?_ ?_ | with_reducible refine bif_dt (by assumption) ?_ | with_reducible refine bif_df (by assumption) ?_ | with_reducible refine bif_dec (fun _ => ?_) (fun _ => ?_) | with_reducible refine bif_not ?_ | with_reducible refine bif_and ?_ | with_reducible refine bif_or ?_ | with_reducible refine bif_t (by assumption) ?_ | with_reducible refine bif_f (by assumption) ?_ | with_reducible refine bif_t (beq_self_eq_true _) ?_ | with_reducible refine bif_b (fun _ => ?_) (fun _ => ?_) | with_reducible refine ⟨_, Eq.refl (List.map _ _), ?_⟩ | (with_reducible refine Exists.intro (by omega) ?_) | rfl | (intro h0; omega) | omega
  · have hW : itW x = x.b.flatMap fB := by unfold itW; rw [decide_eq_false e0, decide_eq_false e1, decide_eq_false e2]; rfl
    refine ⟨x.b, rfl, ⟨hb, hx.bl⟩, ?_⟩
    rintro ⟨r, cap2, hc, he⟩
    rw [hW, ← flat_bl he]
    dsimp only
    rw [List.take_length]
    refine ⟨by omega, hc, rfl, fun _ => rfl, fun x1 => ⟨r, rfl, q, rfl, ⟨rfl, rfl, h3, h4, len_bl he hx.bl⟩, fun o => ⟨o, ?_⟩⟩⟩
    repeat' first | exact encB_pure _ | exact trivial | refine And.intro ?_ ?_ | with_reducible refine bif_dt (by assumption) ?_ | with_reducible refine bif_df (by assumption) ?_ | with_reducible refine bif_dec (fun _ => ?_) (fun _ => ?_) | with_reducible refine bif_not ?_ | with_reducible refine bif_and ?_ | with_reducible refine bif_or ?_ | with_reducible refine bif_t (by assumption) ?_ | with_reducible refine bif_f (by assumption) ?_ | with_reducible refine bif_t (beq_self_eq_true _) ?_ | with_reducible refine bif_b (fun _ => ?_) (fun _ => ?_) | with_reducible refine ⟨_, Eq.refl (List.map _ _), ?_⟩ | (with_reducible refine Exists.intro (by omega) ?_) | rfl | (intro h0; omega) | omega
def putT : MT := fun ms n h K => match ms with
  | [.one (.ptr P0 0), .agg [.v (.int .i64 k), .view vx0 ve0 en0 vl0, .view vx1 ve1 en1 vl1, .view vx2 ve2 en2 vl2, .view vx3 ve3 en3 vl3]] => (match get h P0 with
    | some (.cells [.nslc P1 1 len cap, .v (.bool true), .v (.int .i64 0)]) => (match get h P1 with
    | some (.row we1 wn1 wl1 cap2) => bif Nat.beq ve0 1 && Nat.beq ve1 4 && Nat.beq ve2 32 && Nat.beq ve3 1 && Nat.beq we1 1 && noDup [P0, P1] then ∃ u : List (Int), vl0.map en0 = u.map eU ∧ ∃ v : List (List Int), vl1.map en1 = v.map eW ∧ ∃ w : List (List Int), vl2.map en2 = w.map eH ∧ ∃ z : List (BTy), vl3.map en3 = z.map eBl ∧ ∃ q : List (Int), wl1.map wn1.enc = q.map ((encInt .u8)).enc ∧ ((ItOk ⟨k, u, v, w, z⟩ ∧ len = q.length ∧ cap = cap2 ∧ q.length ≤ 65536 ∧ q.length ≤ cap2)) ∧ (∀ o : CapT (putL q (itW ⟨k, u, v, w, z⟩)).length, K (n + 1) (int (putE q (itW ⟨k, u, v, w, z⟩))) ([(P0, .cells [.nslc n 1 (putL q (itW ⟨k, u, v, w, z⟩)).length o.cap, .v (.bool true), .v (.int .i64 0)]), (n, .row 1 (encInt .u8) (putL q (itW ⟨k, u, v, w, z⟩)) o.cap)] ++ delL [P0, P1] h)) else False
    | _ => False)
    | _ => False)
  | _ => False
theorem put_mono : MMono putT := by
  intro ms n h K K' hkk hk
  unfold putT at hk ⊢
  split at hk
  · rename_i P0 k vx0 ve0 va0 en0 vl0 vx1 ve1 va1 en1 vl1 vx2 ve2 va2 en2 vl2 vx3 ve3 va3 en3 vl3
    split at hk
    · rename_i P1 len cap hg0
      try simp only [hg0]
      split at hk
      · rename_i we1 wa1 wn1 wl1 cap2 hg1
        try simp only [hg1]
        obtain ⟨hb, y0, z0, y1, z1, y2, z2, y3, z3, y4, z4, h1, h2⟩ := cond_false_elim hk
        rw [hb]
        exact ⟨y0, z0, y1, z1, y2, z2, y3, z3, y4, z4, h1, fun o => hkk _ _ _ (h2 o)⟩
      · exact hk.elim
    · exact hk.elim
  · exact hk.elim
theorem put_ok : MOK Try.prog 44 putT := by
  refine ⟨?_, put_mono⟩
  intro ms n hB K hk
  unfold putT at hk
  split at hk
  · rename_i P0 k vx0 ve0 va0 en0 vl0 vx1 ve1 va1 en1 vl1 vx2 ve2 va2 en2 vl2 vx3 ve3 va3 en3 vl3
    split at hk
    · rename_i P1 len cap hg0
      split at hk
      · rename_i we1 wa1 wn1 wl1 cap2 hg1
        obtain ⟨hb, u, he0, v, he1, w, he2, z, he3, q, hl1, h, hk2⟩ := cond_false_elim hk
        clear hk
        simp only [Bool.and_eq_true] at hb
        obtain ⟨⟨⟨⟨⟨hc0, hc1⟩, hc2⟩, hc3⟩, hc4⟩, hnd⟩ := hb
        have hs0 := Nat.eq_of_beq_eq_true hc0
        subst hs0
        have hs1 := Nat.eq_of_beq_eq_true hc1
        subst hs1
        have hs2 := Nat.eq_of_beq_eq_true hc2
        subst hs2
        have hs3 := Nat.eq_of_beq_eq_true hc3
        subst hs3
        have hs4 := Nat.eq_of_beq_eq_true hc4
        subst hs4
        refine SCall.seen ?_ (.cons (.refl _) (.cons (.agg (.refl (.view he0 (.view he1 (.view he2 (.view he3 .nil)))))) .nil))
        exact (put_spec vx0 vx1 vx2 vx3 h.1 h.2.1 h.2.2.1 h.2.2.2.1 h.2.2.2.2).use (fun j => match j with | 0 => P0 | 1 => P1 | _ => 0) rfl rfl ⟨by show (match get hB P0 with | some b0 => Blk.imp _ _ _ b0 | none => False); rw [hg0]; exact ⟨rfl, rfl⟩, rfl, ⟨by show (match get hB P1 with | some b0 => Blk.imp _ _ _ b0 | none => False); rw [hg1]; exact ⟨rfl, rfl, hl1.symm, fun y _ => Enc.pures _ y⟩, rfl, trivial⟩⟩ hnd (fun j hj => by cases j with
            | zero => exact ⟨_, rfl⟩
            | succ j => cases j with
             | zero => exact ⟨_, rfl⟩
             | succ j => omega) (fun o => hk2 o)
      · exact hk.elim
    · exact hk.elim
  · exact hk.elim

end Go.Proofs.Ytjdlefkpoggocaa
