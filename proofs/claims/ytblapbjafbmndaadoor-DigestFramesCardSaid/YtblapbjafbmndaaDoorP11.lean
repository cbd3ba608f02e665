/- The law DigestFrames. -/
import Derived.Test.YtblapbjafbmndaaDoorP10
import Derived.Test.YtblapbjafbmndaaDoorSx24
namespace Go.Proofs.YtblapbjafbmndaaDoor
open Go Go.Sx Go.Sha
set_option linter.unusedVariables false
set_option linter.unusedSimpArgs false
set_option maxRecDepth 100000
set_option maxHeartbeats 4000000

/-- The sum that the law adds up. -/
def tot (l : List BTy) : Nat := (l.map fun y => min (bl y).length 30000).sum
theorem tot_snoc (l : List BTy) (y : BTy) : tot (l ++ [y]) = tot l + min (bl y).length 30000 := by
  simp [tot]
theorem tot_take {l : List BTy} {i : Nat} (h : i < l.length) : tot (l.take (i + 1)) = tot (l.take i) + min (bl l[i]).length 30000 := by
  rw [List.take_add_one, List.getElem?_eq_getElem h]
  exact tot_snoc _ _
theorem tot_mem : ∀ {l : List BTy} {y : BTy}, y ∈ l → min (bl y).length 30000 ≤ tot l
  | z :: r, y, h => by
    have e : tot (z :: r) = min (bl z).length 30000 + tot r := rfl
    rcases List.mem_cons.1 h with rfl | h
    · omega
    · have := tot_mem h
      omega
theorem tot_flat : ∀ {l : List BTy}, tot l ≤ 20000 → (l.flatMap fB).length = 8 * l.length + tot l
  | [], _ => rfl
  | z :: r, h => by
    have e : tot (z :: r) = min (bl z).length 30000 + tot r := rfl
    rw [List.flatMap_cons, List.length_append, List.length_cons, tot_flat (l := r) (by omega), show (fB z).length = 8 + (bl z).length by unfold fB; rw [blb_length]]
    omega
structure ToT (l : List BTy) where
  i : Nat
  hi : i ≤ l.length
  ht : tot (l.take i) ≤ 50000
theorem frames_spec (x : Value) (t : ByteArray) {l : List BTy} {a b : List Int} (ha : a.length = 32) (hb : b.length = 32) (hA : By a) (hB : By b) (hl : l.length ≤ 9223372036854775807) (hY : ∀ y ∈ l, By (bl y)) :
    SFun Tryd.prog 6 [str t, bV x l, h32 a, h32 b] (bool true) := by
  refine SFun.inm [(24, taggedT), (25, rtaggedT), (26, pairT), (27, rpairT), (15, knowsT)] (SOK.cons tagged_ok (SOK.cons rtagged_ok (SOK.cons pair_ok (SOK.cons rpair_ok (SOK.cons knows_ok SOK.nil))))) [(21, frameT), (23, rframeT), (22, partsT)] (MSOK.cons frame_ok (MSOK.cons rframe_ok (MSOK.cons parts_ok MSOK.nil))) tok mixed [] IOK.nil true [(3, ⟨ToT l, fun p => ⟨2, [(0, str t), (1, bV x l), (6, .one (.ptr 0 0)), (7, .one (.ptr 1 0)), (8, bool false), (9, int (tot (l.take p.i))), (10, int p.i)], [(0, .cells [.ints .u8 32 a]), (1, .cells [.ints .u8 32 b])]⟩, fun p => l.length - p.i, fun _ _ => True⟩)] [] Tryd.call6 Tryd.func6 rfl (by rfl) ?_
  refine Eq.mp (α := (∃ i0 : ToT l, (And (And True (And (And (t = t) (And (SV.view x (1 : Nat) (Enc.enc BE) l = SV.view x (1 : Nat) (Enc.enc BE) l) (And (And ((true : Bool) = true) ((0 : Nat) = (0 : Nat))) (And (And ((true : Bool) = true) ((0 : Nat) = (0 : Nat))) (And ((false : Bool) = false) (And ((↑(tot (List.take (ToT.i i0) l)) : Int) = (0 : Int)) (And ((↑(ToT.i i0) : Int) = (0 : Int)) True))))))) (And (And (And (a = a) True) (And ((true : Bool) = true) (And (And (b = b) True) (And ((true : Bool) = true) True)))) ((true : Bool) = true)))) (∀ i : ToT l, (∀ a_1 : True, (@Bool.rec (fun _ => Prop) (@Bool.rec (fun _ => Prop) (@Bool.rec (fun _ => Prop) (@Bool.rec (fun _ => Prop) (∃ l_1 : List BTy, (And (List.map (Enc.enc BE) l = List.map eBl l_1) (And (And (List.length l_1 * (24 : Nat) ≤ (140737488351232 : Nat)) (∀ y : BTy, (∀ a_2 : y ∈ l_1, (List.length (Prod.snd (Prod.fst y)) ≤ (140737488351232 : Nat))))) (∀ o : PaT l_1, (And (∃ l_2 : List BTy, (And (List.map (Enc.enc BE) (PaT.r o) = List.map eBl l_2) (And (And (List.length (List.flatMap fB l_2) ≤ (140000000000000 : Nat)) (ByteArray.size t ≤ (140737488351232 : Nat))) (∀ y : Value, (And (∀ x_1 : Int, (∀ a_2 : x_1 ∈ frm t l_2, (∃ b_1 : Int, (Enc.enc (encInt IntKind.u8) x_1 = [SV.v (Value.int IntKind.u8 b_1)])))) (And (∃ l_3 : List BTy, (And (List.map (Enc.enc BE) l = List.map eBl l_3) (And (And (List.length (List.flatMap fB l_3) ≤ (140000000000000 : Nat)) (ByteArray.size t ≤ (140737488351232 : Nat))) (∀ y_1 : Value, (And (∀ x_1 : Int, (∀ a_2 : x_1 ∈ frm t l_3, (∃ b_1 : Int, (Enc.enc (encInt IntKind.u8) x_1 = [SV.v (Value.int IntKind.u8 b_1)])))) (@Bool.rec (fun _ => Prop) (And (M.one (SV.v (Value.bool false)) = M.one (SV.v (Value.bool true))) ((true : Bool) = true)) (∃ l_4 : List BTy, (And (List.map (Enc.enc BE) (PaT.r o) = List.map eBl l_4) (And (And (List.length (List.flatMap fB l_4) ≤ (140000000000000 : Nat)) (And (ByteArray.size t ≤ (140737488351232 : Nat)) (∀ y_2 : BTy, (∀ a_2 : y_2 ∈ l_4, (∀ x_1 : Int, (∀ a_3 : x_1 ∈ bl y_2, (And ((0 : Int) ≤ x_1) (x_1 < (256 : Int))))))))) (∃ l_5 : List BTy, (And (List.map (Enc.enc BE) l = List.map eBl l_5) (And (And (List.length (List.flatMap fB l_5) ≤ (140000000000000 : Nat)) (And (ByteArray.size t ≤ (140737488351232 : Nat)) (∀ y_2 : BTy, (∀ a_2 : y_2 ∈ l_5, (∀ x_1 : Int, (∀ a_3 : x_1 ∈ bl y_2, (And ((0 : Int) ≤ x_1) (x_1 < (256 : Int))))))))) (@Bool.rec (fun _ => Prop) (And (M.one (SV.v (Value.bool false)) = M.one (SV.v (Value.bool true))) ((true : Bool) = true)) (And (And (List.length a = (32 : Nat)) (And (List.length b = (32 : Nat)) (And (∀ x_1 : Int, (∀ a_2 : x_1 ∈ a, (And ((0 : Int) ≤ x_1) (x_1 < (256 : Int))))) (∀ x_1 : Int, (∀ a_2 : x_1 ∈ b, (And ((0 : Int) ≤ x_1) (x_1 < (256 : Int)))))))) (And (And (List.length a = (32 : Nat)) (And (List.length b = (32 : Nat)) (And (∀ x_1 : Int, (∀ a_2 : x_1 ∈ a, (And ((0 : Int) ≤ x_1) (x_1 < (256 : Int))))) (∀ x_1 : Int, (∀ a_2 : x_1 ∈ b, (And ((0 : Int) ≤ x_1) (x_1 < (256 : Int)))))))) (@Bool.rec (fun _ => Prop) (And (M.one (SV.v (Value.bool false)) = M.one (SV.v (Value.bool true))) ((true : Bool) = true)) (And (M.one (SV.v (Value.bool true)) = M.one (SV.v (Value.bool true))) ((true : Bool) = true)) (shaF (pairF a b) == shaF (pairF a b))))) (shaF (frm t l_4) == shaF (frm t l_5))))))))) (ByteArray.toList (strOfNums (bytesOf (Enc.enc (encInt IntKind.u8)) (frm t l_2))) == ByteArray.toList (strOfNums (bytesOf (Enc.enc (encInt IntKind.u8)) (frm t l_3)))))))))) True)))))) True))))) (And (M.one (SV.v (Value.bool true)) = M.one (SV.v (Value.bool true))) ((true : Bool) = true)) (decide ((1000 : Int) < (↑(List.length l) : Int)))) (And (M.one (SV.v (Value.bool true)) = M.one (SV.v (Value.bool true))) ((true : Bool) = true)) (decide ((1000 : Int) < (↑(ByteArray.size t) : Int)))) (And (M.one (SV.v (Value.bool true)) = M.one (SV.v (Value.bool true))) ((true : Bool) = true)) (decide ((20000 : Int) < (↑(tot (List.take (ToT.i i) l)) : Int)))) (@Bool.rec (fun _ => Prop) (@Bool.rec (fun _ => Prop) (@Bool.rec (fun _ => Prop) (@Bool.rec (fun _ => Prop) (∃ l_1 : List BTy, (And (List.map (Enc.enc BE) l = List.map eBl l_1) (And (And (List.length l_1 * (24 : Nat) ≤ (140737488351232 : Nat)) (∀ y : BTy, (∀ a_2 : y ∈ l_1, (List.length (Prod.snd (Prod.fst y)) ≤ (140737488351232 : Nat))))) (∀ o : PaT l_1, (And (∃ l_2 : List BTy, (And (List.map (Enc.enc BE) (PaT.r o) = List.map eBl l_2) (And (And (List.length (List.flatMap fB l_2) ≤ (140000000000000 : Nat)) (ByteArray.size t ≤ (140737488351232 : Nat))) (∀ y : Value, (And (∀ x_1 : Int, (∀ a_2 : x_1 ∈ frm t l_2, (∃ b_1 : Int, (Enc.enc (encInt IntKind.u8) x_1 = [SV.v (Value.int IntKind.u8 b_1)])))) (And (∃ l_3 : List BTy, (And (List.map (Enc.enc BE) l = List.map eBl l_3) (And (And (List.length (List.flatMap fB l_3) ≤ (140000000000000 : Nat)) (ByteArray.size t ≤ (140737488351232 : Nat))) (∀ y_1 : Value, (And (∀ x_1 : Int, (∀ a_2 : x_1 ∈ frm t l_3, (∃ b_1 : Int, (Enc.enc (encInt IntKind.u8) x_1 = [SV.v (Value.int IntKind.u8 b_1)])))) (@Bool.rec (fun _ => Prop) (And (M.one (SV.v (Value.bool false)) = M.one (SV.v (Value.bool true))) ((true : Bool) = true)) (∃ l_4 : List BTy, (And (List.map (Enc.enc BE) (PaT.r o) = List.map eBl l_4) (And (And (List.length (List.flatMap fB l_4) ≤ (140000000000000 : Nat)) (And (ByteArray.size t ≤ (140737488351232 : Nat)) (∀ y_2 : BTy, (∀ a_2 : y_2 ∈ l_4, (∀ x_1 : Int, (∀ a_3 : x_1 ∈ bl y_2, (And ((0 : Int) ≤ x_1) (x_1 < (256 : Int))))))))) (∃ l_5 : List BTy, (And (List.map (Enc.enc BE) l = List.map eBl l_5) (And (And (List.length (List.flatMap fB l_5) ≤ (140000000000000 : Nat)) (And (ByteArray.size t ≤ (140737488351232 : Nat)) (∀ y_2 : BTy, (∀ a_2 : y_2 ∈ l_5, (∀ x_1 : Int, (∀ a_3 : x_1 ∈ bl y_2, (And ((0 : Int) ≤ x_1) (x_1 < (256 : Int))))))))) (@Bool.rec (fun _ => Prop) (And (M.one (SV.v (Value.bool false)) = M.one (SV.v (Value.bool true))) ((true : Bool) = true)) (And (And (List.length a = (32 : Nat)) (And (List.length b = (32 : Nat)) (And (∀ x_1 : Int, (∀ a_2 : x_1 ∈ a, (And ((0 : Int) ≤ x_1) (x_1 < (256 : Int))))) (∀ x_1 : Int, (∀ a_2 : x_1 ∈ b, (And ((0 : Int) ≤ x_1) (x_1 < (256 : Int)))))))) (And (And (List.length a = (32 : Nat)) (And (List.length b = (32 : Nat)) (And (∀ x_1 : Int, (∀ a_2 : x_1 ∈ a, (And ((0 : Int) ≤ x_1) (x_1 < (256 : Int))))) (∀ x_1 : Int, (∀ a_2 : x_1 ∈ b, (And ((0 : Int) ≤ x_1) (x_1 < (256 : Int)))))))) (@Bool.rec (fun _ => Prop) (And (M.one (SV.v (Value.bool false)) = M.one (SV.v (Value.bool true))) ((true : Bool) = true)) (And (M.one (SV.v (Value.bool true)) = M.one (SV.v (Value.bool true))) ((true : Bool) = true)) (shaF (pairF a b) == shaF (pairF a b))))) (shaF (frm t l_4) == shaF (frm t l_5))))))))) (ByteArray.toList (strOfNums (bytesOf (Enc.enc (encInt IntKind.u8)) (frm t l_2))) == ByteArray.toList (strOfNums (bytesOf (Enc.enc (encInt IntKind.u8)) (frm t l_3)))))))))) True)))))) True))))) (And (M.one (SV.v (Value.bool true)) = M.one (SV.v (Value.bool true))) ((true : Bool) = true)) (decide ((1000 : Int) < (↑(List.length l) : Int)))) (And (M.one (SV.v (Value.bool true)) = M.one (SV.v (Value.bool true))) ((true : Bool) = true)) (decide ((1000 : Int) < (↑(ByteArray.size t) : Int)))) (And (M.one (SV.v (Value.bool true)) = M.one (SV.v (Value.bool true))) ((true : Bool) = true)) (decide ((20000 : Int) < (↑(tot (List.take (ToT.i i) l)) : Int)))) (And ((0 : Int) ≤ (↑(ToT.i i) : Int)) (∃ hk : Int.toNat (↑(ToT.i i) : Int) < List.length l, (∃ i' : ToT l, (And (And (List.length l - ToT.i i' < List.length l - ToT.i i) True) (And (And (t = t) (And (SV.view x (1 : Nat) (Enc.enc BE) l = SV.view x (1 : Nat) (Enc.enc BE) l) (And (And ((true : Bool) = true) ((0 : Nat) = (0 : Nat))) (And (And ((true : Bool) = true) ((0 : Nat) = (0 : Nat))) (And ((false : Bool) = false) (And ((↑(tot (List.take (ToT.i i') l)) : Int) = IntKind.wrap IntKind.i64 ((↑(tot (List.take (ToT.i i) l)) : Int) + if (30000 : Int) < (↑(List.length (Prod.snd (Prod.fst l[Int.toNat (↑(ToT.i i) : Int)]))) : Int) then (30000 : Int) else (↑(List.length (Prod.snd (Prod.fst l[Int.toNat (↑(ToT.i i) : Int)]))) : Int))) (And ((↑(ToT.i i') : Int) = IntKind.wrap IntKind.i64 ((↑(ToT.i i) : Int) + (1 : Int))) True))))))) (And (And (And (a = a) True) (And ((true : Bool) = true) (And (And (b = b) True) (And ((true : Bool) = true) True)))) ((true : Bool) = true))))))) (decide ((↑(tot (List.take (ToT.i i) l)) : Int) ≤ (20000 : Int)))) (decide ((↑(ToT.i i) : Int) < (↑(List.length l) : Int))))))))) (by kernel_rfl) ?_
  refine ⟨⟨0, Nat.zero_le _, Nat.zero_le _⟩, ?_, ?_⟩
  ·
    repeat' first | exact trivial | refine And.intro ?_ ?_ | with_reducible refine bif_dt (by assumption) ?_ | with_reducible refine bif_df (by assumption) ?_ | with_reducible refine bif_dec (fun _ => ?_) (fun _ => ?_) | with_reducible refine bif_not ?_ | with_reducible refine bif_and ?_ | with_reducible refine bif_or ?_ | with_reducible refine bif_t (by assumption) ?_ | with_reducible refine bif_f (by assumption) ?_ | with_reducible refine bif_t (beq_self_eq_true _) ?_ | with_reducible refine bif_b (fun _ => ?_) (fun _ => ?_) | with_reducible refine ⟨_, Eq.refl (List.map _ _), ?_⟩ | (with_reducible refine Exists.intro (by omega) ?_) | rfl | (intro h0; omega) | omega
  rintro ⟨i, hi, ht⟩ -
  dsimp only
  refine bif_dec (fun h1 => ?_) (fun h1 => ?_)
  · refine bif_dec (fun h2 => ?_) (fun h2 => ?_)
    · have hi' : i < l.length := by omega
      have hst := tot_take hi'
      have hbl := bl_length l[i]
      have hmin : (if (30000 : Int) < (l[i].1.2.length : Int) then (30000 : Int) else (l[i].1.2.length : Int)) = ((min (bl l[i]).length 30000 : Nat) : Int) := by split <;> omega
      simp only [Int.toNat_natCast, inext (show i < 9223372036854775807 by omega)]
      refine ⟨by omega, hi', ⟨i + 1, hi', by omega⟩, ⟨show l.length - (i + 1) < l.length - i by omega, trivial⟩, ?_⟩
      rw [hmin, wrap64 (by omega) (by omega), show ((tot (l.take i) : Nat) : Int) + ((min (bl l[i]).length 30000 : Nat) : Int) = ((tot (l.take (i + 1)) : Nat) : Int) by omega]
      repeat' first | exact trivial | refine And.intro ?_ ?_ | with_reducible refine bif_dt (by assumption) ?_ | with_reducible refine bif_df (by assumption) ?_ | with_reducible refine bif_dec (fun _ => ?_) (fun _ => ?_) | with_reducible refine bif_not ?_ | with_reducible refine bif_and ?_ | with_reducible refine bif_or ?_ | with_reducible refine bif_t (by assumption) ?_ | with_reducible refine bif_f (by assumption) ?_ | with_reducible refine bif_t (beq_self_eq_true _) ?_ | with_reducible refine bif_b (fun _ => ?_) (fun _ => ?_) | with_reducible refine ⟨_, Eq.refl (List.map _ _), ?_⟩ | (with_reducible refine Exists.intro (by omega) ?_) | rfl | (intro h0; omega) | omega
    · refine bif_dec (fun h3 => ?_) (fun h3 => absurd h3 (by omega))
      repeat' first | exact trivial | refine And.intro ?_ ?_ | with_reducible refine bif_dt (by assumption) ?_ | with_reducible refine bif_df (by assumption) ?_ | with_reducible refine bif_dec (fun _ => ?_) (fun _ => ?_) | with_reducible refine bif_not ?_ | with_reducible refine bif_and ?_ | with_reducible refine bif_or ?_ | with_reducible refine bif_t (by assumption) ?_ | with_reducible refine bif_f (by assumption) ?_ | with_reducible refine bif_t (beq_self_eq_true _) ?_ | with_reducible refine bif_b (fun _ => ?_) (fun _ => ?_) | with_reducible refine ⟨_, Eq.refl (List.map _ _), ?_⟩ | (with_reducible refine Exists.intro (by omega) ?_) | rfl | (intro h0; omega) | omega
  · refine bif_dec (fun h3 => ?_) (fun h3 => ?_)
    ·
      repeat' first | exact trivial | refine And.intro ?_ ?_ | with_reducible refine bif_dt (by assumption) ?_ | with_reducible refine bif_df (by assumption) ?_ | with_reducible refine bif_dec (fun _ => ?_) (fun _ => ?_) | with_reducible refine bif_not ?_ | with_reducible refine bif_and ?_ | with_reducible refine bif_or ?_ | with_reducible refine bif_t (by assumption) ?_ | with_reducible refine bif_f (by assumption) ?_ | with_reducible refine bif_t (beq_self_eq_true _) ?_ | with_reducible refine bif_b (fun _ => ?_) (fun _ => ?_) | with_reducible refine ⟨_, Eq.refl (List.map _ _), ?_⟩ | (with_reducible refine Exists.intro (by omega) ?_) | rfl | (intro h0; omega) | omega
    refine bif_dec (fun h4 => ?_) (fun h4 => ?_)
    ·
      repeat' first | exact trivial | refine And.intro ?_ ?_ | with_reducible refine bif_dt (by assumption) ?_ | with_reducible refine bif_df (by assumption) ?_ | with_reducible refine bif_dec (fun _ => ?_) (fun _ => ?_) | with_reducible refine bif_not ?_ | with_reducible refine bif_and ?_ | with_reducible refine bif_or ?_ | with_reducible refine bif_t (by assumption) ?_ | with_reducible refine bif_f (by assumption) ?_ | with_reducible refine bif_t (beq_self_eq_true _) ?_ | with_reducible refine bif_b (fun _ => ?_) (fun _ => ?_) | with_reducible refine ⟨_, Eq.refl (List.map _ _), ?_⟩ | (with_reducible refine Exists.intro (by omega) ?_) | rfl | (intro h0; omega) | omega
    refine bif_dec (fun h5 => ?_) (fun h5 => ?_)
    ·
      repeat' first | exact trivial | refine And.intro ?_ ?_ | with_reducible refine bif_dt (by assumption) ?_ | with_reducible refine bif_df (by assumption) ?_ | with_reducible refine bif_dec (fun _ => ?_) (fun _ => ?_) | with_reducible refine bif_not ?_ | with_reducible refine bif_and ?_ | with_reducible refine bif_or ?_ | with_reducible refine bif_t (by assumption) ?_ | with_reducible refine bif_f (by assumption) ?_ | with_reducible refine bif_t (beq_self_eq_true _) ?_ | with_reducible refine bif_b (fun _ => ?_) (fun _ => ?_) | with_reducible refine ⟨_, Eq.refl (List.map _ _), ?_⟩ | (with_reducible refine Exists.intro (by omega) ?_) | rfl | (intro h0; omega) | omega
    have hil : i = l.length := by omega
    subst hil
    rw [List.take_length] at h3
    have hF := tot_flat (l := l) (by omega)
    refine ⟨l, rfl, ⟨by omega, fun y hy => ?_⟩, fun o => ?_⟩
    · have := tot_mem hy
      rw [← bl_length]
      omega
    have hfe : o.r.flatMap fB = l.flatMap fB := by rw [fB_flat, fB_flat, o.he]
    have hfr : frm t o.r = frm t l := by unfold frm; rw [o.he]
    have hY2 : ∀ y ∈ o.r, By (bl y) := fun y hy => by
      have h9 : bl y ∈ l.map bl := by rw [← o.he]; exact List.mem_map_of_mem hy
      obtain ⟨z, hz, e⟩ := List.mem_map.1 h9
      rw [← e]
      exact hY z hz
    have hp : ∀ {X : Prop}, X → X ∧ True := fun h => ⟨h, trivial⟩
    refine hp ⟨o.r, rfl, ⟨by rw [hfe]; omega, by omega⟩, fun y => ⟨isB _, ?_⟩⟩
    try refine hp ?_
    refine ⟨l, rfl, ⟨by omega, by omega⟩, fun y1 => ⟨isB _, ?_⟩⟩
    try refine hp ?_
    rw [hfr, bytesB]
    refine bif_t (beq_self_eq_true _) ?_
    refine ⟨o.r, rfl, ⟨by rw [hfe]; omega, by omega, hY2⟩, l, rfl, ⟨by omega, by omega, hY⟩, ?_⟩
    rw [hfr]
    refine bif_t (beq_self_eq_true _) ?_
    refine ⟨⟨ha, hb, hA, hB⟩, ⟨ha, hb, hA, hB⟩, ?_⟩
    refine bif_t (beq_self_eq_true _) ?_
    exact ⟨rfl, rfl⟩
end Go.Proofs.YtblapbjafbmndaaDoor
