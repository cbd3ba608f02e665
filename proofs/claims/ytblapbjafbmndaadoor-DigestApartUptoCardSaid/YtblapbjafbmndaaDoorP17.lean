/- The law DigestApart. -/
import Derived.Test.YtblapbjafbmndaaDoorP9
import Derived.Test.YtblapbjafbmndaaDoorSx24
namespace Go.Proofs.YtblapbjafbmndaaDoor
open Go Go.Sx Go.Sha
set_option linter.unusedVariables false
set_option linter.unusedSimpArgs false
set_option maxRecDepth 100000
set_option maxHeartbeats 4000000

theorem blbs_inj : ∀ {a b : List (List Int)}, (∀ x ∈ a, x.length < 18446744073709551616) → (∀ x ∈ b, x.length < 18446744073709551616) → a.flatMap blb = b.flatMap blb → a = b
  | [], [], _, _, _ => rfl
  | [], y :: r, _, _, h => by
    have := congrArg List.length h
    rw [List.flatMap_cons, List.length_append, blb_length] at this
    rw [List.flatMap_nil, List.length_nil] at this
    omega
  | x :: s, [], _, _, h => by
    have := congrArg List.length h
    rw [List.flatMap_cons, List.length_append, blb_length] at this
    rw [List.flatMap_nil, List.length_nil] at this
    omega
  | x :: s, y :: r, ha, hb, h => by
    rw [List.flatMap_cons, List.flatMap_cons] at h
    obtain ⟨h1, h2⟩ := blb_inj (ha x List.mem_cons_self) (hb y List.mem_cons_self) h
    rw [h1, blbs_inj (fun z hz => ha z (List.mem_cons_of_mem _ hz)) (fun z hz => hb z (List.mem_cons_of_mem _ hz)) h2]
theorem frm_inj {t s : ByteArray} {l r : List BTy} (ht : t.size ≤ 255) (hs : s.size ≤ 255) (hl : ∀ y ∈ l, (bl y).length < 18446744073709551616) (hr : ∀ y ∈ r, (bl y).length < 18446744073709551616) :
    frm t l = frm s r ↔ sl t = sl s ∧ l.map bl = r.map bl := by
  constructor
  · intro h
    unfold frm frameF at h
    rw [sl_length, sl_length, Nat.min_eq_left ht, Nat.min_eq_left hs, List.take_of_length_le (by rw [sl_length]; exact ht), List.take_of_length_le (by rw [sl_length]; exact hs)] at h
    injection h with h1 h2
    have h3 : t.size = s.size := by omega
    obtain ⟨h4, h5⟩ := List.append_inj h2 (by rw [sl_length, sl_length, h3])
    refine ⟨h4, blbs_inj (fun x hx => ?_) (fun x hx => ?_) h5⟩
    · obtain ⟨y, hy, rfl⟩ := List.mem_map.1 hx
      exact hl y hy
    · obtain ⟨y, hy, rfl⟩ := List.mem_map.1 hx
      exact hr y hy
  · rintro ⟨h1, h2⟩
    unfold frm
    rw [h1, h2]
/-- What the law finds equal so far. -/
def same (t s : ByteArray) (l r : List BTy) (i : Nat) : Bool := decide (sl t = sl s ∧ l.length = r.length ∧ (l.take i).map bl = (r.take i).map bl)
theorem same0 (t s : ByteArray) (l r : List BTy) : same t s l r 0 = (decide (sl t = sl s) && decide (l.length = r.length)) := by
  unfold same
  rw [List.take_zero, List.take_zero]
  by_cases h1 : sl t = sl s <;> by_cases h2 : l.length = r.length <;> simp [h1, h2]
theorem same_step {t s : ByteArray} {l r : List BTy} {i : Nat} (h : same t s l r i = true) (hi : i < l.length) (hj : i < r.length) : same t s l r (i + 1) = decide (bl l[i] = bl r[i]) := by
  unfold same at h ⊢
  have h' := of_decide_eq_true h
  obtain ⟨h1, h2, h3⟩ := h'
  rw [List.take_add_one, List.take_add_one, List.getElem?_eq_getElem hi, List.getElem?_eq_getElem hj, List.map_append, List.map_append, h3]
  by_cases e : bl l[i] = bl r[i]
  · simp [h1, h2, e]
  · simp [h1, h2, e]
theorem same_len {t s : ByteArray} {l r : List BTy} {i : Nat} (h : same t s l r i = true) : l.length = r.length := (of_decide_eq_true h).2.1
theorem same_end {t s : ByteArray} {l r : List BTy} {i : Nat} (h : i = l.length ∨ same t s l r i = false) : same t s l r i = decide (sl t = sl s ∧ l.map bl = r.map bl) := by
  rcases h with rfl | h
  · unfold same
    rw [List.take_length]
    apply decide_eq_decide.2
    constructor
    · rintro ⟨a, b, c⟩
      rw [b, List.take_length] at c
      exact ⟨a, c⟩
    · rintro ⟨a, c⟩
      have b : l.length = r.length := by simpa using congrArg List.length c
      rw [b, List.take_length]
      exact ⟨a, rfl, c⟩
  · rw [h]
    symm
    apply decide_eq_false
    rintro ⟨a, c⟩
    have b : l.length = r.length := by simpa using congrArg List.length c
    unfold same at h
    have h' := of_decide_eq_false h
    apply h'
    refine ⟨a, b, ?_⟩
    rw [List.map_take, List.map_take, c]
theorem bytes_bl (y : BTy) : bytesOf (RK.svs [.int .u8]) y.1.2 = bl y := rfl
structure SaT (t s : ByteArray) (l r : List BTy) where
  i : Nat
  hi : i ≤ l.length
theorem apart_spec (x y : Value) (t s : ByteArray) {l r : List BTy} (h1 : l.length * 24 ≤ 140737488351232) (h2 : ∀ y ∈ l, (bl y).length ≤ 140737488351232) (h3 : r.length * 24 ≤ 140737488351232) (h4 : ∀ y ∈ r, (bl y).length ≤ 140737488351232)
    (h5 : (l.flatMap fB).length ≤ 140000000000000) (h6 : (r.flatMap fB).length ≤ 140000000000000) (hA : ∀ y ∈ l, By (bl y)) (hB : ∀ y ∈ r, By (bl y)) :
    SFun Tryd.prog 5 [str t, bV x l, str s, bV y r] (bool true) := by
  refine SFun.inm [(15, knowsT)] (SOK.cons knows_ok SOK.nil) [(21, frameT), (22, partsT)] (MSOK.cons frame_ok (MSOK.cons parts_ok MSOK.nil)) tok mixed [] IOK.nil true [(100004, ⟨Unit, fun _ => ⟨0, [(0, str t), (1, bV x l), (2, str s), (3, bV y r), (8, bool false), (9, bool (same t s l r 0))], []⟩, fun _ => 0, fun _ _ => True⟩), (5, ⟨SaT t s l r, fun p => ⟨0, [(0, str t), (1, bV x l), (2, str s), (3, bV y r), (8, bool false), (9, bool (same t s l r p.i)), (10, int p.i)], []⟩, fun p => l.length - p.i, fun _ _ => True⟩)] [] Tryd.call5 Tryd.func5 rfl (by rfl) ?_
  refine Eq.mp (α := (@Bool.rec (fun _ => Prop) (@Bool.rec (fun _ => Prop) (And (@Bool.rec (fun _ => Prop) (∃ i : Unit, (And (And (t = t) (And (SV.view x (1 : Nat) (Enc.enc BE) l = SV.view x (1 : Nat) (Enc.enc BE) l) (And (s = s) (And (SV.view y (1 : Nat) (Enc.enc BE) r = SV.view y (1 : Nat) (Enc.enc BE) r) (And ((false : Bool) = false) (And ((same t s l r (0 : Nat) : Bool) = (false)) True)))))) (And True ((true : Bool) = true)))) (∃ i : Unit, (And (And (t = t) (And (SV.view x (1 : Nat) (Enc.enc BE) l = SV.view x (1 : Nat) (Enc.enc BE) l) (And (s = s) (And (SV.view y (1 : Nat) (Enc.enc BE) r = SV.view y (1 : Nat) (Enc.enc BE) r) (And ((false : Bool) = false) (And ((same t s l r (0 : Nat) : Bool) = ((↑(List.length l) : Int) == (↑(List.length r) : Int))) True)))))) (And True ((true : Bool) = true)))) (ByteArray.toList t == ByteArray.toList s)) (∀ i : Unit, (∃ i0 : SaT t s l r, (And (And True (And (And (t = t) (And (SV.view x (1 : Nat) (Enc.enc BE) l = SV.view x (1 : Nat) (Enc.enc BE) l) (And (s = s) (And (SV.view y (1 : Nat) (Enc.enc BE) r = SV.view y (1 : Nat) (Enc.enc BE) r) (And ((false : Bool) = false) (And ((same t s l r (SaT.i i0) : Bool) = (same t s l r (0 : Nat))) (And ((↑(SaT.i i0) : Int) = (0 : Int)) True))))))) (And True ((true : Bool) = true)))) (∀ i_1 : SaT t s l r, (∀ a : True, (@Bool.rec (fun _ => Prop) (And (∃ l_1 : List BTy, (And (List.map (Enc.enc BE) l = List.map eBl l_1) (And (And (List.length l_1 * (24 : Nat) ≤ (140737488351232 : Nat)) (∀ y_1 : BTy, (∀ a_1 : y_1 ∈ l_1, (List.length (Prod.snd (Prod.fst y_1)) ≤ (140737488351232 : Nat))))) (∀ o : PaT l_1, (And (∃ l_2 : List BTy, (And (List.map (Enc.enc BE) (PaT.r o) = List.map eBl l_2) (And (And (List.length (List.flatMap fB l_2) ≤ (140000000000000 : Nat)) (ByteArray.size t ≤ (140737488351232 : Nat))) (∀ y_1 : Value, (And (∀ x_1 : Int, (∀ a_1 : x_1 ∈ frm t l_2, (∃ b : Int, (Enc.enc (encInt IntKind.u8) x_1 = [SV.v (Value.int IntKind.u8 b)])))) (And (∃ l_3 : List BTy, (And (List.map (Enc.enc BE) r = List.map eBl l_3) (And (And (List.length l_3 * (24 : Nat) ≤ (140737488351232 : Nat)) (∀ y_2 : BTy, (∀ a_1 : y_2 ∈ l_3, (List.length (Prod.snd (Prod.fst y_2)) ≤ (140737488351232 : Nat))))) (∀ o_1 : PaT l_3, (And (∃ l_4 : List BTy, (And (List.map (Enc.enc BE) (PaT.r o_1) = List.map eBl l_4) (And (And (List.length (List.flatMap fB l_4) ≤ (140000000000000 : Nat)) (ByteArray.size s ≤ (140737488351232 : Nat))) (∀ y_2 : Value, (And (∀ x_1 : Int, (∀ a_1 : x_1 ∈ frm s l_4, (∃ b : Int, (Enc.enc (encInt IntKind.u8) x_1 = [SV.v (Value.int IntKind.u8 b)])))) (@Bool.rec (fun _ => Prop) (And (M.one (SV.v (Value.bool false)) = M.one (SV.v (Value.bool true))) ((true : Bool) = true)) (And (M.one (SV.v (Value.bool true)) = M.one (SV.v (Value.bool true))) ((true : Bool) = true)) ((ByteArray.toList (strOfNums (bytesOf (Enc.enc (encInt IntKind.u8)) (frm t l_2))) == ByteArray.toList (strOfNums (bytesOf (Enc.enc (encInt IntKind.u8)) (frm s l_4)))) == same t s l r (SaT.i i_1)))))))) True))))) True)))))) True))))) True) (@Bool.rec (fun _ => Prop) (And (∃ l_1 : List BTy, (And (List.map (Enc.enc BE) l = List.map eBl l_1) (And (And (List.length l_1 * (24 : Nat) ≤ (140737488351232 : Nat)) (∀ y_1 : BTy, (∀ a_1 : y_1 ∈ l_1, (List.length (Prod.snd (Prod.fst y_1)) ≤ (140737488351232 : Nat))))) (∀ o : PaT l_1, (And (∃ l_2 : List BTy, (And (List.map (Enc.enc BE) (PaT.r o) = List.map eBl l_2) (And (And (List.length (List.flatMap fB l_2) ≤ (140000000000000 : Nat)) (ByteArray.size t ≤ (140737488351232 : Nat))) (∀ y_1 : Value, (And (∀ x_1 : Int, (∀ a_1 : x_1 ∈ frm t l_2, (∃ b : Int, (Enc.enc (encInt IntKind.u8) x_1 = [SV.v (Value.int IntKind.u8 b)])))) (And (∃ l_3 : List BTy, (And (List.map (Enc.enc BE) r = List.map eBl l_3) (And (And (List.length l_3 * (24 : Nat) ≤ (140737488351232 : Nat)) (∀ y_2 : BTy, (∀ a_1 : y_2 ∈ l_3, (List.length (Prod.snd (Prod.fst y_2)) ≤ (140737488351232 : Nat))))) (∀ o_1 : PaT l_3, (And (∃ l_4 : List BTy, (And (List.map (Enc.enc BE) (PaT.r o_1) = List.map eBl l_4) (And (And (List.length (List.flatMap fB l_4) ≤ (140000000000000 : Nat)) (ByteArray.size s ≤ (140737488351232 : Nat))) (∀ y_2 : Value, (And (∀ x_1 : Int, (∀ a_1 : x_1 ∈ frm s l_4, (∃ b : Int, (Enc.enc (encInt IntKind.u8) x_1 = [SV.v (Value.int IntKind.u8 b)])))) (@Bool.rec (fun _ => Prop) (And (M.one (SV.v (Value.bool false)) = M.one (SV.v (Value.bool true))) ((true : Bool) = true)) (And (M.one (SV.v (Value.bool true)) = M.one (SV.v (Value.bool true))) ((true : Bool) = true)) ((ByteArray.toList (strOfNums (bytesOf (Enc.enc (encInt IntKind.u8)) (frm t l_2))) == ByteArray.toList (strOfNums (bytesOf (Enc.enc (encInt IntKind.u8)) (frm s l_4)))) == same t s l r (SaT.i i_1)))))))) True))))) True)))))) True))))) True) (And ((0 : Int) ≤ (↑(SaT.i i_1) : Int)) (∃ hk : Int.toNat (↑(SaT.i i_1) : Int) < List.length l, (And (∀ x_1 : RK.TL [RK.int IntKind.u8], (∀ a_1 : x_1 ∈ Prod.snd (Prod.fst l[Int.toNat (↑(SaT.i i_1) : Int)]), (∃ b : Int, (RK.svs._f [RK.int IntKind.u8] ⟨⟨RK.sv._f (RK.int IntKind.u8) PUnit.unit, PUnit.unit⟩, RK.svs._f [] PUnit.unit, PUnit.unit⟩ x_1 = [SV.v (Value.int IntKind.u8 b)])))) (And ((0 : Int) ≤ (↑(SaT.i i_1) : Int)) (∃ hk_1 : Int.toNat (↑(SaT.i i_1) : Int) < List.length r, (And (∀ x_1 : RK.TL [RK.int IntKind.u8], (∀ a_1 : x_1 ∈ Prod.snd (Prod.fst r[Int.toNat (↑(SaT.i i_1) : Int)]), (∃ b : Int, (RK.svs._f [RK.int IntKind.u8] ⟨⟨RK.sv._f (RK.int IntKind.u8) PUnit.unit, PUnit.unit⟩, RK.svs._f [] PUnit.unit, PUnit.unit⟩ x_1 = [SV.v (Value.int IntKind.u8 b)])))) (∃ i' : SaT t s l r, (And (And (List.length l - SaT.i i' < List.length l - SaT.i i_1) True) (And (And (t = t) (And (SV.view x (1 : Nat) (Enc.enc BE) l = SV.view x (1 : Nat) (Enc.enc BE) l) (And (s = s) (And (SV.view y (1 : Nat) (Enc.enc BE) r = SV.view y (1 : Nat) (Enc.enc BE) r) (And ((false : Bool) = false) (And ((same t s l r (SaT.i i') : Bool) = (ByteArray.toList (strOfNums (bytesOf (RK.svs [RK.int IntKind.u8]) (Prod.snd (Prod.fst l[Int.toNat (↑(SaT.i i_1) : Int)])))) == ByteArray.toList (strOfNums (bytesOf (RK.svs [RK.int IntKind.u8]) (Prod.snd (Prod.fst r[Int.toNat (↑(SaT.i i_1) : Int)])))))) (And ((↑(SaT.i i') : Int) = IntKind.wrap IntKind.i64 ((↑(SaT.i i_1) : Int) + (1 : Int))) True))))))) (And True ((true : Bool) = true))))))))))) (same t s l r (SaT.i i_1))) (decide ((↑(SaT.i i_1) : Int) < (↑(List.length l) : Int)))))))))) (And (M.one (SV.v (Value.bool true)) = M.one (SV.v (Value.bool true))) ((true : Bool) = true)) (decide ((255 : Int) < (↑(ByteArray.size s) : Int)))) (And (M.one (SV.v (Value.bool true)) = M.one (SV.v (Value.bool true))) ((true : Bool) = true)) (decide ((255 : Int) < (↑(ByteArray.size t) : Int))))) (by kernel_rfl) ?_
  refine bif_dec (fun g1 => ?_) (fun g1 => ?_)
  ·
    repeat' first | exact trivial | refine And.intro ?_ ?_ | with_reducible refine bif_dt (by assumption) ?_ | with_reducible refine bif_df (by assumption) ?_ | with_reducible refine bif_dec (fun _ => ?_) (fun _ => ?_) | with_reducible refine bif_not ?_ | with_reducible refine bif_and ?_ | with_reducible refine bif_or ?_ | with_reducible refine bif_t (by assumption) ?_ | with_reducible refine bif_f (by assumption) ?_ | with_reducible refine bif_t (beq_self_eq_true _) ?_ | with_reducible refine bif_b (fun _ => ?_) (fun _ => ?_) | with_reducible refine ⟨_, Eq.refl (List.map _ _), ?_⟩ | (with_reducible refine Exists.intro (by omega) ?_) | rfl | (intro h0; omega) | omega
  refine bif_dec (fun g2 => ?_) (fun g2 => ?_)
  ·
    repeat' first | exact trivial | refine And.intro ?_ ?_ | with_reducible refine bif_dt (by assumption) ?_ | with_reducible refine bif_df (by assumption) ?_ | with_reducible refine bif_dec (fun _ => ?_) (fun _ => ?_) | with_reducible refine bif_not ?_ | with_reducible refine bif_and ?_ | with_reducible refine bif_or ?_ | with_reducible refine bif_t (by assumption) ?_ | with_reducible refine bif_f (by assumption) ?_ | with_reducible refine bif_t (beq_self_eq_true _) ?_ | with_reducible refine bif_b (fun _ => ?_) (fun _ => ?_) | with_reducible refine ⟨_, Eq.refl (List.map _ _), ?_⟩ | (with_reducible refine Exists.intro (by omega) ?_) | rfl | (intro h0; omega) | omega
  refine ⟨?_, fun _ => ⟨⟨0, Nat.zero_le _⟩, ?_, ?_⟩⟩
  · rw [beq_sl, same0]
    refine bif_dec (fun e => ⟨(), ?_⟩) (fun e => ⟨(), ?_⟩)
    · rw [decide_eq_true e, Bool.true_and]
      have e2 : decide (l.length = r.length) = ((l.length : Int) == (r.length : Int)) := by
        by_cases e3 : l.length = r.length
        · simp [e3]
        · rw [decide_eq_false e3]
          symm
          rw [beq_eq_false_iff_ne]
          omega
      rw [e2]
      repeat' first | exact trivial | refine And.intro ?_ ?_ | with_reducible refine bif_dt (by assumption) ?_ | with_reducible refine bif_df (by assumption) ?_ | with_reducible refine bif_dec (fun _ => ?_) (fun _ => ?_) | with_reducible refine bif_not ?_ | with_reducible refine bif_and ?_ | with_reducible refine bif_or ?_ | with_reducible refine bif_t (by assumption) ?_ | with_reducible refine bif_f (by assumption) ?_ | with_reducible refine bif_t (beq_self_eq_true _) ?_ | with_reducible refine bif_b (fun _ => ?_) (fun _ => ?_) | with_reducible refine ⟨_, Eq.refl (List.map _ _), ?_⟩ | (with_reducible refine Exists.intro (by omega) ?_) | rfl | (intro h0; omega) | omega
    · rw [decide_eq_false e, Bool.false_and]
      repeat' first | exact trivial | refine And.intro ?_ ?_ | with_reducible refine bif_dt (by assumption) ?_ | with_reducible refine bif_df (by assumption) ?_ | with_reducible refine bif_dec (fun _ => ?_) (fun _ => ?_) | with_reducible refine bif_not ?_ | with_reducible refine bif_and ?_ | with_reducible refine bif_or ?_ | with_reducible refine bif_t (by assumption) ?_ | with_reducible refine bif_f (by assumption) ?_ | with_reducible refine bif_t (beq_self_eq_true _) ?_ | with_reducible refine bif_b (fun _ => ?_) (fun _ => ?_) | with_reducible refine ⟨_, Eq.refl (List.map _ _), ?_⟩ | (with_reducible refine Exists.intro (by omega) ?_) | rfl | (intro h0; omega) | omega
  ·
    repeat' first | exact trivial | refine And.intro ?_ ?_ | with_reducible refine bif_dt (by assumption) ?_ | with_reducible refine bif_df (by assumption) ?_ | with_reducible refine bif_dec (fun _ => ?_) (fun _ => ?_) | with_reducible refine bif_not ?_ | with_reducible refine bif_and ?_ | with_reducible refine bif_or ?_ | with_reducible refine bif_t (by assumption) ?_ | with_reducible refine bif_f (by assumption) ?_ | with_reducible refine bif_t (beq_self_eq_true _) ?_ | with_reducible refine bif_b (fun _ => ?_) (fun _ => ?_) | with_reducible refine ⟨_, Eq.refl (List.map _ _), ?_⟩ | (with_reducible refine Exists.intro (by omega) ?_) | rfl | (intro h0; omega) | omega
  rintro ⟨i, hi⟩ -
  dsimp only
  refine bif_dec (fun g3 => ?_) (fun g3 => ?_)
  · refine bif_b (fun g4 => ?_) (fun g4 => ?_)
    · have hi' : i < l.length := by omega
      have hl := same_len g4
      have hj' : i < r.length := by omega
      have hst := same_step g4 hi' hj'
      have nat2 : ∀ n : Nat, (n : Int).toNat = n := fun n => rfl
      simp only [nat2, bytes_bl, inext (show i < 9223372036854775807 by omega)]
      refine ⟨by omega, hi', fun z _ => ⟨_, rfl⟩, by omega, hj', fun z _ => ⟨_, rfl⟩, ⟨i + 1, hi'⟩, ⟨show l.length - (i + 1) < l.length - i by omega, trivial⟩, ?_⟩
      rw [strOf_beq (hA _ (List.getElem_mem hi')) (hB _ (List.getElem_mem hj')), ← hst]
      repeat' first | exact trivial | refine And.intro ?_ ?_ | with_reducible refine bif_dt (by assumption) ?_ | with_reducible refine bif_df (by assumption) ?_ | with_reducible refine bif_dec (fun _ => ?_) (fun _ => ?_) | with_reducible refine bif_not ?_ | with_reducible refine bif_and ?_ | with_reducible refine bif_or ?_ | with_reducible refine bif_t (by assumption) ?_ | with_reducible refine bif_f (by assumption) ?_ | with_reducible refine bif_t (beq_self_eq_true _) ?_ | with_reducible refine bif_b (fun _ => ?_) (fun _ => ?_) | with_reducible refine ⟨_, Eq.refl (List.map _ _), ?_⟩ | (with_reducible refine Exists.intro (by omega) ?_) | rfl | (intro h0; omega) | omega
    · have hend := same_end (t := t) (s := s) (l := l) (r := r) (i := i) (.inr g4)
      have hp : ∀ {X : Prop}, X → X ∧ True := fun h => ⟨h, trivial⟩
      have l2 : ∀ y ∈ l, y.1.2.length ≤ 140737488351232 := fun y hy => by rw [← bl_length]; exact h2 y hy
      have r2 : ∀ y ∈ r, y.1.2.length ≤ 140737488351232 := fun y hy => by rw [← bl_length]; exact h4 y hy
      refine hp ⟨l, rfl, ⟨h1, l2⟩, fun o => ?_⟩
      have hfo : o.r.flatMap fB = l.flatMap fB := by rw [fB_flat, fB_flat, o.he]
      have hfr : frm t o.r = frm t l := by unfold frm; rw [o.he]
      try refine hp ?_
      refine ⟨o.r, rfl, ⟨by rw [hfo]; exact h5, by omega⟩, fun y1 => ⟨isB _, ?_⟩⟩
      try refine hp ?_
      refine ⟨r, rfl, ⟨h3, r2⟩, fun o2 => ?_⟩
      have hfo2 : o2.r.flatMap fB = r.flatMap fB := by rw [fB_flat, fB_flat, o2.he]
      have hfr2 : frm s o2.r = frm s r := by unfold frm; rw [o2.he]
      try refine hp ?_
      refine ⟨o2.r, rfl, ⟨by rw [hfo2]; exact h6, by omega⟩, fun y2 => ⟨isB _, ?_⟩⟩
      try refine hp ?_
      rw [bytesB, bytesB, hfr, hfr2, strOf_beq (frm_By hA) (frm_By hB), decide_eq_decide.2 (frm_inj (by omega) (by omega) (fun y hy => by have := h2 y hy; omega) (fun y hy => by have := h4 y hy; omega)), ← hend]
      exact bif_t (beq_self_eq_true _) ⟨rfl, rfl⟩
  · have hend := same_end (t := t) (s := s) (l := l) (r := r) (i := i) (.inl (by omega))
    have hp : ∀ {X : Prop}, X → X ∧ True := fun h => ⟨h, trivial⟩
    have l2 : ∀ y ∈ l, y.1.2.length ≤ 140737488351232 := fun y hy => by rw [← bl_length]; exact h2 y hy
    have r2 : ∀ y ∈ r, y.1.2.length ≤ 140737488351232 := fun y hy => by rw [← bl_length]; exact h4 y hy
    refine hp ⟨l, rfl, ⟨h1, l2⟩, fun o => ?_⟩
    have hfo : o.r.flatMap fB = l.flatMap fB := by rw [fB_flat, fB_flat, o.he]
    have hfr : frm t o.r = frm t l := by unfold frm; rw [o.he]
    try refine hp ?_
    refine ⟨o.r, rfl, ⟨by rw [hfo]; exact h5, by omega⟩, fun y1 => ⟨isB _, ?_⟩⟩
    try refine hp ?_
    refine ⟨r, rfl, ⟨h3, r2⟩, fun o2 => ?_⟩
    have hfo2 : o2.r.flatMap fB = r.flatMap fB := by rw [fB_flat, fB_flat, o2.he]
    have hfr2 : frm s o2.r = frm s r := by unfold frm; rw [o2.he]
    try refine hp ?_
    refine ⟨o2.r, rfl, ⟨by rw [hfo2]; exact h6, by omega⟩, fun y2 => ⟨isB _, ?_⟩⟩
    try refine hp ?_
    rw [bytesB, bytesB, hfr, hfr2, strOf_beq (frm_By hA) (frm_By hB), decide_eq_decide.2 (frm_inj (by omega) (by omega) (fun y hy => by have := h2 y hy; omega) (fun y hy => by have := h4 y hy; omega)), ← hend]
    exact bif_t (beq_self_eq_true _) ⟨rfl, rfl⟩
end Go.Proofs.YtblapbjafbmndaaDoor
