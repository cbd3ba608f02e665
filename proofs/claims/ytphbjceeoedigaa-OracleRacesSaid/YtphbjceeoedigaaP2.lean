import Derived.Test.YtphbjceeoedigaaP1
import Derived.Test.YtphbjceeoedigaaSx22
namespace Go.Proofs.Ytphbjceeoedigaa
open Go Go.Sx
set_option linter.unusedVariables false
set_option maxRecDepth 100000
set_option maxHeartbeats 4000000
abbrev I26 (c : Int) : Type := {i : Int × Int // 0 ≤ i.1 ∧ i.2 ≤ c ∧ i.1 + (roundsN i.2.toNat : Nat) = rounds c}
theorem rounds_spec (c : Int) (hc : c < 9223372036854775808) : SFun Try.prog 26 [int c] (int (rounds c)) := by
  refine SFun.of [] SOK.nil tok mixed [] [(1, (0, ⟨I26 c, fun i => ⟨0, [(3, int i.1.1), (4, int i.1.2)], []⟩, fun i => i.1.2.toNat⟩))] Try.call26 Try.func26 rfl (by rfl) ?_
  refine Eq.mp (α := (And (∀ i : I26 c, (@Bool.rec (fun _ => Prop) (And (M.one (SV.v (Value.int IntKind.i64 (Prod.fst (Subtype.val i)))) = M.one (SV.v (Value.int IntKind.i64 (rounds c)))) ((true : Bool) = true)) (And ((2 : Int) ≠ (0 : Int)) (And ((0 : Nat) = (0 : Nat)) (∃ i' : I26 c, (And (Int.toNat (Prod.snd (Subtype.val i')) < Int.toNat (Prod.snd (Subtype.val i))) (And (And (And (M.one (SV.v (Value.int IntKind.i64 (Prod.fst (Subtype.val i')))) = M.one (SV.v (Value.int IntKind.i64 (IntKind.wrap IntKind.i64 (Prod.fst (Subtype.val i) + (1 : Int)))))) ((true : Bool) = true)) (And (And (M.one (SV.v (Value.int IntKind.i64 (Prod.snd (Subtype.val i')))) = M.one (SV.v (Value.int IntKind.i64 (IntKind.wrap IntKind.i64 (Prod.snd (Subtype.val i) - IntKind.wrap IntKind.i64 (Int.tdiv (Prod.snd (Subtype.val i)) (2 : Int))))))) ((true : Bool) = true)) True)) (And True ((true : Bool) = true))))))) (decide ((1 : Int) < Prod.snd (Subtype.val i))))) (@Bool.rec (fun _ => Prop) (And (M.one (SV.v (Value.int IntKind.i64 (0 : Int))) = M.one (SV.v (Value.int IntKind.i64 (rounds c)))) ((true : Bool) = true)) (And ((2 : Int) ≠ (0 : Int)) (And ((0 : Nat) = (0 : Nat)) (∃ i' : I26 c, (And (And (And (M.one (SV.v (Value.int IntKind.i64 (Prod.fst (Subtype.val i')))) = M.one (SV.v (Value.int IntKind.i64 (IntKind.wrap IntKind.i64 ((0 : Int) + (1 : Int)))))) ((true : Bool) = true)) (And (And (M.one (SV.v (Value.int IntKind.i64 (Prod.snd (Subtype.val i')))) = M.one (SV.v (Value.int IntKind.i64 (IntKind.wrap IntKind.i64 (c - IntKind.wrap IntKind.i64 (Int.tdiv c (2 : Int))))))) ((true : Bool) = true)) True)) (And True ((true : Bool) = true)))))) (decide ((1 : Int) < c))))) (by kernel_rfl) ?_
  have hle := roundsN_le c.toNat
  refine And.intro (fun ⟨⟨n, l⟩, h1, h2, h3⟩ => ?_) ?_
  · simp only [rounds] at h1 h2 h3
    refine bif_dec (fun hl => ?_) (fun hl => ?_)
    · simp only at hl
      have h4 := roundsN_step (m := l.toNat) (by omega)
      have h6 : l.toNat - l.toNat / 2 = (l - l / 2).toNat := by omega
      rw [h6] at h4
      have h5 : (IntKind.i64.wrap (l - IntKind.i64.wrap (l.tdiv 2))) = l - l / 2 := by
        rw [Int.tdiv_eq_ediv_of_nonneg (by omega), wrap64 (x := l / 2) (by omega) (by omega), wrap64 (by omega) (by omega)]
      have h7 : IntKind.i64.wrap (n + 1) = n + 1 := wrap64 (by omega) (by omega)
      refine ⟨by omega, rfl, ⟨(n + 1, l - l / 2), by simp only [rounds]; omega⟩, by simp only; omega, ⟨⟨?_, rfl⟩, ⟨?_, rfl⟩, trivial⟩, trivial, rfl⟩
      · simp only [h7]
      · simp only [h5]
    · simp only at hl
      have : roundsN l.toNat = 0 := by
        have := (roundsN_iff 0 l.toNat).1 (by omega)
        omega
      refine ⟨?_, rfl⟩
      congr 3
      simp only [rounds]
      omega
  · refine bif_dec (fun hl => ?_) (fun hl => ?_)
    · have h4 := roundsN_step (m := c.toNat) (by omega)
      have h6 : c.toNat - c.toNat / 2 = (c - c / 2).toNat := by omega
      rw [h6] at h4
      have h5 : (IntKind.i64.wrap (c - IntKind.i64.wrap (c.tdiv 2))) = c - c / 2 := by
        rw [Int.tdiv_eq_ediv_of_nonneg (by omega), wrap64 (x := c / 2) (by omega) (by omega), wrap64 (by omega) (by omega)]
      refine ⟨by omega, rfl, ⟨(1, c - c / 2), by simp only [rounds]; omega⟩, ⟨⟨?_, rfl⟩, ⟨?_, rfl⟩, trivial⟩, trivial, rfl⟩
      · rfl
      · simp only [h5]
    · have : roundsN c.toNat = 0 := by
        have := (roundsN_iff 0 c.toNat).1 (by omega)
        omega
      refine ⟨?_, rfl⟩
      congr 3
      simp only [rounds]
      omega
def roundsT : List M → (M → Prop) → Prop
  | [.one (.v (.int .i64 c))], K => c < 9223372036854775808 ∧ K (int (rounds c))
  | _, _ => False
theorem rounds_ok : POK Try.prog 26 roundsT := by
  intro ms K h
  unfold roundsT at h ⊢
  split at h
  · exact ⟨_, h.2, rounds_spec _ h.1, rfl, fun _ hk => ⟨h.1, hk⟩⟩
  · exact h.elim

abbrev I27 (c : Int) : Type := {i : Nat // i ≤ roundsN c.toNat ∧ i ≤ 62}
theorem rrounds_spec (c : Int) (hc : c < 9223372036854775808) : SFun Try.prog 27 [int c] (int (rounds c)) := by
  refine SFun.of [] SOK.nil tok mixed [(3, ⟨I27 c, fun i => ⟨0, [(0, int c), (3, int i.1), (4, int (2 ^ i.1 : Int))], []⟩, fun i => 62 - i.1⟩)] [] Try.call27 Try.func27 rfl (by rfl) ?_
  refine Eq.mp (α := (And (∃ i : I27 c, (And (And (And (M.one (SV.v (Value.int IntKind.i64 c)) = M.one (SV.v (Value.int IntKind.i64 c))) ((true : Bool) = true)) (And (And (M.one (SV.v (Value.int IntKind.i64 (↑(Subtype.val i) : Int))) = M.one (SV.v (Value.int IntKind.i64 (0 : Int)))) ((true : Bool) = true)) (And (And (M.one (SV.v (Value.int IntKind.i64 ((2 : Int) ^ Subtype.val i))) = M.one (SV.v (Value.int IntKind.i64 (1 : Int)))) ((true : Bool) = true)) True))) (And True ((true : Bool) = true)))) (∀ i : I27 c, (@Bool.rec (fun _ => Prop) (@Bool.rec (fun _ => Prop) (And (M.one (SV.v (Value.int IntKind.i64 (↑(Subtype.val i) : Int))) = M.one (SV.v (Value.int IntKind.i64 (rounds c)))) ((true : Bool) = true)) (And (M.one (SV.v (Value.int IntKind.i64 (IntKind.wrap IntKind.i64 ((↑(Subtype.val i) : Int) + (1 : Int))))) = M.one (SV.v (Value.int IntKind.i64 (rounds c)))) ((true : Bool) = true)) (decide ((2 : Int) ^ Subtype.val i < c))) (@Bool.rec (fun _ => Prop) (@Bool.rec (fun _ => Prop) (And (M.one (SV.v (Value.int IntKind.i64 (↑(Subtype.val i) : Int))) = M.one (SV.v (Value.int IntKind.i64 (rounds c)))) ((true : Bool) = true)) (And (M.one (SV.v (Value.int IntKind.i64 (IntKind.wrap IntKind.i64 ((↑(Subtype.val i) : Int) + (1 : Int))))) = M.one (SV.v (Value.int IntKind.i64 (rounds c)))) ((true : Bool) = true)) (decide ((2 : Int) ^ Subtype.val i < c))) (∃ i' : I27 c, (And ((62 : Nat) - Subtype.val i' < (62 : Nat) - Subtype.val i) (And (And (And (M.one (SV.v (Value.int IntKind.i64 c)) = M.one (SV.v (Value.int IntKind.i64 c))) ((true : Bool) = true)) (And (And (M.one (SV.v (Value.int IntKind.i64 (↑(Subtype.val i') : Int))) = M.one (SV.v (Value.int IntKind.i64 (IntKind.wrap IntKind.i64 ((↑(Subtype.val i) : Int) + (1 : Int)))))) ((true : Bool) = true)) (And (And (M.one (SV.v (Value.int IntKind.i64 ((2 : Int) ^ Subtype.val i'))) = M.one (SV.v (Value.int IntKind.i64 (IntKind.wrap IntKind.i64 ((2 : Int) * (2 : Int) ^ Subtype.val i))))) ((true : Bool) = true)) True))) (And True ((true : Bool) = true))))) (decide ((2 : Int) ^ Subtype.val i < c))) (decide ((↑(Subtype.val i) : Int) < (62 : Int))))))) (by kernel_rfl) ?_
  refine And.intro ⟨⟨0, by omega⟩, ?_⟩ (fun ⟨n, h1, h2⟩ => ?_)
  · repeat' first | exact trivial | refine And.intro ?_ ?_ | with_reducible refine bif_dt (by assumption) ?_ | with_reducible refine bif_df (by assumption) ?_ | with_reducible refine bif_dec (fun _ => ?_) (fun _ => ?_) | with_reducible refine bif_not ?_ | with_reducible refine bif_and ?_ | with_reducible refine bif_or ?_ | with_reducible refine bif_t (by assumption) ?_ | with_reducible refine bif_f (by assumption) ?_ | with_reducible refine bif_t (beq_self_eq_true _) ?_ | with_reducible refine bif_b (fun _ => ?_) (fun _ => ?_) | rfl | (intro h0; omega)
  · have hp : (2 : Int) ^ n ≤ 2 ^ 62 := by
      have := Nat.pow_le_pow_right (n := 2) (by omega) h2
      exact_mod_cast this
    have hp0 : (0 : Int) < 2 ^ n := by
      have := Nat.two_pow_pos n
      exact_mod_cast this
    have hcast : ((2 ^ n : Nat) : Int) = 2 ^ n := by simp
    have hiff := roundsN_iff n c.toNat
    have hiff2 := roundsN_iff 63 c.toNat
    have h7 : IntKind.i64.wrap (n + 1) = n + 1 := wrap64 (by omega) (by omega)
    have hr63 : roundsN c.toNat ≤ 63 := hiff2.1 (by omega)
    repeat' first | exact trivial | refine And.intro ?_ ?_ | with_reducible refine bif_dt (by assumption) ?_ | with_reducible refine bif_df (by assumption) ?_ | with_reducible refine bif_dec (fun _ => ?_) (fun _ => ?_) | with_reducible refine bif_not ?_ | with_reducible refine bif_and ?_ | with_reducible refine bif_or ?_ | with_reducible refine bif_t (by assumption) ?_ | with_reducible refine bif_f (by assumption) ?_ | with_reducible refine bif_t (beq_self_eq_true _) ?_ | with_reducible refine bif_b (fun _ => ?_) (fun _ => ?_) | rfl | (intro h0; omega)
    all_goals simp only at *
    · have h8 : IntKind.i64.wrap (2 * 2 ^ n) = 2 ^ (n + 1) := by
        have hp1 : (2 : Int) ^ n ≤ 2 ^ 61 := by
          have := Nat.pow_le_pow_right (n := 2) (by omega) (show n ≤ 61 by omega)
          exact_mod_cast this
        rw [wrap64 (by omega) (by omega), Int.pow_succ, Int.mul_comm]
      refine ⟨⟨n + 1, by omega⟩, by simp only; omega, ?_⟩
      repeat' first | exact trivial | refine And.intro ?_ ?_ | with_reducible refine bif_dt (by assumption) ?_ | with_reducible refine bif_df (by assumption) ?_ | with_reducible refine bif_dec (fun _ => ?_) (fun _ => ?_) | with_reducible refine bif_not ?_ | with_reducible refine bif_and ?_ | with_reducible refine bif_or ?_ | with_reducible refine bif_t (by assumption) ?_ | with_reducible refine bif_f (by assumption) ?_ | with_reducible refine bif_t (beq_self_eq_true _) ?_ | with_reducible refine bif_b (fun _ => ?_) (fun _ => ?_) | rfl | (intro h0; omega)
      · rw [h7]; rfl
      · rw [h8]
    · congr 3
      simp only [rounds]
      omega
    · rw [h7]
      congr 3
      simp only [rounds]
      have : n = 62 := by omega
      subst this
      have : (2 : Nat) ^ 62 = 4611686018427387904 := by decide
      omega
    · congr 3
      simp only [rounds]
      omega
def rroundsT : List M → (M → Prop) → Prop
  | [.one (.v (.int .i64 c))], K => c < 9223372036854775808 ∧ K (int (rounds c))
  | _, _ => False
theorem rrounds_ok : POK Try.prog 27 rroundsT := by
  intro ms K h
  unfold rroundsT at h ⊢
  split at h
  · exact ⟨_, h.2, rrounds_spec _ h.1, rfl, fun _ hk => ⟨h.1, hk⟩⟩
  · exact h.elim

theorem rounds3 : SFun Try.prog 26 [int 3] (int 2) := by
  have := rounds_spec 3 (by decide)
  have h : rounds 3 = 2 := by
    simp only [rounds]
    rw [show (3 : Int).toNat = 3 from rfl, roundsN_step (by decide), show 3 - 3 / 2 = 2 from rfl, roundsN_step (by decide), show 2 - 2 / 2 = 1 from rfl, roundsN]
    rfl
  rwa [h] at this
def open3T : List M → (M → Prop) → Prop
  | [.one (.v (.int .i64 n)), .agg [.ints .u8 32 f], .agg [.ints .u8 32 t]], K => n = 3 ∧ K (segs (⟨0, 3, f, t, hz, false⟩, 0))
  | _, _ => False
theorem open3_ok : POK Try.prog 12 open3T := by
  intro ms K h
  unfold open3T at h ⊢
  split at h
  · obtain ⟨rfl, hK⟩ := h
    exact ⟨_, hK, open_spec 3 _ _, rfl, fun _ hk => ⟨rfl, hk⟩⟩
  · exact h.elim
def post3T : List M → (M → Prop) → Prop
  | [.agg [.v (.int .i64 lo), .v (.int .i64 hi), .ints .u8 32 f, .ints .u8 32 t, .ints .u8 32 m, .v (.bool p)], .agg [.ints .u8 32 mid]], K => lo = 0 ∧ hi = 3 ∧ m = hz ∧ p = false ∧ K (segs (⟨0, 3, f, t, mid, true⟩, 0))
  | _, _ => False
theorem post3_ok : POK Try.prog 14 post3T := by
  intro ms K h
  unfold post3T at h ⊢
  split at h
  · obtain ⟨rfl, rfl, rfl, rfl, hK⟩ := h
    exact ⟨_, hK, post_spec 0 3 _ _ hz false _, rfl, fun _ hk => ⟨rfl, rfl, rfl, rfl, hk⟩⟩
  · exact h.elim
def choose3T : List M → (M → Prop) → Prop
  | [.agg [.v (.int .i64 lo), .v (.int .i64 hi), .ints .u8 32 f, .ints .u8 32 t, .ints .u8 32 m, .v (.bool p)], .one (.v (.bool a))], K => lo = 0 ∧ hi = 3 ∧ p = true ∧ a = true ∧ K (segs (⟨1, 3, m, t, hz, false⟩, 0))
  | _, _ => False
theorem choose3_ok : POK Try.prog 16 choose3T := by
  intro ms K h
  unfold choose3T at h ⊢
  split at h
  · obtain ⟨rfl, rfl, rfl, rfl, hK⟩ := h
    exact ⟨_, hK, choose_spec 0 3 _ _ _ true true, rfl, fun _ hk => ⟨rfl, rfl, rfl, rfl, hk⟩⟩
  · exact h.elim
def middle3T : List M → (M → Prop) → Prop
  | [.agg [.v (.int .i64 lo), .v (.int .i64 hi), .ints .u8 32 f, .ints .u8 32 t, .ints .u8 32 m, .v (.bool p)]], K => lo = 0 ∧ hi = 3 ∧ m = hz ∧ p = false ∧ K (int 1)
  | _, _ => False
theorem middle3_ok : POK Try.prog 22 middle3T := by
  intro ms K h
  unfold middle3T at h ⊢
  split at h
  · obtain ⟨rfl, rfl, rfl, rfl, hK⟩ := h
    exact ⟨_, hK, middle_spec 0 3 _ _ hz false, rfl, fun _ hk => ⟨rfl, rfl, rfl, rfl, hk⟩⟩
  · exact h.elim
def right3T : List M → (M → Prop) → Prop
  | [.agg [.v (.int .i64 lo), .v (.int .i64 hi), .ints .u8 32 f, .ints .u8 32 t, .ints .u8 32 m, .v (.bool p)]], K => lo = 1 ∧ hi = 3 ∧ m = hz ∧ p = false ∧ K (bool true)
  | _, _ => False
theorem right3_ok : POK Try.prog 20 right3T := by
  intro ms K h
  unfold right3T at h ⊢
  split at h
  · obtain ⟨rfl, rfl, rfl, rfl, hK⟩ := h
    exact ⟨_, hK, right_spec 1 3 _ _ hz false, rfl, fun _ hk => ⟨rfl, rfl, rfl, rfl, hk⟩⟩
  · exact h.elim
def rounds3T : List M → (M → Prop) → Prop
  | [.one (.v (.int .i64 c))], K => c = 3 ∧ K (int 2)
  | _, _ => False
theorem rounds3_ok : POK Try.prog 26 rounds3T := by
  intro ms K h
  unfold rounds3T at h ⊢
  split at h
  · obtain ⟨rfl, hK⟩ := h
    exact ⟨_, hK, rounds3, rfl, fun _ hk => ⟨rfl, hk⟩⟩
  · exact h.elim
theorem knows_spec : SFun Try.prog 28 [] (bool true) := by
  refine SFun.of [(12, open3T), (14, post3T), (16, choose3T), (22, middle3T), (20, right3T), (26, rounds3T), (19, numT)] (SOK.cons open3_ok (SOK.cons post3_ok (SOK.cons choose3_ok (SOK.cons middle3_ok (SOK.cons right3_ok (SOK.cons rounds3_ok (SOK.cons num_ok SOK.nil))))))) tok mixed [] [] Try.call28 Try.func28 rfl (by rfl) ?_
  refine Eq.mp (α := (And ((3 : Int) = (3 : Int)) (And ((0 : Int) = (0 : Int)) (And ((3 : Int) = (3 : Int)) (And (hz = hz) (And ((false : Bool) = false) (And ((0 : Int) = (0 : Int)) (And ((3 : Int) = (3 : Int)) (And ((true : Bool) = true) (And ((true : Bool) = true) (And ((0 : Int) = (0 : Int)) (And ((3 : Int) = (3 : Int)) (And (hz = hz) (And ((false : Bool) = false) (And ((3 : Int) = (3 : Int)) (And ((1 : Int) = (1 : Int)) (And ((3 : Int) = (3 : Int)) (And (hz = hz) (And ((false : Bool) = false) (And (M.one (SV.v (Value.bool true)) = M.one (SV.v (Value.bool true))) ((true : Bool) = true))))))))))))))))))))) (by kernel_rfl) ?_
  repeat' first | exact trivial | refine And.intro ?_ ?_ | with_reducible refine bif_dt (by assumption) ?_ | with_reducible refine bif_df (by assumption) ?_ | with_reducible refine bif_dec (fun _ => ?_) (fun _ => ?_) | with_reducible refine bif_not ?_ | with_reducible refine bif_and ?_ | with_reducible refine bif_or ?_ | with_reducible refine bif_t (by assumption) ?_ | with_reducible refine bif_f (by assumption) ?_ | with_reducible refine bif_t (beq_self_eq_true _) ?_ | with_reducible refine bif_b (fun _ => ?_) (fun _ => ?_) | rfl | (intro h0; omega)
def knowsT : List M → (M → Prop) → Prop
  | [], K => K (bool true)
  | _, _ => False
theorem knows_ok : POK Try.prog 28 knowsT := by
  intro ms K h
  unfold knowsT at h ⊢
  split at h
  · exact ⟨_, h, knows_spec, rfl, fun _ hk => hk⟩
  · exact h.elim
theorem steps_spec (lo hi : Int) (f t m : List Int) (p : Bool) (count : Int) (mid : List Int) (agree : Bool) (hc : count < 9223372036854775808) :
    SFun Try.prog 3 [seg lo hi f t m p, int count, hash mid, bool agree] (bool true) := by
  refine SFun.of [(11, ownT), (12, openT), (13, ropenT), (14, postT), (15, rpostT), (16, chooseT), (17, rchooseT), (18, refT), (19, numT), (20, rightT), (21, rrightT), (22, middleT), (23, rmiddleT), (24, lastT), (25, rlastT), (26, roundsT), (27, rroundsT), (28, knowsT)] (SOK.cons own_ok (SOK.cons open_ok (SOK.cons ropen_ok (SOK.cons post_ok (SOK.cons rpost_ok (SOK.cons choose_ok (SOK.cons rchoose_ok (SOK.cons ref_ok (SOK.cons num_ok (SOK.cons right_ok (SOK.cons rright_ok (SOK.cons middle_ok (SOK.cons rmiddle_ok (SOK.cons last_ok (SOK.cons rlast_ok (SOK.cons rounds_ok (SOK.cons rrounds_ok (SOK.cons knows_ok SOK.nil)))))))))))))))))) tok mixed [] [] Try.call3 Try.func3 rfl (by rfl) ?_
  refine Eq.mp (α := (@Bool.rec (fun _ => Prop) (And (M.one (SV.v (Value.bool false)) = M.one (SV.v (Value.bool true))) ((true : Bool) = true)) (@Bool.rec (fun _ => Prop) (And (M.one (SV.v (Value.bool false)) = M.one (SV.v (Value.bool true))) ((true : Bool) = true)) (@Bool.rec (fun _ => Prop) (And (M.one (SV.v (Value.bool false)) = M.one (SV.v (Value.bool true))) ((true : Bool) = true)) (@Bool.rec (fun _ => Prop) (And (M.one (SV.v (Value.bool false)) = M.one (SV.v (Value.bool true))) ((true : Bool) = true)) (@Bool.rec (fun _ => Prop) (And (M.one (SV.v (Value.bool false)) = M.one (SV.v (Value.bool true))) ((true : Bool) = true)) (@Bool.rec (fun _ => Prop) (And (M.one (SV.v (Value.bool false)) = M.one (SV.v (Value.bool true))) ((true : Bool) = true)) (@Bool.rec (fun _ => Prop) (And (M.one (SV.v (Value.bool false)) = M.one (SV.v (Value.bool true))) ((true : Bool) = true)) (@Bool.rec (fun _ => Prop) (And (M.one (SV.v (Value.bool false)) = M.one (SV.v (Value.bool true))) ((true : Bool) = true)) (@Bool.rec (fun _ => Prop) (And (M.one (SV.v (Value.bool false)) = M.one (SV.v (Value.bool true))) ((true : Bool) = true)) (And (count < (9223372036854775808 : Int)) (And (count < (9223372036854775808 : Int)) (@Bool.rec (fun _ => Prop) (And (M.one (SV.v (Value.bool false)) = M.one (SV.v (Value.bool true))) ((true : Bool) = true)) (And (M.one (SV.v (Value.bool true)) = M.one (SV.v (Value.bool true))) ((true : Bool) = true)) (rounds count == rounds count)))) (last { lo := lo, hi := hi, fr := f, to := t, mid := m, posted := p } == last { lo := lo, hi := hi, fr := f, to := t, mid := m, posted := p })) (middle { lo := lo, hi := hi, fr := f, to := t, mid := m, posted := p } == middle { lo := lo, hi := hi, fr := f, to := t, mid := m, posted := p })) (right { lo := lo, hi := hi, fr := f, to := t, mid := m, posted := p } == right { lo := lo, hi := hi, fr := f, to := t, mid := m, posted := p })) (Prod.snd (chosen { lo := lo, hi := hi, fr := f, to := t, mid := m, posted := p } agree) == Prod.snd (chosen { lo := lo, hi := hi, fr := f, to := t, mid := m, posted := p } agree))) (Seg.lo (Prod.fst (chosen { lo := lo, hi := hi, fr := f, to := t, mid := m, posted := p } agree)) == Seg.lo (Prod.fst (chosen { lo := lo, hi := hi, fr := f, to := t, mid := m, posted := p } agree)) && (Seg.hi (Prod.fst (chosen { lo := lo, hi := hi, fr := f, to := t, mid := m, posted := p } agree)) == Seg.hi (Prod.fst (chosen { lo := lo, hi := hi, fr := f, to := t, mid := m, posted := p } agree)) && (Seg.fr (Prod.fst (chosen { lo := lo, hi := hi, fr := f, to := t, mid := m, posted := p } agree)) == Seg.fr (Prod.fst (chosen { lo := lo, hi := hi, fr := f, to := t, mid := m, posted := p } agree)) && (Seg.to (Prod.fst (chosen { lo := lo, hi := hi, fr := f, to := t, mid := m, posted := p } agree)) == Seg.to (Prod.fst (chosen { lo := lo, hi := hi, fr := f, to := t, mid := m, posted := p } agree)) && (Seg.mid (Prod.fst (chosen { lo := lo, hi := hi, fr := f, to := t, mid := m, posted := p } agree)) == Seg.mid (Prod.fst (chosen { lo := lo, hi := hi, fr := f, to := t, mid := m, posted := p } agree)) && Seg.posted (Prod.fst (chosen { lo := lo, hi := hi, fr := f, to := t, mid := m, posted := p } agree)) == Seg.posted (Prod.fst (chosen { lo := lo, hi := hi, fr := f, to := t, mid := m, posted := p } agree)))))))) (Prod.snd (posted { lo := lo, hi := hi, fr := f, to := t, mid := m, posted := p } mid) == Prod.snd (posted { lo := lo, hi := hi, fr := f, to := t, mid := m, posted := p } mid))) (Seg.lo (Prod.fst (posted { lo := lo, hi := hi, fr := f, to := t, mid := m, posted := p } mid)) == Seg.lo (Prod.fst (posted { lo := lo, hi := hi, fr := f, to := t, mid := m, posted := p } mid)) && (Seg.hi (Prod.fst (posted { lo := lo, hi := hi, fr := f, to := t, mid := m, posted := p } mid)) == Seg.hi (Prod.fst (posted { lo := lo, hi := hi, fr := f, to := t, mid := m, posted := p } mid)) && (Seg.fr (Prod.fst (posted { lo := lo, hi := hi, fr := f, to := t, mid := m, posted := p } mid)) == Seg.fr (Prod.fst (posted { lo := lo, hi := hi, fr := f, to := t, mid := m, posted := p } mid)) && (Seg.to (Prod.fst (posted { lo := lo, hi := hi, fr := f, to := t, mid := m, posted := p } mid)) == Seg.to (Prod.fst (posted { lo := lo, hi := hi, fr := f, to := t, mid := m, posted := p } mid)) && (Seg.mid (Prod.fst (posted { lo := lo, hi := hi, fr := f, to := t, mid := m, posted := p } mid)) == Seg.mid (Prod.fst (posted { lo := lo, hi := hi, fr := f, to := t, mid := m, posted := p } mid)) && Seg.posted (Prod.fst (posted { lo := lo, hi := hi, fr := f, to := t, mid := m, posted := p } mid)) == Seg.posted (Prod.fst (posted { lo := lo, hi := hi, fr := f, to := t, mid := m, posted := p } mid)))))))) (Prod.snd (opened count f t) == Prod.snd (opened count f t))) (Seg.lo (Prod.fst (opened count f t)) == Seg.lo (Prod.fst (opened count f t)) && (Seg.hi (Prod.fst (opened count f t)) == Seg.hi (Prod.fst (opened count f t)) && (Seg.fr (Prod.fst (opened count f t)) == Seg.fr (Prod.fst (opened count f t)) && (Seg.to (Prod.fst (opened count f t)) == Seg.to (Prod.fst (opened count f t)) && (Seg.mid (Prod.fst (opened count f t)) == Seg.mid (Prod.fst (opened count f t)) && Seg.posted (Prod.fst (opened count f t)) == Seg.posted (Prod.fst (opened count f t))))))))) (by kernel_rfl) ?_
  repeat' first | exact trivial | refine And.intro ?_ ?_ | with_reducible refine bif_dt (by assumption) ?_ | with_reducible refine bif_df (by assumption) ?_ | with_reducible refine bif_dec (fun _ => ?_) (fun _ => ?_) | with_reducible refine bif_not ?_ | with_reducible refine bif_and ?_ | with_reducible refine bif_or ?_ | with_reducible refine bif_t (by assumption) ?_ | with_reducible refine bif_f (by assumption) ?_ | with_reducible refine bif_t (beq_self_eq_true _) ?_ | with_reducible refine bif_b (fun _ => ?_) (fun _ => ?_) | rfl | (intro h0; omega)
  all_goals exact hc
end Go.Proofs.Ytphbjceeoedigaa
