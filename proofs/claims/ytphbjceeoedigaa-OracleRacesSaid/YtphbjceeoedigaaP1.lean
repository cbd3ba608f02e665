import Derived.Test.YtphbjceeoedigaaTab
import Derived.Test.YtphbjceeoedigaaSx22
namespace Go.Proofs.Ytphbjceeoedigaa
open Go Go.Sx

structure Seg where
  lo : Int
  hi : Int
  fr : List Int
  to : List Int
  mid : List Int
  posted : Bool

abbrev seg (lo hi : Int) (f t m : List Int) (p : Bool) : M := .agg [.v (.int .i64 lo), .v (.int .i64 hi), .ints .u8 32 f, .ints .u8 32 t, .ints .u8 32 m, .v (.bool p)]
def hz : List Int := List.replicate 32 0
abbrev int (i : Int) : M := .one (.v (.int .i64 i))
abbrev bool (i : Bool) : M := .one (.v (.bool i))
abbrev hash (l : List Int) : M := .agg [.ints .u8 32 l]

def right (s : Seg) : Bool := decide (0 ≤ s.lo) && decide (s.lo < s.hi) && decide (s.hi ≤ 4096) && (bif s.posted then decide (s.lo + 1 < s.hi) else s.mid == hz)
def middle (s : Seg) : Int := bif right s then (s.lo + s.hi) / 2 else 0
def last (s : Seg) : Bool := right s && decide (s.hi = s.lo + 1)
def zs : Seg := ⟨0, 0, hz, hz, hz, false⟩

theorem right_in {s : Seg} (h : right s = true) : 0 ≤ s.lo ∧ s.lo < s.hi ∧ s.hi ≤ 4096 := by
  simp only [right, Bool.and_eq_true, decide_eq_true_eq] at h
  exact ⟨h.1.1.1, h.1.1.2, h.1.2⟩

theorem wrap64 {x : Int} (h1 : -9223372036854775808 ≤ x) (h2 : x < 9223372036854775808) : IntKind.i64.wrap x = x := by
  simp [IntKind.wrap, IntKind.bits, IntKind.signed]
  omega

set_option maxRecDepth 100000
set_option maxHeartbeats 4000000


theorem beq_dec (a b : Int) : (a == b) = decide (a = b) := by
  by_cases h : a = b <;> simp [h]
theorem hz_eq : List.replicate 32 (0 : Int) = hz := rfl

theorem right_spec (lo hi : Int) (f t m : List Int) (p : Bool) : SFun Try.prog 20 [seg lo hi f t m p] (bool (right ⟨lo, hi, f, t, m, p⟩)) := by
  refine SFun.of [] SOK.nil tok mixed [] [] Try.call20 Try.func20 rfl (by rfl) ?_
  refine Eq.mp (α := (@Bool.rec (fun _ => Prop) (@Bool.rec (fun _ => Prop) (And (M.one (SV.v (Value.bool false)) = M.one (SV.v (Value.bool (right { lo := lo, hi := hi, fr := f, to := t, mid := m, posted := p })))) ((true : Bool) = true)) (And (M.one (SV.v (Value.bool false)) = M.one (SV.v (Value.bool (right { lo := lo, hi := hi, fr := f, to := t, mid := m, posted := p })))) ((true : Bool) = true)) (p)) (@Bool.rec (fun _ => Prop) (@Bool.rec (fun _ => Prop) (And (M.one (SV.v (Value.bool false)) = M.one (SV.v (Value.bool (right { lo := lo, hi := hi, fr := f, to := t, mid := m, posted := p })))) ((true : Bool) = true)) (And (M.one (SV.v (Value.bool false)) = M.one (SV.v (Value.bool (right { lo := lo, hi := hi, fr := f, to := t, mid := m, posted := p })))) ((true : Bool) = true)) (p)) (@Bool.rec (fun _ => Prop) (@Bool.rec (fun _ => Prop) (And (M.one (SV.v (Value.bool false)) = M.one (SV.v (Value.bool (right { lo := lo, hi := hi, fr := f, to := t, mid := m, posted := p })))) ((true : Bool) = true)) (And (M.one (SV.v (Value.bool (m == List.replicate (32 : Nat) (0 : Int)))) = M.one (SV.v (Value.bool (right { lo := lo, hi := hi, fr := f, to := t, mid := m, posted := p })))) ((true : Bool) = true)) (decide (hi ≤ (4096 : Int)))) (@Bool.rec (fun _ => Prop) (And (M.one (SV.v (Value.bool false)) = M.one (SV.v (Value.bool (right { lo := lo, hi := hi, fr := f, to := t, mid := m, posted := p })))) ((true : Bool) = true)) (And (M.one (SV.v (Value.bool (decide (IntKind.wrap IntKind.i64 (lo + (1 : Int)) < hi)))) = M.one (SV.v (Value.bool (right { lo := lo, hi := hi, fr := f, to := t, mid := m, posted := p })))) ((true : Bool) = true)) (decide (hi ≤ (4096 : Int)))) (p)) (decide (lo < hi))) (decide ((0 : Int) ≤ lo)))) (by kernel_rfl) ?_
  repeat' first | exact trivial | refine And.intro ?_ ?_ | with_reducible refine bif_dt (by assumption) ?_ | with_reducible refine bif_df (by assumption) ?_ | with_reducible refine bif_dec (fun _ => ?_) (fun _ => ?_) | with_reducible refine bif_not ?_ | with_reducible refine bif_and ?_ | with_reducible refine bif_or ?_ | with_reducible refine bif_t (by assumption) ?_ | with_reducible refine bif_f (by assumption) ?_ | with_reducible refine bif_t (beq_self_eq_true _) ?_ | with_reducible refine bif_b (fun _ => ?_) (fun _ => ?_) | rfl | (intro h0; omega)
  all_goals try simp only [hz_eq] at *
  all_goals try rw [wrap64 (by omega) (by omega)]
  all_goals simp [right, *]
def rightT : List M → (M → Prop) → Prop
  | [.agg [.v (.int .i64 lo), .v (.int .i64 hi), .ints .u8 32 f, .ints .u8 32 t, .ints .u8 32 m, .v (.bool p)]], K => K (bool (right ⟨lo, hi, f, t, m, p⟩))
  | _, _ => False
theorem right_ok : POK Try.prog 20 rightT := by
  intro ms K h
  unfold rightT at h ⊢
  split at h
  · exact ⟨_, h, right_spec _ _ _ _ _ _, rfl, fun _ hk => hk⟩
  · exact h.elim

theorem rright_spec (lo hi : Int) (f t m : List Int) (p : Bool) : SFun Try.prog 21 [seg lo hi f t m p] (bool (right ⟨lo, hi, f, t, m, p⟩)) := by
  refine SFun.of [] SOK.nil tok mixed [] [] Try.call21 Try.func21 rfl (by rfl) ?_
  refine Eq.mp (α := (@Bool.rec (fun _ => Prop) (@Bool.rec (fun _ => Prop) (@Bool.rec (fun _ => Prop) (@Bool.rec (fun _ => Prop) (And (M.one (SV.v (Value.bool (m == List.replicate (32 : Nat) (0 : Int)))) = M.one (SV.v (Value.bool (right { lo := lo, hi := hi, fr := f, to := t, mid := m, posted := p })))) ((true : Bool) = true)) (And (M.one (SV.v (Value.bool (decide ((1 : Int) < IntKind.wrap IntKind.i64 (hi - lo))))) = M.one (SV.v (Value.bool (right { lo := lo, hi := hi, fr := f, to := t, mid := m, posted := p })))) ((true : Bool) = true)) (p)) (And (M.one (SV.v (Value.bool false)) = M.one (SV.v (Value.bool (right { lo := lo, hi := hi, fr := f, to := t, mid := m, posted := p })))) ((true : Bool) = true)) (decide ((4096 : Int) < hi))) (And (M.one (SV.v (Value.bool false)) = M.one (SV.v (Value.bool (right { lo := lo, hi := hi, fr := f, to := t, mid := m, posted := p })))) ((true : Bool) = true)) (decide (hi ≤ lo))) (And (M.one (SV.v (Value.bool false)) = M.one (SV.v (Value.bool (right { lo := lo, hi := hi, fr := f, to := t, mid := m, posted := p })))) ((true : Bool) = true)) (decide (lo < (0 : Int))))) (by kernel_rfl) ?_
  repeat' first | exact trivial | refine And.intro ?_ ?_ | with_reducible refine bif_dt (by assumption) ?_ | with_reducible refine bif_df (by assumption) ?_ | with_reducible refine bif_dec (fun _ => ?_) (fun _ => ?_) | with_reducible refine bif_not ?_ | with_reducible refine bif_and ?_ | with_reducible refine bif_or ?_ | with_reducible refine bif_t (by assumption) ?_ | with_reducible refine bif_f (by assumption) ?_ | with_reducible refine bif_t (beq_self_eq_true _) ?_ | with_reducible refine bif_b (fun _ => ?_) (fun _ => ?_) | rfl | (intro h0; omega)
  all_goals try simp only [hz_eq, Int.not_lt, Int.not_le] at *
  all_goals try rw [wrap64 (by omega) (by omega)]
  all_goals simp [right, *]
  all_goals omega
def rrightT : List M → (M → Prop) → Prop
  | [.agg [.v (.int .i64 lo), .v (.int .i64 hi), .ints .u8 32 f, .ints .u8 32 t, .ints .u8 32 m, .v (.bool p)]], K => K (bool (right ⟨lo, hi, f, t, m, p⟩))
  | _, _ => False
theorem rright_ok : POK Try.prog 21 rrightT := by
  intro ms K h
  unfold rrightT at h ⊢
  split at h
  · exact ⟨_, h, rright_spec _ _ _ _ _ _, rfl, fun _ hk => hk⟩
  · exact h.elim

theorem middle_spec (lo hi : Int) (f t m : List Int) (p : Bool) : SFun Try.prog 22 [seg lo hi f t m p] (int (middle ⟨lo, hi, f, t, m, p⟩)) := by
  refine SFun.of [(20, rightT)] (SOK.cons right_ok SOK.nil) tok mixed [] [] Try.call22 Try.func22 rfl (by rfl) ?_
  refine Eq.mp (α := (@Bool.rec (fun _ => Prop) (And ((2 : Int) ≠ (0 : Int)) (And (M.one (SV.v (Value.int IntKind.i64 (IntKind.wrap IntKind.i64 (Int.tdiv (IntKind.wrap IntKind.i64 (lo + hi)) (2 : Int))))) = M.one (SV.v (Value.int IntKind.i64 (middle { lo := lo, hi := hi, fr := f, to := t, mid := m, posted := p })))) ((true : Bool) = true))) (And (M.one (SV.v (Value.int IntKind.i64 (0 : Int))) = M.one (SV.v (Value.int IntKind.i64 (middle { lo := lo, hi := hi, fr := f, to := t, mid := m, posted := p })))) ((true : Bool) = true)) (!right { lo := lo, hi := hi, fr := f, to := t, mid := m, posted := p }))) (by kernel_rfl) ?_
  repeat' first | exact trivial | refine And.intro ?_ ?_ | with_reducible refine bif_dt (by assumption) ?_ | with_reducible refine bif_df (by assumption) ?_ | with_reducible refine bif_dec (fun _ => ?_) (fun _ => ?_) | with_reducible refine bif_not ?_ | with_reducible refine bif_and ?_ | with_reducible refine bif_or ?_ | with_reducible refine bif_t (by assumption) ?_ | with_reducible refine bif_f (by assumption) ?_ | with_reducible refine bif_t (beq_self_eq_true _) ?_ | with_reducible refine bif_b (fun _ => ?_) (fun _ => ?_) | rfl | (intro h0; omega)
  · rename_i h
    have := right_in h
    simp only at this
    rw [wrap64 (x := lo + hi) (by omega) (by omega), Int.tdiv_eq_ediv_of_nonneg (by omega), wrap64 (by omega) (by omega)]
    simp [middle, *]
  · simp [middle, *]
def middleT : List M → (M → Prop) → Prop
  | [.agg [.v (.int .i64 lo), .v (.int .i64 hi), .ints .u8 32 f, .ints .u8 32 t, .ints .u8 32 m, .v (.bool p)]], K => K (int (middle ⟨lo, hi, f, t, m, p⟩))
  | _, _ => False
theorem middle_ok : POK Try.prog 22 middleT := by
  intro ms K h
  unfold middleT at h ⊢
  split at h
  · exact ⟨_, h, middle_spec _ _ _ _ _ _, rfl, fun _ hk => hk⟩
  · exact h.elim

theorem rmiddle_spec (lo hi : Int) (f t m : List Int) (p : Bool) : SFun Try.prog 23 [seg lo hi f t m p] (int (middle ⟨lo, hi, f, t, m, p⟩)) := by
  refine SFun.of [(21, rrightT)] (SOK.cons rright_ok SOK.nil) tok mixed [] [] Try.call23 Try.func23 rfl (by rfl) ?_
  refine Eq.mp (α := (@Bool.rec (fun _ => Prop) (And ((2 : Int) ≠ (0 : Int)) (And (M.one (SV.v (Value.int IntKind.i64 (IntKind.wrap IntKind.i64 (Int.tdiv (IntKind.wrap IntKind.i64 (lo + hi)) (2 : Int))))) = M.one (SV.v (Value.int IntKind.i64 (middle { lo := lo, hi := hi, fr := f, to := t, mid := m, posted := p })))) ((true : Bool) = true))) (And (M.one (SV.v (Value.int IntKind.i64 (0 : Int))) = M.one (SV.v (Value.int IntKind.i64 (middle { lo := lo, hi := hi, fr := f, to := t, mid := m, posted := p })))) ((true : Bool) = true)) (!right { lo := lo, hi := hi, fr := f, to := t, mid := m, posted := p }))) (by kernel_rfl) ?_
  repeat' first | exact trivial | refine And.intro ?_ ?_ | with_reducible refine bif_dt (by assumption) ?_ | with_reducible refine bif_df (by assumption) ?_ | with_reducible refine bif_dec (fun _ => ?_) (fun _ => ?_) | with_reducible refine bif_not ?_ | with_reducible refine bif_and ?_ | with_reducible refine bif_or ?_ | with_reducible refine bif_t (by assumption) ?_ | with_reducible refine bif_f (by assumption) ?_ | with_reducible refine bif_t (beq_self_eq_true _) ?_ | with_reducible refine bif_b (fun _ => ?_) (fun _ => ?_) | rfl | (intro h0; omega)
  · rename_i h
    have := right_in h
    simp only at this
    rw [wrap64 (x := lo + hi) (by omega) (by omega), Int.tdiv_eq_ediv_of_nonneg (by omega), wrap64 (by omega) (by omega)]
    simp [middle, *]
  · simp [middle, *]
def rmiddleT : List M → (M → Prop) → Prop
  | [.agg [.v (.int .i64 lo), .v (.int .i64 hi), .ints .u8 32 f, .ints .u8 32 t, .ints .u8 32 m, .v (.bool p)]], K => K (int (middle ⟨lo, hi, f, t, m, p⟩))
  | _, _ => False
theorem rmiddle_ok : POK Try.prog 23 rmiddleT := by
  intro ms K h
  unfold rmiddleT at h ⊢
  split at h
  · exact ⟨_, h, rmiddle_spec _ _ _ _ _ _, rfl, fun _ hk => hk⟩
  · exact h.elim

theorem last_spec (lo hi : Int) (f t m : List Int) (p : Bool) : SFun Try.prog 24 [seg lo hi f t m p] (bool (last ⟨lo, hi, f, t, m, p⟩)) := by
  refine SFun.of [(20, rightT)] (SOK.cons right_ok SOK.nil) tok mixed [] [] Try.call24 Try.func24 rfl (by rfl) ?_
  refine Eq.mp (α := (@Bool.rec (fun _ => Prop) (And (M.one (SV.v (Value.bool false)) = M.one (SV.v (Value.bool (last { lo := lo, hi := hi, fr := f, to := t, mid := m, posted := p })))) ((true : Bool) = true)) (And (M.one (SV.v (Value.bool (hi == IntKind.wrap IntKind.i64 (lo + (1 : Int))))) = M.one (SV.v (Value.bool (last { lo := lo, hi := hi, fr := f, to := t, mid := m, posted := p })))) ((true : Bool) = true)) (right { lo := lo, hi := hi, fr := f, to := t, mid := m, posted := p }))) (by kernel_rfl) ?_
  repeat' first | exact trivial | refine And.intro ?_ ?_ | with_reducible refine bif_dt (by assumption) ?_ | with_reducible refine bif_df (by assumption) ?_ | with_reducible refine bif_dec (fun _ => ?_) (fun _ => ?_) | with_reducible refine bif_not ?_ | with_reducible refine bif_and ?_ | with_reducible refine bif_or ?_ | with_reducible refine bif_t (by assumption) ?_ | with_reducible refine bif_f (by assumption) ?_ | with_reducible refine bif_t (beq_self_eq_true _) ?_ | with_reducible refine bif_b (fun _ => ?_) (fun _ => ?_) | rfl | (intro h0; omega)
  · rename_i h
    have := right_in h
    simp only at this
    rw [wrap64 (x := lo + 1) (by omega) (by omega)]
    simp only [last, h, Bool.true_and, beq_dec]
  · simp [last, *]
def lastT : List M → (M → Prop) → Prop
  | [.agg [.v (.int .i64 lo), .v (.int .i64 hi), .ints .u8 32 f, .ints .u8 32 t, .ints .u8 32 m, .v (.bool p)]], K => K (bool (last ⟨lo, hi, f, t, m, p⟩))
  | _, _ => False
theorem last_ok : POK Try.prog 24 lastT := by
  intro ms K h
  unfold lastT at h ⊢
  split at h
  · exact ⟨_, h, last_spec _ _ _ _ _ _, rfl, fun _ hk => hk⟩
  · exact h.elim

theorem rlast_spec (lo hi : Int) (f t m : List Int) (p : Bool) : SFun Try.prog 25 [seg lo hi f t m p] (bool (last ⟨lo, hi, f, t, m, p⟩)) := by
  refine SFun.of [(21, rrightT)] (SOK.cons rright_ok SOK.nil) tok mixed [] [] Try.call25 Try.func25 rfl (by rfl) ?_
  refine Eq.mp (α := (@Bool.rec (fun _ => Prop) (And (M.one (SV.v (Value.bool false)) = M.one (SV.v (Value.bool (last { lo := lo, hi := hi, fr := f, to := t, mid := m, posted := p })))) ((true : Bool) = true)) (And (M.one (SV.v (Value.bool (IntKind.wrap IntKind.i64 (hi - lo) == (1 : Int)))) = M.one (SV.v (Value.bool (last { lo := lo, hi := hi, fr := f, to := t, mid := m, posted := p })))) ((true : Bool) = true)) (right { lo := lo, hi := hi, fr := f, to := t, mid := m, posted := p }))) (by kernel_rfl) ?_
  repeat' first | exact trivial | refine And.intro ?_ ?_ | with_reducible refine bif_dt (by assumption) ?_ | with_reducible refine bif_df (by assumption) ?_ | with_reducible refine bif_dec (fun _ => ?_) (fun _ => ?_) | with_reducible refine bif_not ?_ | with_reducible refine bif_and ?_ | with_reducible refine bif_or ?_ | with_reducible refine bif_t (by assumption) ?_ | with_reducible refine bif_f (by assumption) ?_ | with_reducible refine bif_t (beq_self_eq_true _) ?_ | with_reducible refine bif_b (fun _ => ?_) (fun _ => ?_) | rfl | (intro h0; omega)
  · rename_i h
    have := right_in h
    simp only at this
    rw [wrap64 (x := hi - lo) (by omega) (by omega)]
    have h2 : decide (hi - lo = 1) = decide (hi = lo + 1) := by
      rw [decide_eq_decide]
      omega
    simp [last, h, beq_dec, h2]
  · simp [last, *]
def rlastT : List M → (M → Prop) → Prop
  | [.agg [.v (.int .i64 lo), .v (.int .i64 hi), .ints .u8 32 f, .ints .u8 32 t, .ints .u8 32 m, .v (.bool p)]], K => K (bool (last ⟨lo, hi, f, t, m, p⟩))
  | _, _ => False
theorem rlast_ok : POK Try.prog 25 rlastT := by
  intro ms K h
  unfold rlastT at h ⊢
  split at h
  · exact ⟨_, h, rlast_spec _ _ _ _ _ _, rfl, fun _ hk => hk⟩
  · exact h.elim

def opn (count : Int) : Bool := decide (1 ≤ count) && decide (count ≤ 4096)
def opened (count : Int) (f t : List Int) : Seg × Int := bif opn count then (⟨0, count, f, t, hz, false⟩, 0) else (zs, 1)

abbrev segs (r : Seg × Int) : M := .tup [seg r.1.lo r.1.hi r.1.fr r.1.to r.1.mid r.1.posted, int r.2]

theorem open_spec (n : Int) (f t : List Int) : SFun Try.prog 12 [int n, hash f, hash t] (segs (opened n f t)) := by
  refine SFun.of [(20, rightT)] (SOK.cons right_ok SOK.nil) tok mixed [] [] Try.call12 Try.func12 rfl (by rfl) ?_
  refine Eq.mp (α := (@Bool.rec (fun _ => Prop) (And (M.tup [M.agg [SV.v (Value.int IntKind.i64 (0 : Int)), SV.v (Value.int IntKind.i64 n), SV.ints IntKind.u8 (32 : Nat) f, SV.ints IntKind.u8 (32 : Nat) t, SV.ints IntKind.u8 (32 : Nat) (List.replicate (32 : Nat) (0 : Int)), SV.v (Value.bool false)], M.one (SV.v (Value.int IntKind.i64 (0 : Int)))] = M.tup [M.agg [SV.v (Value.int IntKind.i64 (Seg.lo (Prod.fst (opened n f t)))), SV.v (Value.int IntKind.i64 (Seg.hi (Prod.fst (opened n f t)))), SV.ints IntKind.u8 (32 : Nat) (Seg.fr (Prod.fst (opened n f t))), SV.ints IntKind.u8 (32 : Nat) (Seg.to (Prod.fst (opened n f t))), SV.ints IntKind.u8 (32 : Nat) (Seg.mid (Prod.fst (opened n f t))), SV.v (Value.bool (Seg.posted (Prod.fst (opened n f t))))], M.one (SV.v (Value.int IntKind.i64 (Prod.snd (opened n f t))))]) ((true : Bool) = true)) (And (M.tup [M.agg [SV.v (Value.int IntKind.i64 (0 : Int)), SV.v (Value.int IntKind.i64 (0 : Int)), SV.ints IntKind.u8 (32 : Nat) (List.replicate (32 : Nat) (0 : Int)), SV.ints IntKind.u8 (32 : Nat) (List.replicate (32 : Nat) (0 : Int)), SV.ints IntKind.u8 (32 : Nat) (List.replicate (32 : Nat) (0 : Int)), SV.v (Value.bool false)], M.one (SV.v (Value.int IntKind.i64 (1 : Int)))] = M.tup [M.agg [SV.v (Value.int IntKind.i64 (Seg.lo (Prod.fst (opened n f t)))), SV.v (Value.int IntKind.i64 (Seg.hi (Prod.fst (opened n f t)))), SV.ints IntKind.u8 (32 : Nat) (Seg.fr (Prod.fst (opened n f t))), SV.ints IntKind.u8 (32 : Nat) (Seg.to (Prod.fst (opened n f t))), SV.ints IntKind.u8 (32 : Nat) (Seg.mid (Prod.fst (opened n f t))), SV.v (Value.bool (Seg.posted (Prod.fst (opened n f t))))], M.one (SV.v (Value.int IntKind.i64 (Prod.snd (opened n f t))))]) ((true : Bool) = true)) (!right { lo := (0 : Int), hi := n, fr := f, to := t, mid := List.replicate (32 : Nat) (0 : Int), posted := false }))) (by kernel_rfl) ?_
  repeat' first | exact trivial | refine And.intro ?_ ?_ | with_reducible refine bif_dt (by assumption) ?_ | with_reducible refine bif_df (by assumption) ?_ | with_reducible refine bif_dec (fun _ => ?_) (fun _ => ?_) | with_reducible refine bif_not ?_ | with_reducible refine bif_and ?_ | with_reducible refine bif_or ?_ | with_reducible refine bif_t (by assumption) ?_ | with_reducible refine bif_f (by assumption) ?_ | with_reducible refine bif_t (beq_self_eq_true _) ?_ | with_reducible refine bif_b (fun _ => ?_) (fun _ => ?_) | rfl | (intro h0; omega)
  · rename_i h
    have h1 : opn n = true := by
      simp [right, opn, hz] at h ⊢
      omega
    simp [opened, h1, hz_eq]
  · rename_i h
    have h1 : opn n = false := by
      simp [right, opn, hz] at h ⊢
      omega
    simp [opened, h1, hz_eq, zs]
def openT : List M → (M → Prop) → Prop
  | [.one (.v (.int .i64 n)), .agg [.ints .u8 32 f], .agg [.ints .u8 32 t]], K => K (segs (opened n f t))
  | _, _ => False
theorem open_ok : POK Try.prog 12 openT := by
  intro ms K h
  unfold openT at h ⊢
  split at h
  · exact ⟨_, h, open_spec _ _ _, rfl, fun _ hk => hk⟩
  · exact h.elim

theorem ropen_spec (n : Int) (f t : List Int) : SFun Try.prog 13 [int n, hash f, hash t] (segs (opened n f t)) := by
  refine SFun.of [] SOK.nil tok mixed [] [] Try.call13 Try.func13 rfl (by rfl) ?_
  refine Eq.mp (α := (@Bool.rec (fun _ => Prop) (@Bool.rec (fun _ => Prop) (And (M.tup [M.agg [SV.v (Value.int IntKind.i64 (0 : Int)), SV.v (Value.int IntKind.i64 n), SV.ints IntKind.u8 (32 : Nat) f, SV.ints IntKind.u8 (32 : Nat) t, SV.ints IntKind.u8 (32 : Nat) (List.replicate (32 : Nat) (0 : Int)), SV.v (Value.bool false)], M.one (SV.v (Value.int IntKind.i64 (0 : Int)))] = M.tup [M.agg [SV.v (Value.int IntKind.i64 (Seg.lo (Prod.fst (opened n f t)))), SV.v (Value.int IntKind.i64 (Seg.hi (Prod.fst (opened n f t)))), SV.ints IntKind.u8 (32 : Nat) (Seg.fr (Prod.fst (opened n f t))), SV.ints IntKind.u8 (32 : Nat) (Seg.to (Prod.fst (opened n f t))), SV.ints IntKind.u8 (32 : Nat) (Seg.mid (Prod.fst (opened n f t))), SV.v (Value.bool (Seg.posted (Prod.fst (opened n f t))))], M.one (SV.v (Value.int IntKind.i64 (Prod.snd (opened n f t))))]) ((true : Bool) = true)) (And (M.tup [M.agg [SV.v (Value.int IntKind.i64 (0 : Int)), SV.v (Value.int IntKind.i64 (0 : Int)), SV.ints IntKind.u8 (32 : Nat) (List.replicate (32 : Nat) (0 : Int)), SV.ints IntKind.u8 (32 : Nat) (List.replicate (32 : Nat) (0 : Int)), SV.ints IntKind.u8 (32 : Nat) (List.replicate (32 : Nat) (0 : Int)), SV.v (Value.bool false)], M.one (SV.v (Value.int IntKind.i64 (1 : Int)))] = M.tup [M.agg [SV.v (Value.int IntKind.i64 (Seg.lo (Prod.fst (opened n f t)))), SV.v (Value.int IntKind.i64 (Seg.hi (Prod.fst (opened n f t)))), SV.ints IntKind.u8 (32 : Nat) (Seg.fr (Prod.fst (opened n f t))), SV.ints IntKind.u8 (32 : Nat) (Seg.to (Prod.fst (opened n f t))), SV.ints IntKind.u8 (32 : Nat) (Seg.mid (Prod.fst (opened n f t))), SV.v (Value.bool (Seg.posted (Prod.fst (opened n f t))))], M.one (SV.v (Value.int IntKind.i64 (Prod.snd (opened n f t))))]) ((true : Bool) = true)) (decide ((4096 : Int) < n))) (And (M.tup [M.agg [SV.v (Value.int IntKind.i64 (0 : Int)), SV.v (Value.int IntKind.i64 (0 : Int)), SV.ints IntKind.u8 (32 : Nat) (List.replicate (32 : Nat) (0 : Int)), SV.ints IntKind.u8 (32 : Nat) (List.replicate (32 : Nat) (0 : Int)), SV.ints IntKind.u8 (32 : Nat) (List.replicate (32 : Nat) (0 : Int)), SV.v (Value.bool false)], M.one (SV.v (Value.int IntKind.i64 (1 : Int)))] = M.tup [M.agg [SV.v (Value.int IntKind.i64 (Seg.lo (Prod.fst (opened n f t)))), SV.v (Value.int IntKind.i64 (Seg.hi (Prod.fst (opened n f t)))), SV.ints IntKind.u8 (32 : Nat) (Seg.fr (Prod.fst (opened n f t))), SV.ints IntKind.u8 (32 : Nat) (Seg.to (Prod.fst (opened n f t))), SV.ints IntKind.u8 (32 : Nat) (Seg.mid (Prod.fst (opened n f t))), SV.v (Value.bool (Seg.posted (Prod.fst (opened n f t))))], M.one (SV.v (Value.int IntKind.i64 (Prod.snd (opened n f t))))]) ((true : Bool) = true)) (decide (n < (1 : Int))))) (by kernel_rfl) ?_
  repeat' first | exact trivial | refine And.intro ?_ ?_ | with_reducible refine bif_dt (by assumption) ?_ | with_reducible refine bif_df (by assumption) ?_ | with_reducible refine bif_dec (fun _ => ?_) (fun _ => ?_) | with_reducible refine bif_not ?_ | with_reducible refine bif_and ?_ | with_reducible refine bif_or ?_ | with_reducible refine bif_t (by assumption) ?_ | with_reducible refine bif_f (by assumption) ?_ | with_reducible refine bif_t (beq_self_eq_true _) ?_ | with_reducible refine bif_b (fun _ => ?_) (fun _ => ?_) | rfl | (intro h0; omega)
  · have h1 : opn n = false := by simp [opn]; omega
    simp [opened, h1, hz_eq, zs]
  · have h1 : opn n = false := by simp [opn]; omega
    simp [opened, h1, hz_eq, zs]
  · have h1 : opn n = true := by simp [opn]; omega
    simp [opened, h1, hz_eq]
def ropenT : List M → (M → Prop) → Prop
  | [.one (.v (.int .i64 n)), .agg [.ints .u8 32 f], .agg [.ints .u8 32 t]], K => K (segs (opened n f t))
  | _, _ => False
theorem ropen_ok : POK Try.prog 13 ropenT := by
  intro ms K h
  unfold ropenT at h ⊢
  split at h
  · exact ⟨_, h, ropen_spec _ _ _, rfl, fun _ hk => hk⟩
  · exact h.elim

def posted (s : Seg) (mid : List Int) : Seg × Int := bif right s then (bif s.posted || last s then (zs, 52) else ({ s with mid := mid, posted := true }, 0)) else (zs, 1)
def chosen (s : Seg) (agree : Bool) : Seg × Int := bif right s then (bif s.posted then (bif agree then (⟨middle s, s.hi, s.mid, s.to, hz, false⟩, 0) else (⟨s.lo, middle s, s.fr, s.mid, hz, false⟩, 0)) else (zs, 52)) else (zs, 1)

theorem post_spec (lo hi : Int) (f t m : List Int) (p : Bool) (mid : List Int) : SFun Try.prog 14 [seg lo hi f t m p, hash mid] (segs (posted ⟨lo, hi, f, t, m, p⟩ mid)) := by
  refine SFun.of [(20, rightT), (24, lastT)] (SOK.cons right_ok (SOK.cons last_ok SOK.nil)) tok mixed [] [] Try.call14 Try.func14 rfl (by rfl) ?_
  refine Eq.mp (α := (@Bool.rec (fun _ => Prop) (@Bool.rec (fun _ => Prop) (@Bool.rec (fun _ => Prop) (And (M.tup [M.agg [SV.v (Value.int IntKind.i64 lo), SV.v (Value.int IntKind.i64 hi), SV.ints IntKind.u8 (32 : Nat) f, SV.ints IntKind.u8 (32 : Nat) t, SV.ints IntKind.u8 (32 : Nat) mid, SV.v (Value.bool true)], M.one (SV.v (Value.int IntKind.i64 (0 : Int)))] = M.tup [M.agg [SV.v (Value.int IntKind.i64 (Seg.lo (Prod.fst (posted { lo := lo, hi := hi, fr := f, to := t, mid := m, posted := p } mid)))), SV.v (Value.int IntKind.i64 (Seg.hi (Prod.fst (posted { lo := lo, hi := hi, fr := f, to := t, mid := m, posted := p } mid)))), SV.ints IntKind.u8 (32 : Nat) (Seg.fr (Prod.fst (posted { lo := lo, hi := hi, fr := f, to := t, mid := m, posted := p } mid))), SV.ints IntKind.u8 (32 : Nat) (Seg.to (Prod.fst (posted { lo := lo, hi := hi, fr := f, to := t, mid := m, posted := p } mid))), SV.ints IntKind.u8 (32 : Nat) (Seg.mid (Prod.fst (posted { lo := lo, hi := hi, fr := f, to := t, mid := m, posted := p } mid))), SV.v (Value.bool (Seg.posted (Prod.fst (posted { lo := lo, hi := hi, fr := f, to := t, mid := m, posted := p } mid))))], M.one (SV.v (Value.int IntKind.i64 (Prod.snd (posted { lo := lo, hi := hi, fr := f, to := t, mid := m, posted := p } mid))))]) ((true : Bool) = true)) (And (M.tup [M.agg [SV.v (Value.int IntKind.i64 (0 : Int)), SV.v (Value.int IntKind.i64 (0 : Int)), SV.ints IntKind.u8 (32 : Nat) (List.replicate (32 : Nat) (0 : Int)), SV.ints IntKind.u8 (32 : Nat) (List.replicate (32 : Nat) (0 : Int)), SV.ints IntKind.u8 (32 : Nat) (List.replicate (32 : Nat) (0 : Int)), SV.v (Value.bool false)], M.one (SV.v (Value.int IntKind.i64 (52 : Int)))] = M.tup [M.agg [SV.v (Value.int IntKind.i64 (Seg.lo (Prod.fst (posted { lo := lo, hi := hi, fr := f, to := t, mid := m, posted := p } mid)))), SV.v (Value.int IntKind.i64 (Seg.hi (Prod.fst (posted { lo := lo, hi := hi, fr := f, to := t, mid := m, posted := p } mid)))), SV.ints IntKind.u8 (32 : Nat) (Seg.fr (Prod.fst (posted { lo := lo, hi := hi, fr := f, to := t, mid := m, posted := p } mid))), SV.ints IntKind.u8 (32 : Nat) (Seg.to (Prod.fst (posted { lo := lo, hi := hi, fr := f, to := t, mid := m, posted := p } mid))), SV.ints IntKind.u8 (32 : Nat) (Seg.mid (Prod.fst (posted { lo := lo, hi := hi, fr := f, to := t, mid := m, posted := p } mid))), SV.v (Value.bool (Seg.posted (Prod.fst (posted { lo := lo, hi := hi, fr := f, to := t, mid := m, posted := p } mid))))], M.one (SV.v (Value.int IntKind.i64 (Prod.snd (posted { lo := lo, hi := hi, fr := f, to := t, mid := m, posted := p } mid))))]) ((true : Bool) = true)) (last { lo := lo, hi := hi, fr := f, to := t, mid := m, posted := p })) (And (M.tup [M.agg [SV.v (Value.int IntKind.i64 (0 : Int)), SV.v (Value.int IntKind.i64 (0 : Int)), SV.ints IntKind.u8 (32 : Nat) (List.replicate (32 : Nat) (0 : Int)), SV.ints IntKind.u8 (32 : Nat) (List.replicate (32 : Nat) (0 : Int)), SV.ints IntKind.u8 (32 : Nat) (List.replicate (32 : Nat) (0 : Int)), SV.v (Value.bool false)], M.one (SV.v (Value.int IntKind.i64 (52 : Int)))] = M.tup [M.agg [SV.v (Value.int IntKind.i64 (Seg.lo (Prod.fst (posted { lo := lo, hi := hi, fr := f, to := t, mid := m, posted := p } mid)))), SV.v (Value.int IntKind.i64 (Seg.hi (Prod.fst (posted { lo := lo, hi := hi, fr := f, to := t, mid := m, posted := p } mid)))), SV.ints IntKind.u8 (32 : Nat) (Seg.fr (Prod.fst (posted { lo := lo, hi := hi, fr := f, to := t, mid := m, posted := p } mid))), SV.ints IntKind.u8 (32 : Nat) (Seg.to (Prod.fst (posted { lo := lo, hi := hi, fr := f, to := t, mid := m, posted := p } mid))), SV.ints IntKind.u8 (32 : Nat) (Seg.mid (Prod.fst (posted { lo := lo, hi := hi, fr := f, to := t, mid := m, posted := p } mid))), SV.v (Value.bool (Seg.posted (Prod.fst (posted { lo := lo, hi := hi, fr := f, to := t, mid := m, posted := p } mid))))], M.one (SV.v (Value.int IntKind.i64 (Prod.snd (posted { lo := lo, hi := hi, fr := f, to := t, mid := m, posted := p } mid))))]) ((true : Bool) = true)) (p)) (And (M.tup [M.agg [SV.v (Value.int IntKind.i64 (0 : Int)), SV.v (Value.int IntKind.i64 (0 : Int)), SV.ints IntKind.u8 (32 : Nat) (List.replicate (32 : Nat) (0 : Int)), SV.ints IntKind.u8 (32 : Nat) (List.replicate (32 : Nat) (0 : Int)), SV.ints IntKind.u8 (32 : Nat) (List.replicate (32 : Nat) (0 : Int)), SV.v (Value.bool false)], M.one (SV.v (Value.int IntKind.i64 (1 : Int)))] = M.tup [M.agg [SV.v (Value.int IntKind.i64 (Seg.lo (Prod.fst (posted { lo := lo, hi := hi, fr := f, to := t, mid := m, posted := p } mid)))), SV.v (Value.int IntKind.i64 (Seg.hi (Prod.fst (posted { lo := lo, hi := hi, fr := f, to := t, mid := m, posted := p } mid)))), SV.ints IntKind.u8 (32 : Nat) (Seg.fr (Prod.fst (posted { lo := lo, hi := hi, fr := f, to := t, mid := m, posted := p } mid))), SV.ints IntKind.u8 (32 : Nat) (Seg.to (Prod.fst (posted { lo := lo, hi := hi, fr := f, to := t, mid := m, posted := p } mid))), SV.ints IntKind.u8 (32 : Nat) (Seg.mid (Prod.fst (posted { lo := lo, hi := hi, fr := f, to := t, mid := m, posted := p } mid))), SV.v (Value.bool (Seg.posted (Prod.fst (posted { lo := lo, hi := hi, fr := f, to := t, mid := m, posted := p } mid))))], M.one (SV.v (Value.int IntKind.i64 (Prod.snd (posted { lo := lo, hi := hi, fr := f, to := t, mid := m, posted := p } mid))))]) ((true : Bool) = true)) (!right { lo := lo, hi := hi, fr := f, to := t, mid := m, posted := p }))) (by kernel_rfl) ?_
  repeat' first | exact trivial | refine And.intro ?_ ?_ | with_reducible refine bif_dt (by assumption) ?_ | with_reducible refine bif_df (by assumption) ?_ | with_reducible refine bif_dec (fun _ => ?_) (fun _ => ?_) | with_reducible refine bif_not ?_ | with_reducible refine bif_and ?_ | with_reducible refine bif_or ?_ | with_reducible refine bif_t (by assumption) ?_ | with_reducible refine bif_f (by assumption) ?_ | with_reducible refine bif_t (beq_self_eq_true _) ?_ | with_reducible refine bif_b (fun _ => ?_) (fun _ => ?_) | rfl | (intro h0; omega)
  all_goals subst_vars
  all_goals simp [posted, hz_eq, zs, *]
def postT : List M → (M → Prop) → Prop
  | [.agg [.v (.int .i64 lo), .v (.int .i64 hi), .ints .u8 32 f, .ints .u8 32 t, .ints .u8 32 m, .v (.bool p)], .agg [.ints .u8 32 mid]], K => K (segs (posted ⟨lo, hi, f, t, m, p⟩ mid))
  | _, _ => False
theorem post_ok : POK Try.prog 14 postT := by
  intro ms K h
  unfold postT at h ⊢
  split at h
  · exact ⟨_, h, post_spec _ _ _ _ _ _ _, rfl, fun _ hk => hk⟩
  · exact h.elim

theorem rpost_spec (lo hi : Int) (f t m : List Int) (p : Bool) (mid : List Int) : SFun Try.prog 15 [seg lo hi f t m p, hash mid] (segs (posted ⟨lo, hi, f, t, m, p⟩ mid)) := by
  refine SFun.of [(21, rrightT), (25, rlastT)] (SOK.cons rright_ok (SOK.cons rlast_ok SOK.nil)) tok mixed [] [] Try.call15 Try.func15 rfl (by rfl) ?_
  refine Eq.mp (α := (@Bool.rec (fun _ => Prop) (@Bool.rec (fun _ => Prop) (@Bool.rec (fun _ => Prop) (And (M.tup [M.agg [SV.v (Value.int IntKind.i64 lo), SV.v (Value.int IntKind.i64 hi), SV.ints IntKind.u8 (32 : Nat) f, SV.ints IntKind.u8 (32 : Nat) t, SV.ints IntKind.u8 (32 : Nat) mid, SV.v (Value.bool true)], M.one (SV.v (Value.int IntKind.i64 (0 : Int)))] = M.tup [M.agg [SV.v (Value.int IntKind.i64 (Seg.lo (Prod.fst (posted { lo := lo, hi := hi, fr := f, to := t, mid := m, posted := p } mid)))), SV.v (Value.int IntKind.i64 (Seg.hi (Prod.fst (posted { lo := lo, hi := hi, fr := f, to := t, mid := m, posted := p } mid)))), SV.ints IntKind.u8 (32 : Nat) (Seg.fr (Prod.fst (posted { lo := lo, hi := hi, fr := f, to := t, mid := m, posted := p } mid))), SV.ints IntKind.u8 (32 : Nat) (Seg.to (Prod.fst (posted { lo := lo, hi := hi, fr := f, to := t, mid := m, posted := p } mid))), SV.ints IntKind.u8 (32 : Nat) (Seg.mid (Prod.fst (posted { lo := lo, hi := hi, fr := f, to := t, mid := m, posted := p } mid))), SV.v (Value.bool (Seg.posted (Prod.fst (posted { lo := lo, hi := hi, fr := f, to := t, mid := m, posted := p } mid))))], M.one (SV.v (Value.int IntKind.i64 (Prod.snd (posted { lo := lo, hi := hi, fr := f, to := t, mid := m, posted := p } mid))))]) ((true : Bool) = true)) (And (M.tup [M.agg [SV.v (Value.int IntKind.i64 (0 : Int)), SV.v (Value.int IntKind.i64 (0 : Int)), SV.ints IntKind.u8 (32 : Nat) (List.replicate (32 : Nat) (0 : Int)), SV.ints IntKind.u8 (32 : Nat) (List.replicate (32 : Nat) (0 : Int)), SV.ints IntKind.u8 (32 : Nat) (List.replicate (32 : Nat) (0 : Int)), SV.v (Value.bool false)], M.one (SV.v (Value.int IntKind.i64 (52 : Int)))] = M.tup [M.agg [SV.v (Value.int IntKind.i64 (Seg.lo (Prod.fst (posted { lo := lo, hi := hi, fr := f, to := t, mid := m, posted := p } mid)))), SV.v (Value.int IntKind.i64 (Seg.hi (Prod.fst (posted { lo := lo, hi := hi, fr := f, to := t, mid := m, posted := p } mid)))), SV.ints IntKind.u8 (32 : Nat) (Seg.fr (Prod.fst (posted { lo := lo, hi := hi, fr := f, to := t, mid := m, posted := p } mid))), SV.ints IntKind.u8 (32 : Nat) (Seg.to (Prod.fst (posted { lo := lo, hi := hi, fr := f, to := t, mid := m, posted := p } mid))), SV.ints IntKind.u8 (32 : Nat) (Seg.mid (Prod.fst (posted { lo := lo, hi := hi, fr := f, to := t, mid := m, posted := p } mid))), SV.v (Value.bool (Seg.posted (Prod.fst (posted { lo := lo, hi := hi, fr := f, to := t, mid := m, posted := p } mid))))], M.one (SV.v (Value.int IntKind.i64 (Prod.snd (posted { lo := lo, hi := hi, fr := f, to := t, mid := m, posted := p } mid))))]) ((true : Bool) = true)) (last { lo := lo, hi := hi, fr := f, to := t, mid := m, posted := p })) (And (M.tup [M.agg [SV.v (Value.int IntKind.i64 (0 : Int)), SV.v (Value.int IntKind.i64 (0 : Int)), SV.ints IntKind.u8 (32 : Nat) (List.replicate (32 : Nat) (0 : Int)), SV.ints IntKind.u8 (32 : Nat) (List.replicate (32 : Nat) (0 : Int)), SV.ints IntKind.u8 (32 : Nat) (List.replicate (32 : Nat) (0 : Int)), SV.v (Value.bool false)], M.one (SV.v (Value.int IntKind.i64 (52 : Int)))] = M.tup [M.agg [SV.v (Value.int IntKind.i64 (Seg.lo (Prod.fst (posted { lo := lo, hi := hi, fr := f, to := t, mid := m, posted := p } mid)))), SV.v (Value.int IntKind.i64 (Seg.hi (Prod.fst (posted { lo := lo, hi := hi, fr := f, to := t, mid := m, posted := p } mid)))), SV.ints IntKind.u8 (32 : Nat) (Seg.fr (Prod.fst (posted { lo := lo, hi := hi, fr := f, to := t, mid := m, posted := p } mid))), SV.ints IntKind.u8 (32 : Nat) (Seg.to (Prod.fst (posted { lo := lo, hi := hi, fr := f, to := t, mid := m, posted := p } mid))), SV.ints IntKind.u8 (32 : Nat) (Seg.mid (Prod.fst (posted { lo := lo, hi := hi, fr := f, to := t, mid := m, posted := p } mid))), SV.v (Value.bool (Seg.posted (Prod.fst (posted { lo := lo, hi := hi, fr := f, to := t, mid := m, posted := p } mid))))], M.one (SV.v (Value.int IntKind.i64 (Prod.snd (posted { lo := lo, hi := hi, fr := f, to := t, mid := m, posted := p } mid))))]) ((true : Bool) = true)) (p)) (And (M.tup [M.agg [SV.v (Value.int IntKind.i64 (0 : Int)), SV.v (Value.int IntKind.i64 (0 : Int)), SV.ints IntKind.u8 (32 : Nat) (List.replicate (32 : Nat) (0 : Int)), SV.ints IntKind.u8 (32 : Nat) (List.replicate (32 : Nat) (0 : Int)), SV.ints IntKind.u8 (32 : Nat) (List.replicate (32 : Nat) (0 : Int)), SV.v (Value.bool false)], M.one (SV.v (Value.int IntKind.i64 (1 : Int)))] = M.tup [M.agg [SV.v (Value.int IntKind.i64 (Seg.lo (Prod.fst (posted { lo := lo, hi := hi, fr := f, to := t, mid := m, posted := p } mid)))), SV.v (Value.int IntKind.i64 (Seg.hi (Prod.fst (posted { lo := lo, hi := hi, fr := f, to := t, mid := m, posted := p } mid)))), SV.ints IntKind.u8 (32 : Nat) (Seg.fr (Prod.fst (posted { lo := lo, hi := hi, fr := f, to := t, mid := m, posted := p } mid))), SV.ints IntKind.u8 (32 : Nat) (Seg.to (Prod.fst (posted { lo := lo, hi := hi, fr := f, to := t, mid := m, posted := p } mid))), SV.ints IntKind.u8 (32 : Nat) (Seg.mid (Prod.fst (posted { lo := lo, hi := hi, fr := f, to := t, mid := m, posted := p } mid))), SV.v (Value.bool (Seg.posted (Prod.fst (posted { lo := lo, hi := hi, fr := f, to := t, mid := m, posted := p } mid))))], M.one (SV.v (Value.int IntKind.i64 (Prod.snd (posted { lo := lo, hi := hi, fr := f, to := t, mid := m, posted := p } mid))))]) ((true : Bool) = true)) (!right { lo := lo, hi := hi, fr := f, to := t, mid := m, posted := p }))) (by kernel_rfl) ?_
  repeat' first | exact trivial | refine And.intro ?_ ?_ | with_reducible refine bif_dt (by assumption) ?_ | with_reducible refine bif_df (by assumption) ?_ | with_reducible refine bif_dec (fun _ => ?_) (fun _ => ?_) | with_reducible refine bif_not ?_ | with_reducible refine bif_and ?_ | with_reducible refine bif_or ?_ | with_reducible refine bif_t (by assumption) ?_ | with_reducible refine bif_f (by assumption) ?_ | with_reducible refine bif_t (beq_self_eq_true _) ?_ | with_reducible refine bif_b (fun _ => ?_) (fun _ => ?_) | rfl | (intro h0; omega)
  all_goals subst_vars
  all_goals simp [posted, hz_eq, zs, *]
def rpostT : List M → (M → Prop) → Prop
  | [.agg [.v (.int .i64 lo), .v (.int .i64 hi), .ints .u8 32 f, .ints .u8 32 t, .ints .u8 32 m, .v (.bool p)], .agg [.ints .u8 32 mid]], K => K (segs (posted ⟨lo, hi, f, t, m, p⟩ mid))
  | _, _ => False
theorem rpost_ok : POK Try.prog 15 rpostT := by
  intro ms K h
  unfold rpostT at h ⊢
  split at h
  · exact ⟨_, h, rpost_spec _ _ _ _ _ _ _, rfl, fun _ hk => hk⟩
  · exact h.elim

theorem choose_spec (lo hi : Int) (f t m : List Int) (p : Bool) (a : Bool) : SFun Try.prog 16 [seg lo hi f t m p, bool a] (segs (chosen ⟨lo, hi, f, t, m, p⟩ a)) := by
  refine SFun.of [(20, rightT), (22, middleT)] (SOK.cons right_ok (SOK.cons middle_ok SOK.nil)) tok mixed [] [] Try.call16 Try.func16 rfl (by rfl) ?_
  refine Eq.mp (α := (@Bool.rec (fun _ => Prop) (@Bool.rec (fun _ => Prop) (@Bool.rec (fun _ => Prop) (And (M.tup [M.agg [SV.v (Value.int IntKind.i64 lo), SV.v (Value.int IntKind.i64 (middle { lo := lo, hi := hi, fr := f, to := t, mid := m, posted := p })), SV.ints IntKind.u8 (32 : Nat) f, SV.ints IntKind.u8 (32 : Nat) m, SV.ints IntKind.u8 (32 : Nat) (List.replicate (32 : Nat) (0 : Int)), SV.v (Value.bool false)], M.one (SV.v (Value.int IntKind.i64 (0 : Int)))] = M.tup [M.agg [SV.v (Value.int IntKind.i64 (Seg.lo (Prod.fst (chosen { lo := lo, hi := hi, fr := f, to := t, mid := m, posted := p } a)))), SV.v (Value.int IntKind.i64 (Seg.hi (Prod.fst (chosen { lo := lo, hi := hi, fr := f, to := t, mid := m, posted := p } a)))), SV.ints IntKind.u8 (32 : Nat) (Seg.fr (Prod.fst (chosen { lo := lo, hi := hi, fr := f, to := t, mid := m, posted := p } a))), SV.ints IntKind.u8 (32 : Nat) (Seg.to (Prod.fst (chosen { lo := lo, hi := hi, fr := f, to := t, mid := m, posted := p } a))), SV.ints IntKind.u8 (32 : Nat) (Seg.mid (Prod.fst (chosen { lo := lo, hi := hi, fr := f, to := t, mid := m, posted := p } a))), SV.v (Value.bool (Seg.posted (Prod.fst (chosen { lo := lo, hi := hi, fr := f, to := t, mid := m, posted := p } a))))], M.one (SV.v (Value.int IntKind.i64 (Prod.snd (chosen { lo := lo, hi := hi, fr := f, to := t, mid := m, posted := p } a))))]) ((true : Bool) = true)) (And (M.tup [M.agg [SV.v (Value.int IntKind.i64 (middle { lo := lo, hi := hi, fr := f, to := t, mid := m, posted := p })), SV.v (Value.int IntKind.i64 hi), SV.ints IntKind.u8 (32 : Nat) m, SV.ints IntKind.u8 (32 : Nat) t, SV.ints IntKind.u8 (32 : Nat) (List.replicate (32 : Nat) (0 : Int)), SV.v (Value.bool false)], M.one (SV.v (Value.int IntKind.i64 (0 : Int)))] = M.tup [M.agg [SV.v (Value.int IntKind.i64 (Seg.lo (Prod.fst (chosen { lo := lo, hi := hi, fr := f, to := t, mid := m, posted := p } a)))), SV.v (Value.int IntKind.i64 (Seg.hi (Prod.fst (chosen { lo := lo, hi := hi, fr := f, to := t, mid := m, posted := p } a)))), SV.ints IntKind.u8 (32 : Nat) (Seg.fr (Prod.fst (chosen { lo := lo, hi := hi, fr := f, to := t, mid := m, posted := p } a))), SV.ints IntKind.u8 (32 : Nat) (Seg.to (Prod.fst (chosen { lo := lo, hi := hi, fr := f, to := t, mid := m, posted := p } a))), SV.ints IntKind.u8 (32 : Nat) (Seg.mid (Prod.fst (chosen { lo := lo, hi := hi, fr := f, to := t, mid := m, posted := p } a))), SV.v (Value.bool (Seg.posted (Prod.fst (chosen { lo := lo, hi := hi, fr := f, to := t, mid := m, posted := p } a))))], M.one (SV.v (Value.int IntKind.i64 (Prod.snd (chosen { lo := lo, hi := hi, fr := f, to := t, mid := m, posted := p } a))))]) ((true : Bool) = true)) (a)) (And (M.tup [M.agg [SV.v (Value.int IntKind.i64 (0 : Int)), SV.v (Value.int IntKind.i64 (0 : Int)), SV.ints IntKind.u8 (32 : Nat) (List.replicate (32 : Nat) (0 : Int)), SV.ints IntKind.u8 (32 : Nat) (List.replicate (32 : Nat) (0 : Int)), SV.ints IntKind.u8 (32 : Nat) (List.replicate (32 : Nat) (0 : Int)), SV.v (Value.bool false)], M.one (SV.v (Value.int IntKind.i64 (52 : Int)))] = M.tup [M.agg [SV.v (Value.int IntKind.i64 (Seg.lo (Prod.fst (chosen { lo := lo, hi := hi, fr := f, to := t, mid := m, posted := p } a)))), SV.v (Value.int IntKind.i64 (Seg.hi (Prod.fst (chosen { lo := lo, hi := hi, fr := f, to := t, mid := m, posted := p } a)))), SV.ints IntKind.u8 (32 : Nat) (Seg.fr (Prod.fst (chosen { lo := lo, hi := hi, fr := f, to := t, mid := m, posted := p } a))), SV.ints IntKind.u8 (32 : Nat) (Seg.to (Prod.fst (chosen { lo := lo, hi := hi, fr := f, to := t, mid := m, posted := p } a))), SV.ints IntKind.u8 (32 : Nat) (Seg.mid (Prod.fst (chosen { lo := lo, hi := hi, fr := f, to := t, mid := m, posted := p } a))), SV.v (Value.bool (Seg.posted (Prod.fst (chosen { lo := lo, hi := hi, fr := f, to := t, mid := m, posted := p } a))))], M.one (SV.v (Value.int IntKind.i64 (Prod.snd (chosen { lo := lo, hi := hi, fr := f, to := t, mid := m, posted := p } a))))]) ((true : Bool) = true)) (!p)) (And (M.tup [M.agg [SV.v (Value.int IntKind.i64 (0 : Int)), SV.v (Value.int IntKind.i64 (0 : Int)), SV.ints IntKind.u8 (32 : Nat) (List.replicate (32 : Nat) (0 : Int)), SV.ints IntKind.u8 (32 : Nat) (List.replicate (32 : Nat) (0 : Int)), SV.ints IntKind.u8 (32 : Nat) (List.replicate (32 : Nat) (0 : Int)), SV.v (Value.bool false)], M.one (SV.v (Value.int IntKind.i64 (1 : Int)))] = M.tup [M.agg [SV.v (Value.int IntKind.i64 (Seg.lo (Prod.fst (chosen { lo := lo, hi := hi, fr := f, to := t, mid := m, posted := p } a)))), SV.v (Value.int IntKind.i64 (Seg.hi (Prod.fst (chosen { lo := lo, hi := hi, fr := f, to := t, mid := m, posted := p } a)))), SV.ints IntKind.u8 (32 : Nat) (Seg.fr (Prod.fst (chosen { lo := lo, hi := hi, fr := f, to := t, mid := m, posted := p } a))), SV.ints IntKind.u8 (32 : Nat) (Seg.to (Prod.fst (chosen { lo := lo, hi := hi, fr := f, to := t, mid := m, posted := p } a))), SV.ints IntKind.u8 (32 : Nat) (Seg.mid (Prod.fst (chosen { lo := lo, hi := hi, fr := f, to := t, mid := m, posted := p } a))), SV.v (Value.bool (Seg.posted (Prod.fst (chosen { lo := lo, hi := hi, fr := f, to := t, mid := m, posted := p } a))))], M.one (SV.v (Value.int IntKind.i64 (Prod.snd (chosen { lo := lo, hi := hi, fr := f, to := t, mid := m, posted := p } a))))]) ((true : Bool) = true)) (!right { lo := lo, hi := hi, fr := f, to := t, mid := m, posted := p }))) (by kernel_rfl) ?_
  repeat' first | exact trivial | refine And.intro ?_ ?_ | with_reducible refine bif_dt (by assumption) ?_ | with_reducible refine bif_df (by assumption) ?_ | with_reducible refine bif_dec (fun _ => ?_) (fun _ => ?_) | with_reducible refine bif_not ?_ | with_reducible refine bif_and ?_ | with_reducible refine bif_or ?_ | with_reducible refine bif_t (by assumption) ?_ | with_reducible refine bif_f (by assumption) ?_ | with_reducible refine bif_t (beq_self_eq_true _) ?_ | with_reducible refine bif_b (fun _ => ?_) (fun _ => ?_) | rfl | (intro h0; omega)
  all_goals subst_vars
  all_goals simp [chosen, hz_eq, zs, *]
def chooseT : List M → (M → Prop) → Prop
  | [.agg [.v (.int .i64 lo), .v (.int .i64 hi), .ints .u8 32 f, .ints .u8 32 t, .ints .u8 32 m, .v (.bool p)], .one (.v (.bool a))], K => K (segs (chosen ⟨lo, hi, f, t, m, p⟩ a))
  | _, _ => False
theorem choose_ok : POK Try.prog 16 chooseT := by
  intro ms K h
  unfold chooseT at h ⊢
  split at h
  · exact ⟨_, h, choose_spec _ _ _ _ _ _ _, rfl, fun _ hk => hk⟩
  · exact h.elim

theorem rchoose_spec (lo hi : Int) (f t m : List Int) (p : Bool) (a : Bool) : SFun Try.prog 17 [seg lo hi f t m p, bool a] (segs (chosen ⟨lo, hi, f, t, m, p⟩ a)) := by
  refine SFun.of [(21, rrightT), (23, rmiddleT)] (SOK.cons rright_ok (SOK.cons rmiddle_ok SOK.nil)) tok mixed [] [] Try.call17 Try.func17 rfl (by rfl) ?_
  refine Eq.mp (α := (@Bool.rec (fun _ => Prop) (@Bool.rec (fun _ => Prop) (@Bool.rec (fun _ => Prop) (And (M.tup [M.agg [SV.v (Value.int IntKind.i64 lo), SV.v (Value.int IntKind.i64 (middle { lo := lo, hi := hi, fr := f, to := t, mid := m, posted := p })), SV.ints IntKind.u8 (32 : Nat) f, SV.ints IntKind.u8 (32 : Nat) m, SV.ints IntKind.u8 (32 : Nat) (List.replicate (32 : Nat) (0 : Int)), SV.v (Value.bool false)], M.one (SV.v (Value.int IntKind.i64 (0 : Int)))] = M.tup [M.agg [SV.v (Value.int IntKind.i64 (Seg.lo (Prod.fst (chosen { lo := lo, hi := hi, fr := f, to := t, mid := m, posted := p } a)))), SV.v (Value.int IntKind.i64 (Seg.hi (Prod.fst (chosen { lo := lo, hi := hi, fr := f, to := t, mid := m, posted := p } a)))), SV.ints IntKind.u8 (32 : Nat) (Seg.fr (Prod.fst (chosen { lo := lo, hi := hi, fr := f, to := t, mid := m, posted := p } a))), SV.ints IntKind.u8 (32 : Nat) (Seg.to (Prod.fst (chosen { lo := lo, hi := hi, fr := f, to := t, mid := m, posted := p } a))), SV.ints IntKind.u8 (32 : Nat) (Seg.mid (Prod.fst (chosen { lo := lo, hi := hi, fr := f, to := t, mid := m, posted := p } a))), SV.v (Value.bool (Seg.posted (Prod.fst (chosen { lo := lo, hi := hi, fr := f, to := t, mid := m, posted := p } a))))], M.one (SV.v (Value.int IntKind.i64 (Prod.snd (chosen { lo := lo, hi := hi, fr := f, to := t, mid := m, posted := p } a))))]) ((true : Bool) = true)) (And (M.tup [M.agg [SV.v (Value.int IntKind.i64 (middle { lo := lo, hi := hi, fr := f, to := t, mid := m, posted := p })), SV.v (Value.int IntKind.i64 hi), SV.ints IntKind.u8 (32 : Nat) m, SV.ints IntKind.u8 (32 : Nat) t, SV.ints IntKind.u8 (32 : Nat) (List.replicate (32 : Nat) (0 : Int)), SV.v (Value.bool false)], M.one (SV.v (Value.int IntKind.i64 (0 : Int)))] = M.tup [M.agg [SV.v (Value.int IntKind.i64 (Seg.lo (Prod.fst (chosen { lo := lo, hi := hi, fr := f, to := t, mid := m, posted := p } a)))), SV.v (Value.int IntKind.i64 (Seg.hi (Prod.fst (chosen { lo := lo, hi := hi, fr := f, to := t, mid := m, posted := p } a)))), SV.ints IntKind.u8 (32 : Nat) (Seg.fr (Prod.fst (chosen { lo := lo, hi := hi, fr := f, to := t, mid := m, posted := p } a))), SV.ints IntKind.u8 (32 : Nat) (Seg.to (Prod.fst (chosen { lo := lo, hi := hi, fr := f, to := t, mid := m, posted := p } a))), SV.ints IntKind.u8 (32 : Nat) (Seg.mid (Prod.fst (chosen { lo := lo, hi := hi, fr := f, to := t, mid := m, posted := p } a))), SV.v (Value.bool (Seg.posted (Prod.fst (chosen { lo := lo, hi := hi, fr := f, to := t, mid := m, posted := p } a))))], M.one (SV.v (Value.int IntKind.i64 (Prod.snd (chosen { lo := lo, hi := hi, fr := f, to := t, mid := m, posted := p } a))))]) ((true : Bool) = true)) (a)) (And (M.tup [M.agg [SV.v (Value.int IntKind.i64 (0 : Int)), SV.v (Value.int IntKind.i64 (0 : Int)), SV.ints IntKind.u8 (32 : Nat) (List.replicate (32 : Nat) (0 : Int)), SV.ints IntKind.u8 (32 : Nat) (List.replicate (32 : Nat) (0 : Int)), SV.ints IntKind.u8 (32 : Nat) (List.replicate (32 : Nat) (0 : Int)), SV.v (Value.bool false)], M.one (SV.v (Value.int IntKind.i64 (52 : Int)))] = M.tup [M.agg [SV.v (Value.int IntKind.i64 (Seg.lo (Prod.fst (chosen { lo := lo, hi := hi, fr := f, to := t, mid := m, posted := p } a)))), SV.v (Value.int IntKind.i64 (Seg.hi (Prod.fst (chosen { lo := lo, hi := hi, fr := f, to := t, mid := m, posted := p } a)))), SV.ints IntKind.u8 (32 : Nat) (Seg.fr (Prod.fst (chosen { lo := lo, hi := hi, fr := f, to := t, mid := m, posted := p } a))), SV.ints IntKind.u8 (32 : Nat) (Seg.to (Prod.fst (chosen { lo := lo, hi := hi, fr := f, to := t, mid := m, posted := p } a))), SV.ints IntKind.u8 (32 : Nat) (Seg.mid (Prod.fst (chosen { lo := lo, hi := hi, fr := f, to := t, mid := m, posted := p } a))), SV.v (Value.bool (Seg.posted (Prod.fst (chosen { lo := lo, hi := hi, fr := f, to := t, mid := m, posted := p } a))))], M.one (SV.v (Value.int IntKind.i64 (Prod.snd (chosen { lo := lo, hi := hi, fr := f, to := t, mid := m, posted := p } a))))]) ((true : Bool) = true)) (!p)) (And (M.tup [M.agg [SV.v (Value.int IntKind.i64 (0 : Int)), SV.v (Value.int IntKind.i64 (0 : Int)), SV.ints IntKind.u8 (32 : Nat) (List.replicate (32 : Nat) (0 : Int)), SV.ints IntKind.u8 (32 : Nat) (List.replicate (32 : Nat) (0 : Int)), SV.ints IntKind.u8 (32 : Nat) (List.replicate (32 : Nat) (0 : Int)), SV.v (Value.bool false)], M.one (SV.v (Value.int IntKind.i64 (1 : Int)))] = M.tup [M.agg [SV.v (Value.int IntKind.i64 (Seg.lo (Prod.fst (chosen { lo := lo, hi := hi, fr := f, to := t, mid := m, posted := p } a)))), SV.v (Value.int IntKind.i64 (Seg.hi (Prod.fst (chosen { lo := lo, hi := hi, fr := f, to := t, mid := m, posted := p } a)))), SV.ints IntKind.u8 (32 : Nat) (Seg.fr (Prod.fst (chosen { lo := lo, hi := hi, fr := f, to := t, mid := m, posted := p } a))), SV.ints IntKind.u8 (32 : Nat) (Seg.to (Prod.fst (chosen { lo := lo, hi := hi, fr := f, to := t, mid := m, posted := p } a))), SV.ints IntKind.u8 (32 : Nat) (Seg.mid (Prod.fst (chosen { lo := lo, hi := hi, fr := f, to := t, mid := m, posted := p } a))), SV.v (Value.bool (Seg.posted (Prod.fst (chosen { lo := lo, hi := hi, fr := f, to := t, mid := m, posted := p } a))))], M.one (SV.v (Value.int IntKind.i64 (Prod.snd (chosen { lo := lo, hi := hi, fr := f, to := t, mid := m, posted := p } a))))]) ((true : Bool) = true)) (!right { lo := lo, hi := hi, fr := f, to := t, mid := m, posted := p }))) (by kernel_rfl) ?_
  repeat' first | exact trivial | refine And.intro ?_ ?_ | with_reducible refine bif_dt (by assumption) ?_ | with_reducible refine bif_df (by assumption) ?_ | with_reducible refine bif_dec (fun _ => ?_) (fun _ => ?_) | with_reducible refine bif_not ?_ | with_reducible refine bif_and ?_ | with_reducible refine bif_or ?_ | with_reducible refine bif_t (by assumption) ?_ | with_reducible refine bif_f (by assumption) ?_ | with_reducible refine bif_t (beq_self_eq_true _) ?_ | with_reducible refine bif_b (fun _ => ?_) (fun _ => ?_) | rfl | (intro h0; omega)
  all_goals subst_vars
  all_goals simp [chosen, hz_eq, zs, *]
def rchooseT : List M → (M → Prop) → Prop
  | [.agg [.v (.int .i64 lo), .v (.int .i64 hi), .ints .u8 32 f, .ints .u8 32 t, .ints .u8 32 m, .v (.bool p)], .one (.v (.bool a))], K => K (segs (chosen ⟨lo, hi, f, t, m, p⟩ a))
  | _, _ => False
theorem rchoose_ok : POK Try.prog 17 rchooseT := by
  intro ms K h
  unfold rchooseT at h ⊢
  split at h
  · exact ⟨_, h, rchoose_spec _ _ _ _ _ _ _, rfl, fun _ hk => hk⟩
  · exact h.elim

theorem own_spec (lo hi : Int) (f t m : List Int) (p : Bool) : SFun Try.prog 11 [seg lo hi f t m p] (seg lo hi f t m p) := by
  refine SFun.of [] SOK.nil tok mixed [] [] Try.call11 Try.func11 rfl (by rfl) ?_
  refine Eq.mp (α := (And (M.agg [SV.v (Value.int IntKind.i64 lo), SV.v (Value.int IntKind.i64 hi), SV.ints IntKind.u8 (32 : Nat) f, SV.ints IntKind.u8 (32 : Nat) t, SV.ints IntKind.u8 (32 : Nat) m, SV.v (Value.bool p)] = M.agg [SV.v (Value.int IntKind.i64 lo), SV.v (Value.int IntKind.i64 hi), SV.ints IntKind.u8 (32 : Nat) f, SV.ints IntKind.u8 (32 : Nat) t, SV.ints IntKind.u8 (32 : Nat) m, SV.v (Value.bool p)]) ((true : Bool) = true))) (by kernel_rfl) ?_
  repeat' first | exact trivial | refine And.intro ?_ ?_ | with_reducible refine bif_dt (by assumption) ?_ | with_reducible refine bif_df (by assumption) ?_ | with_reducible refine bif_dec (fun _ => ?_) (fun _ => ?_) | with_reducible refine bif_not ?_ | with_reducible refine bif_and ?_ | with_reducible refine bif_or ?_ | with_reducible refine bif_t (by assumption) ?_ | with_reducible refine bif_f (by assumption) ?_ | with_reducible refine bif_t (beq_self_eq_true _) ?_ | with_reducible refine bif_b (fun _ => ?_) (fun _ => ?_) | rfl | (intro h0; omega)

def ownT : List M → (M → Prop) → Prop
  | [.agg [.v (.int .i64 lo), .v (.int .i64 hi), .ints .u8 32 f, .ints .u8 32 t, .ints .u8 32 m, .v (.bool p)]], K => K (seg lo hi f t m p)
  | _, _ => False
theorem own_ok : POK Try.prog 11 ownT := by
  intro ms K h
  unfold ownT at h ⊢
  split at h
  · exact ⟨_, h, own_spec _ _ _ _ _ _, rfl, fun _ hk => hk⟩
  · exact h.elim

theorem ref_spec (lo hi : Int) (f t m : List Int) (p : Bool) : SFun Try.prog 18 [seg lo hi f t m p] (seg lo hi f t m p) := by
  refine SFun.of [] SOK.nil tok mixed [] [] Try.call18 Try.func18 rfl (by rfl) ?_
  refine Eq.mp (α := (And (M.agg [SV.v (Value.int IntKind.i64 lo), SV.v (Value.int IntKind.i64 hi), SV.ints IntKind.u8 (32 : Nat) f, SV.ints IntKind.u8 (32 : Nat) t, SV.ints IntKind.u8 (32 : Nat) m, SV.v (Value.bool p)] = M.agg [SV.v (Value.int IntKind.i64 lo), SV.v (Value.int IntKind.i64 hi), SV.ints IntKind.u8 (32 : Nat) f, SV.ints IntKind.u8 (32 : Nat) t, SV.ints IntKind.u8 (32 : Nat) m, SV.v (Value.bool p)]) ((true : Bool) = true))) (by kernel_rfl) ?_
  repeat' first | exact trivial | refine And.intro ?_ ?_ | with_reducible refine bif_dt (by assumption) ?_ | with_reducible refine bif_df (by assumption) ?_ | with_reducible refine bif_dec (fun _ => ?_) (fun _ => ?_) | with_reducible refine bif_not ?_ | with_reducible refine bif_and ?_ | with_reducible refine bif_or ?_ | with_reducible refine bif_t (by assumption) ?_ | with_reducible refine bif_f (by assumption) ?_ | with_reducible refine bif_t (beq_self_eq_true _) ?_ | with_reducible refine bif_b (fun _ => ?_) (fun _ => ?_) | rfl | (intro h0; omega)

def refT : List M → (M → Prop) → Prop
  | [.agg [.v (.int .i64 lo), .v (.int .i64 hi), .ints .u8 32 f, .ints .u8 32 t, .ints .u8 32 m, .v (.bool p)]], K => K (seg lo hi f t m p)
  | _, _ => False
theorem ref_ok : POK Try.prog 18 refT := by
  intro ms K h
  unfold refT at h ⊢
  split at h
  · exact ⟨_, h, ref_spec _ _ _ _ _ _, rfl, fun _ hk => hk⟩
  · exact h.elim

theorem num_spec (e : Int) : SFun Try.prog 19 [int e] (int e) := by
  refine SFun.of [] SOK.nil tok mixed [] [] Try.call19 Try.func19 rfl (by rfl) ?_
  refine Eq.mp (α := (And (M.one (SV.v (Value.int IntKind.i64 e)) = M.one (SV.v (Value.int IntKind.i64 e))) ((true : Bool) = true))) (by kernel_rfl) ?_
  repeat' first | exact trivial | refine And.intro ?_ ?_ | with_reducible refine bif_dt (by assumption) ?_ | with_reducible refine bif_df (by assumption) ?_ | with_reducible refine bif_dec (fun _ => ?_) (fun _ => ?_) | with_reducible refine bif_not ?_ | with_reducible refine bif_and ?_ | with_reducible refine bif_or ?_ | with_reducible refine bif_t (by assumption) ?_ | with_reducible refine bif_f (by assumption) ?_ | with_reducible refine bif_t (beq_self_eq_true _) ?_ | with_reducible refine bif_b (fun _ => ?_) (fun _ => ?_) | rfl | (intro h0; omega)

def numT : List M → (M → Prop) → Prop
  | [.one (.v (.int .i64 c))], K => K (int c)
  | _, _ => False
theorem num_ok : POK Try.prog 19 numT := by
  intro ms K h
  unfold numT at h ⊢
  split at h
  · exact ⟨_, h, num_spec _, rfl, fun _ hk => hk⟩
  · exact h.elim

/-- Behind how many halvings one is left. -/
def roundsN : Nat → Nat
  | 0 => 0
  | 1 => 0
  | n + 2 => roundsN (n + 2 - (n + 2) / 2) + 1
decreasing_by omega
def rounds (c : Int) : Int := (roundsN c.toNat : Nat)


theorem roundsN_step {m : Nat} (h : 1 < m) : roundsN m = roundsN (m - m / 2) + 1 := by
  match m, h with
  | n + 2, _ => rw [roundsN]

theorem roundsN_iff : ∀ (k m : Nat), m ≤ 2 ^ k ↔ roundsN m ≤ k
  | 0, m => by
    rcases Nat.lt_or_ge 1 m with h | h
    · rw [roundsN_step h]; simp; omega
    · match m, h with
      | 0, _ => simp [roundsN]
      | 1, _ => simp [roundsN]
  | k + 1, m => by
    rcases Nat.lt_or_ge 1 m with h | h
    · rw [roundsN_step h, Nat.add_le_add_iff_right, ← roundsN_iff k, Nat.pow_succ]
      omega
    · have : 1 ≤ 2 ^ (k + 1) := Nat.one_le_two_pow
      match m, h with
      | 0, _ => simp [roundsN]
      | 1, _ => simp only [roundsN]; omega

theorem roundsN_le (m : Nat) : roundsN m ≤ m := (roundsN_iff m m).1 (Nat.le_of_lt Nat.lt_two_pow_self)

end Go.Proofs.Ytphbjceeoedigaa
