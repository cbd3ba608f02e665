import Derived.Test.YtphbjceeoedigaaP4
import Derived.Test.YtphbjceeoedigaaSx22
namespace Go.Proofs.Ytphbjceeoedigaa
open Go Go.Sx
set_option linter.unusedVariables false
set_option linter.unusedSimpArgs false
set_option maxRecDepth 100000
set_option maxHeartbeats 4000000

def encH : List Int → List SV := fun l => [.ints .u8 32 l]
abbrev hashes (x : Value) (l : List (List Int)) : M := .one (.view x 32 encH l)

/-- What stands in the middle. -/
def at_ (l : List (List Int)) (s : Seg) : List Int × Bool :=
  bif right s && decide (middle s < (l.length : Int)) then (l.getD (middle s).toNat hz, true) else (hz, false)

theorem middle_nn (s : Seg) : 0 ≤ middle s := by
  unfold middle
  cases h : right s with
  | false => exact Int.le_refl _
  | true => have := right_in h; simp only [cond_true]; omega

theorem at_spec (x : Value) (l : List (List Int)) (lo hi : Int) (f t m : List Int) (p : Bool) :
    SFun Try.prog 51 [hashes x l, seg lo hi f t m p] (.tup [hash (at_ l ⟨lo, hi, f, t, m, p⟩).1, bool (at_ l ⟨lo, hi, f, t, m, p⟩).2]) := by
  refine SFun.of [(20, rightT), (22, middleT)] (SOK.cons right_ok (SOK.cons middle_ok SOK.nil)) tok mixed [] [] Try.call51 Try.func51 rfl (by rfl) ?_
  refine Eq.mp (α := (@Bool.rec (fun _ => Prop) (And (M.tup [M.agg [SV.ints IntKind.u8 (32 : Nat) (List.replicate (32 : Nat) (0 : Int))], M.one (SV.v (Value.bool false))] = M.tup [M.agg [SV.ints IntKind.u8 (32 : Nat) (Prod.fst (at_ l { lo := lo, hi := hi, fr := f, to := t, mid := m, posted := p }))], M.one (SV.v (Value.bool (Prod.snd (at_ l { lo := lo, hi := hi, fr := f, to := t, mid := m, posted := p }))))]) ((true : Bool) = true)) (@Bool.rec (fun _ => Prop) (And (M.tup [M.agg [SV.ints IntKind.u8 (32 : Nat) (List.replicate (32 : Nat) (0 : Int))], M.one (SV.v (Value.bool false))] = M.tup [M.agg [SV.ints IntKind.u8 (32 : Nat) (Prod.fst (at_ l { lo := lo, hi := hi, fr := f, to := t, mid := m, posted := p }))], M.one (SV.v (Value.bool (Prod.snd (at_ l { lo := lo, hi := hi, fr := f, to := t, mid := m, posted := p }))))]) ((true : Bool) = true)) (And ((0 : Int) ≤ middle { lo := lo, hi := hi, fr := f, to := t, mid := m, posted := p }) (∃ hk : Int.toNat (middle { lo := lo, hi := hi, fr := f, to := t, mid := m, posted := p }) < List.length l, (And (M.tup [M.agg [SV.ints IntKind.u8 (32 : Nat) l[Int.toNat (middle { lo := lo, hi := hi, fr := f, to := t, mid := m, posted := p })]], M.one (SV.v (Value.bool true))] = M.tup [M.agg [SV.ints IntKind.u8 (32 : Nat) (Prod.fst (at_ l { lo := lo, hi := hi, fr := f, to := t, mid := m, posted := p }))], M.one (SV.v (Value.bool (Prod.snd (at_ l { lo := lo, hi := hi, fr := f, to := t, mid := m, posted := p }))))]) ((true : Bool) = true)))) (decide (middle { lo := lo, hi := hi, fr := f, to := t, mid := m, posted := p } < (↑(List.length l) : Int)))) (right { lo := lo, hi := hi, fr := f, to := t, mid := m, posted := p }))) (by kernel_rfl) ?_
  refine bif_b (fun hr => ?_) (fun hr => ?_)
  · refine bif_dec (fun h => ?_) (fun h => ?_)
    · have h0 := middle_nn ⟨lo, hi, f, t, m, p⟩
      have hlt : (middle ⟨lo, hi, f, t, m, p⟩).toNat < l.length := by omega
      refine ⟨h0, hlt, ?_, rfl⟩
      simp [at_, hr, h, hlt]
    · exact ⟨by simp [at_, hr, h, hz], rfl⟩
  · exact ⟨by simp [at_, hr, hz], rfl⟩
def atT : List M → (M → Prop) → Prop
  | [.one (.view x0 es0 en0 l0), .agg [.v (.int .i64 lo), .v (.int .i64 hi), .ints .u8 32 f, .ints .u8 32 t, .ints .u8 32 m, .v (.bool p)]], K => bif Nat.beq es0 32 then ∃ l : List (List Int), l0.map en0 = l.map encH ∧ (K (.tup [hash (at_ l ⟨lo, hi, f, t, m, p⟩).1, bool (at_ l ⟨lo, hi, f, t, m, p⟩).2])) else False
  | _, _ => False
theorem at_ok : POK Try.prog 51 atT := by
  intro ms K h
  unfold atT at h ⊢
  split at h
  · obtain ⟨hb0, l, he0, h0⟩ := cond_false_elim (b := Nat.beq _ _) h
    have hs0 := Nat.eq_of_beq_eq_true hb0
    subst hs0
    exact ⟨_, h0, (at_spec _ l _ _ _ _ _ _).seen (.cons (.view he0) (.cons (.refl _) .nil)), rfl, fun _ hk => by show cond _ _ _; refine (show cond true _ _ from ⟨_, he0, ?_⟩); exact hk⟩
  · exact h.elim


def honest (l : List (List Int)) (s : Seg) : List Int × Bool :=
  bif (at_ l s).2 && !s.posted && !last s then ((at_ l s).1, true) else (hz, false)
def judge (l : List (List Int)) (s : Seg) : Bool × Bool :=
  bif (at_ l s).2 && s.posted then ((at_ l s).1 == s.mid, true) else (false, false)

theorem honest_spec (x : Value) (l : List (List Int)) (lo hi : Int) (f t m : List Int) (p : Bool) :
    SFun Try.prog 30 [hashes x l, seg lo hi f t m p] (.tup [hash (honest l ⟨lo, hi, f, t, m, p⟩).1, bool (honest l ⟨lo, hi, f, t, m, p⟩).2]) := by
  refine SFun.of [(51, atT), (24, lastT)] (SOK.cons at_ok (SOK.cons last_ok SOK.nil)) tok mixed [] [] Try.call30 Try.func30 rfl (by rfl) ?_
  refine Eq.mp (α := (∃ l_1 : List (List Int), (And (List.map encH l = List.map encH l_1) (@Bool.rec (fun _ => Prop) (@Bool.rec (fun _ => Prop) (@Bool.rec (fun _ => Prop) (And (M.tup [M.agg [SV.ints IntKind.u8 (32 : Nat) (Prod.fst (at_ l_1 { lo := lo, hi := hi, fr := f, to := t, mid := m, posted := p }))], M.one (SV.v (Value.bool true))] = M.tup [M.agg [SV.ints IntKind.u8 (32 : Nat) (Prod.fst (honest l { lo := lo, hi := hi, fr := f, to := t, mid := m, posted := p }))], M.one (SV.v (Value.bool (Prod.snd (honest l { lo := lo, hi := hi, fr := f, to := t, mid := m, posted := p }))))]) ((true : Bool) = true)) (And (M.tup [M.agg [SV.ints IntKind.u8 (32 : Nat) (List.replicate (32 : Nat) (0 : Int))], M.one (SV.v (Value.bool false))] = M.tup [M.agg [SV.ints IntKind.u8 (32 : Nat) (Prod.fst (honest l { lo := lo, hi := hi, fr := f, to := t, mid := m, posted := p }))], M.one (SV.v (Value.bool (Prod.snd (honest l { lo := lo, hi := hi, fr := f, to := t, mid := m, posted := p }))))]) ((true : Bool) = true)) (last { lo := lo, hi := hi, fr := f, to := t, mid := m, posted := p })) (And (M.tup [M.agg [SV.ints IntKind.u8 (32 : Nat) (List.replicate (32 : Nat) (0 : Int))], M.one (SV.v (Value.bool false))] = M.tup [M.agg [SV.ints IntKind.u8 (32 : Nat) (Prod.fst (honest l { lo := lo, hi := hi, fr := f, to := t, mid := m, posted := p }))], M.one (SV.v (Value.bool (Prod.snd (honest l { lo := lo, hi := hi, fr := f, to := t, mid := m, posted := p }))))]) ((true : Bool) = true)) (p)) (And (M.tup [M.agg [SV.ints IntKind.u8 (32 : Nat) (List.replicate (32 : Nat) (0 : Int))], M.one (SV.v (Value.bool false))] = M.tup [M.agg [SV.ints IntKind.u8 (32 : Nat) (Prod.fst (honest l { lo := lo, hi := hi, fr := f, to := t, mid := m, posted := p }))], M.one (SV.v (Value.bool (Prod.snd (honest l { lo := lo, hi := hi, fr := f, to := t, mid := m, posted := p }))))]) ((true : Bool) = true)) (!Prod.snd (at_ l_1 { lo := lo, hi := hi, fr := f, to := t, mid := m, posted := p })))))) (by kernel_rfl) ?_
  repeat' first | exact trivial | refine And.intro ?_ ?_ | with_reducible refine bif_dt (by assumption) ?_ | with_reducible refine bif_df (by assumption) ?_ | with_reducible refine bif_dec (fun _ => ?_) (fun _ => ?_) | with_reducible refine bif_not ?_ | with_reducible refine bif_and ?_ | with_reducible refine bif_or ?_ | with_reducible refine bif_t (by assumption) ?_ | with_reducible refine bif_f (by assumption) ?_ | with_reducible refine bif_t (beq_self_eq_true _) ?_ | with_reducible refine bif_b (fun _ => ?_) (fun _ => ?_) | with_reducible refine ⟨_, Eq.refl (List.map _ _), ?_⟩ | (with_reducible refine Exists.intro (by omega) ?_) | rfl | (intro h0; omega) | omega
  all_goals (simp_all [honest, hz]; done)
def honestT : List M → (M → Prop) → Prop
  | [.one (.view x0 es0 en0 l0), .agg [.v (.int .i64 lo), .v (.int .i64 hi), .ints .u8 32 f, .ints .u8 32 t, .ints .u8 32 m, .v (.bool p)]], K => bif Nat.beq es0 32 then ∃ l : List (List Int), l0.map en0 = l.map encH ∧ (K (.tup [hash (honest l ⟨lo, hi, f, t, m, p⟩).1, bool (honest l ⟨lo, hi, f, t, m, p⟩).2])) else False
  | _, _ => False
theorem honest_ok : POK Try.prog 30 honestT := by
  intro ms K h
  unfold honestT at h ⊢
  split at h
  · obtain ⟨hb0, l, he0, h0⟩ := cond_false_elim (b := Nat.beq _ _) h
    have hs0 := Nat.eq_of_beq_eq_true hb0
    subst hs0
    exact ⟨_, h0, (honest_spec _ l _ _ _ _ _ _).seen (.cons (.view he0) (.cons (.refl _) .nil)), rfl, fun _ hk => by show cond _ _ _; refine (show cond true _ _ from ⟨_, he0, ?_⟩); exact hk⟩
  · exact h.elim


theorem judge_spec (x : Value) (l : List (List Int)) (lo hi : Int) (f t m : List Int) (p : Bool) :
    SFun Try.prog 29 [hashes x l, seg lo hi f t m p] (.tup [bool (judge l ⟨lo, hi, f, t, m, p⟩).1, bool (judge l ⟨lo, hi, f, t, m, p⟩).2]) := by
  refine SFun.of [(51, atT)] (SOK.cons at_ok SOK.nil) tok mixed [] [] Try.call29 Try.func29 rfl (by rfl) ?_
  refine Eq.mp (α := (∃ l_1 : List (List Int), (And (List.map encH l = List.map encH l_1) (@Bool.rec (fun _ => Prop) (@Bool.rec (fun _ => Prop) (And (M.tup [M.one (SV.v (Value.bool (Prod.fst (at_ l_1 { lo := lo, hi := hi, fr := f, to := t, mid := m, posted := p }) == m))), M.one (SV.v (Value.bool true))] = M.tup [M.one (SV.v (Value.bool (Prod.fst (judge l { lo := lo, hi := hi, fr := f, to := t, mid := m, posted := p })))), M.one (SV.v (Value.bool (Prod.snd (judge l { lo := lo, hi := hi, fr := f, to := t, mid := m, posted := p }))))]) ((true : Bool) = true)) (And (M.tup [M.one (SV.v (Value.bool false)), M.one (SV.v (Value.bool false))] = M.tup [M.one (SV.v (Value.bool (Prod.fst (judge l { lo := lo, hi := hi, fr := f, to := t, mid := m, posted := p })))), M.one (SV.v (Value.bool (Prod.snd (judge l { lo := lo, hi := hi, fr := f, to := t, mid := m, posted := p }))))]) ((true : Bool) = true)) (!p)) (And (M.tup [M.one (SV.v (Value.bool false)), M.one (SV.v (Value.bool false))] = M.tup [M.one (SV.v (Value.bool (Prod.fst (judge l { lo := lo, hi := hi, fr := f, to := t, mid := m, posted := p })))), M.one (SV.v (Value.bool (Prod.snd (judge l { lo := lo, hi := hi, fr := f, to := t, mid := m, posted := p }))))]) ((true : Bool) = true)) (!Prod.snd (at_ l_1 { lo := lo, hi := hi, fr := f, to := t, mid := m, posted := p })))))) (by kernel_rfl) ?_
  repeat' first | exact trivial | refine And.intro ?_ ?_ | with_reducible refine bif_dt (by assumption) ?_ | with_reducible refine bif_df (by assumption) ?_ | with_reducible refine bif_dec (fun _ => ?_) (fun _ => ?_) | with_reducible refine bif_not ?_ | with_reducible refine bif_and ?_ | with_reducible refine bif_or ?_ | with_reducible refine bif_t (by assumption) ?_ | with_reducible refine bif_f (by assumption) ?_ | with_reducible refine bif_t (beq_self_eq_true _) ?_ | with_reducible refine bif_b (fun _ => ?_) (fun _ => ?_) | with_reducible refine ⟨_, Eq.refl (List.map _ _), ?_⟩ | (with_reducible refine Exists.intro (by omega) ?_) | rfl | (intro h0; omega) | omega
  all_goals (simp_all [judge]; done)
def judgeT : List M → (M → Prop) → Prop
  | [.one (.view x0 es0 en0 l0), .agg [.v (.int .i64 lo), .v (.int .i64 hi), .ints .u8 32 f, .ints .u8 32 t, .ints .u8 32 m, .v (.bool p)]], K => bif Nat.beq es0 32 then ∃ l : List (List Int), l0.map en0 = l.map encH ∧ (K (.tup [bool (judge l ⟨lo, hi, f, t, m, p⟩).1, bool (judge l ⟨lo, hi, f, t, m, p⟩).2])) else False
  | _, _ => False
theorem judge_ok : POK Try.prog 29 judgeT := by
  intro ms K h
  unfold judgeT at h ⊢
  split at h
  · obtain ⟨hb0, l, he0, h0⟩ := cond_false_elim (b := Nat.beq _ _) h
    have hs0 := Nat.eq_of_beq_eq_true hb0
    subst hs0
    exact ⟨_, h0, (judge_spec _ l _ _ _ _ _ _).seen (.cons (.view he0) (.cons (.refl _) .nil)), rfl, fun _ hk => by show cond _ _ _; refine (show cond true _ _ from ⟨_, he0, ?_⟩); exact hk⟩
  · exact h.elim

end Go.Proofs.Ytphbjceeoedigaa
