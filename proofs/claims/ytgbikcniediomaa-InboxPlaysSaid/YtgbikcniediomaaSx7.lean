/- Operators, conversions and addresses: that their computation is what the model does. Holds for every program. -/
import Derived.Test.YtgbikcniediomaaSx6
namespace Go.Sx
set_option linter.unusedSimpArgs false
set_option linter.unusedVariables false

section
variable {P : Program} {tt : Tab} {B : Base} {nt : Nat} {σ : Nat → Nat} {n : Nat} {e : Env} {h : Bs} {a : Act} {w : World} {av : Nat → Prop}

theorem okv {x : Value} (h : x.oneCell' = true) : (M.one (.v x)).Ok w av n := .one rfl (.v h)

theorem ints2_sound {op : BinOp} {k k' : IntKind} {x y : Int} {t : Nat} {K : M → Prop} (hk : ints2 op k x k' y K) :
    ∃ m, K m ∧ (binOp op t (.int k x) (.int k' y)).run P w = .ok (m.den σ) w ∧ m.Ok w av n := by
  unfold ints2 at hk
  cases op <;> simp only at hk
  case shl =>
    refine ⟨_, hk.2, ?_, okv rfl⟩
    simp [binOp, Op.shift, M.den, SV.den, shl, Int.not_lt.2 hk.1]
  case shr =>
    refine ⟨_, hk.2, ?_, okv rfl⟩
    simp [binOp, Op.shift, M.den, SV.den, shr, Int.not_lt.2 hk.1]
  case quo =>
    obtain ⟨h1, h2, h3⟩ := cond_false_elim hk
    have := IntKind.beq_eq h1
    subst this
    refine ⟨_, h3, ?_, okv rfl⟩
    simp [binOp, Op.intDiv, h2, M.den, SV.den]
  case rem =>
    obtain ⟨h1, h2, h3⟩ := cond_false_elim hk
    have := IntKind.beq_eq h1
    subst this
    refine ⟨_, h3, ?_, okv rfl⟩
    simp [binOp, Op.intDiv, h2, M.den, SV.den]
  all_goals
    obtain ⟨h1, h2⟩ := cond_false_elim hk
    have := IntKind.beq_eq h1
    subst this
    refine ⟨_, h2, ?_, okv rfl⟩
    simp [binOp, Op.intArith, Op.intBits, Op.intCmp, M.den, SV.den, bits]

theorem strs2_sound {op : BinOp} {x y : ByteArray} {t : Nat} {K : M → Prop} (hk : strs2 op x y K) :
    ∃ m, K m ∧ (binOp op t (.string x) (.string y)).run P w = .ok (m.den σ) w ∧ m.Ok w av n := by
  unfold strs2 at hk
  cases op <;> simp only at hk
  case add =>
    refine ⟨_, hk.2, ?_, okv rfl⟩
    have : ¬ (((x.size + y.size : Nat) : Int) > IntKind.i64.max) := by
      have h1 := hk.1
      have h2 : IntKind.i64.max = 9223372036854775807 := by decide
      rw [h2]; omega
    simp only [binOp, Op.stringOp, if_neg this, M.den, SV.den, Sem.run_pure]
  all_goals first | exact hk.elim | (refine ⟨_, hk, ?_, okv rfl⟩; simp [binOp, Op.stringOp, M.den, SV.den])

def nilShape (k : TK) (v : Value) (b : Bool) : Prop :=
  match k with
  | .p _ => ∃ q : Option Addr, v = .pointer q ∧ b = q.isNone
  | .sl _ => ∃ (q : Option Addr) (i j : Nat), v = .slice q i j ∧ b = q.isNone
  | .map _ _ => ∃ q : Option Nat, v = .map q ∧ b = q.isNone
  | .chan _ => ∃ q : Option Nat, v = .chan q ∧ b = q.isNone
  | .fn => (v = .nilFunc ∧ b = true) ∨ (∃ f x y, v = .func f x y ∧ b = false)
  | _ => False

theorem view_nil {w : World} {av : Nat → Prop} {n : Nat} {x : Value} {es : Nat} {α : Type} {enc : α → List SV} {l : List α} (h1 : 1 ≤ es) (hm : SV.Ok w av n (.view x es enc l)) : ∃ (q : Option Addr) (i j : Nat), x = .slice q i j ∧ (isNilV x && l.isEmpty) = q.isNone := by
  cases hm with
  | @view _ _ _ _ a cap hcap hes hp hok hcell =>
    refine ⟨a, _, cap, rfl, ?_⟩
    cases a with
    | some b => rfl
    | none =>
      cases l with
      | nil => rfl
      | cons y r =>
        have h2 := hes y (by simp)
        have h4 : 0 < (denL nowhere (enc y)).length := by omega
        obtain ⟨_, _, h3, _⟩ := hcell 0 0 (by simp) ((denL nowhere (enc y))[0]'h4) (List.getElem?_eq_getElem h4)
        cases h3

theorem nilK_den {k : TK} {m : M} {K : Bool → Prop} (hk : nilK k m K) (σ : Nat → Nat) {w : World} {av : Nat → Prop} {n : Nat} (hm : m.Ok w av n) : ∃ b, K b ∧ nilShape k (m.den σ) b := by
  unfold nilK at hk
  split at hk <;> first
    | exact hk.elim
    | exact ⟨_, hk, _, rfl, rfl⟩
    | exact ⟨_, hk, _, _, _, rfl, rfl⟩
    | exact ⟨_, hk, .inl ⟨rfl, rfl⟩⟩
    | exact ⟨_, hk, .inr ⟨_, _, _, rfl, rfl⟩⟩
    | skip
  · rename_i j es len cap
    cases hc : Nat.beq cap 0 with
    | true =>
      rw [hc] at hk
      have h0 : cap = 0 := Nat.eq_of_beq_eq_true hc
      exact ⟨_, hk, none, 0, 0, by simp [M.den, SV.den, h0], rfl⟩
    | false =>
      rw [hc] at hk
      have h0 : ¬ cap = 0 := fun h0 => by rw [h0] at hc; cases hc
      exact ⟨_, hk, some ⟨σ j, 0, none⟩, len, cap, by simp [M.den, SV.den, h0], rfl⟩
  · obtain ⟨h1, hk⟩ := bif_false hk
    have h1 := Nat.le_of_ble_eq_true h1
    cases hm with
    | one _ hm =>
      obtain ⟨q, i, j, e1, e2⟩ := view_nil h1 hm
      exact ⟨_, hk, q, i, j, e1, e2⟩

theorem equal_nil (hT : TOK P tt) {t : Nat} {ti : TI} (ht : get tt t = some ti) {m : M} {z : Value} {K : Bool → Prop}
    (hz : (∃ e, ti.kind = .p e ∧ z = .pointer none) ∨ (∃ e, ti.kind = .sl e ∧ z = .slice none 0 0) ∨ (∃ e v, ti.kind = .map e v ∧ z = .map none) ∨ (∃ e, ti.kind = .chan e ∧ z = .chan none) ∨ (ti.kind = .fn ∧ z = .nilFunc))
    (hk : nilK ti.kind m K) {w0 : World} {av : Nat → Prop} {n : Nat} (hm : m.Ok w0 av n) : ∃ b, K b ∧ (Op.equal t (m.den σ) z).run P w = .ok b w := by
  obtain ⟨d, hd, hf⟩ := (hT t ti ht).und
  obtain ⟨b, h1, h2⟩ := nilK_den hk σ hm
  refine ⟨b, h1, ?_⟩
  have key : ∀ x : Nat, (Op.equalIn (x + 1) t (m.den σ) z).run P w = .ok b w := by
    intro x
    rcases hz with ⟨e, he, rfl⟩ | ⟨e, he, rfl⟩ | ⟨e, v, he, rfl⟩ | ⟨e, he, rfl⟩ | ⟨he, rfl⟩
    · rw [he] at hf h2
      cases d <;> simp only [TK.fits] at hf
      obtain ⟨q, hq, rfl⟩ := h2
      rw [hq]
      cases q <;> simp [Op.equalIn, run_underlying hd]
    · rw [he] at hf h2
      cases d <;> simp only [TK.fits] at hf
      obtain ⟨q, i, j, hq, rfl⟩ := h2
      rw [hq]
      cases q <;> simp [Op.equalIn, run_underlying hd]
    · rw [he] at hf h2
      cases d <;> simp only [TK.fits] at hf
      obtain ⟨q, hq, rfl⟩ := h2
      rw [hq]
      cases q <;> simp [Op.equalIn, run_underlying hd]
    · rw [he] at hf h2
      cases d <;> simp only [TK.fits] at hf
      obtain ⟨q, hq, rfl⟩ := h2
      rw [hq]
      cases q <;> simp [Op.equalIn, run_underlying hd]
    · rw [he] at hf h2
      cases d <;> simp only [TK.fits] at hf
      rcases h2 with ⟨hq, rfl⟩ | ⟨f, x, y, hq, rfl⟩
      · rw [hq]; simp [Op.equalIn, run_underlying hd]
      · rw [hq]; simp [Op.equalIn, run_underlying hd]
  exact key 9999

theorem eqm_valOf {t : Nat} {xs : List Value} (h2 : ∃ d, P.underlying t = some d ∧ (match d with | .struct _ | .array _ _ => True | _ => False)) : valOf P t xs = .agg xs.toArray := by
  obtain ⟨d, hd, hh⟩ := h2
  cases d <;> simp only at hh <;> simp [valOf, hd]

theorem eq2_sound (hT : TOK P tt) {t : Nat} {ti : TI} (ht : get tt t = some ti) {x y : M} (hx : x.Ok w av n) (hy : y.Ok w av n) {K : Bool → Prop} (hk : eq2 ti x y K) :
    ∃ b, K b ∧ (Op.equal t (x.den σ) (y.den σ)).run P w = .ok b w ∧ (∀ op xo yo, (eqGuard op t xo yo (x.den σ) (y.den σ)).run P w = .ok () w) ∧
      binOp .eql t (x.den σ) (y.den σ) = (do pure (.bool (← Op.equal t (x.den σ) (y.den σ)))) ∧ binOp .neq t (x.den σ) (y.den σ) = (do pure (.bool (!(← Op.equal t (x.den σ) (y.den σ))))) := by
  have r := hT t ti ht
  have guard : ∀ (v z : Value), (∀ c, v ≠ .agg c) → v ≠ .nilIface → ∀ op xo yo, (eqGuard op t xo yo v z).run P w = .ok () w := by
    intro v z hv hv' op xo yo
    unfold eqGuard
    cases op <;> simp <;> (split <;> simp_all)
  unfold eq2 at hk
  split at hk
  · rename_i xs ys
    cases h0 : Nat.beq ti.eqm 0 with
    | true => rw [h0] at hk; exact hk.elim
    | false =>
      rw [h0] at hk
      have hne : ti.eqm ≠ 0 := by intro h1; rw [h1] at h0; cases h0
      obtain ⟨q1, q2, q3, q4⟩ := r.eqm hne
      cases hx with
      | agg hx =>
      cases hy with
      | agg hy =>
      obtain ⟨_, k1, _, k3⟩ := eqK_spec σ ti.zero xs _ (r.zok w av n) hx hk
      obtain ⟨b, k4, k5, k6⟩ := eqK_spec σ xs ys _ hx hy k1
      have hzs : shp P ti.eqm t (denL σ xs) := shp_same _ _ (by rw [denL_pure r.zpure nowhere σ] at q1; exact q1) k3
      obtain ⟨b', e1, e2⟩ := run_equal_shp ti.eqm (10000 - ti.eqm) t _ _ w hzs k6
      have hshape : ∃ d, P.underlying t = some d ∧ (match d with | .struct _ | .array _ _ => True | _ => False) := by
        obtain ⟨d, hd, hf⟩ := r.und
        have := q4
        refine ⟨d, hd, ?_⟩
        cases hkd : ti.kind <;> simp [TI.agg, hkd] at this <;> (rw [hkd] at hf; cases d <;> first | exact hf.elim | trivial)
      refine ⟨b, k4, ?_, fun op xo yo => run_eqGuard_agg w op t xo yo _ _ q2, by simp [binOp, M.den], by simp [binOp, M.den]⟩
      rw [eqm_valOf hshape, eqm_valOf hshape, show 10000 - ti.eqm + ti.eqm = 10000 by omega] at e1
      have hbb : b' = b := by rw [Bool.eq_iff_iff, e2, k5]
      rw [← hbb]
      exact e1
  · rename_i p q
    split at hk
    · rename_i hkd
      obtain ⟨d, hd, hf⟩ := r.und
      rw [hkd] at hf
      cases d <;> simp only [TK.fits] at hf
      exact ⟨_, hk, run_equal_bool w t p q hd, guard _ _ (by simp [M.den, SV.den]) (by simp [M.den, SV.den]), by simp [binOp, M.den, SV.den], by simp [binOp, M.den, SV.den]⟩
    · exact hk.elim
  · rename_i z hx1 hx2
    unfold nil2 at hk
    have shape : ∀ {q : Bool}, nilShape ti.kind (x.den σ) q → (∀ c, x.den σ ≠ .agg c) ∧ x.den σ ≠ .nilIface ∧ (∀ (z : Value), (z = .pointer none ∨ z = .slice none 0 0 ∨ z = .map none ∨ z = .chan none ∨ z = .nilFunc) →
        binOp .eql t (x.den σ) z = (do pure (.bool (← Op.equal t (x.den σ) z))) ∧ binOp .neq t (x.den σ) z = (do pure (.bool (!(← Op.equal t (x.den σ) z))))) := by
      intro q hq
      unfold nilShape at hq
      split at hq
      · obtain ⟨_, h1, _⟩ := hq; rw [h1]; refine ⟨by simp, by simp, fun z hz => ?_⟩; rcases hz with rfl | rfl | rfl | rfl | rfl <;> simp [binOp]
      · obtain ⟨_, _, _, h1, _⟩ := hq; rw [h1]; refine ⟨by simp, by simp, fun z hz => ?_⟩; rcases hz with rfl | rfl | rfl | rfl | rfl <;> simp [binOp]
      · obtain ⟨_, h1, _⟩ := hq; rw [h1]; refine ⟨by simp, by simp, fun z hz => ?_⟩; rcases hz with rfl | rfl | rfl | rfl | rfl <;> simp [binOp]
      · obtain ⟨_, h1, _⟩ := hq; rw [h1]; refine ⟨by simp, by simp, fun z hz => ?_⟩; rcases hz with rfl | rfl | rfl | rfl | rfl <;> simp [binOp]
      · rcases hq with ⟨h1, _⟩ | ⟨_, _, _, h1, _⟩ <;> rw [h1] <;> refine ⟨by simp, by simp, fun z hz => ?_⟩ <;> rcases hz with rfl | rfl | rfl | rfl | rfl <;> simp [binOp]
      · exact hq.elim
    split at hk <;> first | exact hk.elim | skip
    all_goals
      rename_i hkd
      rw [← hkd] at hk
      obtain ⟨_, _, sh⟩ := nilK_den hk σ hx
      obtain ⟨g1, g2, g3⟩ := shape sh
      first
        | (obtain ⟨b, b1, b2⟩ := equal_nil (w := w) (σ := σ) (z := .pointer none) hT ht (by rw [hkd]; simp) hk hx; exact ⟨b, b1, b2, guard _ _ g1 g2, g3 (.pointer none) (by simp)⟩)
        | (obtain ⟨b, b1, b2⟩ := equal_nil (w := w) (σ := σ) (z := .slice none 0 0) hT ht (by rw [hkd]; simp) hk hx; exact ⟨b, b1, b2, guard _ _ g1 g2, g3 (.slice none 0 0) (by simp)⟩)
        | (obtain ⟨b, b1, b2⟩ := equal_nil (w := w) (σ := σ) (z := .map none) hT ht (by rw [hkd]; simp) hk hx; exact ⟨b, b1, b2, guard _ _ g1 g2, g3 (.map none) (by simp)⟩)
        | (obtain ⟨b, b1, b2⟩ := equal_nil (w := w) (σ := σ) (z := .chan none) hT ht (by rw [hkd]; simp) hk hx; exact ⟨b, b1, b2, guard _ _ g1 g2, g3 (.chan none) (by simp)⟩)
        | (obtain ⟨b, b1, b2⟩ := equal_nil (w := w) (σ := σ) (z := .nilFunc) hT ht (by rw [hkd]; simp) hk hx; exact ⟨b, b1, b2, guard _ _ g1 g2, g3 (.nilFunc) (by simp)⟩)
  · exact hk.elim

end
end Go.Sx
