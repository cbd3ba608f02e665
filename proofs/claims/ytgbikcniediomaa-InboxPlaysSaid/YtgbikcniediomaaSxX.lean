/- A loop whose body's invariants know the turn that they belong to. Holds for every program. -/
import Derived.Test.YtgbikcniediomaaSxY
namespace Go.Sx
set_option linter.unusedSimpArgs false
set_option linter.unusedVariables false

def isLoop (key : Nat) (c : Code) : Bool :=
  match firstId c with
  | some j => Nat.beq j key
  | none => false
def xl (C : CallT) (G : GT) (tt : Tab) (nt k : Nat) (un : Bool) (inv : List (Nat × Inv)) (lab : List (Nat × (Nat × Inv))) (key : Nat) (v : Inv) (cuts : v.ι → List (Nat × Inv)) : Nat → Code → (Exit → Nat → Env → Bs → Prop) → Nat → Env → Bs → Prop
  | 0, _, _, _, _, _ => False
  | f + 1, c, Q, n, e, h => match c with
    | .seq a b => xl C G tt nt k un inv lab key v cuts f a (thenQ (xl C G tt nt k un inv lab key v cuts f b Q) Q) n e h
    | .block id c => xl C G tt nt k un inv lab key v cuts f c (blockQ id Q) n e h
    | .loop c => bif isLoop key c then ∃ i0, (v.R i0 i0 ∧ Imp0 k n e h (v.I i0).n (v.I i0).e (v.I i0).h) ∧ ∀ i, v.R i0 i → xc C G tt nt k un (cuts i ++ inv) lab f c (thenQ (fun n e h => ∃ i', (v.μ i' < v.μ i ∧ v.R i0 i') ∧ Imp0 k n e h (v.I i').n (v.I i').e (v.I i').h) Q) (v.I i).n (v.I i).e (v.I i).h else xc C G tt nt k un inv lab (f + 1) (.loop c) Q n e h
    | c => xc C G tt nt k un inv lab (f + 1) c Q n e h

section
variable {P : Program} {C : CallT} {G : GT} {tt : Tab} {nt : Nat}
theorem xl_sound (hC : COK P C) (hD : GDet G) (hG : GOK P G) (hT : TOK P tt) (hm : P.follows .mixedOrders = true) {k : Nat} {un : Bool} {inv : List (Nat × Inv)} {lab : List (Nat × (Nat × Inv))} {key : Nat} {v : Inv} {cuts : v.ι → List (Nat × Inv)} (f : Nat) :
    ∀ (c : Code) (Q : Exit → Nat → Env → Bs → Prop) (n : Nat) (e : Env) (h : Bs), xl C G tt nt k un inv lab key v cuts f c Q n e h → SWp P nt k c Q n e h := by
  induction f with
  | zero => exact fun c Q n e h hk => hk.elim
  | succ f ih =>
    intro c Q n e h hk
    cases c <;> simp only [xl] at hk <;> first | exact xc_sound hC hD hG hT hm (f + 1) _ _ _ _ _ hk | skip
    case seq x y =>
      refine ⟨fun B σ a w hb s => wp_seq ?_⟩
      refine wp_mono ((ih x _ n e h hk).out B σ a w hb s) fun ex a' w' hp => hp.then ?_
      rintro ⟨σ', n', e', h', h1, s'⟩
      exact (ih y _ _ _ _ h1).out B σ' a' w' hb s'
    case block id c =>
      refine ⟨fun B σ a w hbk s => wp_block ?_⟩
      refine wp_mono ((ih c _ n e h hk).out B σ a w hbk s) ?_
      rintro ex a' w' ⟨σ', n', e', h', h1, s'⟩
      cases ex <;> first | exact ⟨σ', n', e', h', h1, s'⟩ | skip
      rename_i id'
      simp only [blockQ] at h1
      simp only [Exit.inBlock]
      cases hb : Nat.beq id' id with
      | true =>
        rw [hb] at h1
        rw [if_pos (Nat.eq_of_beq_eq_true hb)]
        exact ⟨σ', n', e', h', h1, s'⟩
      | false =>
        rw [hb] at h1
        rw [if_neg (fun h0 => by rw [h0, beqT] at hb; cases hb)]
        exact ⟨σ', n', e', h', h1, s'⟩
    case loop c =>
      cases hl : isLoop key c with
      | false =>
        rw [hl] at hk
        exact xc_sound hC hD hG hT hm (f + 1) _ _ _ _ _ hk
      | true =>
        rw [hl] at hk
        obtain ⟨i0, ⟨hr0, h0⟩, h1⟩ := hk
        refine SWp.loop0 (ι := { i // v.R i0 i }) (fun i => v.I i.1) (fun i => v.μ i.1) ⟨i0, hr0⟩ h0 fun i => (xc_sound hC hD hG hT hm f _ _ _ _ _ (h1 i.1 i.2)).mono fun ex n e h hq => ?_
        cases ex <;> first | exact hq | skip
        obtain ⟨i', ⟨hl, hr⟩, hi⟩ := hq
        exact ⟨⟨i', hr⟩, hl, hi⟩
theorem SFun.inx (key : Nat) (v : Inv) (cuts : v.ι → List (Nat × Inv)) (tb : Spec) (hS : SOK P tb) (mt : MSpec) (hM : MSOK P mt) (hT : TOK P tt) (hm : P.follows .mixedOrders = true) (inl : List (Nat × Inl)) (hI : IOK P inl) (un : Bool) (inv : List (Nat × Inv)) (lab : List (Nat × (Nat × Inv))) {f : Nat} {fn : Func} {c : Code} {args : List M} {res : M}
    (hentry : ∀ (vs : Array Value) (w : World), (callFunc f vs).run P w = .ok (.enter f vs) w)
    (hf : P.funcs[f]? = some fn) (hb : fn.body = some c) (hl : Nat.ble args.length fn.ntmps = true)
    (hx : xl (cm (gm tt tb mt) mt tt inl 40) (gm tt tb mt) tt fn.ntmps 1 un inv lab key v cuts 1000 c (finQ tt fn.results.toList fun _ m _ => m = res ∧ m.pure = true) 1 (params 0 args) [(0, pool [] [])]) : SFun P f args res :=
  SFun.pooled (SCall.body hT hentry hf hb (Nat.le_of_ble_eq_true hl) (xl_sound (cm_ok (gm_det hS hM) (gm_ok hS hM) hT hm hM hI 40) (gm_det hS hM) (gm_ok hS hM) hT hm 1000 _ _ _ _ _ hx))
end
end Go.Sx
