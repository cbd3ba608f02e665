/- Code with its loops, labels and drawn regions, by computation: the invariants are handed in. Holds for every program. -/
import Derived.Test.YtgbikcniediomaaSxC
namespace Go.Sx
set_option linter.unusedSimpArgs false
set_option linter.unusedVariables false

structure Inv : Type 1 where
  ι : Type
  I : ι → St
  μ : ι → Nat
  R : ι → ι → Prop

def firstId : Code → Option Nat
  | .region id _ _ => some id
  | .seq a b => match firstId a with
    | some i => some i
    | none => firstId b
  | .cond _ a b => match firstId a with
    | some i => some i
    | none => firstId b
  | .block _ c => firstId c
  | .loop c => firstId c
  | .scope c => firstId c
  | _ => none

def getO {α : Type 1} (l : List (Nat × α)) : Option Nat → Option α
  | some i => get l i
  | none => none

def cutId (c : Code) : Option Nat :=
  match firstId c with
  | some i => some (i + 100000)
  | none => none

def altId (c : Code) : Option Nat :=
  match firstId c with
  | some i => some (i + 200000)
  | none => none

def noneB (m m' : M) : Bool :=
  match m, m' with
  | .one (.v (.slice none 0 0)), .one (.slc _ _ _ _ _) => true
  | _, _ => false
def shB (e : Env) : Env → Bool
  | [] => true
  | (t, m') :: r => match get e t with
    | some m => bif noneB m m' then false else shB e r
    | none => shB e r
def altV (e : Env) (v : Inv) (o : Option Inv) (K : Inv → Prop) : Prop :=
  match o with
  | none => K v
  | some v2 => ∃ i, bif shB e (v.I i).e then K v else K v2
theorem altV_spec {e : Env} {v : Inv} {o : Option Inv} {K : Inv → Prop} (h : altV e v o K) : ∃ v, K v := by
  cases o with
  | none => exact ⟨v, h⟩
  | some v2 =>
    obtain ⟨i, h⟩ := h
    cases hb : shB e (v.I i).e with
    | true => rw [hb] at h; exact ⟨v, h⟩
    | false => rw [hb] at h; exact ⟨v2, h⟩

inductive Stuck (id : Option Nat) (n : Nat) (e : Env) (h : Bs) : Prop

def xc (C : CallT) (G : GT) (tt : Tab) (nt k : Nat) (un : Bool) (inv : List (Nat × Inv)) (lab : List (Nat × (Nat × Inv))) : Nat → Code → (Exit → Nat → Env → Bs → Prop) → Nat → Env → Bs → Prop
  | 0, _, _, _, _, _ => False
  | f + 1, c, Q, n, e, h => match c with
    | .skip => Q .normal n e h
    | .region _ ops draw => bif draw then (bif checkD G.mf nt ops.toList 0 ops.toList then dops G tt nt ops.toList ops.toList (Q .normal) n e h else dMix G tt nt ops.toList (Q .normal) ops.size [] n e h) else xops C tt nt ops.toList ops.toList (Q .normal) n e h
    | .seq a b => (match getO inv (cutId b) with
      | none => xc C G tt nt k un inv lab f a (thenQ (xc C G tt nt k un inv lab f b Q) Q) n e h
      | some v => xc C G tt nt k un inv lab f a (thenQ (fun n e h => ∃ i, Imp0 k n e h (v.I i).n (v.I i).e (v.I i).h) Q) n e h ∧ ∀ i, xc C G tt nt k un inv lab f b Q (v.I i).n (v.I i).e (v.I i).h)
    | .cond c x y => ev e c fun m => match m with
      | .one (.v (.bool t)) => bif t then xc C G tt nt k un inv lab f x Q n e h else xc C G tt nt k un inv lab f y Q n e h
      | _ => False
    | .block id c => xc C G tt nt k un inv lab f c (blockQ id Q) n e h
    | .loop c => match getO inv (firstId c) with
      | some v => altV e v (getO inv (altId c)) fun v => ∃ i0, (v.R i0 i0 ∧ Imp0 k n e h (v.I i0).n (v.I i0).e (v.I i0).h) ∧ ∀ i, v.R i0 i → xc C G tt nt k un inv lab f c (thenQ (fun n e h => ∃ i', (v.μ i' < v.μ i ∧ v.R i0 i') ∧ Imp0 k n e h (v.I i').n (v.I i').e (v.I i').h) Q) (v.I i).n (v.I i).e (v.I i).h
      | none => bif un then xc C G tt nt k un inv lab f c (thenQ (fun n e h => xc C G tt nt k un inv lab f (.loop c) Q n e h) Q) n e h else Stuck (firstId c) n e h
    | .scope c => match getO lab (firstId c) with
      | none => xc C G tt nt k un inv lab f c (straightQ Q) n e h
      | some (l, v) => match findLabel c l with
        | none => False
        | some rest => (∀ i, xc C G tt nt k un inv lab f rest (jumpQ l (fun n e h => ∃ i', v.μ i' < v.μ i ∧ Imp0 k n e h (v.I i').n (v.I i').e (v.I i').h) Q) (v.I i).n (v.I i).e (v.I i).h) ∧
          xc C G tt nt k un inv lab f c (jumpQ l (fun n e h => ∃ i', Imp0 k n e h (v.I i').n (v.I i').e (v.I i').h) Q) n e h
    | .exit id => Q (.exit id) n e h
    | .goto l => Q (.goto l) n e h
    | .label _ => Q .normal n e h
    | .ret => Q .ret n e h
    | _ => False

section
variable {P : Program} {C : CallT} {G : GT} {tt : Tab} {nt : Nat}

theorem xc_sound (hC : COK P C) (hD : GDet G) (hG : GOK P G) (hT : TOK P tt) (hm : P.follows .mixedOrders = true) {k : Nat} {un : Bool} {inv : List (Nat × Inv)} {lab : List (Nat × (Nat × Inv))} (f : Nat) :
    ∀ (c : Code) (Q : Exit → Nat → Env → Bs → Prop) (n : Nat) (e : Env) (h : Bs), xc C G tt nt k un inv lab f c Q n e h → SWp P nt k c Q n e h := by
  induction f using Nat.strongRecOn with
  | _ f0 IH =>
  intro c Q n e h hk
  cases f0 with
  | zero => exact hk.elim
  | succ f =>
    have ih := IH f (Nat.lt_succ_self f)
    cases c <;> simp only [xc] at hk <;> first | (exact hk.elim) | skip
    case skip => exact ⟨fun B σ a w _ s => wp_skip ⟨σ, n, e, h, hk, s⟩⟩
    case region id ops draw =>
      cases draw with
      | true =>
        simp only [cond_true] at hk
        cases hc : checkD G.mf nt ops.toList 0 ops.toList with
        | true =>
          rw [hc] at hk
          exact SWp.draw hD hG hT hm hc hk
        | false =>
          rw [hc] at hk
          exact SWp.drawMix hD hG hT hm hk
      | false =>
        refine ⟨fun B σ a w _ s => wp_region ?_⟩
        have := xops_sound hC hT (ops := ops) (R := Post B nt Q .normal) ops.toList 0 (Q .normal) σ n e h a w (by simp) s hk (fun a' w' hb => hb)
        rwa [← List.range_eq_range', Array.length_toList] at this
    case seq x y =>
      split at hk
      rotate_left
      · rename_i v _
        refine ⟨fun B σ a w hb s => wp_seq ?_⟩
        refine wp_mono ((ih x _ n e h hk.1).out B σ a w hb s) fun ex a' w' hp => hp.then ?_
        rintro ⟨σ', n', e', h', ⟨i, hi⟩, s'⟩
        subst hb
        obtain ⟨σ'', s''⟩ := hi.to s'
        exact (ih y _ _ _ _ (hk.2 i)).out B σ'' a' w' rfl s''
      refine ⟨fun B σ a w hb s => wp_seq ?_⟩
      refine wp_mono ((ih x _ n e h hk).out B σ a w hb s) fun ex a' w' hp => hp.then ?_
      rintro ⟨σ', n', e', h', h1, s'⟩
      exact (ih y _ _ _ _ h1).out B σ' a' w' hb s'
    case cond c x y =>
      refine ⟨fun B σ a w hb s => ?_⟩
      obtain ⟨m, k1, h1, h2⟩ := ev_sound s hk
      split at k1
      · rename_i t
        refine wp_cond (t := t) (by rw [h1]; rfl) ?_
        cases t with
        | true => exact (ih x _ _ _ _ k1).out B σ a w hb s
        | false => exact (ih y _ _ _ _ k1).out B σ a w hb s
      · exact k1.elim
    case block id c =>
      refine ⟨fun B σ a w hbk s => wp_block ?_⟩
      refine wp_mono ((ih c _ n e h hk).out B σ a w hbk s) ?_
      rintro ex a' w' ⟨σ', n', e', h', h1, s'⟩
      cases ex <;> first | exact ⟨σ', n', e', h', h1, s'⟩ | skip
      rename_i id'
      simp only [blockQ] at h1
      simp only [Exit.inBlock]
      cases hb : Nat.beq id' id with
      | true =>
        rw [hb] at h1
        rw [if_pos (Nat.eq_of_beq_eq_true hb)]
        exact ⟨σ', n', e', h', h1, s'⟩
      | false =>
        rw [hb] at h1
        rw [if_neg (fun h0 => by rw [h0, beqT] at hb; cases hb)]
        exact ⟨σ', n', e', h', h1, s'⟩
    case loop c =>
      split at hk
      · rename_i v0 _
        obtain ⟨v, hk⟩ := altV_spec hk
        obtain ⟨i0, ⟨hr0, h0⟩, h1⟩ := hk
        refine SWp.loop0 (ι := { i // v.R i0 i }) (fun i => v.I i.1) (fun i => v.μ i.1) ⟨i0, hr0⟩ h0 fun i => (ih _ _ _ _ _ (h1 i.1 i.2)).mono fun ex n e h hq => ?_
        cases ex <;> first | exact hq | skip
        obtain ⟨i', ⟨hl, hr⟩, hi⟩ := hq
        exact ⟨⟨i', hr⟩, hl, hi⟩
      · rename_i hnone
        cases un with
        | false => cases hk
        | true =>
          refine ⟨fun B σ a w hb s => ?_⟩
          refine wp_loop_ix (ι := ULift.{1} Nat) (fun i a w => i.down ≤ f + 1 ∧ ∃ σ n e h, Sat B nt σ n e h a w ∧ xc C G tt nt k true inv lab i.down (.loop c) Q n e h) (fun i => i.down) ?_ ⟨f + 1⟩ a w ⟨Nat.le_refl _, σ, n, e, h, s, by simp only [xc, hnone]; exact hk⟩
          rintro ⟨i⟩ a w ⟨hi, σ, n, e, h, s, hx⟩
          cases i with
          | zero => exact hx.elim
          | succ i =>
            simp only [xc, hnone, cond_true] at hx
            refine wp_mono ((IH i hi _ _ _ _ _ hx).out B σ a w hb s) fun ex a' w' hp => hp.then ?_
            rintro ⟨σ', n', e', h', h1, s'⟩
            exact ⟨⟨i⟩, Nat.lt_succ_self i, by simp only at hi ⊢; omega, σ', n', e', h', s', h1⟩
    case scope c =>
      split at hk
      · exact SWp.scope (ih _ _ _ _ _ hk)
      · rename_i l v _
        split at hk
        · exact hk.elim
        · rename_i rest hf
          refine SWp.jumps0 l v.I v.μ hf (fun i => (ih _ _ _ _ _ (hk.1 i)).mono fun ex n e h hq => ?_) ((ih _ _ _ _ _ hk.2).mono fun ex n e h hq => ?_)
          · cases ex <;> exact hq
          · cases ex <;> exact hq
    case exit id => exact ⟨fun B σ a w _ s => wp_exit ⟨σ, n, e, h, hk, s⟩⟩
    case goto l => exact ⟨fun B σ a w _ s => wp_goto ⟨σ, n, e, h, hk, s⟩⟩
    case label l => exact ⟨fun B σ a w _ s => wp_label ⟨σ, n, e, h, hk, s⟩⟩
    case ret => exact ⟨fun B σ a w _ s => wp_ret ⟨σ, n, e, h, hk, s⟩⟩

theorem SFun.by (hC : COK P C) (hD : GDet G) (hG : GOK P G) (hT : TOK P tt) (hm : P.follows .mixedOrders = true) (inv : List (Nat × Inv)) (lab : List (Nat × (Nat × Inv))) {f : Nat} {fn : Func} {c : Code} {args : List M} {res : M}
    (hentry : ∀ (vs : Array Value) (w : World), (callFunc f vs).run P w = .ok (.enter f vs) w)
    (hf : P.funcs[f]? = some fn) (hb : fn.body = some c) (hl : Nat.ble args.length fn.ntmps = true)
    (hx : xc C G tt fn.ntmps 0 true inv lab 1000 c (finQ tt fn.results.toList fun _ m _ => m = res ∧ m.pure = true) 0 (params 0 args) []) : SFun P f args res :=
  ⟨SCall.body hT hentry hf hb (Nat.le_of_ble_eq_true hl) (xc_sound hC hD hG hT hm 1000 _ _ _ _ _ hx)⟩

/-! ### Tables -/

def POK (P : Program) (f : Nat) (T : List M → (M → Prop) → Prop) : Prop := ∀ ms K, T ms K → ∃ m, K m ∧ SFun P f ms m ∧ ms.all M.pure = true ∧ ∀ K', K' m → T ms K'

abbrev Spec := List (Nat × (List M → (M → Prop) → Prop))

def gtF (l : Spec) (g : Nat) (ms : List M) (K : M → Prop) : Prop := match get l g with
  | some T => T ms K
  | none => False

def gt (l : Spec) : GT := ⟨gtF l, noC, []⟩

def SOK (P : Program) (l : Spec) : Prop := ∀ p ∈ l, POK P p.1 p.2

theorem SOK.detF {l : Spec} (h : SOK P l) (g : Nat) (ms : List M) : Det (gtF l g ms) := fun K hk => by
  unfold gtF at hk ⊢
  split at hk
  · rename_i T hg
    obtain ⟨m, h1, _, _, h2⟩ := h _ (get_mem hg) ms K hk
    exact ⟨m, h1, h2⟩
  · exact hk.elim

theorem SOK.det {l : Spec} (h : SOK P l) : GDet (gt l) := ⟨h.detF, fun _ _ _ _ _ _ _ h => h, fun _ _ _ _ _ _ h => h.elim⟩

theorem SOK.okF {l : Spec} (h : SOK P l) : ∀ g ms K, gtF l g ms K → ∃ m, K m ∧ SFun P g ms m ∧ ms.all M.pure = true := fun g ms K hk => by
  unfold gtF at hk
  split at hk
  · rename_i T hg
    obtain ⟨m, h1, h2, h3, _⟩ := h _ (get_mem hg) ms K hk
    exact ⟨m, h1, h2, h3⟩
  · exact hk.elim

theorem SOK.ok {l : Spec} (h : SOK P l) : GOK P (gt l) := ⟨h.okF, fun _ _ _ _ _ h => h.elim⟩

def ct (G : GT) : CallT := fun f args n h K => G.g f args fun m => K n m h

theorem ct_ok (hG : GOK P G) : COK P (ct G) := fun f args n h K hk => by
  obtain ⟨m, h1, h2, h3⟩ := hG.1 f args _ hk
  exact h2.use h3 h1

theorem SOK.nil : SOK P [] := fun _ h => by cases h

theorem SOK.cons {f : Nat} {T : List M → (M → Prop) → Prop} {l : Spec} (h : POK P f T) (hl : SOK P l) : SOK P ((f, T) :: l) := fun p hp => by
  rcases List.mem_cons.1 hp with rfl | hp
  · exact h
  · exact hl p hp

theorem SFun.of (tb : Spec) (hS : SOK P tb) (hT : TOK P tt) (hm : P.follows .mixedOrders = true) (inv : List (Nat × Inv)) (lab : List (Nat × (Nat × Inv))) {f : Nat} {fn : Func} {c : Code} {args : List M} {res : M}
    (hentry : ∀ (vs : Array Value) (w : World), (callFunc f vs).run P w = .ok (.enter f vs) w)
    (hf : P.funcs[f]? = some fn) (hb : fn.body = some c) (hl : Nat.ble args.length fn.ntmps = true)
    (hx : xc (ct (gt tb)) (gt tb) tt fn.ntmps 0 true inv lab 1000 c (finQ tt fn.results.toList fun _ m _ => m = res ∧ m.pure = true) 0 (params 0 args) []) : SFun P f args res :=
  SFun.by (ct_ok hS.ok) hS.det hS.ok hT hm inv lab hentry hf hb hl hx
end
end Go.Sx
