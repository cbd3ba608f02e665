/- Codes and regions told by the machine's steps, in frames that are no early ones: communications too. -/
import Derived.Test.YtgbikcniediomaaSx9
import Derived.Conc.LoneSelect
import Derived.Conc.SmallLaws
import Derived.Orders
namespace Go.Sx
set_option linter.unusedSimpArgs false
set_option linter.unusedVariables false


mutual
theorem RK.sv_pure : ∀ (f : RK) (x : RK.T f), (RK.sv f x).isPure = true
  | .int _, _ => rfl
  | .bool, _ => rfl
  | .str, _ => rfl
  | .ints _ _, _ => rfl
  | .sl _ _, _ => rfl
theorem RK.svs_pure : ∀ (fs : List RK) (x : RK.TL fs), (RK.svs fs x).all SV.isPure = true
  | [], _ => rfl
  | f :: r, x => by
    show (SV.isPure (RK.sv f x.1) && (RK.svs r x.2).all SV.isPure) = true
    rw [RK.sv_pure f x.1, RK.svs_pure r x.2]
    rfl
end
theorem Enc.pure {α : Type} (E : Enc α) (y : α) : (E.enc y).all SV.isPure = true := by rw [E.henc]; exact RK.svs_pure _ _
theorem Enc.pures {α : Type} (E : Enc α) (y : α) : ∀ s ∈ E.enc y, s.isPure = true := List.all_eq_true.1 (E.pure y)
theorem elM_pure (ag : Bool) {l : List SV} (h : ∀ s ∈ l, s.isPure = true) (σ τ : Nat → Nat) : (elM ag l).den σ = (elM ag l).den τ := by
  unfold elM
  cases ag with
  | true => simp only [cond_true, M.den, denL_pure h σ τ]
  | false =>
    simp only [cond_false]
    match l with
    | [] => rfl
    | [s] =>
      have h1 : s.dens σ = s.dens τ := SV.dens_pure (h s (by simp)) σ τ
      have hp := h s (by simp)
      cases s <;> first | rfl | cases hp
    | _ :: _ :: _ => rfl

def wpN (P : Program) (c : Code) (Q : Exit → Act → World → Prop) (a : Act) (w : World) : Prop :=
  ∀ b : Go.Frame, b.kind ≠ .early → ∀ (k : List Item) (cs : List Go.Frame), ∃ e a' w', Q e a' w' ∧ Arrives P (lone (b.at a (.code c :: k)) cs w) b k cs e a' w'

section
variable {P : Program} {Q : Exit → Act → World → Prop} {a : Act} {w : World}
theorem wpN.of {c : Code} (h : c.wp P Q a w) : wpN P c Q a w := fun b _ k cs => h b k cs
theorem wp_mono {c : Code} {Q' : Exit → Act → World → Prop} (h : wpN P c Q a w) (hq : ∀ e a w, Q e a w → Q' e a w) : wpN P c Q' a w :=
  fun b hb k cs => let ⟨e, a', w', q, r⟩ := h b hb k cs; ⟨e, a', w', hq _ _ _ q, r⟩
theorem wp_skip (h : Q .normal a w) : wpN P .skip Q a w := .of (Go.wp_skip h)
theorem wp_label {l : Nat} (h : Q .normal a w) : wpN P (.label l) Q a w := .of (Go.wp_label h)
theorem wp_exit {id : Nat} (h : Q (.exit id) a w) : wpN P (.exit id) Q a w := .of (Go.wp_exit h)
theorem wp_goto {l : Nat} (h : Q (.goto l) a w) : wpN P (.goto l) Q a w := .of (Go.wp_goto h)
theorem wp_ret (h : Q .ret a w) : wpN P .ret Q a w := .of (Go.wp_ret h)
theorem wp_cond {c : Operand} {x y : Code} {t : Bool} (hc : a.eval c = .bool t) (h : wpN P (if t then x else y) Q a w) : wpN P (.cond c x y) Q a w :=
  fun b hb k cs => let ⟨e, a', w', q, r⟩ := h b hb k cs; ⟨e, a', w', q, .of_steps (.one (step_cond hc)) r⟩

theorem wp_seq {x y : Code} (h : wpN P x (Exit.then (wpN P y Q) Q) a w) : wpN P (.seq x y) Q a w := by
  intro b hb k cs
  obtain ⟨e, a1, w1, hq, r⟩ := h b hb (.code y :: k) cs
  have pass : e ≠ .normal → Q e a1 w1 → ∃ e a' w', Q e a' w' ∧ Arrives P (lone (b.at a (.code (.seq x y) :: k)) cs w) b k cs e a' w' := fun hn q =>
    ⟨e, a1, w1, q, .of_steps (.one step_seq) (.pass (x := .code y) rfl (fun _ _ => .inl hn) r)⟩
  cases e with
  | normal =>
    obtain ⟨e2, a2, w2, q2, r2⟩ := hq b hb k cs
    exact ⟨e2, a2, w2, q2, .of_steps (.head step_seq r) r2⟩
  | _ => exact pass (by simp) hq

theorem wp_block {id : Nat} {c : Code} (h : wpN P c (Exit.inBlock id Q) a w) : wpN P (.block id c) Q a w := by
  intro b hb k cs
  obtain ⟨e, a1, w1, hq, r⟩ := h b hb (.inBlock id :: k) cs
  cases e with
  | normal => exact ⟨.normal, a1, w1, hq, .head step_block (Steps.trans r (.one step_inBlock))⟩
  | exit id' =>
    simp only [Exit.inBlock] at hq
    by_cases hid : id' = id
    · rw [if_pos hid] at hq
      exact ⟨.normal, a1, w1, hq, .head step_block (r k (by simp [exitTo, hid]))⟩
    · rw [if_neg hid] at hq
      have hne : (id == id') = false := beq_eq_false_iff_ne.2 fun e => hid e.symm
      exact ⟨.exit id', a1, w1, hq, fun k' hk => .head step_block (r k' (by simp [exitTo, hne, hk]))⟩
  | goto l => exact ⟨_, a1, w1, hq, fun k' hk => .head step_block (r k' (by simp [gotoIn, hk]))⟩
  | outgrown => exact ⟨.outgrown, a1, w1, hq, .inr ((show b.kind = .early ∨ _ from r).elim (fun e => absurd e hb) fun o => o.of_steps (.one step_block))⟩
  | _ => exact ⟨_, a1, w1, hq, .of_steps (.one step_block) r⟩
end

def opN (P : Program) (ops : Array Oper) (i : Nat) (K : Act → World → Prop) (a : Act) (w : World) : Prop :=
  ∀ (rest : List Nat) (b : Go.Frame), b.kind ≠ .early → ∀ (k : List Item) (cs : List Go.Frame), ∃ a' w', K a' w' ∧ Steps P (lone (b.at a (.inRegion ops (i :: rest) :: k)) cs w) (lone (b.at a' (.inRegion ops rest :: k)) cs w')
theorem opN.mono {P : Program} {ops : Array Oper} {i : Nat} {K K' : Act → World → Prop} {a : Act} {w : World} (h : opN P ops i K a w) (hk : ∀ a w, K a w → K' a w) : opN P ops i K' a w :=
  fun rest b hb k cs => let ⟨a', w', q, r⟩ := h rest b hb k cs; ⟨a', w', hk _ _ q, r⟩
def opsN (P : Program) (ops : Array Oper) (K : Act → World → Prop) : List Nat → Act → World → Prop
  | [], a, w => K a w
  | i :: r, a, w => opN P ops i (opsN P ops K r) a w

section
variable {P : Program} {ops : Array Oper} {K : Act → World → Prop} {a : Act} {w : World}
theorem opsN_steps : ∀ (l : List Nat) (a : Act) (w : World), opsN P ops K l a w → ∀ b : Go.Frame, b.kind ≠ .early → ∀ (k : List Item) (cs : List Go.Frame),
    ∃ a' w', K a' w' ∧ Steps P (lone (b.at a (.inRegion ops l :: k)) cs w) (lone (b.at a' k) cs w')
  | [], a, w, h, b, _, k, cs => ⟨a, w, h, .one step_region_end⟩
  | i :: r, a, w, h, b, hb, k, cs => by
    obtain ⟨a1, w1, h1, s1⟩ := h r b hb k cs
    obtain ⟨a2, w2, h2, s2⟩ := opsN_steps r a1 w1 h1 b hb k cs
    exact ⟨a2, w2, h2, s1.trans s2⟩
theorem wp_region {Q : Exit → Act → World → Prop} {id : Nat} (h : opsN P ops (Q .normal) (List.range ops.size) a w) : wpN P (.region id ops false) Q a w :=
  fun b hb k cs => let ⟨a', w', q, r⟩ := opsN_steps _ a w h b hb k cs; ⟨.normal, a', w', q, .head step_region r⟩

theorem opN.skip {i : Nat} (h : ((ops[i]?).map (Region.wanted · (yielded ops a.tmps))).getD false = false) (hk : K (a.put ((ops[i]?).bind (·.dst)) undef) w) : opN P ops i K a w :=
  fun rest b _ k cs => ⟨_, w, hk, .one (step_op_skip h)⟩

theorem opN.of_wp {i : Nat} {o : Oper} (ho : ops[i]? = some o) (hw : Region.wanted o (yielded ops a.tmps) = true) (h : o.wp P a w K fun _ _ _ => False) : opN P ops i K a w := by
  intro rest b hb k cs
  have hg := stepG_op (P := P) (b := b) (k := k) (cs := cs) (w := w) (rest := rest) ho hw
  have fin : ∀ (a1 : Act) v, (b.at a1 (.inRegion ops (i :: rest) :: k)).finish v = b.at (a1.put o.dst v) (.inRegion ops rest :: k) := fun a1 v => by
    rw [Go.Frame.finish_at, ho]; rfl
  unfold Oper.wp at h
  generalize hr : (execOp a.eval o).run P w = res at h
  cases res with
  | halt x w' => cases x <;> exact h.elim
  | ok nx w' =>
    cases nx with
    | value v => exact ⟨_, w', h, .one (step_lone_go (by rw [hg, ← fin]; simp [stepG.apply, hr]))⟩
    | skip => exact ⟨_, w', h, .one (step_lone_go (by rw [hg, ← fin]; simp [stepG.apply, hr]))⟩
    | defer d =>
      refine ⟨_, w', h, .one (step_lone_go ?_)⟩
      have e1 := fin { a with defers := d :: a.defers } undef
      rw [hg]
      simp only [stepG.apply, Sem.runT_eq, hr, GStep.bare_after]
      exact congrArg (fun fr => GStep.go { frame := fr, callers := cs, status := .running, dying := none } w') e1
    | enter f args =>
      obtain ⟨e, w2, fr, hR, hs, _, hl⟩ := h (b.at a (.inRegion ops (i :: rest) :: k) :: cs)
      have h1 : step P (lone (b.at a (.inRegion ops (i :: rest) :: k)) cs w) = .next (lone (Go.Frame.enter P f args .normal) (b.at a (.inRegion ops (i :: rest) :: k) :: cs) w') :=
        step_lone_go (by rw [hg]; simp [stepG.apply, hr, Go.Frame.at])
      cases e with
      | returned v => exact ⟨_, w2, hR, .head h1 (Steps.trans hs (.one (by rw [← fin]; exact step_leave_returned hl)))⟩
      | panicked chain => exact hR.elim
      | outgrown => exact (show LetsOut _ from hR).elim fun _ h => h.elim fun _ h => h.elim
    | row r args =>
      obtain ⟨v, w2, hR, hs⟩ := h (b.at a (.inRegion ops (i :: rest) :: k)) cs
      have h1 : step P (lone (b.at a (.inRegion ops (i :: rest) :: k)) cs w) = .next (lone (Go.Frame.ofRow P r args .normal) (b.at a (.inRegion ops (i :: rest) :: k) :: cs) w') :=
        step_lone_go (by rw [hg]; simp [stepG.apply, hr, Go.Frame.at])
      exact ⟨_, w2, hR, .head h1 (by rw [← fin]; exact hs)⟩
    | _ => exact h.elim

theorem opN.of_step {i : Nat} {o : Oper} (ho : ops[i]? = some o) {v : Value} {w' : World}
    (h : ∀ (rest : List Nat) (b : Go.Frame), b.kind ≠ .early → ∀ (k : List Item) (cs : List Go.Frame), step P (lone (b.at a (.inRegion ops (i :: rest) :: k)) cs w) = .next (lone ((b.at a (.inRegion ops (i :: rest) :: k)).finish v) cs w'))
    (hk : K (a.put o.dst v) w') : opN P ops i K a w := by
  intro rest b hb k cs
  refine ⟨_, w', hk, .one ?_⟩
  have e := h rest b hb k cs
  rw [Go.Frame.finish_at, ho] at e
  exact e

def anyN (P : Program) (md : Region.Mode) (ops : Array Oper) (K : Act → World → Prop) : Nat → Array Bool → Act → World → Prop
  | 0, L, a, w => Region.ready md ops L = [] ∧ K a w
  | f + 1, L, a, w => (Region.ready md ops L = [] → K a w) ∧ ∀ i ∈ Region.ready md ops L, opN P ops i (anyN P md ops K f (L.setIfInBounds i true)) a w

theorem anyN_sound {md : Region.Mode} : ∀ (f t : Nat) (L : Array Bool) (a : Act) (w : World), anyN P md ops K f L a w → opsN P ops K (Region.linearise.go md ops f t L []) a w
  | 0, t, L, a, w, h => by
    simpa [Region.linearise.go, opsN] using h.2
  | f + 1, t, L, a, w, h => by
    obtain ⟨h0, h1⟩ := h
    simp only [Region.linearise.go]
    change opsN P ops K (match (Region.ready md ops L)[t % (Region.ready md ops L).length]? with
      | some i => Region.linearise.go md ops f (t / (Region.ready md ops L).length) (L.setIfInBounds i true) [i]
      | none => [].reverse) a w
    cases hi : (Region.ready md ops L)[t % (Region.ready md ops L).length]? with
    | none =>
      refine h0 ?_
      cases hr : Region.ready md ops L with
      | nil => rfl
      | cons x xs =>
        rw [hr] at hi
        have h2 := List.getElem?_eq_none_iff.1 hi
        have h3 : t % (x :: xs).length < (x :: xs).length := Nat.mod_lt _ (Nat.succ_pos _)
        omega
    | some i =>
      show opsN P ops K (Region.linearise.go md ops f (t / (Region.ready md ops L).length) (L.setIfInBounds i true) [i]) a w
      rw [linearise_go_acc]
      exact (h1 i (List.mem_of_getElem? hi)).mono fun a w hk => anyN_sound f _ _ a w hk

theorem wp_region_any {Q : Exit → Act → World → Prop} {id : Nat} (hm : P.follows .mixedOrders = true) (h : anyN P .any ops (Q .normal) ops.size (Array.replicate ops.size false) a { w with drawn := w.drawn + 1 }) : wpN P (.region id ops true) Q a w := by
  intro b hb k cs
  obtain ⟨a', w', q, r⟩ := opsN_steps (Region.schedule (P.follows .mixedOrders) ops (w.tape w.drawn (.order b.fn id))) a { w with drawn := w.drawn + 1 } (by
    simp only [Region.schedule, hm, Bool.true_or, if_true]
    exact anyN_sound ops.size _ _ a _ h) b hb k cs
  exact ⟨.normal, a', w', q, .head step_region_draw r⟩

theorem calls_of_wpN {f : FuncId} {fn : Func} {c : Code} {args : Array Value} {R : Ending → World → Prop} (hf : P.funcs[f]? = some fn) (hb : fn.body = some c)
    (h : wpN P c (bodyPost P fn R) { tmps := args ++ Array.replicate (fn.ntmps - args.size) undef, defers := [] } w) : Calls P f args w R := by
  intro cs
  let b : Go.Frame := { (default : Go.Frame) with fn := f, kind := .normal }
  have he : Go.Frame.enter P f args .normal = b.at { tmps := args ++ Array.replicate (fn.ntmps - args.size) undef, defers := [] } [.code c] := by
    simp [Go.Frame.enter, Go.Frame.at, hf, hb, b]
  have hbk : b.kind ≠ .early := by simp [b]
  obtain ⟨e, a', w', hq, r⟩ := h b hbk [] cs
  rw [← he] at r
  cases e with
  | normal =>
    obtain ⟨h1, v, h2, h3⟩ := hq
    exact ⟨.returned v, w', _, h3, Steps.trans r (.one step_end), rfl, rfl, h1, rfl, fn, hf, h2⟩
  | ret =>
    obtain ⟨h1, v, h2, h3⟩ := hq
    obtain ⟨todo, hs⟩ := r
    exact ⟨.returned v, w', _, h3, hs, rfl, rfl, h1, rfl, fn, hf, h2⟩
  | panic chain =>
    obtain ⟨h1, h2⟩ := hq
    obtain ⟨todo, hs⟩ := r
    exact ⟨.panicked chain, w', _, h2, hs, rfl, rfl, h1, fn, hf⟩
  | exit id => exact hq.elim
  | goto l => exact hq.elim
  | outgrown => exact ⟨.outgrown, w', b, hq, (show b.kind = .early ∨ _ from r).resolve_left hbk, rfl, trivial⟩
end
end Go.Sx
