/- Loops, labels, functions and their calls. Holds for every program. -/
import Derived.Test.YtgbikcniediomaaSx11
namespace Go.Sx
set_option linter.unusedSimpArgs false
set_option linter.unusedVariables false

section
variable {P : Program} {tt : Tab} {B : Base} {nt : Nat} {σ : Nat → Nat} {n : Nat} {e : Env} {h : Bs} {a : Act} {w : World}

theorem wp_loop_ix {ι : Type 1} {c : Code} {Q : Exit → Act → World → Prop} (I : ι → Act → World → Prop) (μ : ι → Nat)
    (round : ∀ i a w, I i a w → wpN P c (Exit.then (fun a' w' => ∃ i', μ i' < μ i ∧ I i' a' w') Q) a w) : ∀ i a w, I i a w → wpN P (.loop c) Q a w := by
  intro i a w hI b hb k cs
  have key : ∀ n i a w, μ i = n → I i a w → ∃ e a' w', Q e a' w' ∧ Arrives P (lone (b.at a (.code c :: .inLoop c :: k)) cs w) b k cs e a' w' := by
    intro n
    induction n using Nat.strongRecOn with
    | _ n ih =>
      intro i a w hn hI
      obtain ⟨e, a₁, w₁, hq, harr⟩ := round i a w hI b hb (.inLoop c :: k) cs
      cases e with
      | normal =>
        obtain ⟨i', hlt, hI'⟩ := hq
        obtain ⟨e₂, a₂, w₂, hq₂, harr₂⟩ := ih (μ i') (hn ▸ hlt) i' a₁ w₁ rfl hI'
        exact ⟨e₂, a₂, w₂, hq₂, .of_steps (Steps.trans harr (.one step_inLoop)) harr₂⟩
      | exit id => exact ⟨_, a₁, w₁, hq, .pass (x := .inLoop c) rfl (fun _ _ => .inl (by simp)) harr⟩
      | goto l => exact ⟨_, a₁, w₁, hq, .pass (x := .inLoop c) rfl (fun _ _ => .inl (by simp)) harr⟩
      | ret => exact ⟨_, a₁, w₁, hq, .pass (x := .inLoop c) rfl (fun _ _ => .inl (by simp)) harr⟩
      | panic ch => exact ⟨_, a₁, w₁, hq, .pass (x := .inLoop c) rfl (fun _ _ => .inl (by simp)) harr⟩
      | outgrown => exact ⟨_, a₁, w₁, hq, .pass (x := .inLoop c) rfl (fun _ _ => .inl (by simp)) harr⟩
  obtain ⟨e, a', w', hq, harr⟩ := key _ i a w rfl hI
  exact ⟨e, a', w', hq, .of_steps (.one step_loop) harr⟩

theorem wp_scope_ix {ι : Type 1} {c rest : Code} {Q : Exit → Act → World → Prop} (l : Nat) (J : ι → Act → World → Prop) (μ : ι → Nat) (hf : findLabel c l = some rest)
    (pass : ∀ i a w, J i a w → wpN P rest (Exit.jump l (fun a' w' => ∃ i', μ i' < μ i ∧ J i' a' w') Q) a w)
    (first : wpN P c (Exit.jump l (fun a' w' => ∃ i, J i a' w') Q) a w) : wpN P (.scope c) Q a w := by
  intro b hb k cs
  have hg : gotoIn l (.inScope c :: k) = some (.code rest :: .inScope c :: k) := by simp [gotoIn, hf]
  have key : ∀ n i a w, μ i = n → J i a w → ∃ e a' w', Q e a' w' ∧ Arrives P (lone (b.at a (.code rest :: .inScope c :: k)) cs w) b k cs e a' w' := by
    intro n
    induction n using Nat.strongRecOn with
    | _ n ih =>
      intro i a w hn hJ
      obtain ⟨e, a₁, w₁, hq, harr⟩ := pass i a w hJ b hb (.inScope c :: k) cs
      cases e with
      | normal => exact ⟨.normal, a₁, w₁, hq, Steps.trans harr (.one step_inScope)⟩
      | exit id => exact ⟨.exit id, a₁, w₁, hq, fun k' hk => harr k' (by simp [exitTo, hk])⟩
      | goto l' =>
        obtain ⟨rfl, i', hlt, hJ'⟩ := hq
        obtain ⟨e₂, a₂, w₂, hq₂, harr₂⟩ := ih _ (hn ▸ hlt) i' a₁ w₁ rfl hJ'
        exact ⟨e₂, a₂, w₂, hq₂, .of_steps (harr _ hg) harr₂⟩
      | ret => exact ⟨_, a₁, w₁, hq, harr⟩
      | panic ch => exact ⟨_, a₁, w₁, hq, harr⟩
      | outgrown => exact ⟨_, a₁, w₁, hq, harr⟩
  obtain ⟨e, a₁, w₁, hq, harr⟩ := first b hb (.inScope c :: k) cs
  cases e with
  | normal => exact ⟨.normal, a₁, w₁, hq, .head step_scope (Steps.trans harr (.one step_inScope))⟩
  | exit id => exact ⟨.exit id, a₁, w₁, hq, fun k' hk => .head step_scope (harr k' (by simp [exitTo, hk]))⟩
  | goto l' =>
    obtain ⟨rfl, i, hJ'⟩ := hq
    obtain ⟨e₂, a₂, w₂, hq₂, harr₂⟩ := key _ i a₁ w₁ rfl hJ'
    exact ⟨e₂, a₂, w₂, hq₂, .of_steps (.head step_scope (harr _ hg)) harr₂⟩
  | ret => exact ⟨_, a₁, w₁, hq, .of_steps (.one step_scope) harr⟩
  | panic ch => exact ⟨_, a₁, w₁, hq, .of_steps (.one step_scope) harr⟩
  | outgrown => exact ⟨_, a₁, w₁, hq, .of_steps (.one step_scope) harr⟩

theorem wp_scope_straight {c : Code} {Q : Exit → Act → World → Prop} (h : wpN P c (Exit.noGoto Q) a w) : wpN P (.scope c) Q a w := by
  intro b hb k cs
  obtain ⟨e, a1, w1, hq, r⟩ := h b hb (.inScope c :: k) cs
  cases e with
  | normal => exact ⟨.normal, a1, w1, hq, .head step_scope (Steps.trans r (.one step_inScope))⟩
  | exit id => exact ⟨.exit id, a1, w1, hq, fun k' hk => .head step_scope (r k' (by simp [exitTo, hk]))⟩
  | goto l => exact hq.elim
  | _ => exact ⟨_, a1, w1, hq, .of_steps (.one step_scope) r⟩

structure St : Type 1 where
  n : Nat
  e : Env
  h : Bs

theorem SWp.loop {ι : Type} {k : Nat} {c : Code} {Q : Exit → Nat → Env → Bs → Prop} (I : ι → St) (μ : ι → Nat) (i₀ : ι) (h₀ : Imp k n e h (I i₀).n (I i₀).e (I i₀).h)
    (round : ∀ i, SWp P nt k c (thenQ (fun n e h => ∃ i', μ i' < μ i ∧ Imp k n e h (I i').n (I i').e (I i').h) Q) (I i).n (I i).e (I i).h) : SWp P nt k (.loop c) Q n e h := by
  refine ⟨fun B σ a w hb s => ?_⟩
  subst hb
  obtain ⟨σ', s'⟩ := s.imp h₀
  refine wp_loop_ix (ι := ULift.{1} ι) (fun i a w => ∃ σ, Sat B nt σ (I i.down).n (I i.down).e (I i.down).h a w) (fun i => μ i.down) ?_ ⟨i₀⟩ a w ⟨σ', s'⟩
  rintro ⟨i⟩ a w ⟨σ, s⟩
  refine wp_mono ((round i).out B σ a w rfl s) fun ex a' w' hp => hp.then ?_
  rintro ⟨σ', n', e', h', ⟨i', hlt, himp⟩, s'⟩
  obtain ⟨σ'', s''⟩ := s'.imp himp
  exact ⟨⟨i'⟩, hlt, σ'', s''⟩

def jumpQ (l : Nat) (J : Nat → Env → Bs → Prop) (Q : Exit → Nat → Env → Bs → Prop) : Exit → Nat → Env → Bs → Prop
  | .goto l', n, e, h => l' = l ∧ J n e h
  | ex, n, e, h => Q ex n e h

def straightQ (Q : Exit → Nat → Env → Bs → Prop) : Exit → Nat → Env → Bs → Prop
  | .goto _, _, _, _ => False
  | ex, n, e, h => Q ex n e h

theorem SWp.scope {k : Nat} {c : Code} {Q : Exit → Nat → Env → Bs → Prop} (hc : SWp P nt k c (straightQ Q) n e h) : SWp P nt k (.scope c) Q n e h := by
  refine ⟨fun B σ a w hb s => wp_scope_straight (wp_mono (hc.out B σ a w hb s) ?_)⟩
  rintro ex a' w' ⟨σ', n', e', h', h1, s'⟩
  cases ex <;> first | exact h1.elim | exact ⟨σ', n', e', h', h1, s'⟩

theorem SWp.weaken {k : Nat} {c : Code} {Q : Exit → Nat → Env → Bs → Prop} {n' : Nat} {e' : Env} {h' : Bs} (hi : Imp k n e h n' e' h') (hc : SWp P nt k c Q n' e' h') : SWp P nt k c Q n e h := by
  refine ⟨fun B σ a w hb s => ?_⟩
  subst hb
  obtain ⟨σ', s'⟩ := s.imp hi
  exact hc.out B σ' a w rfl s'

theorem SWp.mono {k : Nat} {c : Code} {Q Q' : Exit → Nat → Env → Bs → Prop} (hc : SWp P nt k c Q n e h) (hq : ∀ ex n e h, Q ex n e h → Q' ex n e h) : SWp P nt k c Q' n e h := by
  refine ⟨fun B σ a w hb s => wp_mono (hc.out B σ a w hb s) ?_⟩
  rintro ex a' w' ⟨σ', n', e', h', h1, s'⟩
  exact ⟨σ', n', e', h', hq _ _ _ _ h1, s'⟩

/-! ### Functions -/

def resK (tt : Tab) (e : Env) (h : Bs) (r : ResultVar) (K : M → Prop) : Prop :=
  match r with
  | .tmp t => ev e (.tmp t) K
  | .cell x t => ev e (.tmp x) fun p => ty tt t fun ti => loadK ti p h K

def resL (tt : Tab) (e : Env) (h : Bs) : List ResultVar → (List M → Prop) → Prop
  | [], K => K []
  | r :: l, K => resK tt e h r fun m => resL tt e h l fun ms => K (m :: ms)

def retK (tt : Tab) (rs : List ResultVar) (e : Env) (h : Bs) (K : M → Prop) : Prop :=
  match rs with
  | [r] => resK tt e h r K
  | rs => resL tt e h rs fun ms => K (.tup ms)

def finQ (tt : Tab) (rs : List ResultVar) (K : Nat → M → Bs → Prop) : Exit → Nat → Env → Bs → Prop
  | .normal, n, e, h => retK tt rs e h fun m => K n m h
  | .ret, n, e, h => retK tt rs e h fun m => K n m h
  | _, _, _, _ => False

def params : Nat → List M → Env
  | _, [] => []
  | i, m :: r => (i, m) :: params (i + 1) r

def resOf (a : Act) (r : ResultVar) : Sem Value :=
  match r with
  | .tmp t => pure (a.tmps.getD t undef)
  | .cell x t => do loadVar t (← asAddr (a.tmps.getD x undef))

theorem resK_sound (hT : TOK P tt) (s : Sat B nt σ n e h a w) {r : ResultVar} {K : M → Prop} (hk : resK tt e h r K) :
    ∃ m, K m ∧ (resOf a r).run P w = .ok (m.den σ) w ∧ m.Ok w (avoids B σ h) n := by
  cases r with
  | tmp t =>
    simp only [resK] at hk
    obtain ⟨m, h1, h2, h3⟩ := ev_sound s hk
    exact ⟨m, h1, by simp only [resOf, Sem.run_pure]; rw [← h2]; rfl, h3⟩
  | cell x t =>
    simp only [resK] at hk
    obtain ⟨p, k1, h1, h2⟩ := ev_sound s hk
    obtain ⟨ti, ht, k2⟩ := ty_spec k1
    obtain ⟨m, g1, g2, g3⟩ := loadK_sound hT s.mem ht h2 k2
    refine ⟨m, g1, ?_, g3⟩
    have hx : a.tmps.getD x undef = p.den σ := h1
    simp only [resOf, hx]
    revert g2
    generalize p.den σ = v
    intro g2
    simp only [Instr.loadAt, Sem.run_bind] at g2 ⊢
    cases v <;> first | (simp [Instr.sureAddr] at g2; done) | skip
    rename_i q
    cases q with
    | none => simp [Instr.sureAddr] at g2
    | some ad => simpa [Instr.sureAddr, asAddr] using g2

theorem resL_sound (hT : TOK P tt) (s : Sat B nt σ n e h a w) : ∀ (rs : List ResultVar) (K : List M → Prop), resL tt e h rs K →
    ∃ ms, K ms ∧ (rs.mapM (resOf a)).run P w = .ok (ms.map (M.den σ)) w ∧ (∀ m ∈ ms, m.Ok w (avoids B σ h) n) ∧ ms.length = rs.length
  | [], K, hk => ⟨[], hk, by simp, by simp, rfl⟩
  | r :: l, K, hk => by
    obtain ⟨m, k1, h1, h2⟩ := resK_sound hT s hk
    obtain ⟨ms, k2, h3, h4, h5⟩ := resL_sound hT s l _ k1
    refine ⟨m :: ms, k2, ?_, by simp only [List.mem_cons, forall_eq_or_imp]; exact ⟨h2, h4⟩, by simp [h5]⟩
    rw [List.mapM_cons, Sem.run_bind, h1]
    simp only [Result.andThen_ok, Sem.run_bind]
    rw [h3]
    simp

theorem results_eq (fn : Func) (a : Act) : results fn a.tmps = (do let vs ← fn.results.mapM (resOf a); pure (if h : vs.size = 1 then vs[0] else .tuple vs)) := by
  unfold results
  congr 1

theorem retK_sound (hT : TOK P tt) (s : Sat B nt σ n e h a w) {fn : Func} {K : M → Prop} (hk : retK tt fn.results.toList e h K) :
    ∃ m, K m ∧ (results fn a.tmps).run P w = .ok (m.den σ) w ∧ m.Ok w (avoids B σ h) n := by
  have hmap : ∀ (ms : List M), (fn.results.toList.mapM (resOf a)).run P w = .ok (ms.map (M.den σ)) w → (fn.results.mapM (resOf a)).run P w = .ok (ms.map (M.den σ)).toArray w := by
    intro ms hms
    rw [Array.mapM_eq_mapM_toList]
    simp only [Sem.run_map]
    rw [hms]
    rfl
  unfold retK at hk
  split at hk
  · rename_i r hr
    obtain ⟨m, k1, h1, h2⟩ := resK_sound hT s hk
    refine ⟨m, k1, ?_, h2⟩
    have := hmap [m] (by rw [hr, List.mapM_cons, Sem.run_bind, h1]; simp)
    rw [results_eq, Sem.run_bind, this]
    simp
  · rename_i hr
    obtain ⟨ms, k1, h1, h2, h3⟩ := resL_sound hT s _ _ hk
    refine ⟨_, k1, ?_, .tup h2⟩
    have := hmap ms h1
    rw [results_eq, Sem.run_bind, this]
    have hne : ¬ ms.length = 1 := by
      intro h4
      rw [h3] at h4
      match hx : fn.results.toList, h4 with
      | [r], _ => exact hr r hx
    simp [hne, M.den_tup]

theorem get_params : ∀ (l : List M) (i s : Nat) (m : M), get (params i l) s = some m → i ≤ s ∧ l[s - i]? = some m
  | [], i, s, m, hm => by cases hm
  | x :: r, i, s, m, hm => by
    simp only [params, get] at hm
    cases hb : Nat.beq i s with
    | true =>
      rw [hb] at hm
      cases hm
      have := Nat.eq_of_beq_eq_true hb
      subst this
      simp
    | false =>
      rw [hb] at hm
      obtain ⟨h1, h2⟩ := get_params r (i + 1) s m hm
      refine ⟨by omega, ?_⟩
      rw [show s - i = (s - (i + 1)) + 1 by omega]
      simpa using h2

def Base.now (B : Base) (σ : Nat → Nat) (n : Nat) (h : Bs) (w : World) : Base := ⟨w, fun b => ∃ j k, get h j = some k ∧ k.occ (σ j) b, B.av, n, σ⟩

theorem Mem.rebase (s : Mem B σ n h w) : Mem (B.now σ n h w) σ n h w := by
  refine ⟨Frame.refl _ _ _ _ _ (fun g k l hg => ⟨(s.glob_not hg).1, fun h1 => (s.glob_not hg).2 (.inr h1), fun h1 => (s.glob_not hg).2 (.inl h1)⟩), fun b hb => ⟨Nat.lt_of_lt_of_le (s.avlt b hb).1 s.frame.size, ?_⟩, Nat.le_refl _, fun _ _ => rfl, s.lt, s.injO, fun j k b hj hr _ => ⟨j, k, hj, hr⟩, s.holds, s.ok⟩
  rintro ⟨j, k, hj, hr⟩
  have h1 := s.avlt _ hb
  exact h1.2 (s.ownO j k _ hj hr h1.1)

theorem Mem.unbase {σ' : Nat → Nat} {n' : Nat} {h' : Bs} {w' : World} (s : Mem B σ n h w) (s' : Mem (B.now σ n h w) σ' n' h' w') :
    Mem B σ' n' h' w' ∧ (∀ b, b < w.heap.size → ¬ avoids B σ h b → ¬ avoids B σ' h' b ∧ w'.heap[b]? = w.heap[b]?) ∧ n ≤ n' ∧ ∀ j, j < n → σ j = σ' j := by
  refine ⟨⟨⟨s'.frame.os.trans s.frame.os, s'.frame.tape.trans s.frame.tape, s'.frame.output.trans s.frame.output, Nat.le_trans s.frame.size s'.frame.size, fun b hb hm => ?_, s.frame.gok⟩, s.avlt, Nat.le_trans s.kn s'.kn,
    fun j hj => (s'.anch j (Nat.lt_of_lt_of_le hj s.kn)).trans (s.anch j hj), s'.lt, s'.injO, ?_, s'.holds, s'.ok⟩, ?_, s'.kn, fun j hj => (s'.anch j hj).symm⟩
  · rw [s'.frame.block b (Nat.lt_of_lt_of_le hb s.frame.size) ?_]
    · exact s.frame.block b hb hm
    · rintro ⟨j, k, hj, hr⟩
      exact hm (s.ownO j k _ hj hr hb)
  · intro j k b hj hr hb
    obtain ⟨j', k', hj', hr'⟩ := s'.ownO j k b hj hr (Nat.lt_of_lt_of_le hb s.frame.size)
    exact s.ownO j' k' b hj' hr' hb
  · intro b hb hnav
    refine ⟨?_, s'.frame.block b hb fun ⟨j, k, hj, hr⟩ => hnav (.inr ⟨j, k, hj, hr⟩)⟩
    rintro (h1 | ⟨j, k, hj, hr⟩)
    · exact hnav (.inl h1)
    · obtain ⟨j', k', hj', hr'⟩ := s'.ownO j k b hj hr hb
      exact hnav (.inr ⟨j', k', hj', hr'⟩)

theorem SCall.body (hT : TOK P tt) {f : Nat} {fn : Func} {c : Code} {args : List M} {K : Nat → M → Bs → Prop} (hentry : ∀ (vs : Array Value) (w : World), (callFunc f vs).run P w = .ok (.enter f vs) w)
    (hf : P.funcs[f]? = some fn) (hb : fn.body = some c) (hl : args.length ≤ fn.ntmps) (hx : SWp P fn.ntmps n c (finQ tt fn.results.toList K) n (params 0 args) h) : SCall P f args n h K := by
  refine ⟨fun B σ w s hargs => .inl ⟨hentry _ _, calls_of_wpN hf hb ?_⟩⟩
  have s' : Sat (B.now σ n h w) fn.ntmps σ n (params 0 args) h { tmps := (args.map (M.den σ)).toArray ++ Array.replicate (fn.ntmps - (args.map (M.den σ)).toArray.size) undef, defers := [] } w := by
    refine ⟨s.rebase, rfl, by simp; omega, fun q m hq => ?_, fun q m hq => ?_⟩
    · obtain ⟨_, h2⟩ := get_params args 0 q m hq
      have hlt := (List.getElem?_eq_some_iff.1 h2).1
      simp only [Nat.sub_zero] at h2 hlt
      rw [Array.getD_eq_getD_getElem?, Array.getElem?_append_left (by simpa using hlt)]
      simp [h2]
    · obtain ⟨_, h2⟩ := get_params args 0 q m hq
      exact hargs m (List.mem_of_getElem? h2)
  refine wp_mono (hx.out _ σ _ w rfl s') ?_
  rintro ex a' w' ⟨σ', n', e', h', h1, s''⟩
  have fin : retK tt fn.results.toList e' h' (fun m => K n' m h') → a'.defers = [] ∧ ∃ v, (results fn a'.tmps).run P w' = .ok v w' ∧
      ∃ σ' n' m h', Ending.returned v = .returned (m.den σ') ∧ K n' m h' ∧ n ≤ n' ∧ (∀ j, j < n → σ j = σ' j) ∧ Mem B σ' n' h' w' ∧ m.Ok w' (avoids B σ' h') n' ∧
      ∀ b, b < w.heap.size → ¬ avoids B σ h b → ¬ avoids B σ' h' b ∧ w'.heap[b]? = w.heap[b]? := by
    intro hr
    obtain ⟨m, g1, g2, g3⟩ := retK_sound hT s'' hr
    obtain ⟨q1, q2, q3, q4⟩ := s.unbase s''.mem
    exact ⟨s''.defers, _, g2, σ', n', m, h', rfl, g1, q3, q4, q1, g3, q2⟩
  cases ex <;> first | exact h1.elim | exact fin h1

def M.pure : M → Bool
  | .one s => s.isPure
  | .agg l => l.all SV.isPure
  | .tup l => pureT l
where pureT : List M → Bool
  | [] => true
  | m :: r => m.pure && pureT r

theorem SV.Ok.of_pure {av av' : Nat → Prop} {n n' : Nat} {w : World} {s : SV} (h : s.Ok w av n) (hp : s.isPure = true) (hav : ∀ b, av' b → av b) : s.Ok w av' n' := by
  induction h with
  | v h => exact .v h
  | ints h => exact .ints h
  | view hcap hes hpp hok hcell ih =>
    refine .view hcap hes hpp (fun x hx s hs => ih x hx s hs (hpp x hx s hs)) fun i k hi u hu => ?_
    · obtain ⟨b, o, h1, h2, h3⟩ := hcell i k hi u hu
      exact ⟨b, o, h1, fun h4 => h2 (hav _ h4), h3⟩
  | rptr hpp hok hcell ih =>
    exact .rptr hpp (fun s hs => ih s hs (hpp s hs)) fun k u hu => ⟨fun h4 => (hcell k u hu).1 (hav _ h4), (hcell k u hu).2⟩
  | _ => cases hp

theorem M.pureT_mem : ∀ {l : List M}, M.pure.pureT l = true → ∀ m ∈ l, m.pure = true
  | [], _, m, hm => by cases hm
  | x :: r, h, m, hm => by
    simp only [M.pure.pureT, Bool.and_eq_true] at h
    rcases List.mem_cons.1 hm with rfl | hm
    · exact h.1
    · exact M.pureT_mem h.2 m hm

theorem M.Ok.of_pure {av av' : Nat → Prop} {n n' : Nat} {w : World} (hav : ∀ b, av' b → av b) : ∀ {m : M}, m.Ok w av n → m.pure = true → m.Ok w av' n'
  | .one s, h, hf => by cases h with | one h9 h => exact .one h9 (h.of_pure hf hav)
  | .agg l, h, hf => by cases h with | agg h => exact .agg fun s hs => (h s hs).of_pure (List.all_eq_true.1 hf s hs) hav
  | .tup l, h, hf => by cases h with | tup h => exact .tup fun m hm => M.Ok.of_pure hav (h m hm) (M.pureT_mem hf m hm)

theorem M.den_pure (σ τ : Nat → Nat) : ∀ {m : M}, m.pure = true → m.den σ = m.den τ
  | .one s, hf => by
    have : s.dens σ = s.dens τ := SV.dens_pure hf σ τ
    cases s <;> first | rfl | cases hf
  | .agg l, hf => by
    simp only [M.den, denL_pure (List.all_eq_true.1 hf) σ τ]
  | .tup l, hf => by
    rw [M.den_tup, M.den_tup]
    congr 2
    exact List.map_congr_left fun m hm => M.den_pure σ τ (M.pureT_mem hf m hm)

theorem SCall.pure {f : Nat} {args : List M} {R : M → Prop} {K : Nat → M → Bs → Prop} (spec : SCall P f args 0 [] fun _ m _ => R m ∧ m.pure = true) (ha : args.all M.pure = true)
    (hK : ∀ m, R m → K n m h) : SCall P f args n h K := by
  refine ⟨fun B σ w s hargs => ?_⟩
  have s0 : Mem ⟨w, fun _ => False, avoids B σ h, 0, σ⟩ σ 0 [] w := by
    refine ⟨Frame.refl _ _ _ _ _ (fun g k l hg => ⟨(s.glob_not hg).1, fun h1 => h1, (s.glob_not hg).2⟩), fun b hb => ⟨?_, fun h => h⟩, Nat.le_refl _, fun _ h => absurd h (Nat.not_lt_zero _), fun _ _ h => by (cases h), fun _ _ _ _ _ h => by (cases h), fun _ _ _ h => by (cases h), fun _ _ h => by (cases h), fun _ _ h => by (cases h)⟩
    rcases hb with hb | ⟨j, k, hj, hr⟩
    · exact Nat.lt_of_lt_of_le (s.avlt b hb).1 s.frame.size
    · exact s.occ_lt hj hr
  refine (spec.out _ σ w s0 fun m hm => (hargs m hm).of_pure (fun b hb => ?_) (List.all_eq_true.1 ha m hm)).mono ?_
  · rcases hb with hb | ⟨j, k, hj, _⟩
    · exact hb
    · cases hj
  rintro e1 w1 ⟨σ', n', m, h', rfl, ⟨hR, hf⟩, _, _, s1, hm1, _⟩
  have hb : ∀ b, b < w.heap.size → w1.heap[b]? = w.heap[b]? := fun b hb => s1.frame.block b hb (fun h => h)
  refine ⟨σ, n, m, h, by rw [M.den_pure σ' σ hf], hK m hR, Nat.le_refl _, fun _ _ => rfl, ?_, hm1.of_pure (fun b hb => .inl hb) hf, fun b hb' hav => ⟨hav, hb b hb'⟩⟩
  refine ⟨⟨s1.frame.os.trans s.frame.os, s1.frame.tape.trans s.frame.tape, s1.frame.output.trans s.frame.output, Nat.le_trans s.frame.size s1.frame.size, fun b hb' hm => ?_, s.frame.gok⟩, s.avlt, s.kn, s.anch, s.lt, s.injO, s.ownO, fun j k hj => ?_, fun j k hj => ?_⟩
  · rw [hb b (Nat.lt_of_lt_of_le hb' s.frame.size)]; exact s.frame.block b hb' hm
  · exact (s.holds j k hj).of_block (s.ok j k hj) (fun _ _ => rfl) (fun _ => rfl) fun c hr => hb _ (s.occ_lt hj hr)
  · exact (s.ok j k hj).mono (Nat.le_refl _) fun b hb' hav => ⟨hav, hb b hb'⟩

end
end Go.Sx
