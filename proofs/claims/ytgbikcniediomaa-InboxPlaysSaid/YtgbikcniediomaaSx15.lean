/- What an operation yields hangs on its operands and on the blocks that it reads: the same, where these are the same. Holds for every program. -/
import Derived.Test.YtgbikcniediomaaSx14
namespace Go.Sx
set_option linter.unusedSimpArgs false
set_option linter.unusedVariables false

def Sim {α : Type _} (F F' : (α → Prop) → Prop) : Prop := ∀ K, F K → ∃ x, K x ∧ ∀ K', K' x → F' K'
abbrev Det {α : Type _} (F : (α → Prop) → Prop) : Prop := Sim F F
def Det2 {α : Type _} {β : Type _} (F : (α → β → Prop) → Prop) : Prop := ∀ K, F K → ∃ x y, K x y ∧ ∀ K', K' x y → F K'
def Det3 {α : Type _} {β : Type _} {γ : Type _} (F : (α → β → γ → Prop) → Prop) : Prop := ∀ K, F K → ∃ x y z, K x y z ∧ ∀ K', K' x y z → F K'

section
universe u1 u2 u3 u4
variable {α : Type u1} {β : Type u2} {γ : Type u3} {δ : Type u4}
theorem Sim.ret (x : α) : Sim (fun K => K x) (fun K => K x) := fun _ h => ⟨x, h, fun _ h' => h'⟩
theorem Sim.fls {F' : (α → Prop) → Prop} : Sim (fun _ => False) F' := fun _ h => h.elim
theorem Sim.bind {A A' : (α → Prop) → Prop} {B B' : α → (β → Prop) → Prop} (hA : Sim A A') (hB : ∀ x, Sim (B x) (B' x)) :
    Sim (fun K => A fun x => B x K) (fun K => A' fun x => B' x K) := fun K h => by
  obtain ⟨x, h1, h2⟩ := hA _ h
  obtain ⟨y, h3, h4⟩ := hB x K h1
  exact ⟨y, h3, fun K' hk => h2 _ (h4 K' hk)⟩
theorem Sim.map {A A' : (α → Prop) → Prop} (hA : Sim A A') (f : α → β) : Sim (fun K => A fun x => K (f x)) (fun K => A' fun x => K (f x)) :=
  Sim.bind hA fun x => Sim.ret (f x)
theorem Sim.bind2 {A : (α → β → Prop) → Prop} {B B' : α → β → (δ → Prop) → Prop} (hA : Det2 A) (hB : ∀ x y, Sim (B x y) (B' x y)) :
    Sim (fun K => A fun x y => B x y K) (fun K => A fun x y => B' x y K) := fun K h => by
  obtain ⟨x, y, h1, h2⟩ := hA _ h
  obtain ⟨z, h3, h4⟩ := hB x y K h1
  exact ⟨z, h3, fun K' hk => h2 _ (h4 K' hk)⟩
theorem Sim.bind3 {A : (α → β → γ → Prop) → Prop} {B B' : α → β → γ → (δ → Prop) → Prop} (hA : Det3 A) (hB : ∀ x y z, Sim (B x y z) (B' x y z)) :
    Sim (fun K => A fun x y z => B x y z K) (fun K => A fun x y z => B' x y z K) := fun K h => by
  obtain ⟨x, y, z, h1, h2⟩ := hA _ h
  obtain ⟨u, h3, h4⟩ := hB x y z K h1
  exact ⟨u, h3, fun K' hk => h2 _ (h4 K' hk)⟩
theorem Sim.bif {b : Bool} {A A' B B' : (α → Prop) → Prop} (hA : Sim A A') (hB : Sim B B') : Sim (fun K => bif b then A K else B K) (fun K => bif b then A' K else B' K) := by
  cases b
  · exact hB
  · exact hA
theorem Sim.and {p : Prop} {A A' : (α → Prop) → Prop} (hA : Sim A A') : Sim (fun K => p ∧ A K) (fun K => p ∧ A' K) := fun K h => by
  obtain ⟨x, h1, h2⟩ := hA K h.2
  exact ⟨x, h1, fun K' hk => ⟨h.1, h2 K' hk⟩⟩
theorem Sim.ex {ι : Sort _} {A A' : ι → (α → Prop) → Prop} (hA : ∀ i, Sim (A i) (A' i)) : Sim (fun K => ∃ i, A i K) (fun K => ∃ i, A' i K) := fun K ⟨i, h⟩ => by
  obtain ⟨x, h1, h2⟩ := hA i K h
  exact ⟨x, h1, fun K' hk => ⟨i, h2 K' hk⟩⟩
theorem Sim.use {A A' : (α → Prop) → Prop} (hA : Sim A A') {x : α} (h : A fun y => y = x) {K : α → Prop} (hk : K x) : A' K := by
  obtain ⟨y, rfl, h2⟩ := hA _ h
  exact h2 K hk
end

theorem subK_det : ∀ (l : List SV) (off sz : Nat), Det (subK l off sz)
  | [], _, _ => Sim.bif (Sim.ret _) Sim.fls
  | s :: r, _, _ => Sim.bif (Sim.ret _) (Sim.bif (subK_det r _ _) (Sim.bif ((subK_det r _ _).map (s :: ·)) (by cases s <;> first | exact Sim.fls | exact Sim.bif (Sim.ret _) Sim.fls)))

theorem nthK_det : ∀ (l : List SV) (off : Nat), Det (nthK l off)
  | [], _ => Sim.fls
  | s :: r, _ => Sim.bif (nthK_det r _) (by cases s <;> exact Sim.ret _)

theorem chunkK_det : ∀ (l : List SV) (off : Nat), Det3 (chunkK l off)
  | [], _ => fun _ h => h.elim
  | s :: r, off => fun K h => by
    simp only [chunkK] at h ⊢
    cases hb : Nat.beq off 0 with
    | true =>
      simp only [hb, cond_true] at h ⊢
      cases s <;> first | exact h.elim | exact ⟨_, _, _, h, fun _ hk => hk⟩
    | false =>
      simp only [hb, cond_false] at h ⊢
      cases hc : Nat.ble s.wd off with
      | true => simp only [hc, cond_true] at h ⊢; exact chunkK_det r _ K h
      | false => simp only [hc, cond_false] at h

theorem delK_det : ∀ (l : List SV) (sz : Nat), Det (delK l sz)
  | [], _ => Sim.bif (Sim.ret _) Sim.fls
  | _ :: r, _ => Sim.bif (Sim.ret _) (Sim.bif (delK_det r _) Sim.fls)

theorem appK_det : ∀ (l r : List SV), Det (appK l r)
  | [], r => Sim.ret r
  | s :: l, r => (appK_det l r).map (s :: ·)

theorem setK_det : ∀ (l : List SV) (off : Nat) (new : List SV) (sz : Nat), Det (setK l off new sz)
  | [], _, _, _ => Sim.fls
  | s :: r, _, new, _ => Sim.bif (Sim.bind (delK_det _ _) fun _ => appK_det new _) (Sim.bif ((setK_det r _ _ _).map (s :: ·)) Sim.fls)

theorem set1K_det : ∀ (l : List SV) (off : Nat) (x : SV), Det (set1K l off x)
  | [], _, _ => Sim.fls
  | s :: r, _, x => Sim.bif ((set1K_det r _ _).map (s :: ·)) (by
    cases s <;> first | exact Sim.bif (Sim.ret _) Sim.fls | (cases x <;> first | exact Sim.fls | (rename_i y; cases y <;> first | exact Sim.fls | exact Sim.bif (Sim.ret _) Sim.fls)))

theorem setIdxK_det : ∀ (l : List SV) (off i : Nat) (x : SV), Det (setIdxK l off i x)
  | [], _, _, _ => Sim.fls
  | s :: r, _, _, x => Sim.bif (by
      cases s <;> first | exact Sim.fls | (cases x <;> first | exact Sim.fls | (rename_i y; cases y <;> first | exact Sim.fls | exact Sim.bif (Sim.and (Sim.ret _)) Sim.fls)))
    (Sim.bif ((setIdxK_det r _ _ _).map (s :: ·)) Sim.fls)

theorem eq1K_det (x y : SV) : Det (eq1K x y) := by
  intro K hq
  unfold eq1K at hq ⊢
  split at hq <;> first | exact hq.elim | exact ⟨_, hq, fun _ hk => hk⟩ | exact Sim.bif (Sim.ret _) Sim.fls K hq

theorem eqK_det : ∀ (l r : List SV), Det (eqK l r)
  | [], [] => Sim.ret _
  | [], _ :: _ => Sim.fls
  | [_], [] => Sim.fls
  | _ :: _ :: _, [] => Sim.fls
  | [x], [y] => eq1K_det x y
  | x :: a :: _, [y] => fun K hq => by
    simp only [eqK] at hq ⊢
    obtain ⟨_, h, _⟩ := eq1K_det x y _ hq
    exact h.elim
  | [x], y :: b :: _ => fun K hq => by
    simp only [eqK] at hq ⊢
    obtain ⟨_, h, _⟩ := eq1K_det x y _ hq
    exact h.elim
  | x :: a :: r, y :: b :: q => fun K hq => by
    simp only [eqK] at hq ⊢
    exact Sim.bind (eq1K_det x y) (fun c => (eqK_det (a :: r) (b :: q)).map (c && ·)) K hq
termination_by l => l.length

theorem ty_det (tt : Tab) (t : Nat) : Det (ty tt t) := fun K h => by
  unfold ty at h ⊢
  split at h
  · rename_i ti hg
    exact ⟨ti, h, fun K' hk => hk⟩
  · exact h.elim

theorem constK_det (v : Value) : Det (constK v) := by
  cases v <;> first | exact Sim.fls | exact Sim.ret _

theorem idx_det (m : M) : Det (idx m) := by
  cases m with
  | agg l => exact Sim.fls
  | tup l => exact Sim.fls
  | one s =>
    cases s with
    | v x => cases x <;> first | exact Sim.fls | exact Sim.and (Sim.ret _)
    | _ => exact Sim.fls

theorem ldK_det (ti : TI) (l : List SV) (off : Nat) : Det (ldK ti l off) := by
  unfold ldK
  cases ti.kind <;> first | exact Sim.fls | exact (subK_det _ _ _).map _ | exact Sim.bif ((nthK_det _ _).map _) Sim.fls

def Agr (e e' : Env) (x : Operand) : Prop := ∀ t, x = .tmp t → get e' t = get e t
def Sub (h h' : Bs) : Prop := ∀ j k, get h j = some k → get h' j = some k

theorem Sub.refl (h : Bs) : Sub h h := fun _ _ hk => hk

theorem ev_sim {e e' : Env} {x : Operand} (ha : Agr e e' x) : Sim (ev e x) (ev e' x) := by
  cases x with
  | tmp t =>
    intro K h
    simp only [ev] at h ⊢
    rw [ha t rfl]
    split at h
    · rename_i m hm
      exact ⟨m, h, fun _ hk => hk⟩
    · exact h.elim
  | const v => exact constK_det v
  | global g =>
    intro K hK
    simp only [ev] at hK
    split at hK
    · rename_i hg
      exact ⟨_, hK, fun K' hk => by simp only [ev, hg]; exact hk⟩
    · rename_i hg
      exact ⟨_, hK, fun K' hk => by simp only [ev, hg]; exact hk⟩
  | func f => exact Sim.ret _

theorem loadK_sim {h h' : Bs} (hs : Sub h h') (ti : TI) (p : M) : Sim (loadK ti p h) (loadK ti p h') := by
  cases p with
  | agg l => exact Sim.fls
  | tup l => exact Sim.fls
  | one s =>
    cases s <;> first | exact Sim.fls | skip
    case ptr j off =>
      intro K hq
      simp only [loadK] at hq ⊢
      split at hq
      · rename_i l hg
        rw [hs j _ hg]
        exact ldK_det _ _ _ K hq
      · exact hq.elim
    case aptr j off k =>
      intro K hq
      simp only [loadK] at hq ⊢
      split at hq
      · rename_i l kk hg hk
        rw [hs j _ hg, hk]
        exact Sim.bind3 (chunkK_det l off) (fun k' n il => Sim.and (Sim.ret _)) K hq
      · rename_i l k1 k2 hg hk
        rw [hs j _ hg, hk]
        exact ldK_det _ _ _ K hq
      · exact hq.elim
    case eptr j es i k =>
      intro K hq
      simp only [loadK] at hq ⊢
      split at hq
      · rename_i es' enc l cap hg
        rw [hs j _ hg]
        exact Sim.bif (Sim.bif (Sim.and (Sim.and (Sim.ret _))) (Sim.ex fun hi => ldK_det _ _ _)) Sim.fls K hq
      · exact hq.elim
    case rptr a cells => exact ldK_det _ _ _

theorem contK_sim {h h' : Bs} (hs : Sub h h') (m : M) : ∀ K, contK h m K → ∃ k l, K k l ∧ ∀ K', K' k l → contK h' m K' := by
  intro K hq
  unfold contK at hq
  split at hq
  · exact ⟨_, _, hq, fun _ hk => hk⟩
  · rename_i x es α enc l
    cases h1 : Nat.beq es 1 with
    | true =>
      rw [h1] at hq
      obtain ⟨h2, h3⟩ := hq
      exact ⟨_, _, h3, fun K' hk => by simp only [contK, h1, cond_true]; exact ⟨h2, hk⟩⟩
    | false =>
      rw [h1] at hq
      obtain ⟨h0, hq⟩ := bif_false hq
      split at hq <;> first | exact hq.elim | skip
      rename_i A V P hj
      obtain ⟨q, hq', h2, h3⟩ := hq
      exact ⟨_, _, h3, fun K' hk => by simp only [contK, h1, h0, cond_true, cond_false, hs _ _ hj]; exact ⟨q, hq', h2, hk⟩⟩
  · split at hq
    · rename_i hg
      obtain ⟨h1, h2, h3, h4⟩ := bif_false hq
      exact ⟨_, _, h4, fun K' hk => by simp only [contK, hs _ _ hg, h1, cond_true]; exact ⟨h2, h3, hk⟩⟩
    · exact hq.elim
  · split at hq
    · rename_i hg
      obtain ⟨h1, h2, h3, h4⟩ := bif_false hq
      exact ⟨_, _, h4, fun K' hk => by simp only [contK, hs _ _ hg, h1, cond_true]; exact ⟨h2, h3, hk⟩⟩
    · exact hq.elim
  · split at hq
    · rename_i hg
      obtain ⟨k, n, il, ⟨h1, h2⟩, h3⟩ := chunkK_det _ _ _ hq
      exact ⟨_, _, h2, fun K' hk => by simp only [contK, hs _ _ hg]; exact h3 _ ⟨h1, hk⟩⟩
    · exact hq.elim
  · exact hq.elim

theorem convK_sim {h h' : Bs} (hs : Sub h h') (tt : Tab) (s d : Nat) (x : M) : Sim (convK tt s d x h) (convK tt s d x h') := by
  unfold convK
  refine Sim.bind (ty_det _ _) fun ts => Sim.bind (ty_det _ _) fun td => ?_
  cases hx : ts.kind <;> cases hy : td.kind <;> first | exact Sim.fls | skip
  case int.int =>
    cases x with
    | one s => cases s with
      | v u => cases u <;> first | exact Sim.fls | exact Sim.ret _
      | _ => exact Sim.fls
    | _ => exact Sim.fls
  case string.string =>
    cases x with
    | one s => cases s with
      | v u => cases u <;> first | exact Sim.fls | exact Sim.ret _
      | _ => exact Sim.fls
    | _ => exact Sim.fls
  case sl.string e =>
    refine Sim.bind (ty_det _ _) fun te => ?_
    cases hz : te.kind <;> first | exact Sim.fls | skip
    case int k =>
      cases k <;> first | exact Sim.fls | skip
      intro K hq
      obtain ⟨k, l, h2, g2⟩ := contK_sim hs _ _ hq
      obtain ⟨h3, h4⟩ := bif_false h2
      exact ⟨_, h4, fun K' hk => g2 _ (by simp only [h3, cond_true]; exact hk)⟩

theorem ints2_det (op : BinOp) (k : IntKind) (a : Int) (k' : IntKind) (b : Int) : Det (ints2 op k a k' b) := by
  cases op <;> first | exact Sim.and (Sim.ret _) | exact Sim.bif (Sim.ret _) Sim.fls | exact Sim.bif (Sim.and (Sim.ret _)) Sim.fls

theorem strs2_det (op : BinOp) (a b : ByteArray) : Det (strs2 op a b) := by
  cases op <;> first | exact Sim.fls | exact Sim.ret _ | exact Sim.and (Sim.ret _)

theorem nilK_det (k : TK) (m : M) : Det (nilK k m) := by
  intro K hq
  unfold nilK at hq ⊢
  split at hq <;> first | exact hq.elim | exact ⟨_, hq, fun _ hk => hk⟩ | skip
  obtain ⟨h1, h2⟩ := bif_false hq
  exact ⟨_, h2, fun K' hk => by
    simp only [h1, cond_true]
    exact hk⟩

theorem nil2_det (k : TK) (z : Value) (x : M) : Det (nil2 k z x) := by
  intro K hq
  unfold nil2 at hq ⊢
  split at hq <;> first | exact hq.elim | exact nilK_det _ _ K hq

theorem eq2_det (ti : TI) (x y : M) : Det (eq2 ti x y) := by
  intro K hq
  have hb : ∀ a b : Bool, (match ti.kind with | .bool => K (a == b) | _ => False) → ∃ c, K c ∧ ∀ K' : Bool → Prop, K' c → (match ti.kind with | .bool => K' (a == b) | _ => False) := by
    intro a b hq
    split at hq
    · rename_i hk
      exact ⟨_, hq, fun _ hk' => hk'⟩
    · exact hq.elim
  cases x <;> cases y <;> first | exact False.elim hq | skip
  case agg.agg xs ys => exact Sim.bif Sim.fls (Sim.bind (eqK_det _ _) fun _ => eqK_det _ _) K hq
  case agg.one xs s => cases s <;> first | exact False.elim hq | exact nil2_det _ _ _ K hq
  case tup.one xs s => cases s <;> first | exact False.elim hq | exact nil2_det _ _ _ K hq
  case one.agg s _ =>
    cases s with
    | v u => cases u <;> exact False.elim hq
    | _ => exact False.elim hq
  case one.tup s _ =>
    cases s with
    | v u => cases u <;> exact False.elim hq
    | _ => exact False.elim hq
  case one.one s s' =>
    cases s with
    | v u =>
      cases s' with
      | v z => cases u <;> first | exact nil2_det _ _ _ K hq | (cases z <;> first | exact nil2_det _ _ _ K hq | exact hb _ _ hq)
      | _ => cases u <;> exact False.elim hq
    | _ => cases s' <;> first | exact False.elim hq | exact nil2_det _ _ _ K hq

theorem binK_det (tt : Tab) (op : BinOp) (t : Nat) (x y : M) : Det (binK tt op t x y) := by
  have gen : Det (fun K : M → Prop => match op with
    | .eql => ty tt t fun ti => eq2 ti x y fun b => K (.one (.v (.bool b)))
    | .neq => ty tt t fun ti => eq2 ti x y fun b => K (.one (.v (.bool !b)))
    | _ => False) := by
    cases op <;> first | exact Sim.fls | exact Sim.bind (ty_det _ _) fun _ => (eq2_det _ _ _).map _
  cases x with
  | one s =>
    cases s with
    | v u =>
      cases y with
      | one s' =>
        cases s' with
        | v u' => cases u <;> cases u' <;> first | exact gen | exact ints2_det _ _ _ _ _ | exact strs2_det _ _ _
        | _ => cases u <;> exact gen
      | _ => cases u <;> exact gen
    | _ => exact gen
  | _ => exact gen

theorem unK_det (op : UnOp) (x : M) : Det (unK op x) := by
  intro K hq
  unfold unK at hq ⊢
  split at hq <;> first | exact hq.elim | exact ⟨_, hq, fun _ hk => hk⟩

theorem fldK_det : ∀ (fs : List (Nat × Nat)) (i : Nat), Det2 (fldK fs i)
  | [], _ => fun _ h => h.elim
  | (o, t) :: _, 0 => fun _ h => ⟨o, t, h, fun _ hk => hk⟩
  | _ :: r, i + 1 => fldK_det r i

theorem fieldAddrK_det (tt : Tab) (s : Nat) (x : M) (f : Nat) : Det (fieldAddrK tt s x f) := by
  unfold fieldAddrK
  refine Sim.bind (ty_det _ _) fun ti => ?_
  cases ti.kind <;> first | exact Sim.fls | skip
  refine Sim.bind2 (fldK_det _ _) fun o t => Sim.bind (ty_det _ _) fun tf => Sim.bif Sim.fls ?_
  cases x with
  | one s => cases s <;> first | exact Sim.fls | exact Sim.ret _ | exact (subK_det _ _ _).map _
  | _ => exact Sim.fls

theorem fieldK_det (tt : Tab) (s : Nat) (x : M) (f : Nat) : Det (fieldK tt s x f) := by
  unfold fieldK
  refine Sim.bind (ty_det _ _) fun ti => ?_
  cases ti.kind <;> first | exact Sim.fls | skip
  cases x <;> first | exact Sim.fls | exact Sim.bind2 (fldK_det _ _) fun o t => Sim.bind (ty_det _ _) fun tf => ldK_det _ _ _

theorem indexAddrK_det (tt : Tab) (t : Nat) (x i : M) : Det (indexAddrK tt t x i) := by
  unfold indexAddrK
  refine Sim.bind (ty_det _ _) fun ti => ?_
  cases ti.kind <;> first | exact Sim.fls | skip
  case arr n e =>
    refine Sim.bind (ty_det _ _) fun te => Sim.bind (idx_det _) fun k => Sim.and ?_
    cases x with
    | one s => cases s <;> cases te.kind <;> first | exact Sim.fls | exact Sim.ret _ | exact Sim.bif (Sim.ret _) Sim.fls | exact Sim.bif (Sim.bind3 (chunkK_det _ _) fun _ _ _ => Sim.and (Sim.ret _)) Sim.fls
    | _ => cases te.kind <;> exact Sim.fls
  case sl e =>
    refine Sim.bind (ty_det _ _) fun te => Sim.bind (idx_det _) fun k => ?_
    cases x with
    | one s => cases s <;> first | exact Sim.fls | exact Sim.bif (Sim.and (Sim.ret _)) Sim.fls | exact Sim.bif (Sim.ex fun _ => Sim.ret _) (Sim.bif (Sim.ex fun _ => Sim.ex fun _ => Sim.ex fun _ => Sim.ex fun _ => Sim.and (Sim.and (Sim.ret _))) Sim.fls) | exact Sim.bif (Sim.and (Sim.ret _)) (Sim.bif (Sim.and (Sim.ret _)) Sim.fls)
    | _ => exact Sim.fls

theorem indexK_det (tt : Tab) (t : Nat) (x i : M) : Det (indexK tt t x i) := by
  unfold indexK
  refine Sim.bind (ty_det _ _) fun ti => ?_
  cases ti.kind <;> first | exact Sim.fls | skip
  case arr n e =>
    cases x <;> first | exact Sim.fls | skip
    refine Sim.bind (ty_det _ _) fun te => Sim.bind (idx_det _) fun k => Sim.and ?_
    cases te.kind <;> first | exact ldK_det _ _ _ | exact Sim.bif (Sim.bind3 (chunkK_det _ _) fun _ _ _ => Sim.and (Sim.ret _)) Sim.fls
  case string =>
    cases x with
    | one s =>
      cases s with
      | v u => cases u <;> first | exact Sim.fls | exact Sim.bind (idx_det _) fun k => Sim.and (Sim.ret _)
      | _ => exact Sim.fls
    | _ => exact Sim.fls

theorem extK_det : ∀ (l : List M) (i : Nat), Det (extK l i)
  | [], _ => Sim.fls
  | _ :: _, 0 => Sim.ret _
  | _ :: r, i + 1 => extK_det r i

theorem lenK_det (tt : Tab) (t : Nat) (m : M) : Det (lenK tt t m) := by
  unfold lenK
  refine Sim.bind (ty_det _ _) fun ti => ?_
  intro K hq
  split at hq <;> first | exact hq.elim | skip
  all_goals exact ⟨_, hq, fun _ hk => by first | exact hk | simp only [*] | (simp only [*]; exact hk)⟩

theorem partsK_sim {e e' : Env} (offs : Nat → (Nat → Nat → Prop) → Prop) (ho : ∀ i, Det2 (offs i)) : ∀ (ps : List (Nat × Operand)) (l : List SV), (∀ x ∈ ps.map (·.2), Agr e e' x) → Sim (partsK offs e ps l) (partsK offs e' ps l)
  | [], l, _ => Sim.ret l
  | (i, x) :: r, l, ha => by
    refine Sim.bind2 (ho i) fun off sz => Sim.bind (ev_sim (ha x (by simp))) fun m => ?_
    have hr : ∀ l, Sim (partsK offs e r l) (partsK offs e' r l) := fun l => partsK_sim offs ho r l fun y hy => ha y (by simp at hy ⊢; exact .inr hy)
    cases m with
    | one s => exact Sim.bif (Sim.bind (set1K_det _ _ _) hr) Sim.fls
    | agg new => exact Sim.bif (Sim.bind (setK_det _ _ _ _) hr) Sim.fls
    | tup l => exact Sim.fls

theorem buildK_sim {e e' : Env} (tt : Tab) (t : Nat) (ps : List (Nat × Operand)) (ha : ∀ x ∈ ps.map (·.2), Agr e e' x) : Sim (buildK tt e t ps) (buildK tt e' t ps) := by
  unfold buildK
  refine Sim.bind (ty_det _ _) fun ti => ?_
  cases ti.kind <;> first | exact Sim.fls | skip
  case str fs =>
    refine (partsK_sim _ (fun i => ?_) ps _ ha).map _
    intro K hq
    obtain ⟨o, t, h1, h2⟩ := fldK_det fs i _ hq
    obtain ⟨tf, h3, h4⟩ := ty_det tt t _ h1
    exact ⟨o, tf.size, h3, fun K' hk => h2 _ (h4 _ hk)⟩
  case arr n el =>
    refine Sim.bind (ty_det _ _) fun te => (partsK_sim _ (fun i => ?_) ps _ ha).map _
    intro K hq
    simp only at hq ⊢
    cases hb : Nat.blt i n with
    | true => rw [hb] at hq; exact ⟨_, _, hq, fun _ hk => hk⟩
    | false => rw [hb] at hq; exact hq.elim


theorem optK_sim {e e' : Env} {x : Option Operand} (ha : ∀ o, x = some o → Agr e e' o) (d : Nat) : Sim (optK e x d) (optK e' x d) := by
  cases x with
  | none => exact Sim.ret _
  | some o =>
    show Sim (fun K => ev e o fun m => idx m K) (fun K => ev e' o fun m => idx m K)
    exact Sim.bind (ev_sim (ha o rfl)) fun m => idx_det m

theorem sliceK_sim {h h' : Bs} {e e' : Env} (tt : Tab) (t : Nat) (x : M) {lo hi mx : Option Operand} (hl : ∀ o, lo = some o → Agr e e' o) (hh : ∀ o, hi = some o → Agr e e' o) (hm : ∀ o, mx = some o → Agr e e' o) :
    Sim (sliceK tt e t x lo hi mx h) (sliceK tt e' t x lo hi mx h') := by
  have o1 : ∀ d, Sim (optK e lo d) (optK e' lo d) := optK_sim hl
  have o2 : ∀ d, Sim (optK e hi d) (optK e' hi d) := optK_sim hh
  have o3 : ∀ d, Sim (optK e mx d) (optK e' mx d) := optK_sim hm
  have l3 : ∀ (a b c : Nat) (P : Nat → Nat → Nat → Prop) (F : Nat → Nat → Nat → M), Sim (fun K => optK e mx a fun m => optK e hi b fun q => optK e lo c fun p => P m q p ∧ K (F m q p)) (fun K => optK e' mx a fun m => optK e' hi b fun q => optK e' lo c fun p => P m q p ∧ K (F m q p)) :=
    fun a b c P F => Sim.bind (o3 a) fun m => Sim.bind (o2 b) fun q => Sim.bind (o1 c) fun p => Sim.and (Sim.ret _)
  have l2 : ∀ (b c : Nat) (P : Nat → Nat → Prop) (F : Nat → Nat → M), Sim (fun K => optK e hi b fun q => optK e lo c fun p => P q p ∧ K (F q p)) (fun K => optK e' hi b fun q => optK e' lo c fun p => P q p ∧ K (F q p)) :=
    fun b c P F => Sim.bind (o2 b) fun q => Sim.bind (o1 c) fun p => Sim.and (Sim.ret _)
  unfold sliceK
  refine Sim.bind (ty_det tt t) fun ti => ?_
  generalize ti.kind = kd
  cases kd <;> cases x <;> try exact Sim.fls
  all_goals rename_i s
  all_goals cases s <;> try exact Sim.fls
  case string.one.v v =>
    cases v <;> try exact Sim.fls
    cases mx with
    | some _ => exact Sim.fls
    | none => exact Sim.bind (o2 _) fun q => Sim.bind (o1 _) fun p => Sim.and (Sim.and (Sim.ret _))
  case sl.one.v el v =>
    cases v <;> try exact Sim.fls
    rename_i a b c
    cases a <;> try exact Sim.fls
    cases b <;> try exact Sim.fls
    cases c <;> try exact Sim.fls
    cases mx with
    | some _ => cases hi with
      | none => exact Sim.fls
      | some _ => exact Sim.bind (ty_det _ _) fun _ => Sim.bind (o3 _) fun m => Sim.bind (o2 _) fun q => Sim.bind (o1 _) fun p => Sim.and (Sim.and (Sim.and (Sim.ret _)))
    | none => exact Sim.bind (ty_det _ _) fun _ => Sim.bind (o2 _) fun q => Sim.bind (o1 _) fun p => Sim.and (Sim.and (Sim.ret _))
  case sl.one.slc el j es off len cap =>
    refine Sim.bind (ty_det _ _) fun te => Sim.bif (Sim.bif (Sim.bind (o3 _) fun m => Sim.bind (o2 _) fun q => Sim.and (Sim.and (Sim.ret _))) ?_) Sim.fls
    cases mx <;> cases hi <;> first | exact Sim.fls | exact Sim.bind (o3 _) fun m => Sim.bind (o2 _) fun q => Sim.bind (o1 _) fun p => Sim.and (Sim.and (Sim.and (Sim.ret _)))
  case sl.one.nslc el j es len cap =>
    refine Sim.bind (ty_det _ _) fun te => Sim.bif ?_ Sim.fls
    cases mx with
    | some _ => exact Sim.fls
    | none =>
      cases lo with
      | none => exact Sim.bind (o2 _) fun q => Sim.and (Sim.ret _)
      | some lo => exact Sim.bind (o2 _) fun q => Sim.bind (o1 _) fun p => Sim.and (Sim.and (Sim.and (Sim.ret _)))
  case sl.one.asl el j off i len cap =>
    refine Sim.bind (ty_det _ _) fun te => Sim.bif ?_ Sim.fls
    cases mx <;> cases hi <;> first | exact Sim.fls | exact Sim.bind (o3 _) fun m => Sim.bind (o2 _) fun q => Sim.bind (o1 _) fun p => Sim.and (Sim.and (Sim.and (Sim.ret _)))
  case sl.one.view el x es α enc l =>
    refine Sim.bind (ty_det _ _) fun te => Sim.bif ?_ Sim.fls
    cases mx with
    | none => cases hi <;> exact Sim.bind (o2 _) fun q => Sim.bind (o1 _) fun p => Sim.and (Sim.and (Sim.ret _))
    | some m =>
      cases hi with
      | none => exact Sim.fls
      | some q => exact Sim.bind (o3 _) fun m => Sim.bind (o2 _) fun q => Sim.bind (o1 _) fun p => Sim.and (Sim.and (Sim.and (Sim.and (Sim.ret _))))
  case arr.one.ptr n el j off =>
    refine Sim.bind (ty_det _ _) fun te => ?_
    generalize te.kind = tk
    cases tk <;> try exact Sim.fls
    refine Sim.bif ?_ Sim.fls
    generalize get h j = g
    generalize get h' j = g'
    cases mx <;> cases hi <;> first | exact Sim.fls | exact Sim.bind (o3 _) fun m => Sim.bind (o2 _) fun q => Sim.bind (o1 _) fun p => Sim.and (Sim.and (Sim.and (Sim.ret _)))
  case arr.one.rptr n el ad cells =>
    refine Sim.bind (ty_det _ _) fun te => ?_
    generalize te.kind = tk
    cases tk <;> try exact Sim.fls
    cases mx <;> try exact Sim.fls
    cases hi <;> try exact Sim.fls
    cases lo <;> try exact Sim.fls
    refine Sim.bif ?_ Sim.fls
    exact Sim.bind3 (chunkK_det _ _) fun _ _ _ => Sim.bif (Sim.ret _) Sim.fls
end Go.Sx
