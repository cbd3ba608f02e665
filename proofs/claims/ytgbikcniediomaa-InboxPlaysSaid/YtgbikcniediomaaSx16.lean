/- Regions that draw the order of their operations. Holds for every program. -/
import Derived.Test.YtgbikcniediomaaSx15
namespace Go.Sx
set_option linter.unusedSimpArgs false
set_option linter.unusedVariables false

def vcls (mf : List Nat) : Op → Bool
  | .move _ => true
  | .assign _ => true
  | .pick .. => true
  | .build .. => true
  | .load .. => true
  | .nilCheck _ => true
  | .binOp .. => true
  | .unOp .. => true
  | .fieldAddr .. => true
  | .field .. => true
  | .indexAddr .. => true
  | .index .. => true
  | .lookup _ _ _ ok => !ok
  | .extract .. => true
  | .slice .. => true
  | .convert s d _ => !(Nat.beq s d && memN (3000000 + s) mf) && !(memN (4000000 + s) mf && memN (3000000 + d) mf)
  | .call ⟨.builtin .len, _, _⟩ => true
  | .call ⟨.value (.func f), _, _⟩ => !(memN f mf)
  | .call ⟨.value _, _, _⟩ => true
  | _ => false

def kcls (mf : List Nat) : Op → Bool
  | .call ⟨.value (.func f), _, _⟩ => memN f mf
  | _ => false

def pcls : Op → Bool
  | .load .. => false
  | .convert .. => false
  | .lookup .. => false
  | _ => true

def acls (mf : List Nat) : Op → Bool
  | .alloc _ => true
  | .makeChan .. => true
  | .buildSlice t _ _ => !(memN (1000000 + t) mf)
  | .box .. => true
  | .call ⟨.value (.func f), _, _⟩ => memN f mf && memN (6000000 + f) mf
  | .convert s d _ => (Nat.beq s d && memN (3000000 + s) mf) || (memN (4000000 + s) mf && memN (3000000 + d) mf)
  | _ => false

def scls : Op → Bool
  | .store .. => true
  | .mapUpdate .. => true
  | .call ⟨.builtin .copy, _, _⟩ => true
  | _ => false

def mcls : Op → Bool
  | .makeSlice .. => true
  | .buildSlice .. => true
  | .call ⟨.builtin .append, _, _⟩ => true
  | _ => false

structure GT : Type 1 where
  g : Nat → List M → (M → Prop) → Prop
  D : CallT
  mf : List Nat

instance : CoeFun GT fun _ => Nat → List M → (M → Prop) → Prop := ⟨GT.g⟩

def DMono (D : CallT) : Prop := ∀ f args n h (K K' : Nat → M → Bs → Prop), (∀ n m h, K n m h → K' n m h) → D f args n h K → D f args n h K'

def DSub (G : GT) : Prop := ∀ f args n h (K : Nat → M → Bs → Prop), memN (6000000 + f) G.mf = true → G.D f args n h K → G.D f args n h fun n' m h' => K n' m h' ∧ ∀ j k, get h j = some k → get h' j = some k

def GDet (G : GT) : Prop := (∀ g ms, Det (G.g g ms)) ∧ DMono G.D ∧ DSub G

def GOK (P : Program) (G : GT) : Prop := (∀ g ms K, G.g g ms K → ∃ m, K m ∧ SFun P g ms m ∧ ms.all M.pure = true) ∧ COK P G.D

def noC : CallT := fun _ _ _ _ _ => False

section
variable (G : GT) (tt : Tab) (nt : Nat)

def vop (o : Op) (e : Env) (h : Bs) (K : M → Prop) : Prop :=
  match o with
  | .call ⟨.value f, args, _⟩ => ev e f fun mf => evs e args.toList fun ms => match mf with
    | .one (.clo g []) => G.g g ms K
    | _ => False
  | o => qop tt o e h K

def gd (all : List Oper) (o : Oper) (e : Env) (A B : Prop) : Prop :=
  match o.guard with
  | none => A
  | some (j, want) =>
    match all[j]? with
    | none => False
    | some g =>
      match g.dst with
      | none => False
      | some d =>
        match get e d with
        | some (.one (.v (.bool t))) => bif t then (bif want then A else B) else (bif want then B else A)
        | some (.tup []) => B
        | _ => False

def dop (all : List Oper) (o : Oper) (n : Nat) (e : Env) (h : Bs) (K : Nat → Env → Bs → Prop) : Prop :=
  bif vcls G.mf o.op then gd all o e (vop G tt o.op e h fun m => dstK nt o.dst m e fun e' => K n e' h) (dstK nt o.dst (.tup []) e fun e' => K n e' h)
  else bif acls G.mf o.op || scls o.op || mcls o.op || kcls G.mf o.op then gd all o e (xopD G.mf G.D tt nt o n e h K) (dstK nt o.dst (.tup []) e fun e' => K n e' h)
  else bif commB o.op then gd all o e (commK tt nt o n e h K) (dstK nt o.dst (.tup []) e fun e' => K n e' h)
  else False

def gs (all : List Oper) (o : Oper) (e : Env) (F : Env → Prop) : Prop :=
  match o.guard with
  | none => F e
  | some (j, _) =>
    match all[j]? with
    | none => False
    | some g =>
      match g.dst with
      | none => False
      | some d =>
        match get e d with
        | some (.one (.v (.bool t))) => bif t then F (put e d (.one (.v (.bool true)))) else F (put e d (.one (.v (.bool false))))
        | some (.tup []) => F e
        | _ => False

def dops (all : List Oper) : List Oper → (Nat → Env → Bs → Prop) → Nat → Env → Bs → Prop
  | [], K, n, e, h => K n e h
  | o :: r, K, n, e, h => gs all o e fun e => dop G tt nt all o n e h fun n e h => dops all r K n e h
end

def tmpOf : List Operand → List Nat
  | [] => []
  | .tmp t :: r => t :: tmpOf r
  | _ :: r => tmpOf r

def looks (all : List Oper) (o : Oper) : List Nat :=
  match o.guard with
  | none => tmpOf o.op.operands.toList
  | some (j, _) => match all[j]? with
    | some g => (match g.dst with
      | some d => d :: tmpOf o.op.operands.toList
      | none => tmpOf o.op.operands.toList)
    | none => tmpOf o.op.operands.toList

def AgrL (e e' : Env) (l : List Nat) : Prop := ∀ t ∈ l, get e' t = get e t

theorem mem_tmpOf : ∀ {l : List Operand} {t : Nat}, .tmp t ∈ l → t ∈ tmpOf l
  | [], _, h => by cases h
  | x :: r, t, h => by
    rcases List.mem_cons.1 h with h | h
    · subst h; simp [tmpOf]
    · have := mem_tmpOf h
      cases x <;> simp [tmpOf, this]

theorem looks_ops {all : List Oper} {o : Oper} {t : Nat} (h : t ∈ tmpOf o.op.operands.toList) : t ∈ looks all o := by
  unfold looks
  split
  · exact h
  · split
    · split
      · exact List.mem_cons_of_mem _ h
      · exact h
    · exact h

theorem AgrL.ops {all : List Oper} {o : Oper} {e e' : Env} (ha : AgrL e e' (looks all o)) : ∀ x ∈ o.op.operands.toList, Agr e e' x :=
  fun _ hx t ht => ha t (looks_ops (mem_tmpOf (ht ▸ hx)))

section
variable {P : Program} {G : GT} {tt : Tab} {nt : Nat} {e e' : Env} {h h' : Bs}

theorem evs_sim : ∀ (l : List Operand), (∀ x ∈ l, Agr e e' x) → Sim (evs e l) (evs e' l)
  | [], _ => Sim.ret []
  | x :: r, ha => fun K hq => by
    simp only [evs] at hq ⊢
    exact Sim.bind (ev_sim (ha x (by simp))) (fun m => (evs_sim r fun y hy => ha y (by simp [hy])).map (m :: ·)) K hq

theorem lookK_sim {t : Nat} {mm mx : M} (hs : Sub h h') : Sim (lookK tt t mm mx h) (lookK tt t mm mx h') := by
  intro K hk
  unfold lookK at hk ⊢
  split at hk <;> first | exact hk.elim | skip
  split at hk <;> first | exact hk.elim | skip
  rename_i A v m key R hj
  split at hk <;> first | exact hk.elim | skip
  obtain ⟨hb, e, hk⟩ := cond_false_elim hk
  refine ⟨_, hk, fun K' hk' => ?_⟩
  rw [hs _ _ hj]
  simp only [hb, cond_true]
  exact ⟨e, hk'⟩

theorem vop_sim (hG : GDet G) {o : Op} (hv : vcls G.mf o = true) (ha : ∀ x ∈ o.operands.toList, Agr e e' x) (hs : Sub h h' ∨ pcls o = true) : Sim (vop G tt o e h) (vop G tt o e' h') := by
  cases o <;> first | (cases hv; done) | skip
  case move x => exact ev_sim (ha x (by simp [Op.operands]))
  case assign x => exact ev_sim (ha x (by simp [Op.operands]))
  case pick c a b =>
    unfold vop qop
    dsimp only
    refine Sim.bind (ev_sim (ha c (by simp [Op.operands]))) fun m => ?_
    cases m with
    | one s =>
      cases s with
      | v u => cases u <;> first | exact Sim.fls | exact Sim.bif (ev_sim (ha a (by simp [Op.operands]))) (ev_sim (ha b (by simp [Op.operands])))
      | _ => exact Sim.fls
    | _ => exact Sim.fls
  case build t ps =>
    unfold vop qop
    dsimp only
    exact buildK_sim tt t _ fun x hx => ha x (by simpa [Op.operands] using hx)
  case load t a =>
    unfold vop qop
    dsimp only
    refine Sim.bind (ev_sim (ha a (by simp [Op.operands]))) fun m => Sim.bind (ty_det _ _) fun ti => ?_
    rcases hs with hs | hs
    · exact loadK_sim hs _ _
    · cases hs
  case nilCheck x =>
    unfold vop qop
    dsimp only
    refine Sim.bind (ev_sim (ha x (by simp [Op.operands]))) fun m => ?_
    cases m with
    | one s => cases s <;> first | exact Sim.fls | exact Sim.ret _
    | _ => exact Sim.fls
  case binOp op t x y t' =>
    unfold vop qop
    dsimp only
    exact Sim.bind (ev_sim (ha x (by simp [Op.operands]))) fun _ => Sim.bind (ev_sim (ha y (by simp [Op.operands]))) fun _ => binK_det _ _ _ _ _
  case unOp op t x =>
    unfold vop qop
    dsimp only
    exact Sim.bind (ev_sim (ha x (by simp [Op.operands]))) fun _ => unK_det _ _
  case fieldAddr s x f =>
    unfold vop qop
    dsimp only
    exact Sim.bind (ev_sim (ha x (by simp [Op.operands]))) fun _ => fieldAddrK_det _ _ _ _
  case field s x f =>
    unfold vop qop
    dsimp only
    exact Sim.bind (ev_sim (ha x (by simp [Op.operands]))) fun _ => fieldK_det _ _ _ _
  case indexAddr t x i =>
    unfold vop qop
    dsimp only
    exact Sim.bind (ev_sim (ha x (by simp [Op.operands]))) fun _ => Sim.bind (ev_sim (ha i (by simp [Op.operands]))) fun _ => indexAddrK_det _ _ _ _
  case index t x i =>
    unfold vop qop
    dsimp only
    exact Sim.bind (ev_sim (ha x (by simp [Op.operands]))) fun _ => Sim.bind (ev_sim (ha i (by simp [Op.operands]))) fun _ => indexK_det _ _ _ _
  case convert s d x =>
    unfold vop qop
    dsimp only
    refine Sim.bind (ev_sim (ha x (by simp [Op.operands]))) fun m => ?_
    rcases hs with hs | hs
    · exact convK_sim hs _ _ _ _
    · cases hs
  case lookup t x i ok =>
    cases ok with
    | true => cases hv
    | false =>
      unfold vop qop
      dsimp only
      refine Sim.bind (ev_sim (ha x (by simp [Op.operands]))) fun mm => Sim.bind (ev_sim (ha i (by simp [Op.operands]))) fun mx => ?_
      rcases hs with hs | hs
      · exact lookK_sim hs
      · cases hs
  case extract x i =>
    unfold vop qop
    dsimp only
    refine Sim.bind (ev_sim (ha x (by simp [Op.operands]))) fun m => ?_
    cases m <;> first | exact Sim.fls | exact extK_det _ _
  case slice t x lo hi mx =>
    unfold vop qop
    dsimp only
    refine Sim.bind (ev_sim (ha x (by simp [Op.operands]))) fun m => sliceK_sim tt t m (fun o ho => ha o (by subst ho; simp [Op.operands])) (fun o ho => ha o (by subst ho; simp [Op.operands])) (fun o ho => ha o (by subst ho; simp [Op.operands]))
  case call c =>
    obtain ⟨f, args, ts⟩ := c
    cases f with
    | value f =>
      unfold vop
      dsimp only
      refine Sim.bind (ev_sim (ha f (by simp [Op.operands, Call.operands]))) fun mf => Sim.bind (evs_sim _ fun x hx => ha x (by simp [Op.operands, Call.operands] at hx ⊢; exact .inr hx)) fun ms => ?_
      cases mf with
      | one s =>
        cases s with
        | clo g caps => cases caps <;> first | exact Sim.fls | exact hG.1 _ _
        | _ => exact Sim.fls
      | _ => exact Sim.fls
    | builtin b =>
      cases b <;> first | (cases hv; done) | skip
      intro K hq
      simp only [vop, qop] at hq ⊢
      split at hq
      · rename_i x t hx ht
        have hax : Agr e e' x := ha x (by simp [Op.operands, Call.operands, hx])
        exact Sim.bind (ev_sim hax) (fun _ => lenK_det _ _ _) K hq
      · exact hq.elim
    | _ => cases hv

theorem gd_guard {all : List Oper} {o g : Oper} {A B : Prop} {j d : Nat} {want : Bool} (hg : o.guard = some (j, want)) (hj : all[j]? = some g) (hd : g.dst = some d) :
    gd all o e A B = match get e d with
      | some (.one (.v (.bool t))) => bif t then (bif want then A else B) else (bif want then B else A)
      | some (.tup []) => B
      | _ => False := by
  unfold gd
  simp only [hg, hj, hd]

theorem gd_cases {all : List Oper} {o : Oper} {A B : Prop} (hq : gd all o e A B) : (o.guard = none ∧ A) ∨ (∃ j want g d t, o.guard = some (j, want) ∧ all[j]? = some g ∧ g.dst = some d ∧ get e d = some (.one (.v (.bool t))) ∧
    (bif t then (bif want then A else B) else (bif want then B else A))) ∨ ∃ j want g d, o.guard = some (j, want) ∧ all[j]? = some g ∧ g.dst = some d ∧ get e d = some (.tup []) ∧ B := by
  unfold gd at hq
  split at hq
  · rename_i hg
    exact .inl ⟨hg, hq⟩
  · rename_i j want hg
    split at hq
    · exact hq.elim
    · rename_i g hgj
      split at hq
      · exact hq.elim
      · rename_i d hd
        split at hq
        · rename_i t ht
          exact .inr (.inl ⟨j, want, g, d, t, hg, hgj, hd, ht, hq⟩)
        · rename_i ht
          exact .inr (.inr ⟨j, want, g, d, hg, hgj, hd, ht, hq⟩)
        · exact hq.elim

theorem gd_none {all : List Oper} {o : Oper} {A B : Prop} (hg : o.guard = none) : gd all o e A B = A := by
  unfold gd
  simp only [hg]

theorem gd_sim {all : List Oper} {o : Oper} {A A' B B' : (M → Prop) → Prop} (ha : AgrL e e' (looks all o)) (hA : Sim A A') (hB : Sim B B') :
    Sim (fun K => gd all o e (A K) (B K)) (fun K => gd all o e' (A' K) (B' K)) := by
  intro K hq
  rcases gd_cases hq with ⟨hg, hq⟩ | ⟨j, want, g, d, t, hg, hj, hd, ht, hq⟩ | ⟨j, want, g, d, hg, hj, hd, ht, hq⟩
  · obtain ⟨x, h1, h2⟩ := hA K hq
    exact ⟨x, h1, fun K' hk => by simp only [gd_none hg]; exact h2 K' hk⟩
  · have : get e' d = get e d := ha d (by simp [looks, hg, hj, hd])
    obtain ⟨x, h1, h2⟩ := Sim.bif (Sim.bif hA hB) (Sim.bif hB hA) K hq
    exact ⟨x, h1, fun K' hk => by simp only [gd_guard hg hj hd, this, ht]; exact h2 K' hk⟩
  · have : get e' d = get e d := ha d (by simp [looks, hg, hj, hd])
    obtain ⟨x, h1, h2⟩ := hB K hq
    exact ⟨x, h1, fun K' hk => by simp only [gd_guard hg hj hd, this, ht]; exact h2 K' hk⟩

def gvop (G : GT) (tt : Tab) (all : List Oper) (o : Oper) (e : Env) (h : Bs) (K : M → Prop) : Prop := gd all o e (vop G tt o.op e h K) (K (.tup []))

theorem gvop_sim (hG : GDet G) {all : List Oper} {o : Oper} (hv : vcls G.mf o.op = true) (ha : AgrL e e' (looks all o)) (hs : Sub h h' ∨ pcls o.op = true) : Sim (gvop G tt all o e h) (gvop G tt all o e' h') :=
  gd_sim ha (vop_sim hG hv ha.ops hs) (Sim.ret _)

def dok (nt : Nat) : Option Nat → Bool
  | some d => Nat.blt d nt
  | none => true

def dput (d : Option Nat) (m : M) (e : Env) : Env :=
  match d with
  | some d => put e d m
  | none => e

theorem dstK_iff {d : Option Nat} {m : M} {K : Env → Prop} : dstK nt d m e K ↔ dok nt d = true ∧ K (dput d m e) := by
  cases d with
  | none => simp [dstK, dok, dput]
  | some d =>
    simp only [dstK, dok, dput]
    cases Nat.blt d nt <;> simp

theorem dop_v {all : List Oper} {o : Oper} (hv : vcls G.mf o.op = true) {n : Nat} {K : Nat → Env → Bs → Prop} :
    dop G tt nt all o n e h K ↔ gvop G tt all o e h fun m => dok nt o.dst = true ∧ K n (dput o.dst m e) h := by
  unfold dop gvop
  rw [hv]
  simp only [cond_true, dstK_iff]

def Same (e e' : Env) : Prop := ∀ q, get e q = get e' q

theorem gd_congr {all : List Oper} {o : Oper} {A B A' B' : Prop} (ha : AgrL e e' (looks all o)) (hA : A → A') (hB : B → B') (hq : gd all o e A B) : gd all o e' A' B' := by
  rcases gd_cases hq with ⟨hg, hq⟩ | ⟨j, want, g, d, t, hg, hj, hd, ht, hq⟩ | ⟨j, want, g, d, hg, hj, hd, ht, hq⟩
  · rw [gd_none hg]; exact hA hq
  · have : get e' d = get e d := ha d (by simp [looks, hg, hj, hd])
    rw [gd_guard hg hj hd, this, ht]
    cases t <;> cases want <;> simp only [cond_true, cond_false] at hq ⊢ <;> first | exact hA hq | exact hB hq
  · have : get e' d = get e d := ha d (by simp [looks, hg, hj, hd])
    rw [gd_guard hg hj hd, this, ht]
    exact hB hq

theorem ev_mono {x : Operand} {K K' : M → Prop} (ha : Agr e e' x) (hk : ∀ m, K m → K' m) (hq : ev e x K) : ev e' x K' := by
  obtain ⟨m, h1, h2⟩ := ev_sim ha K hq
  exact h2 K' (hk m h1)

theorem storeK_mono {ti : TI} {p m : M} {K K' : Bs → Prop} (hk : ∀ h, K h → K' h) (hq : storeK ti p m h K) : storeK ti p m h K' := by
  have el : ∀ {l : List SV} {k sz : Nat} {K K' : List SV → Prop}, (∀ l, K l → K' l) → putElK l k m sz K → putElK l k m sz K' := by
    intro l k sz K K' hk hq
    cases m with
    | one s =>
      simp only [putElK] at hq ⊢
      obtain ⟨h0, hq⟩ := cond_false_elim hq
      rw [h0]
      obtain ⟨x, h1, h2⟩ := set1K_det _ _ _ K hq
      exact h2 _ (hk x h1)
    | agg new =>
      simp only [putElK] at hq ⊢
      obtain ⟨h0, hq⟩ := cond_false_elim hq
      rw [h0]
      obtain ⟨x, h1, h2⟩ := setK_det _ _ _ _ K hq
      exact h2 _ (hk x h1)
    | tup l => exact hq.elim
  cases p with
  | agg l => exact hq.elim
  | tup l => exact hq.elim
  | one sv =>
    cases sv <;> first | exact hq.elim | skip
    case ptr j off =>
      simp only [storeK] at hq ⊢
      split at hq
      · exact el (fun _ h => hk _ h) hq
      · exact hq.elim
    case aptr j off k =>
      simp only [storeK] at hq ⊢
      split at hq
      · obtain ⟨h0, hq⟩ := cond_false_elim hq
        rw [h0]
        obtain ⟨x, h1, h2⟩ := setIdxK_det _ _ _ _ _ hq
        exact h2 _ (hk _ h1)
      · exact hq.elim
    case eptr j es i k =>
      simp only [storeK] at hq ⊢
      split at hq
      · obtain ⟨h0, hi, hq⟩ := cond_false_elim hq
        rw [h0]
        exact ⟨hi, el (fun _ hq => by obtain ⟨y, _, h1, h2⟩ := Enc.ok _ _ _ hq; exact h2 _ (hk _ h1)) hq⟩
      · exact hq.elim
    case v x =>
      cases x <;> first | exact hq.elim | skip
      rename_i ad
      cases ad <;> first | exact hq.elim | skip
      simp only [storeK] at hq ⊢
      split at hq
      · obtain ⟨h0, q, hq', b, k, cap, h1, h2⟩ := cond_false_elim hq
        rw [h0]
        exact ⟨q, hq', b, k, cap, h1, hk _ h2⟩
      · exact hq.elim

theorem Fresh.sub {n : Nat} {k : Blk} (hf : ∀ j k, get h j = some k → j < n) : Sub h (put h n k) := by
  intro j k' hj
  rw [get_put]
  split
  · rename_i hjn
    have := hf j k' hj
    omega
  · exact hj

theorem decsK_mono {α : Type} {E : Enc α} {sz : Nat} : ∀ {k : Nat} {l : List SV} {K K' : List α → Prop}, (∀ x, K x → K' x) → decsK E sz k l K → decsK E sz k l K'
  | 0, _, _, _, hk, hq => hk _ hq
  | k + 1, l, K, K', hk, hq => by
    simp only [decsK] at hq ⊢
    obtain ⟨cs, h1, g1⟩ := subK_det _ _ _ _ hq
    refine g1 _ ?_
    obtain ⟨r, h2, g2⟩ := delK_det _ _ _ h1
    refine g2 _ ?_
    obtain ⟨y, _, h3, h4⟩ := E.ok _ _ h2
    exact h4 _ (decsK_mono (fun ys h5 => hk _ h5) h3)

theorem frzP_move {e e' : Env} (L : List Operand) (ha : ∀ x ∈ L, Agr e e' x) {h : Bs} {K K' : Env → Bs → Prop} (hk : ∀ e1 e2 h1, (∀ x ∈ L, Agr e1 e2 x) → K e1 h1 → K' e2 h1) (hq : frzP L e h K) : frzP L e' h K' := by
  have gen : ∀ (l : List Operand), (∀ x ∈ l, x ∈ L) → ∀ (e e' : Env) (h : Bs), (∀ x ∈ L, Agr e e' x) → frzP l e h K → frzP l e' h K' := by
    intro l
    induction l with
    | nil => intro _ e e' h ha hq; exact hk _ _ _ ha hq
    | cons x r ih =>
      intro hl e e' h ha hq
      unfold frzP at hq ⊢
      split at hq
      · rename_i t
        have hg : get e' t = get e t := ha (.tmp t) (hl _ (by simp)) t rfl
        simp only [hg]
        split at hq
        · refine frzX_mono (fun m h1 h2 => ih (fun y hy => hl y (by simp [hy])) _ _ _ (fun y hy q hq' => ?_) h2) hq
          rw [get_put, get_put]
          split
          · rfl
          · exact ha y hy q hq'
        · exact hq.elim
      · exact ih (fun y hy => hl y (by simp [hy])) _ _ _ ha hq
  exact gen L (fun _ h => h) e e' h ha hq

theorem copyK_mono {h : Bs} {xd xs : M} {K K' : M → Bs → Prop} (hk : ∀ m h', K m h' → K' m h') (hq : copyK h xd xs K) : copyK h xd xs K' := by
  have sm : ∀ {A B : List Int → Prop}, (∀ l, A l → B l) → srcB h xs A → srcB h xs B := by
    intro A B hab hs
    unfold srcB at hs ⊢
    split at hs
    · exact hab _ hs
    · obtain ⟨k, l, h1, h2⟩ := contK_sim (Sub.refl h) _ _ hs
      obtain ⟨h3, h4⟩ := cond_false_elim h1
      exact h2 _ (by rw [h3]; exact hab _ h4)
  unfold copyK at hq ⊢
  refine sm (fun cs hq => ?_) hq
  split at hq
  · split at hq
    · obtain ⟨k, m, il, h1, h2⟩ := chunkK_det _ _ _ hq
      obtain ⟨h3, h4, h5⟩ := cond_false_elim h1
      obtain ⟨l', h6, h7⟩ := setK_det _ _ _ _ _ h5
      exact h2 _ (by rw [h3]; exact ⟨h4, h7 _ (hk _ _ h6)⟩)
    · exact hq.elim
  · split at hq
    · obtain ⟨h1, h2, h3, h4, h5⟩ := cond_false_elim hq
      rw [h1]
      exact ⟨h2, h3, h4, hk _ _ h5⟩
    · exact hq.elim
  · exact hq.elim

theorem dop_move (hG : GDet G) {all : List Oper} {o : Oper} {n : Nat} {K K2 : Nat → Env → Bs → Prop} (ha : AgrL e e' (looks all o)) (hf : ∀ j k, get h j = some k → j < n)
    (hk : ∀ n' u h', ((vcls G.mf o.op || acls G.mf o.op) = true → Sub h h') → K n' (dput o.dst u e) h' → K2 n' (dput o.dst u e') h') (hq : dop G tt nt all o n e h K) : dop G tt nt all o n e' h K2 := by
  cases hv : vcls G.mf o.op with
  | true =>
    rw [dop_v hv] at hq ⊢
    obtain ⟨m, h1, h2⟩ := gvop_sim hG hv ha (.inl (Sub.refl h)) _ hq
    exact h2 _ ⟨h1.1, hk n m h (fun _ => Sub.refl h) h1.2⟩
  | false =>
    unfold dop at hq ⊢
    simp only [hv, cond_false] at hq ⊢
    cases hc : (acls G.mf o.op || scls o.op || mcls o.op || kcls G.mf o.op) with
    | false =>
      simp only [hc, cond_false] at hq ⊢
      replace hq := cond_false_elim hq
      obtain ⟨hcb, hq⟩ := hq
      rw [hcb]
      simp only [cond_true]
      refine gd_congr ha ?_ ?_ hq
      · intro hx
        have hao := ha.ops
        obtain ⟨dst, op, type, pos, after, guard⟩ := o
        simp only at hv hc hk hao hx hcb ⊢
        cases op <;> first | (cases hcb; done) | skip
        case send c x =>
          simp only [commK] at hx ⊢
          refine ev_mono (hao c (by simp [Op.operands])) (fun mc h1 => ?_) hx
          refine ev_mono (hao x (by simp [Op.operands])) (fun mx h2 => ?_) h1
          refine sendK_mono (fun h' hh => ?_) h2
          rw [dstK_iff] at hh ⊢
          exact ⟨hh.1, hk _ _ _ (fun h0 => by cases h0) hh.2⟩
        case select cs bl =>
          cases bl with
          | true => exact hx.elim
          | false =>
            simp only [commK, cond_false] at hx ⊢
            split at hx <;> first | exact hx.elim | skip
            rename_i s0 hcs
            obtain ⟨ch, snd, elem⟩ := s0
            have hcs : cs = #[⟨ch, snd, elem⟩] := by cases cs; exact congrArg Array.mk hcs
            subst hcs
            simp only at hx ⊢
            cases snd with
            | some x =>
              refine ev_mono (hao ch (by simp [Op.operands])) (fun mc h1 => ?_) hx
              refine ev_mono (hao x (by simp [Op.operands])) (fun mx h2 => ?_) h1
              obtain ⟨ti, h3, h4⟩ := ty_det tt elem _ h2
              refine h4 _ (selSK_mono (fun m h' hh => ?_) h3)
              rw [dstK_iff] at hh ⊢
              exact ⟨hh.1, hk _ _ _ (fun h0 => by cases h0) hh.2⟩
            | none =>
              refine ev_mono (hao ch (by simp [Op.operands])) (fun mc h1 => ?_) hx
              refine selRK_mono (fun m h' hh => ?_) h1
              rw [dstK_iff] at hh ⊢
              exact ⟨hh.1, hk _ _ _ (fun h0 => by cases h0) hh.2⟩
      · intro hx
        rw [dstK_iff] at hx ⊢
        exact ⟨hx.1, hk _ _ _ (fun _ => Sub.refl h) hx.2⟩
    | true =>
      simp only [hc, cond_true] at hq ⊢
      refine gd_congr ha ?_ ?_ hq
      · intro hx
        have hao := ha.ops
        obtain ⟨dst, op, type, pos, after, guard⟩ := o
        simp only at hv hc hk hao hx ⊢
        cases op <;> first | (cases hc; done) | skip
        case alloc t =>
          simp only [xopD, xop] at hx ⊢
          obtain ⟨ti, h1, h2⟩ := ty_det tt t _ hx
          refine h2 _ ?_
          rw [dstK_iff] at h1 ⊢
          exact ⟨h1.1, hk _ _ _ (fun _ => Fresh.sub hf) h1.2⟩
        case makeChan t x =>
          simp only [xopD, xop] at hx ⊢
          refine ev_mono (hao x (by simp [Op.operands])) (fun m hm => ?_) hx
          obtain ⟨ti, h3, h4⟩ := ty_det tt t _ hm
          refine h4 _ ?_
          split at h3 <;> first | exact h3.elim | skip
          obtain ⟨te, h7, h8⟩ := ty_det tt _ _ h3
          refine h8 _ ?_
          replace h7 := cond_false_elim h7
          rw [h7.1]
          have h9 := h7.2
          simp only [cond_true]
          unfold capK at h9 ⊢
          split at h9 <;> first | exact h9.elim | skip
          replace h9 := cond_false_elim h9
          rw [h9.1]
          have h10 := h9.2
          simp only [cond_true] at h10 ⊢
          rw [dstK_iff] at h10 ⊢
          exact ⟨h10.1, hk _ _ _ (fun _ => Fresh.sub hf) h10.2⟩
        case box t x =>
          simp only [xopD, xop] at hx ⊢
          refine ev_mono (hao x (by simp [Op.operands])) (fun m hm => ?_) hx
          unfold cellsK at hm ⊢
          split at hm
          · rw [dstK_iff] at hm ⊢
            exact ⟨hm.1, hk _ _ _ (fun _ => Fresh.sub hf) hm.2⟩
          · rw [dstK_iff] at hm ⊢
            exact ⟨hm.1, hk _ _ _ (fun _ => Fresh.sub hf) hm.2⟩
          · exact hm.elim
        case store t p x =>
          simp only [xopD, xop] at hx ⊢
          refine ev_mono (hao p (by simp [Op.operands])) (fun mp hp => ?_) hx
          refine ev_mono (hao x (by simp [Op.operands])) (fun mx hm => ?_) hp
          obtain ⟨ti, h1, h2⟩ := ty_det tt t _ hm
          refine h2 _ (storeK_mono (fun h' hh => ?_) h1)
          rw [dstK_iff] at hh ⊢
          exact ⟨hh.1, hk _ _ _ (fun h0 => by cases h0) hh.2⟩
        case call c =>
          obtain ⟨f, args, ts⟩ := c
          cases f <;> first | (cases hc; done) | skip
          case value f =>
            cases hq : acls G.mf (.call ⟨.value f, args, ts⟩) with
            | true =>
              obtain ⟨g0, rfl⟩ : ∃ g0, f = .func g0 := by cases f <;> first | (cases hq; done) | exact ⟨_, rfl⟩
              have hq : (memN g0 G.mf && memN (6000000 + g0) G.mf) = true := hq
              rw [Bool.and_eq_true] at hq
              simp only [xopD, xop, ev] at hx ⊢
              obtain ⟨ms, h2, h3⟩ := evs_sim args.toList (fun x hx => hao x (by simp [Op.operands, Call.operands] at hx ⊢; exact .inr hx)) _ hx
              refine h3 _ ?_
              unfold callK at h2 ⊢
              simp only at h2 ⊢
              rw [addCaps_eq] at h2 ⊢
              refine hG.2.1 _ _ _ _ _ _ (fun n' m h' hh => ?_) (hG.2.2 _ _ _ _ _ hq.2 h2)
              obtain ⟨hh, hsub⟩ := hh
              rw [dstK_iff] at hh ⊢
              exact ⟨hh.1, hk _ _ _ (fun _ => hsub) hh.2⟩
            | false =>
            simp only [xopD, xop] at hx ⊢
            refine ev_mono (hao f (by simp [Op.operands, Call.operands])) (fun m1 h1 => ?_) hx
            obtain ⟨ms, h2, h3⟩ := evs_sim args.toList (fun x hx => hao x (by simp [Op.operands, Call.operands] at hx ⊢; exact .inr hx)) _ h1
            refine h3 _ ?_
            unfold callK at h2 ⊢
            split at h2
            · rw [addCaps_eq] at h2 ⊢
              refine hG.2.1 _ _ _ _ _ _ (fun n' m h' hh => ?_) h2
              rw [dstK_iff] at hh ⊢
              exact ⟨hh.1, hk _ _ _ (fun h0 => by rw [hv, hq] at h0; cases h0) hh.2⟩
            · exact h2.elim
          rename_i b
          cases b <;> first | (cases hc; done) | skip
          case copy =>
            simp only [xopD, xop] at hx ⊢
            split at hx
            · rename_i x y t tx hxs hts
              refine ev_mono (hao x (by simp [Op.operands, Call.operands, hxs])) (fun mx h1 => ?_) hx
              refine ev_mono (hao y (by simp [Op.operands, Call.operands, hxs])) (fun my h2 => ?_) h1
              obtain ⟨ti, h3, h4⟩ := ty_det tt t _ h2
              refine h4 _ ?_
              split at h3
              · obtain ⟨te, h7, h8⟩ := ty_det tt _ _ h3
                refine h8 _ ?_
                obtain ⟨h9, h7⟩ := cond_false_elim h7
                rw [h9]
                simp only [cond_true]
                refine copyK_mono (fun m h' hh => ?_) h7
                rw [dstK_iff] at hh ⊢
                exact ⟨hh.1, hk _ _ _ (fun h0 => by cases h0) hh.2⟩
              · exact h3.elim
            · exact hx.elim
          simp only [xopD, xop] at hx ⊢
          split at hx
          · rename_i x y t tx hxs hts
            refine ev_mono (hao x (by simp [Op.operands, Call.operands, hxs])) (fun mx h1 => ?_) hx
            refine ev_mono (hao y (by simp [Op.operands, Call.operands, hxs])) (fun my h2 => ?_) h1
            obtain ⟨ti, h3, h4⟩ := ty_det tt t _ h2
            refine h4 _ ?_
            obtain ⟨tix, h5, h6⟩ := ty_det tt tx _ h3
            refine h6 _ ?_
            split at h5
            · obtain ⟨te, h7, h8⟩ := ty_det tt _ _ h5
              refine h8 _ (appendK_mono (fun m h' hh => ?_) h7)
              rw [dstK_iff] at hh ⊢
              exact ⟨hh.1, hk _ _ _ (fun h0 => by cases h0) hh.2⟩
            · exact h5.elim
          · exact hx.elim
        case buildSlice t len parts =>
          simp only [xopD, xop] at hx ⊢
          cases hmm : memN (1000000 + t) G.mf with
          | true =>
            simp only [hmm, cond_true] at hx ⊢
            obtain ⟨ti, h3, h4⟩ := ty_det tt t _ hx
            refine h4 _ ?_
            split at h3
            · obtain ⟨te, h7, h8⟩ := ty_det tt _ _ h3
              refine h8 _ ?_
              unfold bsF at h7 ⊢
              refine frzP_move (parts.toList.map (·.2)) (fun x hx => hao x (by simpa [Op.operands] using hx)) (fun e1 e2 h1 hag h9 => ?_) h7
              unfold buildSliceK at h9 ⊢
              obtain ⟨hb, h9⟩ := cond_false_elim h9
              rw [hb]
              simp only [cond_true]
              obtain ⟨l, h10, h11⟩ := partsK_sim (e := e1) (e' := e2) _ (fun i K hK => by
                obtain ⟨h12, h13⟩ := cond_false_elim hK
                exact ⟨_, _, h13, fun K' hk' => by rw [h12]; exact hk'⟩) parts.toList _ hag _ h9
              refine h11 _ (decsK_mono (fun ys hh => ?_) h10)
              simp only [dstK_iff] at hh ⊢
              exact ⟨hh.1, hk _ _ _ (fun h0 => by simp [vcls, acls, hmm] at h0) hh.2⟩
            · exact h3.elim
          | false =>
          simp only [hmm, cond_false] at hx ⊢
          obtain ⟨ti, h3, h4⟩ := ty_det tt t _ hx
          refine h4 _ ?_
          split at h3
          · obtain ⟨te, h7, h8⟩ := ty_det tt _ _ h3
            refine h8 _ ?_
            unfold buildSliceK at h7 ⊢
            obtain ⟨hb, h9⟩ := cond_false_elim h7
            rw [hb]
            simp only [cond_true]
            obtain ⟨l, h10, h11⟩ := partsK_sim (e := e) (e' := e') _ (fun i K hK => by
              obtain ⟨h12, h13⟩ := cond_false_elim hK
              exact ⟨_, _, h13, fun K' hk' => by rw [h12]; exact hk'⟩) parts.toList _ (fun x hx => hao x (by simpa [Op.operands] using hx)) _ h9
            refine h11 _ (decsK_mono (fun ys hh => ?_) h10)
            simp only [dstK_iff] at hh ⊢
            exact ⟨hh.1, hk _ _ _ (fun _ => Fresh.sub hf) hh.2⟩
          · exact h3.elim
        case convert sr ds x =>
          have hm0 : ((Nat.beq sr ds && memN (3000000 + sr) G.mf) || (memN (4000000 + sr) G.mf && memN (3000000 + ds) G.mf)) = true := by simpa [acls, scls, mcls, kcls] using hc
          cases hm : (Nat.beq sr ds && memN (3000000 + sr) G.mf) with
          | false =>
            rw [hm, Bool.false_or] at hm0
            simp only [xopD, hm, hm0, cond_true, cond_false] at hx ⊢
            obtain ⟨ts, h1, h2⟩ := ty_det tt sr _ hx
            refine h2 _ ?_
            obtain ⟨ti, h3, h4⟩ := ty_det tt ds _ h1
            refine h4 _ ?_
            split at h3
            · obtain ⟨te, h7, h8⟩ := ty_det tt _ _ h3
              refine h8 _ ?_
              split at h7
              · refine ev_mono (hao x (by simp [Op.operands])) (fun mx h1 => ?_) h7
                split at h1
                · intro cap hcap
                  have hh := h1 cap hcap
                  rw [dstK_iff] at hh ⊢
                  exact ⟨hh.1, hk _ _ _ (fun _ => Fresh.sub hf) hh.2⟩
                · exact h1.elim
              · exact h7.elim
            · exact h3.elim
          | true =>
          simp only [xopD, hm, cond_true] at hx ⊢
          obtain ⟨ti, h3, h4⟩ := ty_det tt sr _ hx
          refine h4 _ ?_
          split at h3
          · obtain ⟨te, h7, h8⟩ := ty_det tt _ _ h3
            refine h8 _ ?_
            split at h7
            · refine ev_mono (hao x (by simp [Op.operands])) (fun mx h1 => ?_) h7
              split at h1
              · split at h1
                · rename_i hg
                  refine ⟨h1.1, ?_⟩
                  have hh := h1.2
                  rw [dstK_iff] at hh ⊢
                  exact ⟨hh.1, hk _ _ _ (fun _ => Sub.refl h) hh.2⟩
                · exact h1.elim
              · exact h1.elim
            · exact h7.elim
          · exact h3.elim
        case mapUpdate t x i v =>
          simp only [xopD, xop] at hx ⊢
          refine ev_mono (hao x (by simp [Op.operands])) (fun mm h1 => ?_) hx
          refine ev_mono (hao i (by simp [Op.operands])) (fun mi h2 => ?_) h1
          refine ev_mono (hao v (by simp [Op.operands])) (fun mv h3 => ?_) h2
          refine mputK_mono (fun h' hh => ?_) h3
          rw [dstK_iff] at hh ⊢
          exact ⟨hh.1, hk _ _ _ (fun h0 => by cases h0) hh.2⟩
        case makeSlice t l c =>
          simp only [xopD, xop] at hx ⊢
          refine ev_mono (hao l (by simp [Op.operands])) (fun mx h1 => ?_) hx
          refine ev_mono (hao c (by simp [Op.operands])) (fun my h2 => ?_) h1
          obtain ⟨ti, h3, h4⟩ := ty_det tt t _ h2
          refine h4 _ ?_
          split at h3
          · obtain ⟨te, h7, h8⟩ := ty_det tt _ _ h3
            refine h8 _ (makeSliceK_mono (fun m h' hh => ?_) h7)
            rw [dstK_iff] at hh ⊢
            exact ⟨hh.1, hk _ _ _ (fun h0 => by cases h0) hh.2⟩
          · exact h3.elim
      · intro hx
        rw [dstK_iff] at hx ⊢
        exact ⟨hx.1, hk _ _ _ (fun _ => Sub.refl h) hx.2⟩

end
def SubC (h h' : Bs) : Prop := ∀ j l, get h j = some (.cells l) → get h' j = some (.cells l)
def mcl1 : Op → Bool
  | .makeSlice .. => true
  | .call ⟨.builtin .append, _, _⟩ => true
  | _ => false
theorem Sub.c {h h' : Bs} (s : Sub h h') : SubC h h' := fun j l hj => s j _ hj
theorem SubC.trans {h1 h2 h3 : Bs} (a : SubC h1 h2) (b : SubC h2 h3) : SubC h1 h3 := fun j l hj => b j l (a j l hj)

section
variable {P : Program} {G : GT} {tt : Tab} {nt : Nat} {e e' : Env} {h h' : Bs}
theorem appendK_cells {te : TI} {n : Nat} {tk : TK} {x1 x2 : M} {K : M → Bs → Prop} (hf : ∀ j k, get h j = some k → j < n) (hq : appendK te h n tk x1 x2 K) : appendK te h n tk x1 x2 fun m h' => K m h' ∧ SubC h h' := by
  have key : ∀ {j es : Nat} {α : Type} {E : Enc α} {l : List α} {c : Nat} {k : Blk}, get h j = some (.row es E l c) → SubC h (put (del h j) n k) := by
    intro j es α E l c k hj i x hi
    rw [get_put]
    split
    · rename_i hn; have := hf i _ hi; omega
    · rw [get_del]
      split
      · rename_i hji; subst hji; rw [hj] at hi; cases hi
      · exact hi
  have ins : ∀ {k : Blk}, SubC h (put h n k) := fun {k} => Sub.c (Fresh.sub hf)
  unfold appendK at hq ⊢
  obtain ⟨hb, hq⟩ := cond_false_elim hq
  rw [hb]
  simp only [cond_true]
  split at hq
  · exact srcK_mono (fun _ ⟨h1, h2⟩ => ⟨h1, fun c hc => ⟨h2 c hc, ins⟩⟩) hq
  · rename_i j es off len cap _
    cases hm : Nat.beq es (te.size + 1000000) && Nat.beq off 0 with
    | true =>
      rw [hm] at hq
      simp only [cond_true] at hq ⊢
      split at hq
      · obtain ⟨hb2, h1, h2, h3⟩ := cond_false_elim hq
        rw [hb2]
        exact ⟨h1, h2, srcK_mono (fun _ ⟨h6, h4, h5⟩ => ⟨h6, h4, fun c hc => ⟨h5 c hc, ins⟩⟩) h3⟩
      · exact hq.elim
    | false =>
    rw [hm] at hq
    simp only [cond_false] at hq ⊢
    split at hq
    · rename_i hg
      obtain ⟨hb2, h1, h2, h3⟩ := cond_false_elim hq
      rw [hb2]
      exact ⟨h1, h2, srcK_mono (fun _ ⟨h4, h5⟩ => ⟨h4, fun c hc => ⟨h5 c hc, key hg⟩⟩) h3⟩
    · exact hq.elim
  · split at hq
    · rename_i hg
      obtain ⟨hb2, h1, h2, h3⟩ := cond_false_elim hq
      rw [hb2]
      exact ⟨h1, h2, srcK_mono (fun _ ⟨h4, h5⟩ => ⟨h4, fun c hc => ⟨h5 c hc, key hg⟩⟩) h3⟩
    · exact hq.elim
  · exact hq.elim
theorem makeSliceK_cells {te : TI} {n : Nat} {x y : M} {K : M → Bs → Prop} (hf : ∀ j k, get h j = some k → j < n) (hq : makeSliceK te h n x y K) : makeSliceK te h n x y fun m h' => K m h' ∧ SubC h h' := by
  have ins : ∀ {k : Blk}, SubC h (put h n k) := fun {k} => Sub.c (Fresh.sub hf)
  unfold makeSliceK at hq ⊢
  obtain ⟨hb, hq⟩ := cond_false_elim hq
  rw [hb]
  simp only [cond_true]
  obtain ⟨l, h1, g1⟩ := idx_det _ _ hq
  refine g1 _ ?_
  obtain ⟨c, h2, g2⟩ := idx_det _ _ h1
  refine g2 _ ?_
  obtain ⟨h3, h4, h5, h6⟩ := h2
  refine ⟨h3, h4, h5, ?_⟩
  obtain ⟨z, _, h7, h8⟩ := Enc.ok _ _ _ h6
  exact h8 _ ⟨h7, ins⟩

theorem dop_cells {all : List Oper} {o : Oper} {n : Nat} {K : Nat → Env → Bs → Prop} (hf : ∀ j k, get h j = some k → j < n) (hq : dop G tt nt all o n e h K) :
    dop G tt nt all o n e h fun n' e' h' => K n' e' h' ∧ (mcl1 o.op = true → SubC h h') := by
  cases hm : mcl1 o.op with
  | false =>
    have hK : K = fun n' e' h' => K n' e' h' ∧ (false = true → SubC h h') := by
      funext n' e' h'
      exact propext ⟨fun h1 => ⟨h1, fun h2 => by cases h2⟩, fun h1 => h1.1⟩
    rw [← hK]
    exact hq
  | true =>
  obtain ⟨dst, op, type, pos, after, guard⟩ := o
  simp only at hm
  have hv : vcls G.mf op = false := by
    cases op <;> first | (cases hm; done) | rfl | skip
    rename_i c
    obtain ⟨f, args, ts⟩ := c
    cases f <;> first | (cases hm; done) | skip
    rename_i b
    cases b <;> first | (cases hm; done) | rfl
  have hc : (acls G.mf op || scls op || mcls op || kcls G.mf op) = true := by
    have h1 : mcls op = true := by
      cases op <;> first | (cases hm; done) | rfl | skip
      rename_i c
      obtain ⟨f, args, ts⟩ := c
      cases f <;> first | (cases hm; done) | skip
      rename_i b
      cases b <;> first | (cases hm; done) | rfl
    rw [h1]
    simp
  unfold dop at hq ⊢
  simp only [hv, hc, cond_true, cond_false] at hq ⊢
  refine gd_congr (fun _ _ => rfl) (fun hx => ?_) (fun hx => ?_) hq
  · cases op <;> first | (cases hm; done) | skip
    case call c =>
      obtain ⟨f, args, ts⟩ := c
      cases f <;> first | (cases hm; done) | skip
      rename_i b
      cases b <;> first | (cases hm; done) | skip
      simp only [xopD, xop] at hx ⊢
      split at hx
      · rename_i x y t tx hxs hts
        refine ev_mono (fun _ _ => rfl) (fun mx h1 => ?_) hx
        refine ev_mono (fun _ _ => rfl) (fun my h2 => ?_) h1
        obtain ⟨ti, h3, h4⟩ := ty_det tt t _ h2
        refine h4 _ ?_
        obtain ⟨tix, h5, h6⟩ := ty_det tt tx _ h3
        refine h6 _ ?_
        split at h5
        · obtain ⟨te, h7, h8⟩ := ty_det tt _ _ h5
          refine h8 _ (appendK_mono (fun m h' hh => ?_) (appendK_cells hf h7))
          obtain ⟨hh, hs⟩ := hh
          rw [dstK_iff] at hh ⊢
          exact ⟨hh.1, hh.2, fun _ => hs⟩
        · exact h5.elim
      · exact hx.elim
    case makeSlice t l c =>
      simp only [xopD, xop] at hx ⊢
      refine ev_mono (fun _ _ => rfl) (fun mx h1 => ?_) hx
      refine ev_mono (fun _ _ => rfl) (fun my h2 => ?_) h1
      obtain ⟨ti, h3, h4⟩ := ty_det tt t _ h2
      refine h4 _ ?_
      split at h3
      · obtain ⟨te, h7, h8⟩ := ty_det tt _ _ h3
        refine h8 _ (makeSliceK_mono (fun m h' hh => ?_) (makeSliceK_cells hf h7))
        obtain ⟨hh, hs⟩ := hh
        rw [dstK_iff] at hh ⊢
        exact ⟨hh.1, hh.2, fun _ => hs⟩
      · exact h3.elim
  · rw [dstK_iff] at hx ⊢
    exact ⟨hx.1, hx.2, fun _ => fun j l hj => hj⟩
end
end Go.Sx
