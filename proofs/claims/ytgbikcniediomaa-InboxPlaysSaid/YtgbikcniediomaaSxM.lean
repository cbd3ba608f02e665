/- Regions that draw their order: what may be taken first is, of the others every order. Holds for every program. -/
import Derived.Test.YtgbikcniediomaaSx18
namespace Go.Sx
set_option linter.unusedSimpArgs false
set_option linter.unusedVariables false

def freeV (mf : List Nat) (pr cl : Bool) (all : List Oper) (o : Oper) (i : Nat) (ds : List Nat) : Nat → List Nat → List Oper → Bool
  | _, _, [] => true
  | j, ws, oj :: r => bif memN j ds || Nat.beq j i then freeV mf pr cl all o i ds (j + 1) ws r else
      (bif waitsW oj i ws then freeV mf pr cl all o i ds (j + 1) (j :: ws) r else (apartB all o oj && (vcls mf oj.op || acls mf oj.op || pr || (cl && mcl1 oj.op))) && freeV mf pr cl all o i ds (j + 1) ws r)

def rlP (e : Env) (o : Oper) : Bool :=
  match o.op with
  | .load _ a => (match a with
    | .tmp t => (match get e t with
      | some (.one (.rptr _ _)) => true
      | _ => false)
    | _ => false)
  | .convert _ _ a => (match a with
    | .tmp t => (match get e t with
      | some (.one (.view _ es _ _)) => Nat.beq es 1
      | some (.one (.v (.int _ _))) => true
      | some (.one (.v (.string _))) => true
      | _ => false)
    | _ => false)
  | _ => false

theorem convK_pure {tt : Tab} {s d : Nat} {m : M} (hm : match m with | .one (.view _ es _ _) => Nat.beq es 1 = true | .one (.v (.int _ _)) => True | .one (.v (.string _)) => True | _ => False) {h1 h2 : Bs} {K : M → Prop} (h : convK tt s d m h1 K) : convK tt s d m h2 K := by
  have key : ∀ (te : TI), (match te.kind with
      | .int .u8 => contK h1 m fun k l => bif IntKind.beq k .u8 then K (.one (.v (.string (strOfNums l)))) else False
      | _ => False) → (match te.kind with
      | .int .u8 => contK h2 m fun k l => bif IntKind.beq k .u8 then K (.one (.v (.string (strOfNums l)))) else False
      | _ => False) := by
    intro te
    cases m with
    | one x =>
      cases x <;> first | exact hm.elim | exact id | skip
      case v v => cases v <;> first | exact hm.elim | exact id
      case view x es α enc l =>
        have he : Nat.beq es 1 = true := hm
        intro hq
        have hc : ∀ (h1 h2 : Bs) (K : IntKind → List Int → Prop), contK h1 (.one (.view x es enc l)) K → contK h2 (.one (.view x es enc l)) K := fun h1 h2 K hq => by
          simp only [contK, he, cond_true] at hq ⊢
          exact hq
        cases hk : te.kind <;> simp only [hk] at hq ⊢ <;> first | exact hq.elim | skip
        rename_i k
        cases k <;> first | exact hq.elim | exact hc _ _ _ hq
    | _ => exact hm.elim
  unfold convK at h ⊢
  obtain ⟨ts, h, g1⟩ := ty_det _ _ _ h
  refine g1 _ ?_
  obtain ⟨td, h, g2⟩ := ty_det _ _ _ h
  refine g2 _ ?_
  split at h
  · exact h
  · exact h
  · obtain ⟨te, h, g3⟩ := ty_det _ _ _ h
    exact g3 _ (key te h)
  · exact h.elim

def clP (e : Env) (h : Bs) (o : Oper) : Bool :=
  match o.op with
  | .load _ a => (match a with
    | .tmp t => (match get e t with
      | some (.one (.ptr j _)) => (match get h j with
        | some (.cells _) => true
        | _ => false)
      | _ => false)
    | _ => false)
  | _ => false

def pickV (mf : List Nat) (nt : Nat) (all : List Oper) (e : Env) (h : Bs) (ds : List Nat) : Nat → List Oper → Option (Nat × Oper)
  | _, [] => none
  | i, o :: r => bif rdyB ds i o && vcls mf o.op && dok nt o.dst && freeV mf (pcls o.op || rlP e o) (clP e h o) all o i ds 0 [] all then some (i, o) else pickV mf nt all e h ds (i + 1) r

def dMix (G : GT) (tt : Tab) (nt : Nat) (all : List Oper) (K : Nat → Env → Bs → Prop) : Nat → List Nat → Nat → Env → Bs → Prop
  | 0, ds, n, e, h => bif anyR ds 0 all then False else K n e h
  | f + 1, ds, n, e, h => bif anyR ds 0 all then (match pickV G.mf nt all e h ds 0 all with
    | some (i, o) => gs all o e fun e => dop G tt nt all o n e h fun n e h => dMix G tt nt all K f (i :: ds) n e h
    | none => eachR (fun i o => gs all o e fun e => dop G tt nt all o n e h fun n e h => dMix G tt nt all K f (i :: ds) n e h) ds 0 all) else K n e h

theorem freeV_get {mf : List Nat} {pr cl : Bool} {all : List Oper} {o : Oper} {i : Nat} {ds : List Nat} : ∀ {l : List Oper} {j : Nat} {ws : List Nat}, freeV mf pr cl all o i ds j ws l = true →
    ∃ W : List Nat, (∀ x ∈ ws, x ∈ W) ∧ (∀ x ∈ W, x ∈ ws ∨ (j ≤ x ∧ x ∉ ds ∧ ∃ oj, l[x - j]? = some oj ∧ ∃ e ∈ oj.after, Region.binds .any e = true ∧ (e.on = i ∨ e.on ∈ W))) ∧
      ∀ q oj, l[q]? = some oj → j + q ∉ ds → j + q ≠ i → j + q ∉ W → Apart all o oj ∧ (vcls mf oj.op || acls mf oj.op || pr || (cl && mcl1 oj.op)) = true
  | [], j, ws, _ => ⟨ws, fun _ h => h, fun _ h => .inl h, fun q oj h => by simp at h⟩
  | oj :: r, j, ws, h => by
    have lift : ∀ {W : List Nat} {x : Nat}, (j + 1 ≤ x ∧ x ∉ ds ∧ ∃ ok, r[x - (j + 1)]? = some ok ∧ ∃ e ∈ ok.after, Region.binds .any e = true ∧ (e.on = i ∨ e.on ∈ W)) →
        (j ≤ x ∧ x ∉ ds ∧ ∃ ok, (oj :: r)[x - j]? = some ok ∧ ∃ e ∈ ok.after, Region.binds .any e = true ∧ (e.on = i ∨ e.on ∈ W)) := by
      rintro W x ⟨hle, hd, ok, hok, h9⟩
      refine ⟨by omega, hd, ok, ?_, h9⟩
      rw [show x - j = (x - (j + 1)) + 1 by omega]
      simpa using hok
    have step : ∀ {W : List Nat}, (∀ q ok, r[q]? = some ok → j + 1 + q ∉ ds → j + 1 + q ≠ i → j + 1 + q ∉ W → Apart all o ok ∧ (vcls mf ok.op || acls mf ok.op || pr || (cl && mcl1 ok.op)) = true) →
        (j ∉ ds → j ≠ i → j ∉ W → Apart all o oj ∧ (vcls mf oj.op || acls mf oj.op || pr || (cl && mcl1 oj.op)) = true) →
        ∀ q ok, (oj :: r)[q]? = some ok → j + q ∉ ds → j + q ≠ i → j + q ∉ W → Apart all o ok ∧ (vcls mf ok.op || acls mf ok.op || pr || (cl && mcl1 ok.op)) = true := by
      intro W h1 h2 q ok hq hd hi hw
      cases q with
      | zero =>
        have : oj = ok := by simpa using hq
        subst this
        exact h2 (by simpa using hd) (by simpa using hi) (by simpa using hw)
      | succ q => exact h1 q ok (by simpa using hq) (by rw [show j + 1 + q = j + (q + 1) by omega]; exact hd) (by rw [show j + 1 + q = j + (q + 1) by omega]; exact hi) (by rw [show j + 1 + q = j + (q + 1) by omega]; exact hw)
    simp only [freeV] at h
    cases hs : memN j ds || Nat.beq j i with
    | true =>
      rw [hs] at h
      obtain ⟨W, h1, h2, h3⟩ := freeV_get h
      refine ⟨W, h1, fun x hx => (h2 x hx).imp id lift, step h3 fun hd hi _ => ?_⟩
      simp only [Bool.or_eq_true] at hs
      rcases hs with hs | hs
      · exact absurd (of_memN hs) hd
      · exact absurd (Nat.eq_of_beq_eq_true hs) hi
    | false =>
      rw [hs] at h
      simp only [cond_false] at h
      simp only [Bool.or_eq_false_iff] at hs
      have hjd : j ∉ ds := fun hd => by rw [memN_of hd] at hs; cases hs.1
      cases hw : waitsW oj i ws with
      | true =>
        rw [hw] at h
        obtain ⟨W, h1, h2, h3⟩ := freeV_get h
        refine ⟨W, fun x hx => h1 x (List.mem_cons_of_mem _ hx), fun x hx => ?_, step h3 fun _ _ hn => absurd (h1 j List.mem_cons_self) hn⟩
        rcases h2 x hx with hx2 | hx2
        · rcases List.mem_cons.1 hx2 with rfl | hx2
          · right
            simp only [waitsW, List.any_eq_true, Bool.and_eq_true, Bool.or_eq_true] at hw
            obtain ⟨e, he, hb, hor⟩ := hw
            refine ⟨Nat.le_refl _, hjd, oj, by simp, e, by simpa using he, hb, ?_⟩
            rcases hor with hor | hor
            · exact .inl (Nat.eq_of_beq_eq_true hor)
            · exact .inr (h1 _ (List.mem_cons_of_mem _ (of_memN hor)))
          · exact .inl hx2
        · exact .inr (lift hx2)
      | false =>
        rw [hw] at h
        simp only [cond_false, Bool.and_eq_true] at h
        obtain ⟨W, h1, h2, h3⟩ := freeV_get h.2
        exact ⟨W, h1, fun x hx => (h2 x hx).imp id lift, step h3 fun _ _ _ => ⟨apartB_apart h.1.1, h.1.2⟩⟩

theorem pickV_get {mf : List Nat} {nt : Nat} {all : List Oper} {e : Env} {hb : Bs} {ds : List Nat} : ∀ {l : List Oper} {i0 : Nat} {i : Nat} {o : Oper}, pickV mf nt all e hb ds i0 l = some (i, o) →
    ∃ q, i = i0 + q ∧ l[q]? = some o ∧ rdyB ds i o = true ∧ vcls mf o.op = true ∧ dok nt o.dst = true ∧ freeV mf (pcls o.op || rlP e o) (clP e hb o) all o i ds 0 [] all = true
  | [], _, _, _, h => by cases h
  | x :: r, i0, i, o, h => by
    simp only [pickV] at h
    cases hr : rdyB ds i0 x && vcls mf x.op && dok nt x.dst && freeV mf (pcls x.op || rlP e x) (clP e hb x) all x i0 ds 0 [] all with
    | true =>
      rw [hr] at h
      cases h
      simp only [Bool.and_eq_true] at hr
      exact ⟨0, rfl, rfl, hr.1.1.1, hr.1.1.2, hr.1.2, hr.2⟩
    | false =>
      rw [hr] at h
      obtain ⟨q, h1, h2, h3⟩ := pickV_get h
      exact ⟨q + 1, by omega, by simpa using h2, h3⟩

section
variable {P : Program} {G : GT} {tt : Tab} {nt : Nat} {ops : Array Oper} {Q : Nat → Env → Bs → Prop}

theorem gvop_rl {all : List Oper} {o : Oper} {e e1 e2 : Env} {h1 h2 : Bs} {m : M} (hp : rlP e o = true) (hs : Same e1 e) (ha : AgrL e1 e2 (looks all o)) (hy : gvop G tt all o e1 h1 (fun y => y = m)) : gvop G tt all o e2 h2 (fun y => y = m) := by
  unfold gvop at hy ⊢
  have hao := ha.ops
  refine gd_congr ha (fun hx => ?_) id hy
  obtain ⟨dst, op, type, pos, after, guard⟩ := o
  simp only [rlP] at hp
  cases op <;> first | (cases hp; done) | skip
  case convert s d a =>
    cases a <;> first | (cases hp; done) | skip
    rename_i q
    have hq : get e2 q = get e q := (hao (.tmp q) (by simp [Op.operands]) q rfl).trans (hs q)
    have hq1 : get e1 q = get e q := hs q
    simp only [vop, qop, ev, hq1] at hx
    simp only [vop, qop, ev, hq]
    cases hg : get e q with
    | none => simp only [hg] at hp; cases hp
    | some mm =>
      rw [hg] at hx
      simp only [hg] at hp ⊢
      refine convK_pure ?_ hx
      cases mm with
      | one s =>
        cases s <;> first | (cases hp; done) | exact hp | skip
        rename_i v
        cases v <;> first | (cases hp; done) | exact trivial
      | _ => cases hp
  rename_i t a
  cases a <;> first | (cases hp; done) | skip
  rename_i q
  have hq : get e2 q = get e q := (hao (.tmp q) (by simp [Op.operands]) q rfl).trans (hs q)
  have hq1 : get e1 q = get e q := hs q
  simp only [vop, qop, ev, hq1] at hx
  simp only [vop, qop, ev, hq]
  cases hg : get e q with
  | none => simp only [hg] at hp; cases hp
  | some mm =>
    rw [hg] at hx
    simp only [hg] at hp ⊢
    cases mm with
    | one s => cases s <;> first | (cases hp; done) | exact hx
    | _ => cases hp

theorem gvop_cl {all : List Oper} {o : Oper} {e e1 e2 : Env} {h h2 : Bs} {m : M} (hp : clP e h o = true) (hs : Same e1 e) (ha : AgrL e1 e2 (looks all o)) (hc : SubC h h2) (hy : gvop G tt all o e1 h (fun y => y = m)) : gvop G tt all o e2 h2 (fun y => y = m) := by
  unfold gvop at hy ⊢
  have hao := ha.ops
  refine gd_congr ha (fun hx => ?_) id hy
  obtain ⟨dst, op, type, pos, after, guard⟩ := o
  simp only [clP] at hp
  cases op <;> first | (cases hp; done) | skip
  rename_i t a
  cases a <;> first | (cases hp; done) | skip
  rename_i q
  have hq : get e2 q = get e q := (hao (.tmp q) (by simp [Op.operands]) q rfl).trans (hs q)
  have hq1 : get e1 q = get e q := hs q
  simp only [vop, qop, ev, hq1] at hx
  simp only [vop, qop, ev, hq]
  cases hg : get e q with
  | none => simp only [hg] at hp; cases hp
  | some mm =>
    rw [hg] at hx
    simp only [hg] at hp ⊢
    cases mm with
    | one s =>
      cases s <;> first | (cases hp; done) | skip
      rename_i j off
      simp only at hp
      cases hj : get h j with
      | none => simp only [hj] at hp; cases hp
      | some k =>
        simp only [hj] at hp
        cases k <;> first | (cases hp; done) | skip
        simp only at hx ⊢
        obtain ⟨ti, h3, h4⟩ := ty_det tt t _ hx
        refine h4 _ ?_
        simp only [loadK, hj] at h3
        simp only [loadK, hc j _ hj]
        exact h3
    | _ => cases hp

theorem xAny_mix (hG : GDet G) (hQ : Closed Q) {Q0 : Nat → Env → Bs → Prop} (hQ0 : ∀ n e h, Q0 n e h → Q n e h) : ∀ (f : Nat) (ds : List Nat) (L : Array Bool) (n : Nat) (e : Env) (h : Bs), Done ops L ds →
    dMix G tt nt ops.toList Q0 f ds n e h → xAny G tt nt ops Q f L n e h
  | 0, ds, L, n, e, h, u, hx => by
    simp only [dMix] at hx
    cases ha : anyR ds 0 ops.toList with
    | true => rw [ha] at hx; exact hx.elim
    | false =>
      rw [ha] at hx
      refine ⟨?_, hQ0 _ _ _ hx⟩
      rw [List.eq_nil_iff_forall_not_mem]
      intro j hj
      obtain ⟨_, o, ho, _⟩ := mem_ready.1 hj
      have := anyR_get (i := 0) (j := j) (o := o) (l := ops.toList) (by simpa using ho) (by rw [Nat.zero_add]; exact (u.ready ho).1 hj)
      rw [ha] at this; cases this
  | f + 1, ds, L, n, e, h, u, hx => by
    simp only [dMix] at hx
    cases ha : anyR ds 0 ops.toList with
    | false =>
      intro hf
      rw [ha] at hx
      refine ⟨fun _ => hQ0 _ _ _ hx, fun j hj o ho => ?_⟩
      have := anyR_get (i := 0) (j := j) (o := o) (l := ops.toList) (by simpa using ho) (by rw [Nat.zero_add]; exact (u.ready ho).1 hj)
      rw [ha] at this; cases this
    | true =>
      rw [ha] at hx
      simp only [cond_true] at hx
      split at hx
      · rename_i i o hp
        obtain ⟨q, hq, ho', hr, hv, hd, hfree⟩ := pickV_get hp
        rw [Nat.zero_add] at hq
        subst hq
        have ho : ops[i]? = some o := by simpa using ho'
        have hlt : i < ops.size := (Array.getElem?_eq_some_iff.1 ho).1
        obtain ⟨W, _, w2, w3⟩ := freeV_get hfree
        have hW : ∀ x ∈ W, x ∉ ds ∧ ∃ oj, ops[x]? = some oj ∧ ∃ e ∈ oj.after, Region.binds .any e = true ∧ (e.on = i ∨ e.on ∈ W) := fun x hx => by
          rcases w2 x hx with hx | ⟨_, hxd, oj, hoj, h9⟩
          · cases hx
          · exact ⟨hxd, oj, by simpa using hoj, h9⟩
        have und : ∀ x, x < ops.size → (L.getD x true = false ↔ x ∉ ds) := fun x hx => by
          have := u.is x hx
          simp only [Array.getD_eq_getD_getElem?, this, Option.getD_some]
          constructor
          · intro h1 h2; rw [memN_of h2] at h1; cases h1
          · intro h1
            cases hm : memN x ds with
            | false => rfl
            | true => exact absurd (of_memN hm) h1
        obtain ⟨e', hs, h1⟩ := gs_spec hx
        refine xAny_congr hG hQ _ _ _ _ _ _ (fun q => (hs q).symm) ?_
        obtain ⟨m, ⟨_, h3⟩, h4⟩ := gvop_sim (G := G) (tt := tt) (all := ops.toList) hG hv (e := e') (e' := e') (fun _ _ => rfl) (.inl (Sub.refl h)) _ ((dop_v hv).1 h1)
        refine xAny_first hG hQ ho hv hd (W := W) (pr := pcls o.op || rlP e o) (cl := clP e h o) (fun j oj hj hjW => ?_) f L n e' h (fun hp e2 h2 ha => ?_) (fun hp e2 h2 ha hc => gvop_cl hp (fun q => (hs q).symm) ha hc (h4 _ rfl)) (fun j hjW => ?_) (fun j oj hj hne hun hno => ?_) ((u.ready ho).2 hr) (h4 _ rfl) (xAny_mix hG hQ hQ0 f (i :: ds) _ _ _ _ (u.next hlt) h3)
        · obtain ⟨_, ok, hok, h9⟩ := hW j hjW
          rw [hj] at hok
          cases hok
          exact h9
        · cases hpc : pcls o.op with
          | true =>
            obtain ⟨y, q1, q2⟩ := gvop_sim (G := G) (tt := tt) (all := ops.toList) hG hv (h' := h2) ha (.inr hpc) _ (h4 _ rfl)
            exact q2 _ q1.symm
          | false =>
            rw [hpc, Bool.false_or] at hp
            exact gvop_rl hp (fun q => (hs q).symm) ha (h4 _ rfl)
        · obtain ⟨hjd, ok, hok, _⟩ := hW j hjW
          have hj' : j < ops.size := (Array.getElem?_eq_some_iff.1 hok).1
          have := (und j hj').2 hjd
          have h8 : j < L.size := by rw [u.size]; exact hj'
          simp only [Array.getD_eq_getD_getElem?, Array.getElem?_eq_getElem h8, Option.getD_some] at this ⊢
          exact this
        · have hj' : j < ops.size := (Array.getElem?_eq_some_iff.1 hj).1
          exact w3 j oj (by simpa using hj) (by rw [Nat.zero_add]; exact (und j hj').1 hun) (by rw [Nat.zero_add]; exact hne) (by rw [Nat.zero_add]; exact hno)
      · intro hf
        refine ⟨fun h0 => ?_, fun j hj o ho => ?_⟩
        · exfalso
          have : ∀ (l : List Oper) (i : Nat), anyR ds i l = true → ∃ j o, l[j]? = some o ∧ rdyB ds (i + j) o = true := by
            intro l
            induction l with
            | nil => intro i h; cases h
            | cons x r ih =>
              intro i h
              simp only [anyR, Bool.or_eq_true] at h
              rcases h with h | h
              · exact ⟨0, x, rfl, h⟩
              · obtain ⟨j, o, h1, h2⟩ := ih (i + 1) h
                exact ⟨j + 1, o, by simpa using h1, by rw [show i + (j + 1) = i + 1 + j by omega]; exact h2⟩
          obtain ⟨j, o, h1, h2⟩ := this _ _ ha
          rw [Nat.zero_add] at h2
          have := (u.ready (i := j) (o := o) (by simpa using h1)).2 h2
          rw [h0] at this
          cases this
        · have h1 := eachR_get (j := j) (o := o) hx (by simpa using ho) (by rw [Nat.zero_add]; exact (u.ready ho).1 hj)
          rw [Nat.zero_add] at h1
          obtain ⟨e', hs, h2⟩ := gs_spec h1
          have hlt : j < ops.size := (Array.getElem?_eq_some_iff.1 ho).1
          exact dop_move hG (Same.agr (fun q => (hs q).symm) _) hf (fun n' u' h' _ hk => xAny_congr hG hQ _ _ _ _ _ _ (Same.dput (fun q => (hs q).symm) _ _) (xAny_mix hG hQ hQ0 f (j :: ds) _ _ _ _ (u.next hlt) hk)) h2
end

section
variable {P : Program} {G : GT} {tt : Tab} {nt : Nat} {ops : Array Oper}

theorem SWp.drawMix (hD : GDet G) (hG : GOK P G) (hT : TOK P tt) (hm : P.follows .mixedOrders = true) {k id n : Nat} {e : Env} {h : Bs} {Q : Exit → Nat → Env → Bs → Prop}
    (hx : dMix G tt nt ops.toList (Q .normal) ops.size [] n e h) : SWp P nt k (.region id ops true) Q n e h := by
  refine ⟨fun B σ a w _ s => wp_region_any hm ?_⟩
  have hcl : Closed (fun n e h => ∃ e0, Same e e0 ∧ Q .normal n e0 h) := by
    rintro n e e' h hs ⟨e0, h1, h2⟩
    exact ⟨e0, fun q => (hs q).symm.trans (h1 q), h2⟩
  have h0 := xAny_mix (G := G) (tt := tt) (nt := nt) (ops := ops) hD hcl (Q0 := Q .normal) (fun n e h hq => ⟨e, fun _ => rfl, hq⟩) ops.size [] (Array.replicate ops.size false) n e h ⟨by simp, fun j hj => by simp [hj, memN], fun _ h => by cases h⟩ hx
  refine xAny_sound hG hT ?_ ops.size _ σ n e h a _ s.drew h0
  rintro a' w' ⟨σ', n', e', h', ⟨e0, h1, h2⟩, s'⟩
  exact ⟨σ', n', e0, h', h2, s'.sub fun t m ht => by rw [h1 t]; exact ht⟩
end
end Go.Sx
