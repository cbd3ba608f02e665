/- Regions that draw the order of their operations: as in the text, where a check says so. Holds for every program. -/
import Derived.Test.YtgbikcniediomaaSx17
namespace Go.Sx
set_option linter.unusedSimpArgs false
set_option linter.unusedVariables false

theorem memN_of {d : Nat} : ∀ {l : List Nat}, d ∈ l → memN d l = true
  | x :: r, h => by
    rcases List.mem_cons.1 h with h | h
    · subst h; simp [memN]
    · simp [memN, memN_of h]

def waits (oj : Oper) (i : Nat) : Bool := oj.after.toList.any fun e => Region.binds .any e && Nat.beq e.on i

def apartB (all : List Oper) (x y : Oper) : Bool :=
  (match x.dst with
  | some d => !(memN d (looks all y)) && (match y.dst with
    | some d' => !(Nat.beq d d')
    | none => true)
  | none => true) &&
  (match y.dst with
  | some d => !(memN d (looks all x))
  | none => true)

theorem apartB_apart {all : List Oper} {x y : Oper} (h : apartB all x y = true) : Apart all x y := by
  unfold apartB at h
  simp only [Bool.and_eq_true] at h
  refine ⟨fun d hd hm => ?_, fun d hd hy => ?_, fun d hd hm => ?_⟩
  · rw [hd] at h
    simp [memN_of hm] at h
  · rw [hd, hy] at h
    simp at h
  · rw [hd] at h
    have := h.2
    simp [memN_of hm] at this

def waitsW (oj : Oper) (i : Nat) (ws : List Nat) : Bool := oj.after.toList.any fun e => Region.binds .any e && (Nat.beq e.on i || memN e.on ws)

def laterV (mf : List Nat) (all : List Oper) (o : Oper) (i : Nat) : Nat → List Nat → List Oper → Bool
  | _, _, [] => true
  | j, ws, oj :: r => bif waitsW oj i ws then laterV mf all o i (j + 1) (j :: ws) r else (apartB all o oj && (vcls mf oj.op || acls mf oj.op || pcls o.op)) && laterV mf all o i (j + 1) ws r

def laterE (i : Nat) : List Oper → Bool
  | [] => true
  | oj :: r => (oj.after.toList.any fun e => Region.binds .any e && Nat.ble i e.on) && laterE i r

def readyB (i : Nat) (o : Oper) : Bool := o.after.toList.all fun e => !Region.binds .any e || Nat.blt e.on i

def checkD (mf : List Nat) (nt : Nat) (all : List Oper) : Nat → List Oper → Bool
  | _, [] => true
  | i, o :: r => readyB i o && (bif vcls mf o.op then dok nt o.dst && laterV mf all o i (i + 1) [] r else laterE i r) && checkD mf nt all (i + 1) r

theorem of_memN {d : Nat} : ∀ {l : List Nat}, memN d l = true → d ∈ l
  | x :: r, h => by
    simp only [memN, Bool.or_eq_true] at h
    rcases h with h | h
    · rw [Nat.eq_of_beq_eq_true h]; exact List.mem_cons_self
    · exact List.mem_cons_of_mem _ (of_memN h)

theorem laterV_get {mf : List Nat} {all : List Oper} {o : Oper} {i : Nat} : ∀ {l : List Oper} {j : Nat} {ws : List Nat}, laterV mf all o i j ws l = true →
    ∃ W : List Nat, (∀ x ∈ ws, x ∈ W) ∧ (∀ x ∈ W, x ∈ ws ∨ (j ≤ x ∧ ∃ oj, l[x - j]? = some oj ∧ ∃ e ∈ oj.after, Region.binds .any e = true ∧ (e.on = i ∨ e.on ∈ W))) ∧
      ∀ q oj, l[q]? = some oj → j + q ∉ W → Apart all o oj ∧ (vcls mf oj.op || acls mf oj.op || pcls o.op) = true
  | [], j, ws, _ => ⟨ws, fun _ h => h, fun _ h => .inl h, fun q oj h => by simp at h⟩
  | oj :: r, j, ws, h => by
    simp only [laterV] at h
    cases hw : waitsW oj i ws with
    | true =>
      rw [hw] at h
      obtain ⟨W, h1, h2, h3⟩ := laterV_get h
      refine ⟨W, fun x hx => h1 x (List.mem_cons_of_mem _ hx), fun x hx => ?_, fun q ok hq hn => ?_⟩
      · rcases h2 x hx with hx2 | ⟨hle, ok, hok, e, he, hb, hor⟩
        · rcases List.mem_cons.1 hx2 with rfl | hx2
          · right
            simp only [waitsW, List.any_eq_true, Bool.and_eq_true, Bool.or_eq_true] at hw
            obtain ⟨e, he, hb, hor⟩ := hw
            refine ⟨Nat.le_refl _, oj, by simp, e, by simpa using he, hb, ?_⟩
            rcases hor with hor | hor
            · exact .inl (Nat.eq_of_beq_eq_true hor)
            · exact .inr (h1 _ (List.mem_cons_of_mem _ (of_memN hor)))
          · exact .inl hx2
        · right
          refine ⟨by omega, ok, ?_, e, he, hb, hor⟩
          rw [show x - j = (x - (j + 1)) + 1 by omega]
          simpa using hok
      · cases q with
        | zero => exact absurd (h1 j List.mem_cons_self) (by simpa using hn)
        | succ q => exact h3 q ok (by simpa using hq) (by rw [show j + 1 + q = j + (q + 1) by omega]; exact hn)
    | false =>
      rw [hw] at h
      simp only [cond_false, Bool.and_eq_true] at h
      obtain ⟨W, h1, h2, h3⟩ := laterV_get h.2
      refine ⟨W, h1, fun x hx => ?_, fun q ok hq hn => ?_⟩
      · rcases h2 x hx with hx2 | ⟨hle, ok, hok, e, he, hb, hor⟩
        · exact .inl hx2
        · right
          refine ⟨by omega, ok, ?_, e, he, hb, hor⟩
          rw [show x - j = (x - (j + 1)) + 1 by omega]
          simpa using hok
      · cases q with
        | zero =>
          have : oj = ok := by simpa using hq
          subst this
          exact ⟨apartB_apart h.1.1, h.1.2⟩
        | succ q => exact h3 q ok (by simpa using hq) (by rw [show j + 1 + q = j + (q + 1) by omega]; exact hn)

theorem laterE_get {i : Nat} : ∀ {l : List Oper} {j : Nat} {oj : Oper}, laterE i l = true → l[j]? = some oj → ∃ e ∈ oj.after, Region.binds .any e = true ∧ i ≤ e.on
  | [], _, _, _, h => by simp at h
  | x :: r, 0, oj, hl, h => by
    simp at h
    subst h
    simp only [laterE, Bool.and_eq_true, List.any_eq_true] at hl
    obtain ⟨e, he, h1, h2⟩ := hl.1
    exact ⟨e, by simpa using he, h1, Nat.le_of_ble_eq_true h2⟩
  | x :: r, j + 1, oj, hl, h => by
    simp only [laterE, Bool.and_eq_true] at hl
    exact laterE_get hl.2 (by simpa using h)

structure Upto (ops : Array Oper) (L : Array Bool) (k : Nat) : Prop where
  size : L.size = ops.size
  lo : ∀ j, j < k → j < ops.size → L[j]? = some true
  hi : ∀ j, k ≤ j → j < ops.size → L[j]? = some false

theorem Upto.next {ops : Array Oper} {L : Array Bool} {k : Nat} (u : Upto ops L k) : Upto ops (L.setIfInBounds k true) (k + 1) := by
  refine ⟨by simp [u.size], fun j hj hs => ?_, fun j hj hs => ?_⟩
  · rw [Array.getElem?_setIfInBounds]
    split
    · simp [*, u.size]
    · exact u.lo j (by omega) hs
  · rw [Array.getElem?_setIfInBounds_ne (by omega)]
    exact u.hi j (by omega) hs

theorem Upto.un {ops : Array Oper} {L : Array Bool} {k j : Nat} (u : Upto ops L k) (h : L.getD j true = false) : k ≤ j ∧ j < ops.size := by
  have hlt : j < L.size := by
    rcases Nat.lt_or_ge j L.size with h1 | h1
    · exact h1
    · simp [Array.getElem?_eq_none h1] at h
  rw [u.size] at hlt
  refine ⟨?_, hlt⟩
  rcases Nat.lt_or_ge j k with h1 | h1
  · have := u.lo j h1 hlt
    simp [this] at h
  · exact h1

section
variable {P : Program} {G : GT} {tt : Tab} {nt : Nat} {ops : Array Oper} {Q : Nat → Env → Bs → Prop}

theorem xAny_text (hG : GDet G) (hQ : Closed Q) {Q0 : Nat → Env → Bs → Prop} (hQ0 : ∀ n e h, Q0 n e h → Q n e h) : ∀ (l : List Oper) (k : Nat) (L : Array Bool) (n : Nat) (e : Env) (h : Bs), (∀ i, l[i]? = ops[k + i]?) → Upto ops L k → checkD G.mf nt ops.toList k l = true →
    dops G tt nt ops.toList l Q0 n e h → xAny G tt nt ops Q l.length L n e h
  | [], k, L, n, e, h, hl, hu, _, hx => by
    have hs : ops.size ≤ k := by
      have := hl 0
      simp at this
      exact this
    refine ⟨?_, hQ0 _ _ _ hx⟩
    rw [List.eq_nil_iff_forall_not_mem]
    intro j hj
    have := hu.un (mem_ready.1 hj).1
    omega
  | o :: r, k, L, n, e0, h, hl, hu, hc, hx0 => by
    obtain ⟨e, hse, hx⟩ := gs_spec hx0
    refine xAny_congr hG hQ _ _ _ _ _ _ (fun q => (hse q).symm) ?_
    have ho : ops[k]? = some o := by simpa using (hl 0).symm
    have hr : ∀ i, r[i]? = ops[k + 1 + i]? := fun i => by have := hl (i + 1); simpa [Nat.add_assoc, Nat.add_comm 1 i] using this
    have hks : k < ops.size := (Array.getElem?_eq_some_iff.1 ho).1
    simp only [checkD, Bool.and_eq_true] at hc
    obtain ⟨⟨hrd, hcl⟩, hcr⟩ := hc
    have later : ∀ j oj, ops[j]? = some oj → j ≠ k → L.getD j true = false → r[j - (k + 1)]? = some oj := by
      intro j oj hj hne hun
      have := hu.un hun
      rw [hr, show k + 1 + (j - (k + 1)) = j by omega]
      exact hj
    have hk : k ∈ Region.ready .any ops L := by
      refine mem_ready.2 ⟨by simp [hu.hi k (Nat.le_refl _) hks], o, ho, fun e he hb => ?_⟩
      simp only [readyB, List.all_eq_true, Bool.or_eq_true, Bool.not_eq_true'] at hrd
      rcases hrd e (by simpa using he) with h1 | h1
      · rw [hb] at h1; cases h1
      · have := blt_lt h1
        simp [hu.lo e.on this (by omega)]
    cases hv : vcls G.mf o.op with
    | true =>
      rw [hv] at hcl
      simp only [cond_true, Bool.and_eq_true] at hcl
      have hx' := (dop_v hv).1 hx
      obtain ⟨m, ⟨_, h1⟩, h2⟩ := gvop_sim (G := G) (tt := tt) (all := ops.toList) hG hv (e := e) (e' := e) (fun _ _ => rfl) (.inl (Sub.refl h)) _ hx'
      obtain ⟨W, _, w2, w3⟩ := laterV_get hcl.2
      have hWk : ∀ x ∈ W, k + 1 ≤ x ∧ ∃ oj, ops[x]? = some oj ∧ ∃ e ∈ oj.after, Region.binds .any e = true ∧ (e.on = k ∨ e.on ∈ W) := fun x hx => by
        rcases w2 x hx with hx | ⟨hle, oj, hoj, h9⟩
        · cases hx
        · refine ⟨hle, oj, ?_, h9⟩
          rw [hr, show k + 1 + (x - (k + 1)) = x by omega] at hoj
          exact hoj
      refine xAny_first hG hQ ho hv hcl.1 (W := W) (pr := pcls o.op) (cl := false) (fun j oj hj hjW => ?_) r.length L n e h (fun hp e' h' ha => by
        obtain ⟨y, q1, q2⟩ := gvop_sim (G := G) (tt := tt) (all := ops.toList) hG hv (h' := h') ha (.inr hp) _ (h2 _ rfl)
        exact q2 _ q1.symm) (fun hp => by cases hp) (fun j hjW => ?_) (fun j oj hj hne hun hno => ?_) hk (h2 _ rfl) (xAny_text hG hQ hQ0 r (k + 1) _ n _ h hr hu.next hcr h1)
      · obtain ⟨_, ok, hok, h9⟩ := hWk j hjW
        rw [hj] at hok
        cases hok
        exact h9
      · obtain ⟨hle, ok, hok, _⟩ := hWk j hjW
        have hlt := (Array.getElem?_eq_some_iff.1 hok).1
        have := hu.hi j (by omega) hlt
        rcases Nat.lt_or_ge j L.size with h' | h'
        · simp [h'] at this ⊢; exact this
        · simp [Array.getElem?_eq_none h']
      · have hj2 := later j oj hj hne hun
        have hge := hu.un hun
        have h9 := w3 (j - (k + 1)) oj hj2 (by rw [show k + 1 + (j - (k + 1)) = j by omega]; exact hno)
        exact ⟨h9.1, by rw [h9.2]; rfl⟩
    | false =>
      rw [hv] at hcl
      simp only [cond_false] at hcl
      intro hf
      refine xAny_only ho hk (fun j hj => ?_) (dop_move hG (fun _ _ => rfl) hf (fun n' u h' _ hk => xAny_text hG hQ hQ0 r (k + 1) _ n' _ h' hr hu.next hcr hk) hx) hf
      obtain ⟨h1, oj, hoj, hall⟩ := mem_ready.1 hj
      by_cases hne : j = k
      · exact hne
      · obtain ⟨e, he, hb, hle⟩ := laterE_get hcl (later j oj hoj hne h1)
        have h5 := hall e he hb
        rcases Nat.lt_or_ge e.on ops.size with h6 | h6
        · simp [hu.hi e.on hle h6] at h5
        · rw [← hu.size] at h6
          simp [Array.getElem?_eq_none h6] at h5

theorem vop_xop (hG : GOK P G) {o : Oper} {n : Nat} {e : Env} {h : Bs} {K : Nat → Env → Bs → Prop} (hv : vcls G.mf o.op = true) (hq : vop G tt o.op e h fun m => dstK nt o.dst m e fun e' => K n e' h) : xop (SCall P) tt nt o n e h K := by
  obtain ⟨dst, op, type, pos, after, guard⟩ := o
  cases op <;> first | (cases hv; done) | exact hq | skip
  rename_i c
  obtain ⟨f, args, ts⟩ := c
  cases f with
  | value f =>
    refine ev_mono (fun _ _ => rfl) (fun mf hm => ?_) hq
    obtain ⟨ms, h1, h2⟩ := evs_sim (e' := e) args.toList (fun _ _ _ _ => rfl) _ hm
    refine h2 _ ?_
    simp only at h1
    split at h1
    · obtain ⟨m, hk, hs, ha⟩ := hG.1 _ _ _ h1
      simp only [callK, addCaps_eq, List.map_nil, List.append_nil]
      exact hs.use ha hk
    · exact h1.elim
  | builtin b => cases b <;> first | exact hq | (cases hv; done)
  | _ => cases hv

theorem xopD_of {C : CallT} {mf : List Nat} {o : Oper} {n : Nat} {e : Env} {h : Bs} {K : Nat → Env → Bs → Prop} (hv : vcls mf o.op = true) (hx : xop C tt nt o n e h K) : xopD mf C tt nt o n e h K := by
  unfold xopD
  split
  · rename_i hop
    rw [hop] at hv
    cases hv
  · rename_i sr ds x hop
    rw [hop] at hv
    have hv : (!(Nat.beq sr ds && memN (3000000 + sr) mf) && !(memN (4000000 + sr) mf && memN (3000000 + ds) mf)) = true := hv
    rw [Bool.and_eq_true, Bool.not_eq_true', Bool.not_eq_true'] at hv
    rw [hv.1, hv.2]
    exact hx
  · exact hx

variable {B : Base}

theorem gd_sound {σ : Nat → Nat} {n : Nat} {e : Env} {h : Bs} {a : Act} {w : World} (s : Sat B nt σ n e h a w) {i : Nat} {o : Oper} (hi : ops[i]? = some o) {K : Nat → Env → Bs → Prop} {X : Prop}
    {next : Act → World → Prop} (hn : ∀ a' w', Behind B nt K a' w' → next a' w') (hX : X → Region.wanted o (yielded ops a.tmps) = true → opN P ops i next a w) (key : gd ops.toList o e X (dstK nt o.dst (.tup []) e fun e' => K n e' h)) : opN P ops i next a w := by
  have skip : dstK nt o.dst (.tup []) e (fun e' => K n e' h) → next (a.put o.dst undef) w := by
    intro hs
    obtain ⟨e2, h1, s2⟩ := dstK_sound s (.tup (by simp)) hs
    rw [M.den_tup] at s2
    exact hn _ _ ⟨σ, n, e2, h, h1, s2⟩
  rcases gd_cases key with ⟨hg, hq⟩ | ⟨j, want, g, d, t, hg, hj, hd, ht, hq⟩ | ⟨j, want, g, d, hg, hj, hd, ht, hq⟩
  · exact hX hq (by simp [Region.wanted, hg])
  · have hy := yielded_of s (ops := ops) (by simpa using hj) hd ht
    cases t <;> cases want <;> simp only [cond_true, cond_false] at hq
    · exact hX hq (by simp [Region.wanted, hg, hy])
    · exact .skip (by simp [hi, Region.wanted, hg, hy]) (by rw [hi]; exact skip hq)
    · exact .skip (by simp [hi, Region.wanted, hg, hy]) (by rw [hi]; exact skip hq)
    · exact hX hq (by simp [Region.wanted, hg, hy])
  · have hy := yielded_none s (ops := ops) (by simpa using hj) hd ht
    exact .skip (by simp [hi, Region.wanted, hg, hy]) (by rw [hi]; exact skip hq)

theorem dop_sound (hG : GOK P G) (hT : TOK P tt) {σ : Nat → Nat} {n : Nat} {e : Env} {h : Bs} {a : Act} {w : World} (s : Sat B nt σ n e h a w) {i : Nat} {o : Oper} (hi : ops[i]? = some o) {K : Nat → Env → Bs → Prop} (hk : dop G tt nt ops.toList o n e h K)
    {next : Act → World → Prop} (hn : ∀ a' w', Behind B nt K a' w' → next a' w') : opN P ops i next a w := by
  cases hcm : (!vcls G.mf o.op && !(acls G.mf o.op || scls o.op || mcls o.op || kcls G.mf o.op)) with
  | true =>
    simp only [Bool.and_eq_true, Bool.not_eq_true'] at hcm
    unfold dop at hk
    rw [hcm.1, hcm.2] at hk
    simp only [cond_false] at hk
    replace hk := cond_false_elim hk
    exact gd_sound s hi hn (fun hx hw => commK_sound hT s hx hn hi hw) hk.2
  | false =>
  have key : gd ops.toList o e (xopD G.mf (SCall P) tt nt o n e h K) (dstK nt o.dst (.tup []) e fun e' => K n e' h) := by
    unfold dop at hk
    cases hv : vcls G.mf o.op with
    | true =>
      rw [hv] at hk
      exact gd_congr (fun _ _ => rfl) (fun hq => xopD_of hv (vop_xop hG hv hq)) id hk
    | false =>
      have hcl : (acls G.mf o.op || scls o.op || mcls o.op || kcls G.mf o.op) = true := by
        rw [hv] at hcm
        cases hz : (acls G.mf o.op || scls o.op || mcls o.op || kcls G.mf o.op) with
        | true => rfl
        | false => rw [hz] at hcm; cases hcm
      rw [hv, hcl] at hk
      have hk1 := hk
      simp only [cond_false, cond_true] at hk1
      clear hk
      refine gd_congr (fun _ _ => rfl) (fun hx => ?_) id hk1
      clear hk1
      obtain ⟨dst, op, type, pos, after, guard⟩ := o
      simp only at hcl hv
      cases op <;> first | (cases hcl; done) | exact hx | skip
      case call c =>
        obtain ⟨f, args, ts⟩ := c
        cases f with
        | builtin b => cases b <;> first | (cases hcl; done) | exact hx
        | value f =>
          have hx : ev e f fun mf => evs e args.toList fun ms => callK G.D nt dst mf ms n e h K := hx
          show ev e f fun mf => evs e args.toList fun ms => callK (SCall P) nt dst mf ms n e h K
          refine ev_mono (fun _ _ => rfl) (fun mf hm => ?_) hx
          obtain ⟨ms, h1, h2⟩ := evs_sim (e' := e) args.toList (fun _ _ _ _ => rfl) _ hm
          refine h2 _ ?_
          unfold callK at h1 ⊢
          split at h1
          · rw [addCaps_eq] at h1 ⊢
            exact hG.2 _ _ _ _ _ h1
          · exact h1.elim
        | _ => cases hcl
  exact gd_sound s hi hn (fun hx hw => .of_wp hi hw (xopD_sound (COK.self P) hT s hx hn)) key

theorem xAny_sound (hG : GOK P G) (hT : TOK P tt) {Q' : Act → World → Prop} (hQ' : ∀ a w, Behind B nt Q a w → Q' a w) : ∀ (f : Nat) (L : Array Bool) (σ : Nat → Nat) (n : Nat) (e : Env) (h : Bs) (a : Act) (w : World),
    Sat B nt σ n e h a w → xAny G tt nt ops Q f L n e h → anyN P .any ops Q' f L a w
  | 0, _, σ, n, e, h, a, w, s, hx => ⟨hx.1, hQ' a w ⟨σ, n, e, h, hx.2, s⟩⟩
  | f + 1, L, σ, n, e, h, a, w, s, hx => by
    obtain ⟨h1, h2⟩ := hx s.mem.lt
    refine ⟨fun h0 => hQ' a w ⟨σ, n, e, h, h1 h0, s⟩, fun i hi => ?_⟩
    obtain ⟨_, o, ho, _⟩ := mem_ready.1 hi
    refine dop_sound hG hT s ho (h2 i hi o ho) ?_
    rintro a' w' ⟨σ', n', e', h', hx', s'⟩
    exact xAny_sound hG hT hQ' f _ σ' n' e' h' a' w' s' hx'

theorem SWp.draw (hD : GDet G) (hG : GOK P G) (hT : TOK P tt) (hm : P.follows .mixedOrders = true) {k id n : Nat} {e : Env} {h : Bs} {Q : Exit → Nat → Env → Bs → Prop} (hc : checkD G.mf nt ops.toList 0 ops.toList = true)
    (hx : dops G tt nt ops.toList ops.toList (Q .normal) n e h) : SWp P nt k (.region id ops true) Q n e h := by
  refine ⟨fun B σ a w _ s => wp_region_any hm ?_⟩
  have hcl : Closed (fun n e h => ∃ e0, Same e e0 ∧ Q .normal n e0 h) := by
    rintro n e e' h hs ⟨e0, h1, h2⟩
    exact ⟨e0, fun q => (hs q).symm.trans (h1 q), h2⟩
  have h0 := xAny_text (G := G) (tt := tt) (nt := nt) (ops := ops) hD hcl (Q0 := Q .normal) (fun n e h hq => ⟨e, fun _ => rfl, hq⟩) ops.toList 0 (Array.replicate ops.size false) n e h (by simp) ⟨by simp, fun j hj => absurd hj (Nat.not_lt_zero _), fun j _ hj => by simp [hj]⟩ hc hx
  rw [Array.length_toList] at h0
  refine xAny_sound hG hT ?_ ops.size _ σ n e h a _ s.drew h0
  rintro a' w' ⟨σ', n', e', h', ⟨e0, h1, h2⟩, s'⟩
  exact ⟨σ', n', e0, h', h2, s'.sub fun t m ht => by rw [h1 t]; exact ht⟩

end

/-! ### Every order, one by one -/

def rdyB (ds : List Nat) (i : Nat) (o : Oper) : Bool := !(memN i ds) && o.after.toList.all fun e => !Region.binds .any e || memN e.on ds

def anyR (ds : List Nat) : Nat → List Oper → Bool
  | _, [] => false
  | i, o :: r => rdyB ds i o || anyR ds (i + 1) r

def eachR (F : Nat → Oper → Prop) (ds : List Nat) : Nat → List Oper → Prop
  | _, [] => True
  | i, o :: r => bif rdyB ds i o then F i o ∧ eachR F ds (i + 1) r else eachR F ds (i + 1) r

theorem anyR_get {ds : List Nat} : ∀ {l : List Oper} {i j : Nat} {o : Oper}, l[j]? = some o → rdyB ds (i + j) o = true → anyR ds i l = true
  | [], _, _, _, h, _ => by simp at h
  | x :: r, i, 0, o, h, hr => by
    simp at h; subst h
    simp only [anyR, Bool.or_eq_true]; exact .inl (by simpa using hr)
  | x :: r, i, j + 1, o, h, hr => by
    simp only [anyR, Bool.or_eq_true]
    exact .inr (anyR_get (by simpa using h) (by rw [show i + 1 + j = i + (j + 1) by omega]; exact hr))

theorem eachR_get {F : Nat → Oper → Prop} {ds : List Nat} : ∀ {l : List Oper} {i j : Nat} {o : Oper}, eachR F ds i l → l[j]? = some o → rdyB ds (i + j) o = true → F (i + j) o
  | [], _, _, _, _, h, _ => by simp at h
  | x :: r, i, j, o, hE, h, hr => by
    simp only [eachR] at hE
    cases hx : rdyB ds i x with
    | true =>
      rw [hx] at hE
      cases j with
      | zero => simp at h; subst h; exact hE.1
      | succ j =>
        have := eachR_get (j := j) hE.2 (by simpa using h) (by rw [show i + 1 + j = i + (j + 1) by omega]; exact hr)
        rwa [show i + 1 + j = i + (j + 1) by omega] at this
    | false =>
      rw [hx] at hE
      cases j with
      | zero =>
        simp at h; subst h
        rw [Nat.add_zero, hx] at hr; cases hr
      | succ j =>
        have := eachR_get (j := j) hE (by simpa using h) (by rw [show i + 1 + j = i + (j + 1) by omega]; exact hr)
        rwa [show i + 1 + j = i + (j + 1) by omega] at this

structure Done (ops : Array Oper) (L : Array Bool) (ds : List Nat) : Prop where
  size : L.size = ops.size
  is : ∀ i, i < ops.size → L[i]? = some (memN i ds)
  lt : ∀ d ∈ ds, d < ops.size

theorem Done.next {ops : Array Oper} {L : Array Bool} {ds : List Nat} (u : Done ops L ds) {k : Nat} (hk : k < ops.size) : Done ops (L.setIfInBounds k true) (k :: ds) := by
  refine ⟨by simp [u.size], fun i hi => ?_, fun d hd => ?_⟩
  · rw [Array.getElem?_setIfInBounds]
    split
    · rename_i h; subst h; simp [u.size, hk, memN]
    · rename_i h
      rw [u.is i hi]
      simp only [memN]
      rw [show Nat.beq i k = false from by
        cases hb : Nat.beq i k with
        | true => exact absurd (Nat.eq_of_beq_eq_true hb).symm h
        | false => rfl, Bool.false_or]
  · rcases List.mem_cons.1 hd with rfl | hd
    · exact hk
    · exact u.lt d hd

theorem Done.ready {ops : Array Oper} {L : Array Bool} {ds : List Nat} (u : Done ops L ds) {i : Nat} {o : Oper} (ho : ops[i]? = some o) : i ∈ Region.ready .any ops L ↔ rdyB ds i o = true := by
  have hlt : i < ops.size := (Array.getElem?_eq_some_iff.1 ho).1
  have hg : ∀ q, L.getD q false = memN q ds := by
    intro q
    rcases Nat.lt_or_ge q ops.size with h | h
    · simp [u.is q h]
    · have : memN q ds = false := by
        cases hm : memN q ds with
        | true => have := u.lt q (of_memN hm); omega
        | false => rfl
      rw [this]
      simp [Array.getElem?_eq_none (show L.size ≤ q by rw [u.size]; exact h)]
  rw [mem_ready]
  simp only [rdyB, Bool.and_eq_true, Bool.not_eq_true', List.all_eq_true, Bool.or_eq_true]
  constructor
  · rintro ⟨h1, o', ho', h2⟩
    rw [ho] at ho'
    cases ho'
    refine ⟨?_, fun e he => ?_⟩
    · simpa [u.is i hlt] using h1
    · cases hb : Region.binds .any e with
      | false => exact .inl rfl
      | true => right; rw [← hg]; exact h2 e (by simpa using he) hb
  · rintro ⟨h1, h2⟩
    refine ⟨by simp [u.is i hlt, h1], o, ho, fun e he hb => ?_⟩
    rcases h2 e (by simpa using he) with h3 | h3
    · rw [hb] at h3; cases h3
    · rw [hg]; exact h3

section
variable {P : Program} {G : GT} {tt : Tab} {nt : Nat} {ops : Array Oper} {Q : Nat → Env → Bs → Prop}

end

section
variable {P : Program} {G : GT} {tt : Tab} {nt : Nat} {ops : Array Oper} {Q : Nat → Env → Bs → Prop} {B : Base}

end
end Go.Sx
