/- Regions that draw the order of their operations: whatever order, as in the text. Holds for every program. -/
import Derived.Test.YtgbikcniediomaaSx16
namespace Go.Sx
set_option linter.unusedSimpArgs false
set_option linter.unusedVariables false

section
variable {P : Program} {G : GT} {tt : Tab} {nt : Nat} {ops : Array Oper} {Q : Nat → Env → Bs → Prop}

def xAny (G : GT) (tt : Tab) (nt : Nat) (ops : Array Oper) (Q : Nat → Env → Bs → Prop) : Nat → Array Bool → Nat → Env → Bs → Prop
  | 0, L, n, e, h => Region.ready .any ops L = [] ∧ Q n e h
  | f + 1, L, n, e, h => (∀ j k, get h j = some k → j < n) → (Region.ready .any ops L = [] → Q n e h) ∧
    ∀ i ∈ Region.ready .any ops L, ∀ o, ops[i]? = some o → dop G tt nt ops.toList o n e h fun n e h => xAny G tt nt ops Q f (L.setIfInBounds i true) n e h

def Closed (Q : Nat → Env → Bs → Prop) : Prop := ∀ n e e' h, Same e e' → Q n e h → Q n e' h

theorem gs_spec {all : List Oper} {o : Oper} {e : Env} {F : Env → Prop} (h : gs all o e F) : ∃ e', Same e e' ∧ F e' := by
  have key : ∀ (d : Nat) (m : M), get e d = some m → Same e (put e d m) := by
    intro d m hm q
    rw [get_put]
    split
    · rename_i h; subst h; exact hm
    · rfl
  unfold gs at h
  split at h
  · exact ⟨e, fun _ => rfl, h⟩
  · split at h
    · exact h.elim
    · split at h
      · exact h.elim
      · split at h
        · rename_i t ht
          cases t
          · exact ⟨_, key _ _ ht, h⟩
          · exact ⟨_, key _ _ ht, h⟩
        · exact ⟨e, fun _ => rfl, h⟩
        · exact h.elim

theorem Same.agr {e e' : Env} (hs : Same e e') (l : List Nat) : AgrL e e' l := fun t _ => (hs t).symm

theorem Same.dput {e e' : Env} (hs : Same e e') (d : Option Nat) (m : M) : Same (dput d m e) (dput d m e') := by
  intro q
  cases d with
  | none => exact hs q
  | some d => simp only [Sx.dput, get_put, hs q]

theorem xAny_congr (hG : GDet G) (hQ : Closed Q) : ∀ (f : Nat) (L : Array Bool) (n : Nat) (e e' : Env) (h : Bs), Same e e' → xAny G tt nt ops Q f L n e h → xAny G tt nt ops Q f L n e' h
  | 0, _, _, _, _, _, hs, hx => ⟨hx.1, hQ _ _ _ _ hs hx.2⟩
  | f + 1, _, _, _, _, _, hs, hx => fun hf =>
    ⟨fun h0 => hQ _ _ _ _ hs ((hx hf).1 h0), fun i hi o ho => dop_move hG (hs.agr _) hf (fun _ _ _ _ hk => xAny_congr hG hQ f _ _ _ _ _ (hs.dput _ _) hk) ((hx hf).2 i hi o ho)⟩

structure Apart (all : List Oper) (x y : Oper) : Prop where
  xy : ∀ d, x.dst = some d → d ∉ looks all y
  ne : ∀ d, x.dst = some d → y.dst ≠ some d
  yx : ∀ d, y.dst = some d → d ∉ looks all x

theorem agr_dput {all : List Oper} {o : Oper} {d : Option Nat} {m : M} {e : Env} (hd : ∀ k, d = some k → k ∉ looks all o) : AgrL (dput d m e) e (looks all o) := by
  intro t ht
  cases d with
  | none => rfl
  | some d =>
    simp only [dput, get_put]
    split
    · rename_i h; subst h; exact absurd ht (hd _ rfl)
    · rfl

theorem agr_dput' {all : List Oper} {o : Oper} {d : Option Nat} {m : M} {e : Env} (hd : ∀ k, d = some k → k ∉ looks all o) : AgrL e (dput d m e) (looks all o) :=
  fun t ht => (agr_dput (m := m) (e := e) hd t ht).symm

theorem dput_comm {d d' : Option Nat} {m m' : M} {e : Env} (hne : ∀ k, d = some k → d' ≠ some k) : Same (dput d m (dput d' m' e)) (dput d' m' (dput d m e)) := by
  intro q
  cases d <;> cases d' <;> simp only [dput, get_put]
  rename_i a b
  have : b ≠ a := fun h => hne a rfl (by rw [h])
  split <;> split <;> first | rfl | omega

theorem xAny_first (hG : GDet G) (hQ : Closed Q) {i : Nat} {o : Oper} (hi : ops[i]? = some o) (hv : vcls G.mf o.op = true) (hd : dok nt o.dst = true) {m : M} {W : List Nat} {pr cl : Bool}
    (hW : ∀ j oj, ops[j]? = some oj → j ∈ W → ∃ e ∈ oj.after, Region.binds .any e = true ∧ (e.on = i ∨ e.on ∈ W)) :
    ∀ (f : Nat) (L : Array Bool) (n : Nat) (e : Env) (h : Bs),
      (pr = true → ∀ e' h', AgrL e e' (looks ops.toList o) → gvop G tt ops.toList o e' h' (fun y => y = m)) →
      (cl = true → ∀ e' h', AgrL e e' (looks ops.toList o) → SubC h h' → gvop G tt ops.toList o e' h' (fun y => y = m)) →
      (∀ j ∈ W, L.getD j false = false) →
      (∀ j oj, ops[j]? = some oj → j ≠ i → L.getD j true = false → j ∉ W → Apart ops.toList o oj ∧ (vcls G.mf oj.op || acls G.mf oj.op || pr || (cl && mcl1 oj.op)) = true) →
      i ∈ Region.ready .any ops L → gvop G tt ops.toList o e h (fun y => y = m) →
      xAny G tt nt ops Q f (L.setIfInBounds i true) n (dput o.dst m e) h → xAny G tt nt ops Q (f + 1) L n e h := by
  intro f
  have own : ∀ {f : Nat} {L : Array Bool} {n : Nat} {e : Env} {h : Bs} {j : Nat} {oj : Oper}, j = i → ops[j]? = some oj → gvop G tt ops.toList o e h (fun y => y = m) →
      xAny G tt nt ops Q f (L.setIfInBounds i true) n (dput o.dst m e) h →
      dop G tt nt ops.toList oj n e h fun n e h => xAny G tt nt ops Q f (L.setIfInBounds j true) n e h := by
    intro f L n e h j oj hji hoj hy H
    subst hji
    rw [hi] at hoj
    cases hoj
    rw [dop_v hv]
    exact (gvop_sim hG hv (fun _ _ => rfl) (.inl (Sub.refl h))).use hy ⟨hd, H⟩
  induction f with
  | zero =>
    intro L n e h _ _ _ _ hr hy H hf
    refine ⟨fun h0 => (by rw [h0] at hr; cases hr), fun j hj oj hoj => ?_⟩
    by_cases hji : j = i
    · exact own hji hoj hy H
    · have := ready_mono hj hji
      rw [H.1] at this
      cases this
  | succ f ih =>
    intro L n e h hpr hcr hU hfree hr hy H hf
    refine ⟨fun h0 => (by rw [h0] at hr; cases hr), fun j hj oj hoj => ?_⟩
    by_cases hji : j = i
    · exact own hji hoj hy H
    · have h1 := (H hf).2 j (ready_mono hj hji) oj hoj
      obtain ⟨hjun, oj', hoj', hall⟩ := mem_ready.1 hj
      rw [hoj] at hoj'
      cases hoj'
      have hnot : j ∉ W := fun hjW => by
        obtain ⟨e, he, hb, hor⟩ := hW j oj hoj hjW
        have h1 := hall e he hb
        rcases hor with heq | hin
        · have h0 := (mem_ready.1 hr).1
          rw [heq] at h1
          rcases Nat.lt_or_ge i L.size with h' | h'
          · simp [h'] at h0 h1; rw [h0] at h1; cases h1
          · simp [Array.getElem?_eq_none h'] at h1
        · have h0 := hU e.on hin
          rcases Nat.lt_or_ge e.on L.size with h' | h'
          · simp [h'] at h0 h1; rw [h0] at h1; cases h1
          · simp [Array.getElem?_eq_none h'] at h1
      obtain ⟨hap, hcl⟩ := hfree j oj hoj hji hjun hnot
      have hU' : ∀ k ∈ W, (L.setIfInBounds j true).getD k false = false := fun k hk => by
        have hne : j ≠ k := fun h => hnot (h ▸ hk)
        have := hU k hk
        simp only [Array.getD_eq_getD_getElem?, Array.getElem?_setIfInBounds, hne, if_false] at this ⊢
        exact this
      have hfree' : ∀ k ok, ops[k]? = some ok → k ≠ i → (L.setIfInBounds j true).getD k true = false →
          k ∉ W → Apart ops.toList o ok ∧ (vcls G.mf ok.op || acls G.mf ok.op || pr || (cl && mcl1 ok.op)) = true := fun k ok hk hki hun hno => by
        refine hfree k ok hk hki ?_ hno
        by_cases hjk : j = k
        · subst hjk; exact hjun
        · rw [getD_set_ne true hjk] at hun; exact hun
      refine dop_move hG (agr_dput hap.xy) hf (fun n' u h' hs hk => ?_) (dop_cells hf h1)
      obtain ⟨hk, hsc⟩ := hk
      have hy' : gvop G tt ops.toList o (dput oj.dst u e) h' (fun y => y = m) := by
        cases hp : pr with
        | true => exact hpr hp _ _ (agr_dput' hap.yx)
        | false =>
          rw [hp, Bool.or_false] at hcl
          cases hva : vcls G.mf oj.op || acls G.mf oj.op with
          | true =>
            obtain ⟨y, h2, h3⟩ := gvop_sim (G := G) (tt := tt) hG hv (e' := dput oj.dst u e) (h' := h') (agr_dput' hap.yx) (.inl (hs hva)) _ hy
            exact h3 _ h2
          | false =>
            rw [hva, Bool.false_or, Bool.and_eq_true] at hcl
            exact hcr hcl.1 _ _ (agr_dput' hap.yx) (hsc hcl.2)
      refine ih (L.setIfInBounds j true) n' _ h' (fun hp e2 h2 ha => hpr hp e2 h2 fun q hq => (ha q hq).trans (agr_dput' hap.yx q hq)) (fun hp e2 h2 ha hs2 => ?_) hU' hfree' (ready_mono hr (Ne.symm hji)) hy' ?_
      · cases hpp : pr with
        | true => exact hpr hpp _ _ fun q hq => (ha q hq).trans (agr_dput' hap.yx q hq)
        | false =>
          rw [hpp, Bool.or_false] at hcl
          have hsub : SubC h h' := by
            cases hva : vcls G.mf oj.op || acls G.mf oj.op with
            | true => exact (hs hva).c
            | false =>
              rw [hva, Bool.false_or, Bool.and_eq_true] at hcl
              exact hsc hcl.2
          exact hcr hp e2 h2 (fun q hq => (ha q hq).trans (agr_dput' hap.yx q hq)) (hsub.trans hs2)
      · rw [Array.setIfInBounds_comm _ _ hji]
        exact xAny_congr hG hQ _ _ _ _ _ _ (dput_comm (fun k hk => by
          intro h5
          exact hap.ne k h5 hk)) hk

theorem xAny_only {i : Nat} {o : Oper} (hi : ops[i]? = some o) {f : Nat} {L : Array Bool} {n : Nat} {e : Env} {h : Bs} (hr : i ∈ Region.ready .any ops L) (ho : ∀ j ∈ Region.ready .any ops L, j = i)
    (hx : dop G tt nt ops.toList o n e h fun n e h => xAny G tt nt ops Q f (L.setIfInBounds i true) n e h) : xAny G tt nt ops Q (f + 1) L n e h := fun _ =>
  ⟨fun h0 => (by rw [h0] at hr; cases hr), fun j hj oj hoj => by
    have := ho j hj
    subst this
    rw [hi] at hoj
    cases hoj
    exact hx⟩

end
end Go.Sx
