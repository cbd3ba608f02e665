/- Contracts of functions that write memory handed to them, or hand back new memory. Holds for every program. -/
import Derived.Test.YtjdlefkpoggocaaSx23
namespace Go.Sx
set_option linter.unusedSimpArgs false
set_option linter.unusedVariables false

mutual
theorem RK.sv_pure : ∀ (f : RK) (x : RK.T f), (RK.sv f x).isPure = true
  | .int _, _ => rfl
  | .bool, _ => rfl
  | .str, _ => rfl
  | .ints _ _, _ => rfl
  | .sl _ _, _ => rfl
theorem RK.svs_pure : ∀ (fs : List RK) (x : RK.TL fs), (RK.svs fs x).all SV.isPure = true
  | [], _ => rfl
  | f :: r, x => by
    show (SV.isPure (RK.sv f x.1) && (RK.svs r x.2).all SV.isPure) = true
    rw [RK.sv_pure f x.1, RK.svs_pure r x.2]
    rfl
end
theorem Enc.pure {α : Type} (E : Enc α) (y : α) : (E.enc y).all SV.isPure = true := by rw [E.henc]; exact RK.svs_pure _ _
theorem Enc.pures {α : Type} (E : Enc α) (y : α) : ∀ s ∈ E.enc y, s.isPure = true := List.all_eq_true.1 (E.pure y)
theorem quietH_all : ∀ h : Bs, quietH h
  | [] => trivial
  | (_, .cells _) :: r => ⟨trivial, quietH_all r⟩
  | (_, .row _ enc _ _) :: r => ⟨fun y => enc.pure y, quietH_all r⟩
  | (_, .obj _) :: r => ⟨trivial, quietH_all r⟩

abbrev MT := List M → Nat → Bs → (Nat → M → Bs → Prop) → Prop
def MMono (T : MT) : Prop := ∀ args n h (K K' : Nat → M → Bs → Prop), (∀ n m h, K n m h → K' n m h) → T args n h K → T args n h K'
structure MOK (P : Program) (f : Nat) (T : MT) : Prop where
  ok : ∀ args n h K, T args n h K → SCall P f args n h K
  mono : MMono T
abbrev MSpec := List (Nat × MT)
def MSOK (P : Program) (l : MSpec) : Prop := ∀ p ∈ l, MOK P p.1 p.2
theorem MSOK.nil {P : Program} : MSOK P [] := fun _ h => by cases h
theorem MSOK.cons {P : Program} {f : Nat} {T : MT} {l : MSpec} (h : MOK P f T) (hl : MSOK P l) : MSOK P ((f, T) :: l) := fun p hp => by
  rcases List.mem_cons.1 hp with rfl | hp
  · exact h
  · exact hl p hp

def mtD (mt : MSpec) : CallT := fun f args n h K => match get mt f with
  | some T => frzA args h fun ms h => T ms n h K
  | none => False

def numsM : MSpec → List Nat
  | [] => []
  | (f, _) :: r => f :: numsM r

/-- Contracts, and contracts with memory. -/
def gm (l : Spec) (mt : MSpec) : GT := ⟨gtF l, mtD mt, numsM mt⟩

theorem frzS_mono {s : SV} {h : Bs} {K K' : SV → Bs → Prop} (hk : ∀ s h, K s h → K' s h) (hq : frzS s h K) : frzS s h K' := by
  unfold frzS at hq ⊢
  split at hq
  · split at hq
    · obtain ⟨hb, h1, h2, h3, h4⟩ := cond_false_elim hq
      rw [hb]
      exact ⟨h1, h2, h3, fun x => hk _ _ (h4 x)⟩
    · exact hq.elim
  · split at hq
    · obtain ⟨hb, h1, h2, h3, h5, h4⟩ := cond_false_elim hq
      rw [hb]
      exact ⟨h1, h2, h3, h5, fun x => hk _ _ (h4 x)⟩
    · exact hq.elim
  · exact hk _ _ hq
theorem frzL_mono : ∀ {l : List SV} {h : Bs} {K K' : List SV → Bs → Prop}, (∀ s h, K s h → K' s h) → frzL l h K → frzL l h K'
  | [], _, _, _, hk, hq => hk _ _ hq
  | _ :: _, _, _, _, hk, hq => frzS_mono (fun _ _ h1 => frzL_mono (fun _ _ h2 => hk _ _ h2) h1) hq
theorem frzM_mono {m : M} {h : Bs} {K K' : M → Bs → Prop} (hk : ∀ s h, K s h → K' s h) (hq : frzM m h K) : frzM m h K' := by
  cases m with
  | one s => exact frzS_mono (K := fun s h => K (.one s) h) (K' := fun s h => K' (.one s) h) (fun _ _ h1 => hk _ _ h1) hq
  | agg l => exact frzL_mono (K := fun l h => K (.agg l) h) (K' := fun l h => K' (.agg l) h) (fun _ _ h1 => hk _ _ h1) hq
  | tup l => exact hk _ _ hq
theorem frzA_mono : ∀ {l : List M} {h : Bs} {K K' : List M → Bs → Prop}, (∀ s h, K s h → K' s h) → frzA l h K → frzA l h K'
  | [], _, _, _, hk, hq => hk _ _ hq
  | _ :: _, _, _, _, hk, hq => frzM_mono (fun _ _ h1 => frzA_mono (fun _ _ h2 => hk _ _ h2) h1) hq

theorem mtD_mono {P : Program} {mt : MSpec} (hM : MSOK P mt) : DMono (mtD mt) := fun f args n h K K' hk hq => by
  unfold mtD at hq ⊢
  split at hq
  · rename_i T ht
    exact frzA_mono (fun ms h' h1 => (hM _ (get_mem ht)).mono _ _ _ _ _ hk h1) hq
  · exact hq.elim

/-- Calls: bodies in place, contracts with memory (own rows handed to them are given up), contracts. -/
def cm (G : GT) (mt : MSpec) (tt : Tab) (inl : List (Nat × Inl)) : Nat → CallT
  | 0 => fun _ _ _ _ _ => False
  | d + 1 => fun f args n h K => match get inl f with
    | some i => (match i.fn.body with
      | some c => bif Nat.ble args.length i.fn.ntmps then xc (cm G mt tt inl d) G tt i.fn.ntmps n i.un i.inv i.lab 1000 c (finQ tt i.fn.results.toList K) n (params 0 args) h else False
      | none => False)
    | none => (match get mt f with
      | some T => frzA args h fun ms h => T ms n h K
      | none => callL G f args n h K)

section
variable {P : Program} {tt : Tab}

theorem SCall.frz {f n : Nat} {args : List M} {h : Bs} {K : Nat → M → Bs → Prop} {T : MT} (hT : MOK P f T) (hk : frzA args h fun ms h => T ms n h K) : SCall P f args n h K := by
  refine ⟨fun B σ w s hargs => ?_⟩
  obtain ⟨ms, h', k1, d1, e1, o1⟩ := frzA_sound s hargs hk
  rw [← e1]
  refine ((hT.ok _ _ _ _ k1).out B σ w (s.sub d1) o1).mono ?_
  rintro e w1 ⟨σ', n', m, h2, g1, g2, g3, g4, g5, g6, g7⟩
  exact ⟨σ', n', m, h2, g1, g2, g3, g4, g5, g6, fun b hb hna => g7 b hb fun h1 => hna (d1.av h1)⟩

theorem mtD_ok {mt : MSpec} (hM : MSOK P mt) : COK P (mtD mt) := fun f args n h K hk => by
  unfold mtD at hk
  split at hk
  · rename_i T ht
    exact SCall.frz (hM _ (get_mem ht)) hk
  · exact hk.elim
theorem gm_det {l : Spec} (h : SOK P l) {mt : MSpec} (hM : MSOK P mt) : GDet (gm l mt) := ⟨h.detF, mtD_mono hM⟩
theorem gm_ok {l : Spec} (h : SOK P l) {mt : MSpec} (hM : MSOK P mt) : GOK P (gm l mt) := ⟨h.okF, mtD_ok hM⟩

theorem cm_ok {G : GT} (hD : GDet G) (hG : GOK P G) (hT : TOK P tt) (hm : P.follows .mixedOrders = true) {mt : MSpec} (hM : MSOK P mt) {inl : List (Nat × Inl)} (hI : IOK P inl) : ∀ d, COK P (cm G mt tt inl d)
  | 0 => fun _ _ _ _ _ hk => hk.elim
  | d + 1 => fun f args n h K hk => by
    unfold cm at hk
    split at hk
    · rename_i i hi
      obtain ⟨h1, h2⟩ := hI _ (get_mem hi)
      split at hk
      · rename_i c hc
        obtain ⟨hb, hk⟩ := cond_false_elim hk
        exact SCall.body hT h2 h1 hc (Nat.le_of_ble_eq_true hb) (xc_sound (cm_ok hD hG hT hm hM hI d) hD hG hT hm 1000 _ _ _ _ _ hk)
      · exact hk.elim
    · split at hk
      · rename_i T ht
        exact SCall.frz (hM _ (get_mem ht)) hk
      · exact callL_ok hG f args n h K hk

/-- A function by its body; what it calls by tables. -/
theorem SFun.inm (tb : Spec) (hS : SOK P tb) (mt : MSpec) (hM : MSOK P mt) (hT : TOK P tt) (hm : P.follows .mixedOrders = true) (inl : List (Nat × Inl)) (hI : IOK P inl) (un : Bool) (inv : List (Nat × Inv)) (lab : List (Nat × (Nat × Inv))) {f : Nat} {fn : Func} {c : Code} {args : List M} {res : M}
    (hentry : ∀ (vs : Array Value) (w : World), (callFunc f vs).run P w = .ok (.enter f vs) w)
    (hf : P.funcs[f]? = some fn) (hb : fn.body = some c) (hl : Nat.ble args.length fn.ntmps = true)
    (hx : xc (cm (gm tb mt) mt tt inl 40) (gm tb mt) tt fn.ntmps 0 un inv lab 1000 c (finQ tt fn.results.toList fun _ m _ => m = res ∧ m.pure = true) 0 (params 0 args) []) : SFun P f args res :=
  ⟨SCall.body hT hentry hf hb (Nat.le_of_ble_eq_true hl) (xc_sound (cm_ok (gm_det hS hM) (gm_ok hS hM) hT hm hM hI 40) (gm_det hS hM) (gm_ok hS hM) hT hm 1000 _ _ _ _ _ hx)⟩

/-- What comes of a call, in its own numbers. -/
structure Out : Type 1 where
  n : Nat
  m : M
  h : Bs

/-- From the blocks h0, of which the first numbers are, to one of the outcomes. -/
structure SMem (P : Program) (f : Nat) (args : List M) (n0 : Nat) (h0 : Bs) {ο : Type} (O : ο → Out) : Prop where
  spec : SCall P f args n0 h0 fun n' m h' => ∃ o, n' = (O o).n ∧ m = (O o).m ∧ h' = (O o).h

theorem SCall.weaken {f n : Nat} {args : List M} {h : Bs} {K K' : Nat → M → Bs → Prop} (spec : SCall P f args n h K)
    (hK : ∀ n' m h', K n' m h' → ∃ n2 m2 h2, K' n2 m2 h2 ∧ Imp0 n n' [(0, m)] h' n2 [(0, m2)] h2) : SCall P f args n h K' := by
  refine ⟨fun B σ w s hargs => ?_⟩
  refine (spec.out (B.now σ n h w) σ w s.rebase hargs).mono ?_
  rintro e w1 ⟨σ', n', m, h', rfl, k1, g3, g4, s1, g6, -⟩
  obtain ⟨n2, m2, h2, k2, hi⟩ := hK _ _ _ k1
  have hs : Sat (B.now σ n h w) 1 σ' n' [(0, m)] h' { tmps := #[m.den σ'], defers := [] } w1 := by
    refine ⟨s1, rfl, rfl, fun q x hq => ?_, fun q x hq => ?_⟩
    · simp only [get] at hq
      cases hb : Nat.beq 0 q with
      | true =>
        rw [hb] at hq
        cases hq
        have := Nat.eq_of_beq_eq_true hb
        subst this
        rfl
      | false => rw [hb] at hq; cases hq
    · simp only [get] at hq
      cases hb : Nat.beq 0 q with
      | true => rw [hb] at hq; cases hq; exact g6
      | false => rw [hb] at hq; cases hq
  obtain ⟨σ2, s2⟩ := hi.to (B := B.now σ n h w) hs
  have h0 : get [((0 : Nat), m2)] 0 = some m2 := rfl
  have e0 : m.den σ' = m2.den σ2 := s2.env 0 m2 h0
  obtain ⟨q1, q2, q3, q4⟩ := s.unbase s2.mem
  exact ⟨σ2, n2, m2, h2, by rw [e0], k2, q3, q4, q1, s2.ok 0 m2 h0, q2⟩

theorem SMem.inm {ο : Type} {O : ο → Out} (tb : Spec) (hS : SOK P tb) (mt : MSpec) (hM : MSOK P mt) (hT : TOK P tt) (hm : P.follows .mixedOrders = true) (inl : List (Nat × Inl)) (hI : IOK P inl) (un : Bool) (inv : List (Nat × Inv)) (lab : List (Nat × (Nat × Inv))) {f n0 : Nat} {h0 : Bs} {fn : Func} {c : Code} {args : List M}
    (hentry : ∀ (vs : Array Value) (w : World), (callFunc f vs).run P w = .ok (.enter f vs) w)
    (hf : P.funcs[f]? = some fn) (hb : fn.body = some c) (hl : Nat.ble args.length fn.ntmps = true)
    (hx : xc (cm (gm tb mt) mt tt inl 40) (gm tb mt) tt fn.ntmps n0 un inv lab 1000 c (finQ tt fn.results.toList fun n m h => ∃ o, Imp0 n0 n [(0, m)] h (O o).n [(0, (O o).m)] (O o).h) n0 (params 0 args) h0) : SMem P f args n0 h0 O :=
  ⟨SCall.weaken (SCall.body hT hentry hf hb (Nat.le_of_ble_eq_true hl) (xc_sound (cm_ok (gm_det hS hM) (gm_ok hS hM) hT hm hM hI 40) (gm_det hS hM) (gm_ok hS hM) hT hm 1000 _ _ _ _ _ hx))
    fun n' m h' ⟨o, hi⟩ => ⟨_, _, _, ⟨o, rfl, rfl, rfl⟩, hi⟩⟩

theorem SMem.use {ο : Type} {O : ο → Out} {f n0 n : Nat} {args0 args : List M} {h0 h : Bs} {K : Nat → M → Bs → Prop} (s : SMem P f args0 n0 h0 O) (ρ : Nat → Nat)
    (ha : args0.map (M.ren ρ) = args) (hai : args0.all (M.idB n0) = true) (hh : impH ρ n0 h h0) (hd : noDup (h0.map fun p => ρ p.1) = true) (hc : ∀ j, j < n0 → ∃ k, get h0 j = some k)
    (hK : ∀ o, K (n + ((O o).n - n0)) ((O o).m.ren (tau ρ n0 n)) (renH (tau ρ n0 n) (O o).h ++ delL (h0.map fun p => ρ p.1) h)) : SCall P f args n h K :=
  s.spec.frame ρ ha hai hh hd hc fun n' m h' ⟨o, h1, h2, h3⟩ => by subst h1; subst h2; subst h3; exact ⟨quietH_all _, hK o⟩

/-- The views of the arguments told in another way. -/
theorem SCall.seen {f n : Nat} {ms ms' : List M} {h : Bs} {K : Nat → M → Bs → Prop} (s : SCall P f ms' n h K) (hv : VEqs ms ms') : SCall P f ms n h K := by
  refine ⟨fun B σ w sm hargs => ?_⟩
  have h1 : ms'.map (M.den σ) = ms.map (M.den σ) := (VEqs.den hv σ).symm
  rw [← h1]
  exact s.out B σ w sm (VEqs.ok hv hargs)
end
end Go.Sx
