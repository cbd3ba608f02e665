/- A state told by other blocks: an owner opened into its parts, and shut again. Holds for every program. -/
import Derived.Test.YtblapbjafbmndaaDoorSx24
namespace Go.Sx
set_option linter.unusedSimpArgs false
set_option linter.unusedVariables false

section
variable {P : Program} {B : Base} {σ : Nat → Nat} {n : Nat} {h : Bs} {w : World}

theorem Mem.reform (s : Mem B σ n h w) {σ' : Nat → Nat} {n' : Nat} {H : Bs} (hk : B.k ≤ n') (ha : ∀ j, j < B.k → σ' j = σ j) (hlt : ∀ j k, get H j = some k → j < n')
    (hinj : ∀ i j k k' b, get H i = some k → get H j = some k' → k.occ (σ' i) b → k'.occ (σ' j) b → i = j)
    (hocc : ∀ j k b, get H j = some k → k.occ (σ' j) b → ∃ i k0, get h i = some k0 ∧ k0.occ (σ i) b)
    (hh : ∀ j k, get H j = some k → k.holds σ' w (σ' j)) (hok : ∀ j k, get H j = some k → k.Ok w (avoids B σ h) n') :
    Mem B σ' n' H w ∧ ∀ b, avoids B σ' H b → avoids B σ h b := by
  have hav : ∀ b, avoids B σ' H b → avoids B σ h b := by
    rintro b (h1 | ⟨j, k, hj, hr⟩)
    · exact .inl h1
    · exact .inr (hocc j k b hj hr)
  refine ⟨⟨s.frame, s.avlt, hk, fun j hj => (ha j hj).trans (s.anch j hj), hlt, hinj, fun j k b hj hr hb => ?_, hh, fun j k hj => (hok j k hj).mono (Nat.le_refl _) fun b _ hb => ⟨fun h1 => hb (hav b h1), rfl⟩⟩, hav⟩
  obtain ⟨i, k0, h1, h2⟩ := hocc j k b hj hr
  exact s.ownO i k0 b h1 h2 hb

/-- A call, the state told in another way ahead of it and behind it. -/
theorem SCall.via {f : Nat} {args : List M} {K : Nat → M → Bs → Prop} (hv : ∀ (B : Base) (σ : Nat → Nat) (w : World), Mem B σ n h w → (∀ m ∈ args, m.Ok w (avoids B σ h) n) → ∃ n1 h1 σ1, ∃ K1 : Nat → M → Bs → Prop, n ≤ n1 ∧ (∀ j, j < n → σ j = σ1 j) ∧ Mem B σ1 n1 h1 w ∧
      (∀ b, avoids B σ1 h1 b → avoids B σ h b) ∧ SCall P f args n1 h1 K1 ∧ ∀ σ' n' m h' w', K1 n' m h' → n1 ≤ n' → (∀ j, j < n1 → σ1 j = σ' j) → Mem B σ' n' h' w' → m.Ok w' (avoids B σ' h') n' →
        ∃ σ2 n2 m2 h2, K n2 m2 h2 ∧ m.den σ' = m2.den σ2 ∧ n ≤ n2 ∧ (∀ j, j < n → σ j = σ2 j) ∧ Mem B σ2 n2 h2 w' ∧ m2.Ok w' (avoids B σ2 h2) n2 ∧ ∀ b, avoids B σ2 h2 b → avoids B σ' h' b) : SCall P f args n h K := by
  refine ⟨fun B σ w s hargs => ?_⟩
  obtain ⟨n1, h1, σ1, K1, g1, g2, g3, g4, g5, g6⟩ := hv B σ w s hargs
  have e : args.map (M.den σ) = args.map (M.den σ1) := List.map_congr_left fun m hm => M.den_congr (hargs m hm) g2
  rw [e]
  refine (g5.out B σ1 w g3 fun m hm => (hargs m hm).mono g1 fun b _ hb => ⟨fun h1 => hb (g4 b h1), rfl⟩).mono ?_
  rintro e1 w1 ⟨σ', n', m, h', rfl, k1, k2, k3, k4, k5, k6⟩
  obtain ⟨σ2, n2, m2, h2, q1, q2, q3, q4, q5, q6, q7⟩ := g6 σ' n' m h' w1 k1 k2 k3 k4 k5
  exact ⟨σ2, n2, m2, h2, by rw [q2], q1, q3, q4, q5, q6, fun b hb hna => ⟨fun h3 => (k6 b hb fun h4 => hna (g4 b h4)).1 (q7 b h3), (k6 b hb fun h4 => hna (g4 b h4)).2⟩⟩
variable {tt : Tab}
/-- .. to one of three kinds of outcomes. -/
theorem SMem.or3 {o1 o2 o3 : Type} {O1 : o1 → Out} {O2 : o2 → Out} {O3 : o3 → Out} (tb : Spec) (hS : SOK P tb) (mt : MSpec) (hM : MSOK P mt) (hT : TOK P tt) (hm : P.follows .mixedOrders = true) (inl : List (Nat × Inl)) (hI : IOK P inl) (un : Bool) (inv : List (Nat × Inv)) (lab : List (Nat × (Nat × Inv))) {f n0 : Nat} {h0 : Bs} {fn : Func} {c : Code} {args : List M}
    (hentry : ∀ (vs : Array Value) (w : World), (callFunc f vs).run P w = .ok (.enter f vs) w)
    (hf : P.funcs[f]? = some fn) (hb : fn.body = some c) (hl : Nat.ble args.length fn.ntmps = true)
    (hx : xc (cm (gm tt tb mt) mt tt inl 40) (gm tt tb mt) tt fn.ntmps n0 un inv lab 1000 c (finQ tt fn.results.toList fun n m h => (∃ o, Imp0 n0 n [(0, m)] h (O1 o).n [(0, (O1 o).m)] (O1 o).h) ∨ (∃ o, Imp0 n0 n [(0, m)] h (O2 o).n [(0, (O2 o).m)] (O2 o).h) ∨ ∃ o, Imp0 n0 n [(0, m)] h (O3 o).n [(0, (O3 o).m)] (O3 o).h) n0 (params 0 args) h0) :
    SMem P f args n0 h0 (Sum.elim O1 (Sum.elim O2 O3)) :=
  ⟨SCall.weaken (SCall.body hT hentry hf hb (Nat.le_of_ble_eq_true hl) (xc_sound (cm_ok (gm_det hS hM) (gm_ok hS hM) hT hm hM hI 40) (gm_det hS hM) (gm_ok hS hM) hT hm 1000 _ _ _ _ _ hx))
    fun n' m h' hk => by
      rcases hk with ⟨o, hi⟩ | ⟨o, hi⟩ | ⟨o, hi⟩
      · exact ⟨_, _, _, ⟨.inl o, rfl, rfl, rfl⟩, hi⟩
      · exact ⟨_, _, _, ⟨.inr (.inl o), rfl, rfl, rfl⟩, hi⟩
      · exact ⟨_, _, _, ⟨.inr (.inr o), rfl, rfl, rfl⟩, hi⟩⟩
end
end Go.Sx
