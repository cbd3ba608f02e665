/- Contracts of functions that look only, for own slices where the order is drawn. Holds for every program. -/
import Derived.Test.YtgbikcniediomaaDoorSx24
namespace Go.Sx
set_option linter.unusedSimpArgs false
set_option linter.unusedVariables false

theorem lendK_mono {h : Bs} : ∀ {l : List M} {K K' : List M → Prop}, (∀ ms, K ms → K' ms) → lendK h l K → lendK h l K'
  | [], _, _, hk, hq => hk _ hq
  | m :: r, K, K', hk, hq => by
    have bm : ∀ {b : Bool} {p q : Prop}, (p → q) → (bif b then p else False) → bif b then q else False := by
      intro b p q hpq hb
      cases b
      · exact hb
      · exact hpq hb
    unfold lendK at hq ⊢
    split at hq
    · split at hq
      · exact bm (fun ⟨h1, h2, h3, h4⟩ => ⟨h1, h2, h3, fun x => lendK_mono (fun ms h5 => hk _ h5) (h4 x)⟩) hq
      · exact hq.elim
    · split at hq
      · exact bm (fun ⟨h1, h2, h5, h3, h4⟩ => ⟨h1, h2, h5, h3, fun x => lendK_mono (fun ms h5 => hk _ h5) (h4 x)⟩) hq
      · exact hq.elim
    · split at hq
      · exact chunkK_mono (fun k n il h1 => ⟨h1.1, h1.2.1, fun x => lendK_mono (fun ms h5 => hk _ h5) (h1.2.2 x)⟩) hq
      · exact hq.elim
    · split at hq
      · exact bm (fun h1 b => lendK_mono (fun ms h5 => hk _ h5) (h1 b)) hq
      · exact hq.elim
    · exact bm (fun h1 => lendK_mono (fun ms h5 => hk _ h5) h1) hq

def lookT (T : List M → (M → Prop) → Prop) : MT := fun args n h K =>
  bif args.all M.pure then T args (fun m => K n m h) else lendK h args fun ms => T ms fun m => bif m.flat then K n m h else False

theorem lookT_ok {P : Program} {f : Nat} {T : List M → (M → Prop) → Prop} (hT : POK P f T) : MOK P f (lookT T) := by
  refine ⟨fun args n h K hk => ?_, fun args n h K K' hkk hk => ?_⟩
  · refine callL_ok (G := gt [(f, T)]) (SOK.cons hT SOK.nil).ok f args n h K ?_
    have e : ∀ ms (K : M → Prop), T ms K → gtF [(f, T)] f ms K := fun ms K h => by
      unfold gtF
      simp only [get, beqT, cond_true]
      exact h
    unfold lookT at hk
    unfold callL
    cases hp : args.all M.pure with
    | true => rw [hp] at hk; exact e _ _ hk
    | false => rw [hp] at hk; exact lendK_mono (fun ms h1 => e _ _ h1) hk
  · have mono : ∀ ms (K K' : M → Prop), (∀ m, K m → K' m) → T ms K → T ms K' := fun ms K K' hkk hk => by
      obtain ⟨m, h1, _, _, h2⟩ := hT ms K hk
      exact h2 _ (hkk m h1)
    unfold lookT at hk ⊢
    cases hp : args.all M.pure with
    | true => rw [hp] at hk; exact mono _ _ _ (fun m => hkk _ _ _) hk
    | false =>
      rw [hp] at hk
      refine lendK_mono (fun ms h1 => mono _ _ _ (fun m hm => ?_) h1) hk
      obtain ⟨h2, h3⟩ := cond_false_elim hm
      rw [h2]
      exact hkk _ _ _ h3
end Go.Sx
