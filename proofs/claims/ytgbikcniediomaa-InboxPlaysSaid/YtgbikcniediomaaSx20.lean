/- From a contract to the form of a given statement: what the arguments are, and that they read again. Holds for every program. -/
import Derived.Test.YtgbikcniediomaaSx19
import Derived.ReadAgain
import Derived.ProofKit
import Derived.ChangeStays
namespace Go.Sx
set_option linter.unusedSimpArgs false
set_option linter.unusedVariables false
open Go.ChangeShapes Go.WideShapes Go.ChangeAt Go.RowKit

theorem SFun.calls {P : Program} {f : Nat} {ms : List M} {res : M} (s : SFun P f ms res) (hentry : ∀ (vs : Array Value) (w : World), (callFunc f vs).run P w = .ok (.enter f vs) w) (hp : ms.all M.pure = true) (W : World) (hg : ∀ g k l, gget gtab g = some (k, l) → g < W.heap.size ∧ ∀ i (hi : i < l.length), W.cell? ⟨g, i, none⟩ = some (.int k l[i])) (ha : ∀ m ∈ ms, m.Ok W (fun _ => False) 0) :
    Calls P f (ms.map (M.den id)).toArray W fun e W' => e = .returned (res.den id) ∧ W'.os = W.os ∧ W'.output = W.output ∧ W.heap.size ≤ W'.heap.size ∧ ∀ b, b < W.heap.size → W'.heap[b]? = W.heap[b]? := by
  have s0 : Mem ⟨W, fun _ => False, fun _ => False, 0, id⟩ id 0 [] W :=
    ⟨Frame.refl _ _ _ _ _ (fun g k l h => ⟨hg g k l h, fun h1 => h1, fun h1 => h1⟩), fun _ h => h.elim, Nat.le_refl _, fun _ h => absurd h (Nat.not_lt_zero _), fun _ _ h => by (cases h), fun _ _ _ _ _ h => by (cases h), fun _ _ _ h => by (cases h), fun _ _ h => by (cases h), fun _ _ h => by (cases h)⟩
  have hc := (s.spec.out _ id W s0 fun m hm => (ha m hm).of_pure (fun b hb => by
    rcases hb with hb | ⟨j, k, hj, _⟩
    · exact hb
    · cases hj) (List.all_eq_true.1 hp m hm))
  rcases hc with ⟨_, hc⟩ | ⟨v, hv, _⟩
  · refine hc.mono ?_
    rintro e1 w1 ⟨σ', n', m, h', rfl, ⟨rfl, hf⟩, _, _, s1, _, _⟩
    exact ⟨by rw [M.den_pure σ' id hf], s1.frame.os, s1.frame.output, s1.frame.size, fun b hb => s1.frame.block b hb (fun h => h)⟩
  · rw [hentry] at hv
    cases hv

section
variable {H : Type} {enc : TypeId × Value → H} {P : Program}

theorem TrodAll.carry {w w' : World} {base : Nat} {sp : Nat → Bool} {held : Bool} : ∀ {ts : List TypeId} {vs : List Value} {ds : List (DataW H)} {ps : List MemPlace},
    DataW.TrodAll enc P w base sp held ts vs ds ps → (∀ p ∈ ps, w.sameAt w' p) → DataW.TrodAll enc P w' base sp held ts vs ds ps
  | [], [], [], _, h, _ => h
  | _ :: _, _ :: _, _ :: _, _, ⟨p, q, ⟨n, h1⟩, h2, e⟩, hs => ⟨p, q, ⟨n, DataW.trod_carry n _ _ _ h1 fun x hx => hs x (by rw [e]; exact List.mem_append_left _ hx)⟩, TrodAll.carry h2 fun x hx => hs x (by rw [e]; exact List.mem_append_right _ hx), e⟩

theorem keptBut_of {W W' : World} (may : MemPlace → Prop) (hos : W'.os = W.os) (hout : W'.output = W.output) (hb : ∀ b, b < W.heap.size → W'.heap[b]? = W.heap[b]?) : W.keptBut W' may := by
  refine ⟨hos, hout, fun i hi => ?_⟩
  rw [hb i hi]
  split
  · rename_i c t fr c' t' fr' h1 h2
    rw [h1] at h2
    cases h2
    exact ⟨rfl, rfl, rfl, fun _ _ => rfl⟩
  · rename_i es cl es' cl' h1 h2
    rw [h1] at h2
    cases h2
    exact .inr ⟨rfl, rfl⟩
  · rfl

theorem post_true {fn : Func} {s : ChangeSpec} {apart fresh handsOn again : Bool} {W W' : World} {args : Array Value} {ds gs : List (DataW H)} {before : List MemPlace} {T : TypeId → Prop} (K : Kids P T)
    (hz : ∀ t e, T t → P.underlying t = some (.slice e) → 0 < P.cellsOf e) (hT : ∀ t ∈ fn.params.toList, T t) {tb : TypeId} (htb : P.underlying tb = some .bool) (hrt : fn.resultTypes = #[tb])
    (hvars : s.vars = []) (hres : (s.fn H (ds ++ gs)).results = [.lit (.bool true)]) (hargs : (s.fn H (ds ++ gs)).args = ds) (hvs : (s.fn H (ds ++ gs)).vars = [])
    (hW : DataW.Whole enc P fn.params.toList s.vars apart W args.toList ds gs before)
    (hos : W'.os = W.os) (hout : W'.output = W.output) (hb : ∀ b, b < W.heap.size → W'.heap[b]? = W.heap[b]?) :
    s.post enc P fn apart fresh handsOn again W args (.bool true) W' := by
  have hlt := hW.lt
  have hW0 := hW
  obtain ⟨p, q, hA, hV, rfl, hfz, hnd⟩ := hW
  rw [hvars] at hV
  obtain ⟨rfl, rfl⟩ := trodVars_none hV
  simp only [List.append_nil] at hlt hfz hnd hW0 hres hargs hvs
  have hsame : ∀ x ∈ p, W.sameAt W' x := by
    intro x hx
    have := hlt x hx
    cases x with
    | cell b off =>
      simp only [World.sameAt, World.cell?]
      rw [hb b this]
    | map b => exact hb b this
  have hre : ∀ sp : Nat → Bool, (∀ x ∈ p, sp x.block = true) → DataW.TrodAll enc P W' 0 sp true fn.params.toList args.toList ds p := fun sp hsp =>
    TrodAll.carry (DataW.TrodAll.respare K hz hT hA hsp) hsame
  have hrr : ∀ (b : Nat) (sp : Nat → Bool) (hd : Bool), DataW.TrodAll enc P W' b sp hd fn.resultTypes.toList ((Value.bool true).resultList fn.resultTypes.size) [.lit (.bool true)] [] := fun b sp hd => by
    rw [hrt]
    exact trodAll_mk1 ⟨1, by simp [DataW.trod, Value.cells, htb]⟩
  have hvt : ∀ sp : Nat → Bool, DataW.TrodVars enc P W' sp s.vars [] [] := fun sp => by rw [hvars]; rfl
  refine ⟨ds, [], p, [], p, [], hW0, ?_, ?_, ?_, keptBut_of _ hos hout hb, fun _ => ⟨?_, ds.cons (.lit (.bool true)), [], p, ?_, fun x hx _ => hx⟩⟩
  · rw [List.append_nil, hres]; exact hrr _ _ _
  · rw [List.append_nil, hargs]; exact hre _ fun x hx => by simpa using hlt x hx
  · rw [List.append_nil, hvs]; exact hvt _
  · refine ok_one hrt rfl ?_
    simp [Value.okWide, htb, Cell.okWide, Cell.ok]
  · refine ⟨p, [], ?_, hvt _, by simp, ?_, hnd⟩
    · have := trodAll_append (hre (fun _ => true) fun _ _ => rfl) (hrr 0 (fun _ => true) true)
      simpa using this
    · intro b off hp
      have h1 := hfz b off hp
      have h2 : b < W.heap.size := hlt _ hp
      simp only [World.frozen?] at h1 ⊢
      rw [hb b h2]
      exact h1
end

/-! ### What an argument is, of a type of numbers, bools and rows of numbers -/

inductive FK where
  | int (k : IntKind)
  | bool
  | ints (k : IntKind) (n : Nat)

def FK.wd : FK → Nat
  | .int _ => 1
  | .bool => 1
  | .ints _ n => n

def FK.is : FK → SV → Prop
  | .int k, s => ∃ n : Int, s = .v (.int k n) ∧ k.min ≤ n ∧ n ≤ k.max
  | .bool, s => ∃ b, s = .v (.bool b)
  | .ints k n, s => ∃ l : List Int, s = .ints k n l ∧ l.length = n ∧ ∀ x ∈ l, k.min ≤ x ∧ x ≤ k.max

def FK.all : List FK → List SV → Prop
  | [], [] => True
  | f :: r, s :: q => f.is s ∧ FK.all r q
  | _, _ => False

theorem FK.all_cons {f : FK} {r : List FK} {l : List SV} (h : FK.all (f :: r) l) : ∃ s q, l = s :: q ∧ f.is s ∧ FK.all r q := by
  cases l with
  | nil => exact h.elim
  | cons s q => exact ⟨s, q, rfl, h.1, h.2⟩

section
variable {P : Program} {w : World} {r : Reach} {base : Nat}

end
end Go.Sx
