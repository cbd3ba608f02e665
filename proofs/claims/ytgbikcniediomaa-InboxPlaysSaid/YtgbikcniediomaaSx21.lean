/- Arguments with slices: what an argument that the claim reads is, as a symbolic value. Holds for every program. -/
import Derived.Test.YtgbikcniediomaaSx20
import Derived.ChangeArms
import Derived.OpenShut
import Derived.SizedLaws
namespace Go.Sx
set_option linter.unusedSimpArgs false
set_option linter.unusedVariables false

def RK.byte : RK → Nat
  | .int k => k.bits / 8
  | .bool => 1
  | .str => 16
  | .ints k n => n * (k.bits / 8)
  | .sl _ _ => 24
def RK.bytes : List RK → Nat
  | [] => 0
  | f :: r => RK.byte f + RK.bytes r
mutual
def RK.good : (f : RK) → RK.T f → Prop
  | .int k, n => k.min ≤ (show Int from n) ∧ (show Int from n) ≤ k.max
  | .bool, _ => True
  | .str, s => ByteArray.size s ≤ maxLen
  | .ints k n, l => List.length l = n ∧ ∀ x ∈ (show List Int from l), k.min ≤ x ∧ x ≤ k.max
  | .sl _ fs, x => List.length x.2 ≤ maxLen ∧ ∀ el ∈ x.2, RK.goods fs el
def RK.goods : (fs : List RK) → RK.TL fs → Prop
  | [], _ => True
  | f :: r, x => RK.good f x.1 ∧ RK.goods r x.2
end

mutual
def RK.light : (f : RK) → RK.T f → Prop
  | .int _, _ => True
  | .bool, _ => True
  | .str, s => ByteArray.size s ≤ reachBytes
  | .ints _ _, _ => True
  | .sl _ fs, x => List.length x.2 * RK.bytes fs ≤ reachBytes ∧ ∀ el ∈ x.2, RK.lights fs el
def RK.lights : (fs : List RK) → RK.TL fs → Prop
  | [], _ => True
  | f :: r, x => RK.light f x.1 ∧ RK.lights r x.2
end

def RK.app : (fs gs : List RK) → RK.TL fs → RK.TL gs → RK.TL (fs ++ gs)
  | [], _, _, q => q
  | _ :: r, gs, l, q => (l.1, RK.app r gs l.2 q)

theorem RK.app_svs : ∀ (fs gs : List RK) (l : RK.TL fs) (q : RK.TL gs), RK.svs (fs ++ gs) (RK.app fs gs l q) = RK.svs fs l ++ RK.svs gs q
  | [], _, _, _ => rfl
  | f :: r, gs, l, q => by
    show RK.sv f l.1 :: RK.svs (r ++ gs) (RK.app r gs l.2 q) = RK.sv f l.1 :: RK.svs r l.2 ++ RK.svs gs q
    rw [RK.app_svs r gs l.2 q]; rfl

theorem RK.app_goods : ∀ (fs gs : List RK) (l : RK.TL fs) (q : RK.TL gs), RK.goods fs l → RK.goods gs q → RK.goods (fs ++ gs) (RK.app fs gs l q)
  | [], _, _, _, _, h => h
  | _ :: r, gs, l, q, h, hq => ⟨h.1, RK.app_goods r gs l.2 q h.2 hq⟩

theorem RK.app_lights : ∀ (fs gs : List RK) (l : RK.TL fs) (q : RK.TL gs), RK.lights fs l → RK.lights gs q → RK.lights (fs ++ gs) (RK.app fs gs l q)
  | [], _, _, _, _, h => h
  | _ :: r, gs, l, q, h, hq => ⟨h.1, RK.app_lights r gs l.2 q h.2 hq⟩

def shapeFs (P : Program) (g : TypeId → Option (List RK)) : List Field → Nat → Nat → Option (List RK)
  | [], off, n => bif Nat.beq off n then some [] else none
  | x :: r, off, n => bif Nat.beq x.offset off then (match g x.type, shapeFs P g r (off + P.cellsOf x.type) n with
    | some a, some b => some (a ++ b)
    | _, _ => none) else none

def shapeOf (P : Program) : Nat → TypeId → Option (List RK)
  | 0, _ => none
  | f + 1, t => match P.underlying t with
    | some .bool => some [.bool]
    | some (.int k) => some [.int k]
    | some .string => some [.str]
    | some (.slice e) => bif Nat.ble 1 (P.cellsOf e) then (match shapeOf P f e with
      | some fs => some [.sl (P.cellsOf e) fs]
      | none => none) else none
    | some (.array n e) => (match P.underlying e with
      | some (.int k) => bif Nat.beq (P.cellsOf e) 1 && Nat.beq (P.cellsOf t) n then some [.ints k n] else none
      | _ => none)
    | some (.struct a) => shapeFs P (shapeOf P f) a.toList 0 (P.cellsOf t)
    | _ => none

theorem list_of_each {α : Type} {p : Nat → α → Prop} : ∀ (n : Nat), (∀ i, i < n → ∃ y, p i y) → ∃ L : List α, L.length = n ∧ ∀ i (h : i < L.length), p i L[i]
  | 0, _ => ⟨[], rfl, fun i h => absurd h (Nat.not_lt_zero _)⟩
  | n + 1, h => by
    obtain ⟨L, h1, h2⟩ := list_of_each n fun i hi => h i (by omega)
    obtain ⟨y, hy⟩ := h n (by omega)
    refine ⟨L ++ [y], by simp [h1], fun i hi => ?_⟩
    by_cases hin : i < L.length
    · rw [List.getElem_append_left hin]; exact h2 i hin
    · have : i = n := by simp at hi; omega
      subst this
      rw [List.getElem_append_right (by omega)]
      simpa [h1] using hy

section
variable {H : Type} {enc : TypeId × Value → H} {P : Program} {w : World} {base : Nat} {spare : Nat → Bool} {held : Bool}

def Read (fs : List RK) (w : World) (cs : List Value) (W : Prop) : Prop := ∃ d : RK.TL fs, RK.goods fs d ∧ denL nowhere (RK.svs fs d) = cs ∧ (∀ s ∈ RK.svs fs d, s.Ok w (fun _ => False) 0) ∧ (∀ s ∈ RK.svs fs d, s.isPure = true) ∧ (W → RK.lights fs d)

theorem Read.weak {fs : List RK} {cs : List Value} {W W' : Prop} (h : Read fs w cs W) (hw : W' → W) : Read fs w cs W' := by
  obtain ⟨d, h1, h2, h3, h4, h5⟩ := h
  exact ⟨d, h1, h2, h3, h4, fun h => h5 (hw h)⟩

def bytesC (P : Program) : Nat → TypeId → Bool
  | 0, _ => true
  | f + 1, t => match P.underlying t with
    | some (.slice e) => (match shapeOf P f e with
      | some fs => Nat.ble (RK.bytes fs) (P.bytesOf e)
      | none => true) && bytesC P f e
    | some (.struct a) => a.toList.all fun x => bytesC P f x.type
    | _ => true
def Light (P : Program) (f : Nat) (t : TypeId) (d : DataW H) : Prop := bytesC P f t = true ∧ ∀ v ∈ d.weights P t, v ≤ reachBytes
theorem weights_mem_all {e : TypeId} : ∀ {ds : List (DataW H)} {i : Nat} {d : DataW H}, ds[i]? = some d → ∀ v ∈ d.weights P e, v ∈ DataW.weightsAll P e ds
  | [], _, _, h, _, _ => by simp at h
  | d0 :: r, 0, d, h, v, hv => by
    simp only [List.getElem?_cons_zero, Option.some.injEq] at h
    subst h
    simp only [DataW.weightsAll, List.mem_append]
    exact .inl hv
  | d0 :: r, i + 1, d, h, v, hv => by
    simp only [List.getElem?_cons_succ] at h
    simp only [DataW.weightsAll, List.mem_append]
    exact .inr (weights_mem_all h v hv)

theorem Read.append {fs gs : List RK} {cs ds : List Value} {W1 W2 : Prop} (h1 : Read fs w cs W1) (h2 : Read gs w ds W2) : Read (fs ++ gs) w (cs ++ ds) (W1 ∧ W2) := by
  obtain ⟨l, a1, a2, a3, a4, a5⟩ := h1
  obtain ⟨q, b1, b2, b3, b4, b5⟩ := h2
  refine ⟨RK.app fs gs l q, RK.app_goods fs gs l q a1 b1, ?_⟩
  rw [RK.app_svs]
  refine ⟨by rw [denL_append, a2, b2], fun s hs => ?_, fun s hs => ?_, fun h => RK.app_lights fs gs l q (a5 h.1) (b5 h.2)⟩
  · rcases List.mem_append.1 hs with hs | hs
    · exact a3 s hs
    · exact b3 s hs
  · rcases List.mem_append.1 hs with hs | hs
    · exact a4 s hs
    · exact b4 s hs

theorem Read.one {f : RK} (d : RK.T f) {c : Value} {W : Prop} (h1 : RK.good f d) (h2 : (RK.sv f d).dens nowhere = [c]) (h3 : (RK.sv f d).Ok w (fun _ => False) 0) (h4 : (RK.sv f d).isPure = true) (h5 : W → RK.light f d) : Read [f] w [c] W := by
  refine ⟨(d, ()), ⟨h1, trivial⟩, ?_, ?_, ?_, fun h => ⟨h5 h, trivial⟩⟩
  · show denL nowhere [RK.sv f d] = _
    rw [denL_cons, h2]; rfl
  all_goals (intro x hx; have hx : x ∈ [RK.sv f d] := hx; rw [List.mem_singleton] at hx; subst hx; assumption)

theorem fields_read {f n : Nat} {cs : List Value} (ih : ∀ {t fs fuel ds x}, shapeOf P f t = some fs → DataW.trod enc P w base spare held fuel t ds = some x → Read fs w ds (Light P f t x.1)) {xs : List (DataW H × List MemPlace)} {m : Nat} : ∀ (l : List Field) (k off : Nat) (fs : List RK),
    shapeFs P (shapeOf P f) l off n = some fs → cs.length = n → off ≤ n → (∀ i (fl : Field), l[i]? = some fl → DataW.trod enc P w base spare held m fl.type ((cs.drop fl.offset).take (P.cellsOf fl.type)) = xs[k + i]?) → (k + l.length ≤ xs.length) → Read fs w (cs.drop off) (∀ i (fl : Field) x, l[i]? = some fl → xs[k + i]? = some x → Light P f fl.type x.1)
  | [], k, off, fs, hs, hn, _, _, _ => by
    simp only [shapeFs] at hs
    cases hb : Nat.beq off n with
    | false => rw [hb] at hs; cases hs
    | true =>
      rw [hb] at hs
      cases hs
      have := Nat.eq_of_beq_eq_true hb
      subst this
      rw [List.drop_of_length_le (by omega)]
      exact ⟨(), trivial, rfl, by simp [RK.svs], by simp [RK.svs], fun _ => trivial⟩
  | fl :: r, k, off, fs, hs, hn, ho, hx, hl => by
    simp only [shapeFs] at hs
    cases hb : Nat.beq fl.offset off with
    | false => rw [hb] at hs; cases hs
    | true =>
      rw [hb] at hs
      simp only [cond_true] at hs
      split at hs
      · rename_i a b h1 h2
        cases hs
        have hoff := Nat.eq_of_beq_eq_true hb
        have h3 := hx 0 fl rfl
        simp only [List.length_cons] at hl
        have hk : k + 0 < xs.length := by omega
        rw [List.getElem?_eq_getElem hk] at h3
        have r1 := ih h1 h3
        have hle : off + P.cellsOf fl.type ≤ n := by
          have : ∀ (l : List Field) (off : Nat) (fs : List RK), shapeFs P (shapeOf P f) l off n = some fs → off ≤ n := by
            intro l
            induction l with
            | nil =>
              intro off fs hs
              simp only [shapeFs] at hs
              cases hb : Nat.beq off n with
              | false => rw [hb] at hs; cases hs
              | true => exact Nat.le_of_eq (Nat.eq_of_beq_eq_true hb)
            | cons x r ih =>
              intro off fs hs
              simp only [shapeFs] at hs
              cases hb : Nat.beq x.offset off with
              | false => rw [hb] at hs; cases hs
              | true =>
                rw [hb] at hs
                simp only [cond_true] at hs
                split at hs
                · rename_i h2; have := ih _ _ h2; omega
                · cases hs
          exact this _ _ _ h2
        have r2 := fields_read ih r (k + 1) (off + P.cellsOf fl.type) b h2 hn hle (fun i g hg => by rw [show k + 1 + i = k + (i + 1) by omega]; exact hx (i + 1) g (by simpa using hg)) (by omega)
        have e : cs.drop off = (cs.drop fl.offset).take (P.cellsOf fl.type) ++ cs.drop (off + P.cellsOf fl.type) := by
          rw [hoff, ← List.drop_drop, List.take_append_drop]
        rw [e]
        exact (r1.append r2).weak fun h => ⟨h 0 fl _ rfl (List.getElem?_eq_getElem hk), fun i g y hg hy => h (i + 1) g y (by simpa using hg) (by rw [show k + (i + 1) = k + 1 + i by omega]; exact hy)⟩
      · cases hs

theorem read_trod : ∀ (f : Nat) {t : TypeId} {fs : List RK} {fuel : Nat} {cs : List Value} {x : DataW H × List MemPlace}, shapeOf P f t = some fs → DataW.trod enc P w base spare held fuel t cs = some x → Read fs w cs (Light P f t x.1)
  | 0, t, fs, fuel, cs, x, hs, _ => by simp [shapeOf] at hs
  | f + 1, t, fs, fuel, cs, x, hs, hx => by
    simp only [shapeOf] at hs
    split at hs
    · rename_i hu
      cases hs
      cases fuel with
      | zero => simp [DataW.trod] at hx
      | succ m =>
        unfold DataW.trod at hx
        rw [hu] at hx
        split at hx <;> simp_all
        exact Read.one (f := .bool) _ trivial rfl (.v rfl) rfl fun _ => trivial
    · rename_i k hu
      cases hs
      cases fuel with
      | zero => simp [DataW.trod] at hx
      | succ m =>
        unfold DataW.trod at hx
        rw [hu] at hx
        split at hx <;> simp_all
        obtain ⟨⟨_, hw⟩, _⟩ := hx
        simp only [Lit.wf, Bool.and_eq_true, decide_eq_true_eq] at hw
        subst_vars
        exact Read.one (f := .int _) _ ⟨hw.1, hw.2⟩ rfl (.v rfl) rfl fun _ => trivial
    · rename_i hu
      cases hs
      cases fuel with
      | zero => simp [DataW.trod] at hx
      | succ m =>
        unfold DataW.trod at hx
        rw [hu] at hx
        split at hx <;> simp_all
        exact Read.one (f := .str) _ hx.1 rfl (.v rfl) rfl fun h => by
          obtain ⟨_, rfl⟩ := hx
          exact h.2 _ (by simp [DataW.weights])
    · rename_i e hu
      obtain ⟨h1, hs⟩ : Nat.ble 1 (P.cellsOf e) = true ∧ (match shapeOf P f e with | some fs => some [RK.sl (P.cellsOf e) fs] | none => none) = some fs := by
        cases hb : Nat.ble 1 (P.cellsOf e) with
        | false => rw [hb] at hs; cases hs
        | true => rw [hb] at hs; exact ⟨rfl, hs⟩
      have h1 := Nat.le_of_ble_eq_true h1
      split at hs
      · rename_i gs hg
        cases hs
        rcases DataW.trod_slice hu hx with ⟨rfl, _⟩ | ⟨a, len, cap, elems, rest, m, rfl, rfl, rfl, hba, hlc, hcm, hel, hget, _, _⟩
        · refine Read.one (f := .sl (P.cellsOf e) gs) (.slice none 0 0, []) ?_ rfl ?_ rfl ?_
          · exact ⟨by simp, by simp⟩
          · exact .view (l := []) (by simp) (by simp) (by simp) (by simp) (by simp)
          · exact fun _ => ⟨by simp, by simp⟩
        · have hall : ∀ i, i < len → ∃ y : RK.TL gs, RK.goods gs y ∧ (∀ s ∈ RK.svs gs y, s.Ok w (fun _ => False) 0) ∧ (∀ s ∈ RK.svs gs y, s.isPure = true) ∧ w.cells? base (a.add (i * P.cellsOf e)) (P.cellsOf e) = some (denL nowhere (RK.svs gs y)) ∧ (Light P (f + 1) t (.slice (elems.map (·.1)) (rest.map (·.1))) → RK.lights gs y) := by
            intro i hi
            have h2 := hget i hi
            rw [List.getElem?_eq_getElem (by omega)] at h2
            obtain ⟨ds, h3, h4⟩ := Option.bind_eq_some_iff.1 h2
            obtain ⟨l, g1, g2, g3, g4, g5⟩ := read_trod f hg h4
            refine ⟨l, g1, g3, g4, by rw [g2]; exact h3, fun hW => g5 ⟨?_, fun v hv => hW.2 v ?_⟩⟩
            · have h5 := hW.1
              simp only [bytesC, hu, Bool.and_eq_true] at h5
              exact h5.2
            simp only [DataW.weights, hu, List.mem_cons, List.mem_append]
            exact .inr (.inl (weights_mem_all (i := i) (by rw [List.getElem?_map, List.getElem?_eq_getElem (show i < elems.length by omega)]; rfl) v hv))
          obtain ⟨L, hL, hp⟩ := list_of_each len hall
          have hm : ∀ y ∈ L, ∃ i, ∃ h : i < L.length, L[i] = y := fun y hy => List.mem_iff_getElem.1 hy
          subst hL
          refine Read.one (f := .sl (P.cellsOf e) gs) (.slice (some a) L.length cap, L) ?_ rfl ?_ rfl ?_
          · refine ⟨show L.length ≤ maxLen by omega, fun el hel => ?_⟩
            obtain ⟨i, hi, rfl⟩ := hm el hel
            exact (hp i hi).1
          · refine .view hlc (fun y hy => ?_) (fun y hy => ?_) (fun y hy => ?_) (fun i k hi u hu => ?_)
            · obtain ⟨i, hi, rfl⟩ := hm y hy
              exact (World.cells?_some (hp i hi).2.2.2.1).2.1
            · obtain ⟨i, hi, rfl⟩ := hm y hy
              exact (hp i hi).2.2.1
            · obtain ⟨i, hi, rfl⟩ := hm y hy
              exact (hp i hi).2.1
            · have h5 := (World.cells?_some (hp i hi).2.2.2.1)
              obtain ⟨hk, _⟩ := List.getElem?_eq_some_iff.1 hu
              have h6 := h5.2.2 k (by simpa [h5.2.1] using hk)
              rw [hu] at h6
              have h7 := (hp 0 (by omega)).2.2.2.1
              have h8 := World.cells?_some h7
              have h9 := h8.2.2 0 h1
              rw [List.getElem?_eq_getElem (by rw [h8.2.1]; exact h1)] at h9
              have hsp := World.cell?_spot h9
              have hadd : ∀ (q r : Nat), a.spot = none → ((a.add q).add r) = ⟨a.block, a.off + (q + r), none⟩ := by
                intro q r hn
                obtain ⟨b, o, sp⟩ := a
                simp only at hn
                subst hn
                unfold Addr.add
                by_cases h3 : q = 0 <;> by_cases h4 : r = 0 <;> simp [h3, h4, Nat.add_assoc]
              have hsp' : a.spot = none := by simpa [Addr.add] using hsp
              rw [hadd _ _ hsp'] at h6
              obtain ⟨b, o, sp⟩ := a
              simp only at hsp' h6
              subst hsp'
              exact ⟨b, o, rfl, fun h => h, h6⟩
          · intro hW
            refine ⟨?_, fun el hel => ?_⟩
            · have h5 := hW.2 ((elems.length + rest.length) * P.bytesOf e) (by simp [DataW.weights, hu])
              have h6 : RK.bytes gs ≤ P.bytesOf e := by
                have h7 := hW.1
                simp only [bytesC, hu, Bool.and_eq_true, hg] at h7
                exact Nat.le_of_ble_eq_true h7.1
              rw [hel] at h5
              exact Nat.le_trans (Nat.mul_le_mul (show L.length ≤ L.length + rest.length by omega) h6) h5
            · obtain ⟨i, hi, rfl⟩ := hm el hel
              exact (hp i hi).2.2.2.2 hW
      · cases hs
    · rename_i n e hu
      split at hs
      · rename_i k hk
        obtain ⟨h1, hs⟩ : (Nat.beq (P.cellsOf e) 1 && Nat.beq (P.cellsOf t) n) = true ∧ some [RK.ints k n] = some fs := by
          cases hb : Nat.beq (P.cellsOf e) 1 && Nat.beq (P.cellsOf t) n with
          | false => rw [hb] at hs; cases hs
          | true => rw [hb] at hs; exact ⟨rfl, hs⟩
        cases hs
        simp only [Bool.and_eq_true] at h1
        have h2 := Nat.eq_of_beq_eq_true h1.1
        have h3 := Nat.eq_of_beq_eq_true h1.2
        obtain ⟨xs, m, rfl, _, hlen, hxs, hget⟩ := DataW.trod_array hu hx
        have hall : ∀ i, i < n → ∃ y : Int, cs[i]? = some (.int k y) ∧ k.min ≤ y ∧ y ≤ k.max := by
          intro i hi
          have h4 := hget i hi
          rw [List.getElem?_eq_getElem (by omega), h2, Nat.mul_one] at h4
          have hi' : i < cs.length := by omega
          rw [List.drop_eq_getElem_cons hi'] at h4
          simp only [List.take_succ_cons, List.take_zero] at h4
          cases m with
          | zero => simp [DataW.trod] at h4
          | succ m =>
            unfold DataW.trod at h4
            rw [hk] at h4
            split at h4 <;> simp_all
            obtain ⟨⟨_, hw⟩, _⟩ := h4
            simp only [Lit.wf, Bool.and_eq_true, decide_eq_true_eq] at hw
            subst_vars
            exact hw
        obtain ⟨L, hL, hp⟩ := list_of_each n hall
        have e2 : cs = L.map (Value.int k) := by
          refine List.ext_getElem? fun i => ?_
          by_cases hi : i < L.length
          · rw [(hp i hi).1]; simp [hi]
          · rw [List.getElem?_eq_none (by omega), List.getElem?_eq_none (by simp; omega)]
        have hz : RK.svs [.ints k n] (L, ()) = [.ints k n L] := rfl
        refine ⟨(L, ()), ⟨⟨hL, fun y hy => ?_⟩, trivial⟩, ?_, ?_, ?_, fun _ => ⟨trivial, trivial⟩⟩
        · obtain ⟨i, hi, rfl⟩ := List.mem_iff_getElem.1 hy
          exact (hp i hi).2
        · rw [hz, denL_cons, e2]; simp [SV.dens, denL_nil]
        · intro s hs
          rw [hz, List.mem_singleton] at hs
          subst hs
          exact .ints hL
        · intro s hs
          rw [hz, List.mem_singleton] at hs
          subst hs
          rfl
      · cases hs
    · rename_i a hu
      obtain ⟨xs, m, rfl, rfl, hlen, hxs, hget⟩ := DataW.trod_struct hu hx
      have := fields_read (cs := cs) (xs := xs) (m := m) (fun h1 h2 => read_trod f h1 h2) a.toList 0 0 fs hs hlen (by omega) (fun i fl hfl => by rw [Nat.zero_add]; exact hget i fl (by simpa using hfl)) (by simp [hxs])
      rw [List.drop_zero] at this
      refine this.weak fun hW i fl x h1 h2 => ⟨?_, fun v hv => hW.2 v ?_⟩
      · have h5 := hW.1
        simp only [bytesC, hu] at h5
        exact List.all_eq_true.1 h5 fl (List.mem_of_getElem? h1)
      simp only [DataW.weights, hu]
      refine DataW.weights_mem_each (j := i) (t := fl.type) (d := x.1) (by rw [List.getElem?_map, h1]; rfl) ?_ v hv
      rw [Nat.zero_add] at h2
      rw [List.getElem?_map, h2]; rfl
    · cases hs

theorem shapeOf_ints {f : Nat} {t : TypeId} {k : IntKind} {n : Nat} (hk : (match P.underlying t with | some .bool | some (.int _) | some .string | some (.slice _) => true | _ => false) = true) (hs : shapeOf P (f + 1) t = some [.ints k n]) : False := by
  simp only [shapeOf] at hs
  split at hs <;> rename_i hu <;> try (rw [hu] at hk)
  all_goals first | (cases hk; done) | (cases hs; done) | skip
  · revert hs
    cases Nat.ble 1 (P.cellsOf _) <;> simp only [cond_true, cond_false] <;> intro hs
    · cases hs
    · split at hs <;> cases hs

theorem read_argO {r : Reach} {b : Nat} {t : TypeId} {v : Value} {d : DataW H} {p : List MemPlace} {f : RK} (hk : (match P.underlying t with | some .bool | some (.int _) | some .string | some (.slice _) => true | _ => false) = true) (hs : shapeOf P 20 t = some [f])
    (hv : Value.okWide P w r b t v) (ht : DataW.Trod enc P w base spare held t v d p) : ∃ d' : RK.T f, RK.good f d' ∧ v = (M.one (RK.sv f d')).den id ∧ (M.one (RK.sv f d')).Ok w (fun _ => False) 0 ∧ (RK.sv f d').isPure = true ∧ (Light P 20 t d → RK.light f d') := by
  obtain ⟨fuel, ht⟩ := ht
  obtain ⟨d', h1, h2, h3, h4, h8⟩ := read_trod 20 hs ht
  have hz : RK.svs [f] d' = [RK.sv f d'.1] := rfl
  rw [hz] at h2 h3 h4
  have hc : v.oneCell' = true := by
    unfold Value.okWide at hv
    split at hk
    all_goals first | (rename_i hu; rw [hu] at hv; simp only at hv; unfold Cell.okWide at hv; rw [hu] at hv; simp only at hv; unfold Cell.ok at hv; rw [hu] at hv; cases v <;> first | rfl | exact hv.elim | skip) | cases hk
  have h6 : (RK.sv f d'.1).isOne = true := by
    cases f with
    | ints k n =>
      exact (shapeOf_ints hk hs).elim
    | _ => rfl
  refine ⟨d'.1, h1.1, ?_, .one h6 (h3 _ (by simp)), h4 _ (by simp), fun h => (h8 h).1⟩
  rw [denL_cons, SV.dens_one h6, denL_nil, Value.cells_one hc] at h2
  simp at h2
  have h7 := SV.dens_pure (h4 _ (List.mem_singleton.2 rfl)) id nowhere
  rw [SV.dens_one h6, SV.dens_one h6] at h7
  simp at h7
  simp only [M.den, h7, h2]

end

theorem list_dec {α β : Type} {enc : α → List SV} {enc' : β → List SV} {p : α → Prop} {good : β → Prop} (h : ∀ a, p a → ∃ y, good y ∧ enc' y = enc a) : ∀ {l : List α}, (∀ el ∈ l, p el) → ∃ l' : List β, l.map enc = l'.map enc' ∧ ∀ y ∈ l', good y
  | [], _ => ⟨[], rfl, by simp⟩
  | x :: r, hp => by
    obtain ⟨y, h1, h2⟩ := h x (hp x (by simp))
    obtain ⟨l', h3, h4⟩ := list_dec h (l := r) fun el hel => hp el (by simp [hel])
    exact ⟨y :: l', by simp [h2, h3], by simp only [List.mem_cons, forall_eq_or_imp]; exact ⟨h1, h4⟩⟩

theorem read_viewL {w : World} {av : Nat → Prop} {n es : Nat} {fs : List RK} {d : RK.T (.sl es fs)} (hg : RK.good (.sl es fs) d) (hw : RK.light (.sl es fs) d) (hok : (M.one (RK.sv (.sl es fs) d)).Ok w av n) {β : Type} (enc : β → List SV) {good : β → Prop} (hd : ∀ el, RK.goods fs el → RK.lights fs el → ∃ y, good y ∧ enc y = RK.svs fs el) :
    ∃ (x : Value) (l : List β), (M.one (RK.sv (.sl es fs) d)).den id = (M.one (.view x es enc l)).den id ∧ (M.one (.view x es enc l)).Ok w av n ∧ (∀ y ∈ l, good y) ∧ l.length ≤ maxLen ∧ l.length * RK.bytes fs ≤ reachBytes := by
  obtain ⟨x, l⟩ := d
  obtain ⟨h1, h2⟩ := hg
  obtain ⟨h3, h4⟩ := hw
  obtain ⟨l', h5, h6⟩ := list_dec (enc := RK.svs fs) (p := fun el => RK.goods fs el ∧ RK.lights fs el) (fun el h => hd el h.1 h.2) fun el hel => ⟨h2 el hel, h4 el hel⟩
  cases hok with
  | one _ hok =>
    have e : List.length l = l'.length := by have := congrArg List.length h5; simpa using this
    exact ⟨x, l', rfl, .one rfl (SV.Ok.reenc h5 hok), h6, e ▸ h1, e ▸ h3⟩

theorem light_of {H : Type} {P : Program} {ts : List TypeId} {ds : List (DataW H)} (hs : (DataW.weightsEach P ts ds).all (· ≤ reachBytes) = true) {j : Nat} {t : TypeId} {d : DataW H} (ht : ts[j]? = some t) (hd : ds[j]? = some d) (hC : bytesC P 20 t = true) : Light P 20 t d :=
  ⟨hC, fun v hv => by simpa using List.all_eq_true.1 hs v (DataW.weights_mem_each ht hd v hv)⟩

theorem view_sized {H : Type} {enc : TypeId × Value → H} {P : Program} {w W : World} {base : Nat} {sp : Nat → Bool} {held : Bool} {ts : List TypeId} {ds : List (DataW H)} (hs : (DataW.weightsEach P ts ds).all (· ≤ reachBytes) = true) {j : Nat} {t e : TypeId} {d : DataW H} {p : List MemPlace} {v : Value}
    (ht : ts[j]? = some t) (hd : ds[j]? = some d) (hu : P.underlying t = some (.slice e)) (hT : DataW.Trod enc P w base sp held t v d p) {es : Nat} {α : Type} {f : α → List SV} {l : List α} {av : Nat → Prop} {n : Nat} (hok : (M.one (.view v es f l)).Ok W av n) :
    l.length * P.bytesOf e ≤ reachBytes := by
  obtain ⟨fuel, hT⟩ := hT
  cases hok with
  | one _ hok =>
    cases hok with
    | @view _ _ _ _ a cap hcap hes hp hok hcell =>
      rcases DataW.trod_slice hu hT with ⟨h1, _⟩ | ⟨a', len, cap', elems, rest, m, rfl, h1, h2, _, hlc, _, hel, _⟩
      · have h1 : [Value.slice a l.length cap] = [Value.slice none 0 0] := h1
        simp only [List.cons.injEq, Value.slice.injEq, and_true] at h1
        rw [h1.2.1]
        simp
      · have h1 : [Value.slice a l.length cap] = [Value.slice (some a') len cap'] := h1
        simp only [List.cons.injEq, Value.slice.injEq, and_true] at h1
        have hd' : ds[j]? = some (.slice (elems.map (·.1)) (rest.map (·.1))) := by rw [hd]; exact congrArg (fun x => some x.1) h2
        have := sized_slice hs ht hd' hu
        simp only [List.length_map] at this
        rw [hel, ← h1.2.1] at this
        exact Nat.le_trans (Nat.mul_le_mul_right _ (by omega)) this

/-! ### A contract, its views seen with other eyes -/

inductive PEqs : List SV → List SV → Prop
  | nil : PEqs [] []
  | refl {s : SV} {l l' : List SV} (hl : PEqs l l') : PEqs (s :: l) (s :: l')
  | view {x : Value} {es : Nat} {α β : Type} {enc : α → List SV} {l : List α} {enc' : β → List SV} {l' : List β} {r r' : List SV} (h : l.map enc = l'.map enc') (hr : PEqs r r') : PEqs (.view x es enc l :: r) (.view x es enc' l' :: r')
theorem PEqs.den {l l' : List SV} (h : PEqs l l') (σ : Nat → Nat) : denL σ l = denL σ l' := by
  induction h with
  | nil => rfl
  | refl _ ih => rw [denL_cons, denL_cons, ih]
  | view _ _ ih => rw [denL_cons, denL_cons, ih]; rfl
theorem PEqs.ok {l l' : List SV} (h : PEqs l l') {w : World} {av : Nat → Prop} {n : Nat} (ho : ∀ s ∈ l, s.Ok w av n) : ∀ s ∈ l', s.Ok w av n := by
  induction h with
  | nil => exact ho
  | refl _ ih =>
    simp only [List.mem_cons, forall_eq_or_imp] at ho ⊢
    exact ⟨ho.1, ih ho.2⟩
  | view h _ ih =>
    simp only [List.mem_cons, forall_eq_or_imp] at ho ⊢
    exact ⟨SV.Ok.reenc h ho.1, ih ho.2⟩
theorem PEqs.pure {l l' : List SV} (h : PEqs l l') : l.all SV.isPure = l'.all SV.isPure := by
  induction h with
  | nil => rfl
  | refl _ ih => simp [ih]
  | view _ _ ih => simp [ih, SV.isPure]

inductive VEq : M → M → Prop
  | refl (m : M) : VEq m m
  | view {x : Value} {es : Nat} {α β : Type} {enc : α → List SV} {l : List α} {enc' : β → List SV} {l' : List β} (h : l.map enc = l'.map enc') : VEq (.one (.view x es enc l)) (.one (.view x es enc' l'))
  | agg {l l' : List SV} (h : PEqs l l') : VEq (.agg l) (.agg l')

theorem VEq.den {m m' : M} (h : VEq m m') (σ : Nat → Nat) : m.den σ = m'.den σ := by
  cases h with
  | agg h => simp only [M.den, h.den σ]
  | _ => rfl
theorem VEq.ok {m m' : M} (h : VEq m m') {w : World} {av : Nat → Prop} {n : Nat} (ho : m.Ok w av n) : m'.Ok w av n := by
  cases h with
  | refl => exact ho
  | view h => cases ho with | one h1 ho => exact .one rfl (SV.Ok.reenc h ho)
  | agg h => cases ho with | agg ho => exact .agg (h.ok ho)
theorem VEq.pure {m m' : M} (h : VEq m m') : m.pure = m'.pure := by
  cases h with
  | agg h => exact h.pure
  | _ => rfl

inductive VEqs : List M → List M → Prop
  | nil : VEqs [] []
  | cons {m m' : M} {l l' : List M} (h : VEq m m') (hl : VEqs l l') : VEqs (m :: l) (m' :: l')

theorem VEqs.den {l l' : List M} (h : VEqs l l') (σ : Nat → Nat) : l.map (M.den σ) = l'.map (M.den σ) := by
  induction h with
  | nil => rfl
  | cons h _ ih => simp [h.den σ, ih]
theorem VEqs.ok {l l' : List M} (h : VEqs l l') {w : World} {av : Nat → Prop} {n : Nat} (ho : ∀ m ∈ l, m.Ok w av n) : ∀ m ∈ l', m.Ok w av n := by
  induction h with
  | nil => exact ho
  | cons h _ ih =>
    simp only [List.mem_cons, forall_eq_or_imp] at ho ⊢
    exact ⟨h.ok ho.1, ih ho.2⟩
theorem VEqs.pure {l l' : List M} (h : VEqs l l') : l.all M.pure = l'.all M.pure := by
  induction h with
  | nil => rfl
  | cons h _ ih => simp [h.pure, ih]

theorem SFun.seen {P : Program} {f : Nat} {ms ms' : List M} {m : M} (s : SFun P f ms' m) (h : VEqs ms ms') : SFun P f ms m :=
  ⟨⟨fun B σ w s0 hok => by rw [h.den σ]; exact s.spec.out B σ w s0 (h.ok hok)⟩⟩

end Go.Sx
