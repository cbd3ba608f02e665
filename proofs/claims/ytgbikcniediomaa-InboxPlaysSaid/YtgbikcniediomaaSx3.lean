/- Parts of rows of cells, by computation: read, write, compare. Holds for every program. -/
import Derived.Test.YtgbikcniediomaaSx2
namespace Go.Sx
set_option linter.unusedSimpArgs false
set_option linter.unusedVariables false

def subK : List SV → Nat → Nat → (List SV → Prop) → Prop
  | [], _, sz, K => bif Nat.beq sz 0 then K [] else False
  | s :: r, off, sz, K =>
    bif Nat.beq sz 0 then K [] else
    bif Nat.ble s.wd off then subK r (off - s.wd) sz K
    else bif Nat.beq off 0 && Nat.ble s.wd sz then subK r 0 (sz - s.wd) (fun l => K (s :: l))
    else match s with
      | .ints k n il => bif Nat.ble (off + sz) n then K [.ints k sz ((il.drop off).take sz)] else False
      | _ => False

def nthK : List SV → Nat → (SV → Prop) → Prop
  | [], _, _ => False
  | s :: r, off, K =>
    bif Nat.ble s.wd off then nthK r (off - s.wd) K
    else match s with
      | .ints k _ il => K (.v (.int k (il.getD off 0)))
      | s => K s

def chunkK : List SV → Nat → (IntKind → Nat → List Int → Prop) → Prop
  | [], _, _ => False
  | s :: r, off, K =>
    bif Nat.beq off 0 then
      match s with
      | .ints k n il => K k n il
      | _ => False
    else bif Nat.ble s.wd off then chunkK r (off - s.wd) K else False

def delK : List SV → Nat → (List SV → Prop) → Prop
  | [], sz, K => bif Nat.beq sz 0 then K [] else False
  | s :: r, sz, K =>
    bif Nat.beq sz 0 then K (s :: r) else
    bif Nat.ble s.wd sz then delK r (sz - s.wd) K else False

def appK : List SV → List SV → (List SV → Prop) → Prop
  | [], r, K => K r
  | s :: l, r, K => appK l r fun x => K (s :: x)

def setK : List SV → Nat → List SV → Nat → (List SV → Prop) → Prop
  | [], _, _, _, _ => False
  | s :: r, off, new, sz, K =>
    bif Nat.beq off 0 then delK (s :: r) sz fun rest => appK new rest K
    else bif Nat.ble s.wd off then setK r (off - s.wd) new sz fun l => K (s :: l)
    else False

def IntKind.beq : IntKind → IntKind → Bool
  | .i8, .i8 | .i16, .i16 | .i32, .i32 | .i64, .i64 | .u8, .u8 | .u16, .u16 | .u32, .u32 | .u64, .u64 => true
  | _, _ => false

theorem IntKind.beq_eq {a b : IntKind} (h : IntKind.beq a b = true) : a = b := by
  cases a <;> cases b <;> first | rfl | cases h

def set1K : List SV → Nat → SV → (List SV → Prop) → Prop
  | [], _, _, _ => False
  | s :: r, off, x, K =>
    bif Nat.ble s.wd off then set1K r (off - s.wd) x fun l => K (s :: l)
    else match s with
      | .ints k n il => (match x with
        | .v (.int k' y) => bif IntKind.beq k k' then K (.ints k n (il.set off y) :: r) else False
        | _ => False)
      | _ => bif Nat.beq off 0 then K (x :: r) else False

def setIdxK : List SV → Nat → Nat → SV → (List SV → Prop) → Prop
  | [], _, _, _, _ => False
  | s :: r, off, i, x, K =>
    bif Nat.beq off 0 then
      match s, x with
      | .ints k n il, .v (.int k' y) => bif IntKind.beq k k' then i < n ∧ K (.ints k n (il.set i y) :: r) else False
      | _, _ => False
    else bif Nat.ble s.wd off then setIdxK r (off - s.wd) i x fun l => K (s :: l) else False

def eq1K : SV → SV → (Bool → Prop) → Prop
  | .v (.int k a), .v (.int k' b), K => bif IntKind.beq k k' then K (a == b) else False
  | .v (.bool a), .v (.bool b), K => K (a == b)
  | .v (.string a), .v (.string b), K => K (a.toList == b.toList)
  | .ints k n a, .ints k' m b, K => bif IntKind.beq k k' && Nat.beq n m then K (a == b) else False
  | _, _, _ => False

def eqK : List SV → List SV → (Bool → Prop) → Prop
  | [], [], K => K true
  | [x], [y], K => eq1K x y K
  | x :: r, y :: q, K => eq1K x y fun b => eqK r q fun b' => K (b && b')
  | _, _, _ => False

section
variable {w : World} {av : Nat → Prop} {n : Nat} {σ : Nat → Nat}

theorem cond_false_elim {b : Bool} {p : Prop} (h : bif b then p else False) : b = true ∧ p := by
  cases b
  · exact h.elim
  · exact ⟨rfl, h⟩

theorem wd_dens {s : SV} (h : s.Ok w av n) : (s.dens σ).length = s.wd := h.dens_length σ

theorem drop_cons {s : SV} {r : List SV} (h : s.Ok w av n) (σ : Nat → Nat) {off : Nat} (hle : s.wd ≤ off) : (denL σ (s :: r)).drop off = (denL σ r).drop (off - s.wd) := by
  have e := wd_dens (σ := σ) h
  rw [denL_cons, List.drop_append, List.drop_of_length_le (by omega : (s.dens σ).length ≤ off), List.nil_append, e]

theorem take_cons {s : SV} {r : List SV} (h : s.Ok w av n) (σ : Nat → Nat) {sz : Nat} (hle : s.wd ≤ sz) : (denL σ (s :: r)).take sz = s.dens σ ++ (denL σ r).take (sz - s.wd) := by
  have e := wd_dens (σ := σ) h
  rw [denL_cons, List.take_append, List.take_of_length_le (by omega : (s.dens σ).length ≤ sz), e]

theorem subK_spec : ∀ (l : List SV) (off sz : Nat) (K : List SV → Prop), (∀ s ∈ l, s.Ok w av n) → subK l off sz K →
    ∃ l', K l' ∧ (∀ σ, denL σ l' = ((denL σ l).drop off).take sz) ∧ wdL l' = sz ∧ (∀ s ∈ l', s.Ok w av n) ∧ ((∀ s ∈ l, s.isPure = true) → ∀ s ∈ l', s.isPure = true)
  | [], off, sz, K, _, h => by
    obtain ⟨h1, h2⟩ := cond_false_elim h
    have : sz = 0 := Nat.eq_of_beq_eq_true h1
    subst this
    exact ⟨[], h2, by simp [denL], rfl, by simp, by simp⟩
  | s :: r, off, sz, K, hok, h => by
    simp only [subK] at h
    have hr : ∀ x ∈ r, x.Ok w av n := fun x hx => hok x (by simp [hx])
    have hs := hok s (by simp)
    cases h1 : Nat.beq sz 0 with
    | true =>
      have : sz = 0 := Nat.eq_of_beq_eq_true h1
      subst this
      simp only [h1, cond_true] at h
      exact ⟨[], h, by simp [denL], rfl, by simp, by simp⟩
    | false =>
      simp only [h1, cond_false] at h
      cases h2 : Nat.ble s.wd off with
      | true =>
        simp only [h2, cond_true] at h
        have hle : s.wd ≤ off := Nat.le_of_ble_eq_true h2
        obtain ⟨l', a1, a2, a3, a4, a5⟩ := subK_spec r (off - s.wd) sz K hr h
        refine ⟨l', a1, fun σ => ?_, a3, a4, fun hp => a5 fun x hx => hp x (by simp [hx])⟩
        rw [a2 σ, drop_cons hs σ hle]
      | false =>
        simp only [h2, cond_false] at h
        cases h3 : (Nat.beq off 0 && Nat.ble s.wd sz) with
        | true =>
          simp only [h3, cond_true] at h
          simp only [Bool.and_eq_true] at h3
          have h0 : off = 0 := Nat.eq_of_beq_eq_true h3.1
          have hle : s.wd ≤ sz := Nat.le_of_ble_eq_true h3.2
          subst h0
          obtain ⟨l', a1, a2, a3, a4, a5⟩ := subK_spec r 0 (sz - s.wd) _ hr h
          refine ⟨s :: l', a1, fun σ => ?_, ?_, ?_, ?_⟩
          · rw [denL_cons, a2 σ, List.drop_zero, List.drop_zero, take_cons hs σ hle]
          · simp only [wdL]; omega
          · intro x hx
            rcases List.mem_cons.1 hx with rfl | hx
            · exact hs
            · exact a4 x hx
          · intro hp x hx
            rcases List.mem_cons.1 hx with rfl | hx
            · exact hp _ (by simp)
            · exact a5 (fun y hy => hp y (by simp [hy])) x hx
        | false =>
          simp only [h3, cond_false] at h
          cases s <;> first | exact h.elim | skip
          rename_i k m il
          obtain ⟨h4, h5⟩ := cond_false_elim h
          have hle : off + sz ≤ m := Nat.le_of_ble_eq_true h4
          have hil : il.length = m := by cases hs; assumption
          refine ⟨_, h5, fun σ => ?_, by simp [wdL, SV.wd], ?_, by simp [SV.isPure]⟩
          · simp only [denL_cons, SV.dens, denL_nil, List.append_nil]
            rw [List.drop_append_of_le_length (by simp; omega), List.take_append_of_le_length (by simp; omega), List.map_take, List.map_drop]
          · intro x hx
            simp only [List.mem_singleton] at hx
            subst hx
            exact .ints (by simp; omega)

theorem nthK_spec : ∀ (l : List SV) (off : Nat) (K : SV → Prop), (∀ s ∈ l, s.Ok w av n) → nthK l off K →
    ∃ s, K s ∧ s.isOne = true ∧ s.Ok w av n ∧ (∀ σ, (denL σ l)[off]? = some (s.den σ)) ∧ ((∀ s ∈ l, s.isPure = true) → s.isPure = true)
  | [], _, _, _, h => h.elim
  | s :: r, off, K, hok, h => by
    simp only [nthK] at h
    have hr : ∀ x ∈ r, x.Ok w av n := fun x hx => hok x (by simp [hx])
    have hs := hok s (by simp)
    cases h2 : Nat.ble s.wd off with
    | true =>
      simp only [h2, cond_true] at h
      have hle : s.wd ≤ off := Nat.le_of_ble_eq_true h2
      obtain ⟨x, a1, a2, a3, a4, a5⟩ := nthK_spec r (off - s.wd) K hr h
      refine ⟨x, a1, a2, a3, fun σ => ?_, fun hp => a5 fun y hy => hp y (by simp [hy])⟩
      rw [denL_cons, List.getElem?_append_right (by rw [wd_dens hs]; exact hle), wd_dens hs]
      exact a4 σ
    | false =>
      simp only [h2, cond_false] at h
      have hlt : off < s.wd := by
        rcases Nat.lt_or_ge off s.wd with h' | h'
        · exact h'
        · rw [Nat.ble_eq_true_of_le h'] at h2; cases h2
      cases h1 : s.isOne with
      | true =>
        have h0 : off = 0 := by cases s <;> simp_all [SV.isOne, SV.wd]
        subst h0
        have hK : K s := by cases s <;> first | exact h | cases h1
        exact ⟨s, hK, h1, hs, fun σ => by rw [denL_cons, SV.dens_one h1]; rfl, fun hp => hp s (by simp)⟩
      | false =>
        cases s <;> simp [SV.isOne] at h1
        rename_i k m il
        simp only [SV.wd] at hlt
        have hil : il.length = m := by cases hs; assumption
        refine ⟨_, h, rfl, .v rfl, fun σ => ?_, fun _ => rfl⟩
        rw [denL_cons, List.getElem?_append_left (by simp [SV.dens]; omega)]
        simp [SV.dens, SV.den, List.getD_eq_getElem?_getD, List.getElem?_eq_getElem (show off < il.length by omega)]

theorem chunkK_spec : ∀ (l : List SV) (off : Nat) (K : IntKind → Nat → List Int → Prop), (∀ s ∈ l, s.Ok w av n) → chunkK l off K →
    ∃ k m il, K k m il ∧ il.length = m ∧ (∀ σ i (hi : i < il.length), (denL σ l)[off + i]? = some (.int k il[i]))
  | [], _, _, _, h => h.elim
  | s :: r, off, K, hok, h => by
    simp only [chunkK] at h
    have hr : ∀ x ∈ r, x.Ok w av n := fun x hx => hok x (by simp [hx])
    have hs := hok s (by simp)
    cases h1 : Nat.beq off 0 with
    | true =>
      have h0 : off = 0 := Nat.eq_of_beq_eq_true h1
      subst h0
      simp only [h1, cond_true] at h
      cases s <;> first | exact h.elim | skip
      rename_i k m il
      have hil : il.length = m := by cases hs; assumption
      refine ⟨k, m, il, h, hil, fun σ i hi => ?_⟩
      rw [denL_cons, List.getElem?_append_left (by simp [SV.dens]; omega)]
      simp [SV.dens, hi]
    | false =>
      simp only [h1, cond_false] at h
      obtain ⟨h2, h3⟩ := cond_false_elim h
      have hle : s.wd ≤ off := Nat.le_of_ble_eq_true h2
      obtain ⟨k, m, il, a1, a2, a3⟩ := chunkK_spec r (off - s.wd) K hr h3
      refine ⟨k, m, il, a1, a2, fun σ i hi => ?_⟩
      rw [denL_cons, List.getElem?_append_right (by rw [wd_dens hs]; omega), wd_dens hs, show off + i - s.wd = off - s.wd + i by omega]
      exact a3 σ i hi

theorem delK_spec : ∀ (l : List SV) (sz : Nat) (K : List SV → Prop), (∀ s ∈ l, s.Ok w av n) → delK l sz K →
    ∃ l', K l' ∧ (∀ σ, denL σ l' = (denL σ l).drop sz) ∧ wdL l' + sz = wdL l ∧ (∀ s ∈ l', s.Ok w av n)
  | [], sz, K, _, h => by
    obtain ⟨h1, h2⟩ := cond_false_elim h
    have : sz = 0 := Nat.eq_of_beq_eq_true h1
    subst this
    exact ⟨[], h2, by simp [denL], rfl, by simp⟩
  | s :: r, sz, K, hok, h => by
    simp only [delK] at h
    have hr : ∀ x ∈ r, x.Ok w av n := fun x hx => hok x (by simp [hx])
    have hs := hok s (by simp)
    cases h1 : Nat.beq sz 0 with
    | true =>
      have : sz = 0 := Nat.eq_of_beq_eq_true h1
      subst this
      simp only [h1, cond_true] at h
      exact ⟨s :: r, h, by simp, rfl, hok⟩
    | false =>
      simp only [h1, cond_false] at h
      obtain ⟨h2, h3⟩ := cond_false_elim h
      have hle : s.wd ≤ sz := Nat.le_of_ble_eq_true h2
      obtain ⟨l', a1, a2, a3, a4⟩ := delK_spec r (sz - s.wd) K hr h3
      refine ⟨l', a1, fun σ => ?_, by simp only [wdL]; omega, a4⟩
      rw [a2 σ, drop_cons hs σ hle]

theorem appK_eq (l r : List SV) (K : List SV → Prop) : appK l r K = K (l ++ r) := by
  induction l generalizing K with
  | nil => rfl
  | cons s l ih => simp [appK, ih]

theorem setK_spec (new : List SV) (sz : Nat) (hnew : ∀ s ∈ new, s.Ok w av n) : ∀ (l : List SV) (off : Nat) (K : List SV → Prop), (∀ s ∈ l, s.Ok w av n) → setK l off new sz K →
    ∃ l', K l' ∧ (∀ σ, denL σ l' = (denL σ l).take off ++ denL σ new ++ (denL σ l).drop (off + sz)) ∧ off + sz ≤ wdL l ∧ (∀ s ∈ l', s.Ok w av n)
  | [], _, _, _, h => h.elim
  | s :: r, off, K, hok, h => by
    simp only [setK] at h
    have hr : ∀ x ∈ r, x.Ok w av n := fun x hx => hok x (by simp [hx])
    have hs := hok s (by simp)
    cases h1 : Nat.beq off 0 with
    | true =>
      have h0 : off = 0 := Nat.eq_of_beq_eq_true h1
      subst h0
      simp only [h1, cond_true] at h
      obtain ⟨rest, a1, a2, a3, a4⟩ := delK_spec (s :: r) sz _ hok h
      rw [appK_eq] at a1
      refine ⟨_, a1, fun σ => by rw [denL_append, a2 σ]; simp, by omega, ?_⟩
      intro x hx
      rcases List.mem_append.1 hx with hx | hx
      · exact hnew x hx
      · exact a4 x hx
    | false =>
      simp only [h1, cond_false] at h
      obtain ⟨h2, h3⟩ := cond_false_elim h
      have hle : s.wd ≤ off := Nat.le_of_ble_eq_true h2
      obtain ⟨l', a1, a2, a3, a4⟩ := setK_spec new sz hnew r (off - s.wd) _ hr h3
      refine ⟨_, a1, fun σ => ?_, by simp only [wdL]; omega, ?_⟩
      · rw [denL_cons, a2 σ, take_cons hs σ hle, drop_cons hs σ (by omega), show off + sz - s.wd = off - s.wd + sz by omega]
        simp
      · intro x hx
        rcases List.mem_cons.1 hx with rfl | hx
        · exact hs
        · exact a4 x hx

theorem set1K_spec (x : SV) (hx1 : x.isOne = true) (hx : x.Ok w av n) : ∀ (l : List SV) (off : Nat) (K : List SV → Prop), (∀ s ∈ l, s.Ok w av n) → set1K l off x K →
    ∃ l', K l' ∧ (∀ σ, denL σ l' = (denL σ l).set off (x.den σ)) ∧ off < wdL l ∧ (∀ s ∈ l', s.Ok w av n)
  | [], _, _, _, h => h.elim
  | s :: r, off, K, hok, h => by
    simp only [set1K] at h
    have hr : ∀ x ∈ r, x.Ok w av n := fun x hx => hok x (by simp [hx])
    have hs := hok s (by simp)
    cases h2 : Nat.ble s.wd off with
    | true =>
      simp only [h2, cond_true] at h
      have hle : s.wd ≤ off := Nat.le_of_ble_eq_true h2
      obtain ⟨l', a1, a2, a3, a4⟩ := set1K_spec x hx1 hx r (off - s.wd) _ hr h
      refine ⟨_, a1, fun σ => ?_, by simp only [wdL]; omega, ?_⟩
      · rw [denL_cons, denL_cons, a2 σ, List.set_append_right _ _ (by rw [wd_dens hs]; exact hle), wd_dens hs]
      · intro y hy
        rcases List.mem_cons.1 hy with rfl | hy
        · exact hs
        · exact a4 y hy
    | false =>
      simp only [h2, cond_false] at h
      have hlt : off < s.wd := by
        rcases Nat.lt_or_ge off s.wd with h' | h'
        · exact h'
        · rw [Nat.ble_eq_true_of_le h'] at h2; cases h2
      cases h1 : s.isOne with
      | true =>
        have h0 : off = 0 := by cases s <;> simp_all [SV.isOne, SV.wd]
        subst h0
        have hK : K (x :: r) := by cases s <;> first | exact h | cases h1
        refine ⟨_, hK, fun σ => by rw [denL_cons, denL_cons, SV.dens_one h1, SV.dens_one hx1]; rfl, by simp only [wdL]; omega, ?_⟩
        intro y hy
        rcases List.mem_cons.1 hy with rfl | hy
        · exact hx
        · exact hr y hy
      | false =>
        cases s <;> simp [SV.isOne] at h1
        rename_i k m il
        simp only [SV.wd] at hlt
        have hil : il.length = m := by cases hs; assumption
        cases x <;> first | exact h.elim | skip
        rename_i v
        cases v <;> first | exact h.elim | skip
        rename_i k' y
        obtain ⟨h3, h4⟩ := cond_false_elim h
        have hk := IntKind.beq_eq h3
        subst hk
        refine ⟨_, h4, fun σ => ?_, by simp only [wdL, SV.wd]; omega, ?_⟩
        · rw [denL_cons, denL_cons, List.set_append_left _ _ (by simp [SV.dens]; omega)]
          simp [SV.dens, SV.den, List.map_set]
        · intro z hz
          rcases List.mem_cons.1 hz with rfl | hz
          · exact .ints (by simpa using hil)
          · exact hr z hz

theorem setIdxK_spec (x : SV) (hx1 : x.isOne = true) : ∀ (l : List SV) (off i : Nat) (K : List SV → Prop), (∀ s ∈ l, s.Ok w av n) → setIdxK l off i x K →
    ∃ l', K l' ∧ (∀ σ, denL σ l' = (denL σ l).set (off + i) (x.den σ)) ∧ off + i < wdL l ∧ (∀ s ∈ l', s.Ok w av n)
  | [], _, _, _, _, h => h.elim
  | s :: r, off, i, K, hok, h => by
    simp only [setIdxK] at h
    have hr : ∀ x ∈ r, x.Ok w av n := fun x hx => hok x (by simp [hx])
    have hs := hok s (by simp)
    cases h1 : Nat.beq off 0 with
    | true =>
      have h0 : off = 0 := Nat.eq_of_beq_eq_true h1
      subst h0
      simp only [h1, cond_true] at h
      cases s <;> first | exact h.elim | skip
      cases x <;> first | exact h.elim | skip
      rename_i k m il v
      cases v <;> first | exact h.elim | skip
      rename_i k' y
      obtain ⟨h3, h4, h5⟩ := cond_false_elim h
      have hk := IntKind.beq_eq h3
      subst hk
      have hil : il.length = m := by cases hs; assumption
      refine ⟨_, h5, fun σ => ?_, by simp only [wdL, SV.wd]; omega, ?_⟩
      · rw [denL_cons, denL_cons, Nat.zero_add, List.set_append_left _ _ (by simp [SV.dens]; omega)]
        simp [SV.dens, SV.den, List.map_set]
      · intro z hz
        rcases List.mem_cons.1 hz with rfl | hz
        · exact .ints (by simpa using hil)
        · exact hr z hz
    | false =>
      simp only [h1, cond_false] at h
      obtain ⟨h2, h3⟩ := cond_false_elim h
      have hle : s.wd ≤ off := Nat.le_of_ble_eq_true h2
      obtain ⟨l', a1, a2, a3, a4⟩ := setIdxK_spec x hx1 r (off - s.wd) i _ hr h3
      refine ⟨_, a1, fun σ => ?_, by simp only [wdL]; omega, ?_⟩
      · rw [denL_cons, denL_cons, a2 σ, List.set_append_right _ _ (by rw [wd_dens hs]; omega), wd_dens hs, show off + i - s.wd = off - s.wd + i by omega]
      · intro y hy
        rcases List.mem_cons.1 hy with rfl | hy
        · exact hs
        · exact a4 y hy

end
end Go.Sx
