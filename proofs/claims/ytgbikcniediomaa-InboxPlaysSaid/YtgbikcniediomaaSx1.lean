/- Symbolic states: values, blocks, what they stand for in a world of the model, and what a store, a new block and a draw do to them. Holds for every program. -/
import Derived.WalkKit
import Derived.Test.YtgbikcniediomaaSx0
import Derived.Deep.MidRow
import Derived.Deep.AppendSrc
namespace Go.Sx
set_option linter.unusedSimpArgs false
set_option linter.unusedVariables false

inductive CV where
  | v (x : Value)
  | ptr (j off : Nat)

inductive SV : Type 1 where
  | v (x : Value)
  | ints (k : IntKind) (n : Nat) (l : List Int)
  | ptr (j off : Nat)
  | aptr (j off k : Nat)
  | eptr (j es i k : Nat)
  | slc (j es off len cap : Nat)
  | nslc (j es len cap : Nat)
  | asl (j off i len cap : Nat)
  | view (x : Value) (es : Nat) {α : Type} (enc : α → List SV) (l : List α)
  | rptr (a : Addr) (cells : List SV)
  | clo (f : Nat) (cap : List CV)
  | mp (j : Nat)
  | ch (j : Nat)

inductive M : Type 1 where
  | one (s : SV)
  | agg (l : List SV)
  | tup (l : List M)

def CV.den (σ : Nat → Nat) : CV → Value
  | .v x => x
  | .ptr j off => .pointer (some ⟨σ j, off, none⟩)

def SV.wd : SV → Nat
  | .ints _ n _ => n
  | _ => 1

def SV.isOne : SV → Bool
  | .ints .. => false
  | _ => true

def SV.den (σ : Nat → Nat) : SV → Value
  | .v x => x
  | .ints _ _ _ => .tuple #[]
  | .ptr j off => .pointer (some ⟨σ j, off, none⟩)
  | .aptr j off k => .pointer (some ⟨σ j, off + k, none⟩)
  | .eptr j es i k => .pointer (some ⟨σ j, i * es + k, none⟩)
  | .slc j es off len cap => .slice (some ⟨σ j, off * es, none⟩) len cap
  | .nslc j _ len cap => if cap = 0 then .slice none 0 0 else .slice (some ⟨σ j, 0, none⟩) len cap
  | .asl j off i len cap => .slice (some ⟨σ j, off + i, none⟩) len cap
  | .view x _ _ _ => x
  | .rptr a _ => .pointer (some a)
  | .clo f cap => .func (.func f) #[] (cap.map (CV.den σ)).toArray
  | .mp j => .map (some (σ j))
  | .ch j => .chan (some (σ j))

def SV.dens (σ : Nat → Nat) : SV → List Value
  | .ints k _ l => l.map (Value.int k)
  | s => [s.den σ]

def denL (σ : Nat → Nat) (l : List SV) : List Value := l.flatMap (SV.dens σ)

def M.den (σ : Nat → Nat) : M → Value
  | .one s => s.den σ
  | .agg l => .agg (denL σ l).toArray
  | .tup l => .tuple (denT l).toArray
where denT : List M → List Value
  | [] => []
  | m :: r => m.den σ :: denT r

def SV.isPure : SV → Bool
  | .v _ => true
  | .ints .. => true
  | .view .. => true
  | .rptr .. => true
  | _ => false

def nowhere : Nat → Nat := fun _ => 0

def CV.lt (n : Nat) : CV → Prop
  | .v x => x.oneCell' = true
  | .ptr j _ => j < n

inductive SV.Ok (w : World) (avoid : Nat → Prop) (n : Nat) : SV → Prop
  | v {x : Value} (h : x.oneCell' = true) : SV.Ok w avoid n (.v x)
  | ints {k : IntKind} {m : Nat} {l : List Int} (h : l.length = m) : SV.Ok w avoid n (.ints k m l)
  | ptr {j off : Nat} (h : j < n) : SV.Ok w avoid n (.ptr j off)
  | aptr {j off k : Nat} (h : j < n) : SV.Ok w avoid n (.aptr j off k)
  | eptr {j es i k : Nat} (h : j < n) : SV.Ok w avoid n (.eptr j es i k)
  | slc {j es off len cap : Nat} (h : j < n) : SV.Ok w avoid n (.slc j es off len cap)
  | nslc {j es len cap : Nat} (h : j < n) (hl : len ≤ cap) : SV.Ok w avoid n (.nslc j es len cap)
  | asl {j off i len cap : Nat} (h : j < n) : SV.Ok w avoid n (.asl j off i len cap)
  | view {es : Nat} {α : Type} {enc : α → List SV} {l : List α} {a : Option Addr} {cap : Nat} (hcap : l.length ≤ cap)
      (hes : ∀ x ∈ l, (denL nowhere (enc x)).length = es)
      (hp : ∀ x ∈ l, ∀ s ∈ enc x, s.isPure = true)
      (hok : ∀ x ∈ l, ∀ s ∈ enc x, SV.Ok w avoid n s)
      (hcell : ∀ (i k : Nat) (hi : i < l.length) (u : Value), (denL nowhere (enc l[i]))[k]? = some u →
        ∃ b o, a = some ⟨b, o, none⟩ ∧ ¬ avoid b ∧ w.cell? ⟨b, o + (i * es + k), none⟩ = some u) :
      SV.Ok w avoid n (.view (.slice a l.length cap) es enc l)
  | rptr {b o : Nat} {cells : List SV} (hp : ∀ s ∈ cells, s.isPure = true) (hok : ∀ s ∈ cells, SV.Ok w avoid n s)
      (hcell : ∀ (k : Nat) (u : Value), (denL nowhere cells)[k]? = some u → ¬ avoid b ∧ w.cell? ⟨b, o + k, none⟩ = some u) :
      SV.Ok w avoid n (.rptr ⟨b, o, none⟩ cells)
  | clo {f : Nat} {cap : List CV} (h : ∀ c ∈ cap, c.lt n) : SV.Ok w avoid n (.clo f cap)
  | mp {j : Nat} (h : j < n) : SV.Ok w avoid n (.mp j)
  | ch {j : Nat} (h : j < n) : SV.Ok w avoid n (.ch j)

inductive M.Ok (w : World) (avoid : Nat → Prop) (n : Nat) : M → Prop
  | one {s : SV} (h1 : s.isOne = true) (h : s.Ok w avoid n) : M.Ok w avoid n (.one s)
  | agg {l : List SV} (h : ∀ s ∈ l, s.Ok w avoid n) : M.Ok w avoid n (.agg l)
  | tup {l : List M} (h : ∀ m ∈ l, M.Ok w avoid n m) : M.Ok w avoid n (.tup l)

theorem SV.dens_one {s : SV} (h : s.isOne = true) (σ : Nat → Nat) : s.dens σ = [s.den σ] := by
  cases s <;> first | rfl | cases h

theorem SV.Ok.oneCell {w : World} {avoid : Nat → Prop} {n : Nat} {s : SV} (h : s.Ok w avoid n) (h1 : s.isOne = true) (σ : Nat → Nat) : (s.den σ).oneCell' = true := by
  cases h with
  | v h => exact h
  | ints h => cases h1
  | nslc h hl => simp only [SV.den]; split <;> rfl
  | _ => rfl

theorem SV.Ok.dens_one {w : World} {avoid : Nat → Prop} {n : Nat} {s : SV} (h : s.Ok w avoid n) (σ : Nat → Nat) : ∀ u ∈ s.dens σ, u.oneCell' = true := by
  intro u hu
  cases h1 : s.isOne with
  | true =>
    rw [SV.dens_one h1] at hu
    simp only [List.mem_singleton] at hu
    subst hu
    exact h.oneCell h1 σ
  | false =>
    cases s <;> simp [SV.isOne] at h1
    simp only [SV.dens, List.mem_map] at hu
    obtain ⟨_, _, rfl⟩ := hu
    rfl

theorem SV.Ok.dens_length {w : World} {avoid : Nat → Prop} {n : Nat} {s : SV} (h : s.Ok w avoid n) (σ : Nat → Nat) : (s.dens σ).length = s.wd := by
  cases h with
  | ints h => simpa [SV.dens, SV.wd] using h
  | _ => rfl

theorem SV.dens_congr {w : World} {avoid : Nat → Prop} {n : Nat} {s : SV} (h : s.Ok w avoid n) {σ τ : Nat → Nat} (e : ∀ j, j < n → σ j = τ j) : s.dens σ = s.dens τ := by
  cases h with
  | clo h =>
    rename_i f cap
    simp only [SV.dens, SV.den]
    congr 3
    apply List.map_congr_left
    intro c hc
    have := h c hc
    cases c with
    | v x => rfl
    | ptr j off => simp only [CV.den]; rw [e j this]
  | _ => simp_all [SV.dens, SV.den]

theorem SV.den_congr {w : World} {avoid : Nat → Prop} {n : Nat} {s : SV} (h : s.Ok w avoid n) {σ τ : Nat → Nat} (e : ∀ j, j < n → σ j = τ j) : s.den σ = s.den τ := by
  have := SV.dens_congr h e
  cases h1 : s.isOne with
  | true => rw [SV.dens_one h1, SV.dens_one h1] at this; simpa using this
  | false => cases s <;> simp [SV.isOne] at h1; rfl

theorem SV.dens_pure {s : SV} (h : s.isPure = true) (σ τ : Nat → Nat) : s.dens σ = s.dens τ := by
  cases s <;> first | rfl | cases h

theorem denL_congr {w : World} {avoid : Nat → Prop} {n : Nat} {l : List SV} (h : ∀ s ∈ l, s.Ok w avoid n) {σ τ : Nat → Nat} (e : ∀ j, j < n → σ j = τ j) : denL σ l = denL τ l := by
  induction l with
  | nil => rfl
  | cons s r ih =>
    simp only [denL, List.flatMap_cons] at ih ⊢
    rw [SV.dens_congr (h s (by simp)) e, ih fun s hs => h s (by simp [hs])]

theorem denL_pure {l : List SV} (h : ∀ s ∈ l, s.isPure = true) (σ τ : Nat → Nat) : denL σ l = denL τ l := by
  induction l with
  | nil => rfl
  | cons s r ih =>
    simp only [denL, List.flatMap_cons] at ih ⊢
    rw [SV.dens_pure (h s (by simp)) σ τ, ih fun s hs => h s (by simp [hs])]

theorem denL_one {w : World} {avoid : Nat → Prop} {n : Nat} {l : List SV} (h : ∀ s ∈ l, s.Ok w avoid n) (σ : Nat → Nat) : ∀ u ∈ denL σ l, u.oneCell' = true := by
  intro u hu
  obtain ⟨s, hs, hu⟩ := List.mem_flatMap.1 hu
  exact (h s hs).dens_one σ u hu

theorem denL_append (σ : Nat → Nat) (l r : List SV) : denL σ (l ++ r) = denL σ l ++ denL σ r := by simp [denL]
theorem denL_cons (σ : Nat → Nat) (s : SV) (r : List SV) : denL σ (s :: r) = s.dens σ ++ denL σ r := by simp [denL]
theorem denL_nil (σ : Nat → Nat) : denL σ [] = [] := rfl

def wdL : List SV → Nat
  | [] => 0
  | s :: r => s.wd + wdL r

theorem denL_length {w : World} {avoid : Nat → Prop} {n : Nat} {l : List SV} (h : ∀ s ∈ l, s.Ok w avoid n) (σ : Nat → Nat) : (denL σ l).length = wdL l := by
  induction l with
  | nil => rfl
  | cons s r ih =>
    rw [denL_cons, List.length_append, (h s (by simp)).dens_length, ih fun s hs => h s (by simp [hs])]
    rfl

theorem M.den_tup (σ : Nat → Nat) (l : List M) : (M.tup l).den σ = .tuple (l.map (M.den σ)).toArray := by
  have : ∀ l : List M, M.den.denT σ l = l.map (M.den σ) := by
    intro l
    induction l with
    | nil => rfl
    | cons m r ih => simp [M.den.denT, ih]
  simp [M.den, this]

theorem M.den_congr {w : World} {avoid : Nat → Prop} {n : Nat} {m : M} (h : m.Ok w avoid n) {σ τ : Nat → Nat} (e : ∀ j, j < n → σ j = τ j) : m.den σ = m.den τ := by
  induction h with
  | one h1 h => exact SV.den_congr h e
  | agg h =>
    simp only [M.den]
    rw [denL_congr h e]
  | tup h ih =>
    rw [M.den_tup, M.den_tup]
    congr 2
    exact List.map_congr_left fun s hs => ih s hs

theorem SV.Ok.mono {w w' : World} {av av' : Nat → Prop} {n n' : Nat} {s : SV} (h : s.Ok w av n) (hn : n ≤ n')
    (hk : ∀ b, b < w.heap.size → ¬ av b → ¬ av' b ∧ w'.heap[b]? = w.heap[b]?) : s.Ok w' av' n' := by
  induction h with
  | v h => exact .v h
  | ints h => exact .ints h
  | ptr h => exact .ptr (by omega)
  | aptr h => exact .aptr (by omega)
  | eptr h => exact .eptr (by omega)
  | slc h => exact .slc (by omega)
  | nslc h hl => exact .nslc (by omega) hl
  | asl h => exact .asl (by omega)
  | view hcap hes hp hok hcell ih =>
    refine .view hcap hes hp ih fun i k hi u hu => ?_
    obtain ⟨b, o, rfl, h1, h3⟩ := hcell i k hi u hu
    have hb : b < w.heap.size := World.block_lt_of_cell? _ _ h3
    obtain ⟨h4, h5⟩ := hk b hb h1
    exact ⟨b, o, rfl, h4, (World.cell?_of_block h5).trans h3⟩
  | rptr hp hok hcell ih =>
    refine .rptr hp ih fun k u hu => ?_
    obtain ⟨h1, h3⟩ := hcell k u hu
    have hb := World.block_lt_of_cell? _ _ h3
    obtain ⟨h4, h5⟩ := hk _ hb h1
    exact ⟨h4, (World.cell?_of_block h5).trans h3⟩
  | clo h =>
    refine .clo fun c hc => ?_
    have := h c hc
    cases c with
    | v x => exact this
    | ptr j off => simp only [CV.lt] at this ⊢; omega
  | mp h => exact .mp (by omega)
  | ch h => exact .ch (by omega)

theorem M.Ok.mono {w w' : World} {av av' : Nat → Prop} {n n' : Nat} {m : M} (h : m.Ok w av n) (hn : n ≤ n')
    (hk : ∀ b, b < w.heap.size → ¬ av b → ¬ av' b ∧ w'.heap[b]? = w.heap[b]?) : m.Ok w' av' n' := by
  induction h with
  | one h1 h => exact .one h1 (h.mono hn hk)
  | agg h => exact .agg fun s hs => (h s hs).mono hn hk
  | tup _ ih => exact .tup ih

inductive RK where
  | int (k : IntKind)
  | bool
  | str
  | ints (k : IntKind) (n : Nat)
  | sl (es : Nat) (fs : List RK)

mutual
def RK.T : RK → Type
  | .int _ => Int
  | .bool => Bool
  | .str => ByteArray
  | .ints _ _ => List Int
  | .sl _ fs => Value × List (RK.TL fs)
def RK.TL : List RK → Type
  | [] => Unit
  | f :: r => RK.T f × RK.TL r
end

mutual
def RK.sv : (f : RK) → RK.T f → SV
  | .int k, n => .v (.int k n)
  | .bool, b => .v (.bool b)
  | .str, s => .v (.string s)
  | .ints k n, l => .ints k n l
  | .sl es fs, x => .view x.1 es (RK.svs fs) x.2
def RK.svs : (fs : List RK) → RK.TL fs → List SV
  | [], _ => []
  | f :: r, x => RK.sv f x.1 :: RK.svs r x.2
end

def kindB : IntKind → IntKind → Bool
  | .i8, .i8 | .i16, .i16 | .i32, .i32 | .i64, .i64 | .u8, .u8 | .u16, .u16 | .u32, .u32 | .u64, .u64 => true
  | _, _ => false
theorem kindB_eq {k k' : IntKind} (h : kindB k k' = true) : k = k' := by cases k <;> cases k' <;> first | rfl | cases h

mutual
def RK.beq : RK → RK → Bool
  | .int k, g => match g with
    | .int k' => kindB k k'
    | _ => false
  | .bool, g => match g with
    | .bool => true
    | _ => false
  | .str, g => match g with
    | .str => true
    | _ => false
  | .ints k n, g => match g with
    | .ints k' n' => kindB k k' && Nat.beq n n'
    | _ => false
  | .sl es fs, g => match g with
    | .sl es' fs' => Nat.beq es es' && RK.beqs fs fs'
    | _ => false
def RK.beqs : List RK → List RK → Bool
  | [], l => match l with
    | [] => true
    | _ => false
  | f :: r, l => match l with
    | g :: q => RK.beq f g && RK.beqs r q
    | [] => false
end
mutual
theorem RK.beq_eq : ∀ {f g : RK}, RK.beq f g = true → f = g
  | .int k, g, h => by cases g <;> simp only [RK.beq] at h <;> first | rw [kindB_eq h] | cases h
  | .bool, g, h => by cases g <;> simp only [RK.beq] at h <;> first | rfl | cases h
  | .str, g, h => by cases g <;> simp only [RK.beq] at h <;> first | rfl | cases h
  | .ints k n, g, h => by
    cases g <;> simp only [RK.beq, Bool.and_eq_true] at h <;> first | (cases h; done) | skip
    rw [kindB_eq h.1, Nat.eq_of_beq_eq_true h.2]
  | .sl es fs, g, h => by
    cases g <;> simp only [RK.beq, Bool.and_eq_true] at h <;> first | (cases h; done) | skip
    rw [Nat.eq_of_beq_eq_true h.1, RK.beqs_eq h.2]
theorem RK.beqs_eq : ∀ {f g : List RK}, RK.beqs f g = true → f = g
  | [], g, h => by cases g <;> simp only [RK.beqs] at h <;> first | rfl | cases h
  | f :: r, g, h => by
    cases g <;> simp only [RK.beqs, Bool.and_eq_true] at h <;> first | (cases h; done) | skip
    rw [RK.beq_eq h.1, RK.beqs_eq h.2]
end

theorem SV.Ok.reenc {w : World} {av : Nat → Prop} {n es : Nat} {x : Value} {α β : Type} {enc : α → List SV} {l : List α} {enc' : β → List SV} {l' : List β} (hl : l.map enc = l'.map enc') (h : (SV.view x es enc l).Ok w av n) : (SV.view x es enc' l').Ok w av n := by
  cases h with
  | @view _ _ _ _ a cap hcap hes hp hok hcell =>
    have e : l.length = l'.length := by have := congrArg List.length hl; simpa using this
    have mem : ∀ y ∈ l', ∃ z ∈ l, enc z = enc' y := by
      intro y hy
      have : enc' y ∈ l.map enc := by rw [hl]; exact List.mem_map.2 ⟨y, hy, rfl⟩
      obtain ⟨z, h1, h2⟩ := List.mem_map.1 this
      exact ⟨z, h1, h2⟩
    rw [e] at hcap ⊢
    refine .view hcap (fun y hy => ?_) (fun y hy => ?_) (fun y hy => ?_) fun i k hi u hu => ?_
    · obtain ⟨z, h1, h2⟩ := mem y hy; rw [← h2]; exact hes z h1
    · obtain ⟨z, h1, h2⟩ := mem y hy; rw [← h2]; exact hp z h1
    · obtain ⟨z, h1, h2⟩ := mem y hy; rw [← h2]; exact hok z h1
    · have e3 : (l.map enc)[i]? = (l'.map enc')[i]? := by rw [hl]
      have hi' : i < l.length := by omega
      simp only [List.getElem?_map, List.getElem?_eq_getElem hi, List.getElem?_eq_getElem hi', Option.map_some, Option.some.injEq] at e3
      exact hcell i k hi' u (by rw [e3]; exact hu)

def SEq (a b : SV) : Prop := (∀ σ, a.dens σ = b.dens σ) ∧ ∀ w av n, b.Ok w av n → a.Ok w av n
def LEq (a b : List SV) : Prop := (∀ σ, denL σ a = denL σ b) ∧ ∀ w av n, (∀ s ∈ b, SV.Ok w av n s) → ∀ s ∈ a, SV.Ok w av n s
theorem SEq.refl (a : SV) : SEq a a := ⟨fun _ => rfl, fun _ _ _ h => h⟩
theorem LEq.cons {a b : SV} {l r : List SV} (h : SEq a b) (hl : LEq l r) : LEq (a :: l) (b :: r) :=
  ⟨fun σ => by rw [denL_cons, denL_cons, h.1, hl.1], fun w av n hr s hs => by
    rcases List.mem_cons.1 hs with rfl | hs
    · exact h.2 w av n (hr b (by simp))
    · exact hl.2 w av n (fun x hx => hr x (by simp [hx])) s hs⟩

def RK.of1 : (f : RK) → SV → (RK.T f → Prop) → Prop
  | .int k, s, K => match s with
    | .v (.int k' b) => bif kindB k' k then K b else False
    | _ => False
  | .bool, s, K => match s with
    | .v (.bool b) => K b
    | _ => False
  | .str, s, K => match s with
    | .v (.string b) => K b
    | _ => False
  | .ints k n, s, K => match s with
    | .ints k' n' l => bif kindB k' k && Nat.beq n' n then K l else False
    | _ => False
  | .sl es fs, s, K => match s with
    | .view x es' enc l => bif Nat.beq es es' then ∃ l' : List (RK.TL fs), l.map enc = l'.map (RK.svs fs) ∧ K (x, l') else False
    | .v (.slice none 0 0) => K (.slice none 0 0, [])
    | _ => False
theorem bif_false {b : Bool} {p : Prop} (h : bif b then p else False) : b = true ∧ p := by
  cases b
  · exact h.elim
  · exact ⟨rfl, h⟩
theorem RK.of1_ok : ∀ (f : RK) (s : SV) (K : RK.T f → Prop), RK.of1 f s K → ∃ y, SEq (RK.sv f y) s ∧ K y ∧ ∀ K', K' y → RK.of1 f s K' := by
  intro f s K h
  cases f with
  | int k =>
    cases s with
    | v x =>
      cases x with
      | int k' b =>
        have h : (bif kindB k' k then K b else False) := h
        obtain ⟨h1, h2⟩ := bif_false h
        have := kindB_eq h1
        subst this
        exact ⟨b, SEq.refl _, h2, fun K' hk => show (bif kindB k' k' then K' b else False) by rw [h1]; exact hk⟩
      | _ => exact False.elim h
    | _ => exact False.elim h
  | bool =>
    cases s with
    | v x =>
      cases x with
      | bool b => exact ⟨b, SEq.refl _, h, fun K' hk => hk⟩
      | _ => exact False.elim h
    | _ => exact False.elim h
  | str =>
    cases s with
    | v x =>
      cases x with
      | string b => exact ⟨b, SEq.refl _, h, fun K' hk => hk⟩
      | _ => exact False.elim h
    | _ => exact False.elim h
  | ints k n =>
    cases s with
    | ints k' n' l =>
      have h : (bif kindB k' k && Nat.beq n' n then K l else False) := h
      obtain ⟨h1, h2⟩ := bif_false h
      have h3 := h1
      simp only [Bool.and_eq_true] at h3
      have := kindB_eq h3.1
      have := Nat.eq_of_beq_eq_true h3.2
      subst_vars
      exact ⟨l, SEq.refl _, h2, fun K' hk => show (bif kindB _ _ && Nat.beq _ _ then K' l else False) by rw [h1]; exact hk⟩
    | _ => exact False.elim h
  | sl es fs =>
    cases s with
    | view x es' enc l =>
      have h : (bif Nat.beq es es' then ∃ l' : List (RK.TL fs), l.map enc = l'.map (RK.svs fs) ∧ K (x, l') else False) := h
      obtain ⟨h1, l', h2, h3⟩ := bif_false h
      have := Nat.eq_of_beq_eq_true h1
      subst this
      exact ⟨(x, l'), ⟨fun _ => rfl, fun w av n hv => SV.Ok.reenc h2 hv⟩, h3, fun K' hk => show (bif Nat.beq es es then ∃ l' : List (RK.TL fs), l.map enc = l'.map (RK.svs fs) ∧ K' (x, l') else False) by rw [h1]; exact ⟨l', h2, hk⟩⟩
    | v z =>
      have nl : ∀ K : RK.T (.sl es fs) → Prop, K (Value.slice none 0 0, []) → ∃ y, SEq (RK.sv (.sl es fs) y) (.v (.slice none 0 0)) ∧ K y ∧ ∀ K', K' y → RK.of1 (.sl es fs) (.v (.slice none 0 0)) K' := fun K h =>
        ⟨(Value.slice none 0 0, []), ⟨fun _ => rfl, fun w av n _ => by
          have e : RK.sv (.sl es fs) (Value.slice none 0 0, []) = .view (.slice none ([] : List (RK.TL fs)).length 0) es (RK.svs fs) [] := rfl
          rw [e]
          exact .view (Nat.le_refl 0) (fun _ h => by cases h) (fun _ h => by cases h) (fun _ h => by cases h) (fun i k hi => by cases hi)⟩, h, fun K' hk => hk⟩
      cases z with
      | slice a b c =>
        cases a with
        | none =>
          cases b with
          | zero =>
            cases c with
            | zero => exact nl K h
            | succ c => exact False.elim h
          | succ b => exact False.elim h
        | some a => exact False.elim h
      | _ => exact False.elim h
    | _ => exact False.elim h

def RK.of : (fs : List RK) → List SV → (RK.TL fs → Prop) → Prop
  | [], l, K => match l with
    | [] => K ()
    | _ :: _ => False
  | f :: r, l, K => match l with
    | s :: q => RK.of1 f s fun x => RK.of r q fun y => K (x, y)
    | [] => False
theorem RK.of_ok : ∀ (fs : List RK) (l : List SV) (K : RK.TL fs → Prop), RK.of fs l K → ∃ y, LEq (RK.svs fs y) l ∧ K y ∧ ∀ K', K' y → RK.of fs l K'
  | [], [], K, h => ⟨(), ⟨fun _ => rfl, fun _ _ _ h => h⟩, h, fun _ hk => hk⟩
  | [], _ :: _, K, h => h.elim
  | f :: r, [], K, h => h.elim
  | f :: r, s :: q, K, h => by
    obtain ⟨x, h1, h2, h3⟩ := RK.of1_ok f s _ h
    obtain ⟨y, h4, h5, h6⟩ := RK.of_ok r q _ h2
    exact ⟨(x, y), LEq.cons h1 h4, h5, fun K' hk => h3 _ (h6 _ hk)⟩

structure Enc (α : Type) : Type 1 where
  enc : α → List SV
  code : List RK
  to : α → RK.TL code
  of : RK.TL code → α
  of_to : ∀ x, of (to x) = x
  to_of : ∀ t, to (of t) = t
  henc : ∀ x, enc x = RK.svs code (to x)

def Enc.dec {α : Type} (E : Enc α) (cs : List SV) (K : α → Prop) : Prop := RK.of E.code cs fun t => K (E.of t)

theorem Enc.ok {α : Type} (E : Enc α) (cs : List SV) (K : α → Prop) (h : E.dec cs K) : ∃ y, LEq (E.enc y) cs ∧ K y ∧ ∀ K', K' y → E.dec cs K' := by
  obtain ⟨t, h1, h2, h3⟩ := RK.of_ok E.code cs _ h
  exact ⟨E.of t, by rw [E.henc, E.to_of]; exact h1, h2, fun K' hk => h3 _ hk⟩

def castL {α β : Type} (E' : Enc β) (E : Enc α) (l : List β) : List α :=
  match h : RK.beqs E'.code E.code with
  | true => l.map fun x => E.of ((RK.beqs_eq h) ▸ E'.to x)
  | false => []

theorem castL_enc {α β : Type} {E' : Enc β} {E : Enc α} (h : RK.beqs E'.code E.code = true) (l : List β) : (castL E' E l).map E.enc = l.map E'.enc := by
  unfold castL
  split
  · rename_i h1
    rw [List.map_map]
    refine List.map_congr_left fun x _ => ?_
    simp only [Function.comp]
    rw [E.henc, E.to_of, E'.henc]
    have : ∀ (c c' : List RK) (e : c = c') (t : RK.TL c), RK.svs c' (e ▸ t) = RK.svs c t := by
      intro c c' e t
      subst e
      rfl
    exact this _ _ _ _
  · rename_i h1
    rw [h] at h1
    cases h1

theorem castL_self {α : Type} (E : Enc α) (l : List α) (h : RK.beqs E.code E.code = true) : castL E E l = l := by
  unfold castL
  split
  · rw [List.map_congr_left (g := id) fun x _ => E.of_to x, List.map_id]
  · rename_i h1
    rw [h] at h1
    cases h1

def encInt (k : IntKind) : Enc Int := ⟨fun b => [.v (.int k b)], [.int k], fun b => (b, ()), fun t => t.1, fun _ => rfl, fun _ => rfl, fun _ => rfl⟩
def encInts (k : IntKind) (n : Nat) : Enc (List Int) := ⟨fun b => [.ints k n b], [.ints k n], fun b => (b, ()), fun t => t.1, fun _ => rfl, fun _ => rfl, fun _ => rfl⟩
def encBoo : Enc Bool := ⟨fun b => [.v (.bool b)], [.bool], fun b => (b, ()), fun t => t.1, fun _ => rfl, fun _ => rfl, fun _ => rfl⟩
def encRec (fs : List RK) : Enc (RK.TL fs) := ⟨RK.svs fs, fs, id, id, fun _ => rfl, fun _ => rfl, fun _ => rfl⟩

instance {α : Type} : CoeFun (Enc α) fun _ => α → List SV := ⟨Enc.enc⟩

structure MRest where
  p : (Nat → Option Obj) → List Nat → List (List Int × Value) → Prop
  loc : ∀ f g A l, (∀ x, x ∈ A → f x = g x) → p f A l → p g A l
def keyV (key : List Int) : Value := .agg (key.map (Value.int .u8)).toArray
def entsOf (es : Array MapEntry) (l : List (List Int × Value)) : Prop := es.toList.map (fun e => (e.key, e.val)) = l.map (fun x => (keyV x.1, x.2))
def atKey (key : List Int) (l : List (List Int × Value)) : Value := match l.find? (fun x => decide (x.1 = key)) with
  | some x => x.2
  | none => .slice none 0 0
def thawed (f : Nat × Nat) (n : Nat) : Prop := f.1 = f.2 ∨ n ≤ f.1
theorem thawed.at {f : Nat × Nat} {n k : Nat} (h : thawed f n) (hk : k < n) : ¬ (f.1 ≤ k ∧ k < f.2) := by
  rcases h with h | h <;> omega

def ownP (f : Nat → Option Obj) (A : List Nat) (l : List (Value × List Int)) : Prop :=
  (∀ i (hi : i < l.length), l[i].2 ≠ [] → ∃ b cap, l[i].1 = .slice (some ⟨b, 0, none⟩) l[i].2.length cap ∧ b ∈ A ∧ ∃ c t fr, f b = some (.cells c t fr) ∧ thawed fr c.size ∧ ∀ q (hq : q < l[i].2.length), c[q]? = some (.int .u8 l[i].2[q])) ∧
  ∀ i j (hi : i < l.length) (hj : j < l.length) b n c m d, l[i].2 ≠ [] → l[j].2 ≠ [] → l[i].1 = .slice (some ⟨b, 0, none⟩) n c → l[j].1 = .slice (some ⟨b, 0, none⟩) m d → i = j
theorem ownP.loc {f g : Nat → Option Obj} {A : List Nat} {l : List (Value × List Int)} (h : ∀ x, x ∈ A → f x = g x) (hp : ownP f A l) : ownP g A l :=
  ⟨fun i hi hne => by
    obtain ⟨b, cap, h1, h2, c, t, fr, h3, h4⟩ := hp.1 i hi hne
    exact ⟨b, cap, h1, h2, c, t, fr, (h b h2).symm.trans h3, h4⟩, hp.2⟩
inductive Abs where
  | raw (p : (Nat → Option Obj) → Nat → List Nat → List Value → Prop) (loc : ∀ f g b A V, (∀ x, x = b ∨ x ∈ A → f x = g x) → p f b A V → p g b A V)
  | map (m : Nat) (key : List Int) (R : MRest)
  | own (l : List (Value × List Int))
def Abs.loose : Abs → Bool
  | .own _ => true
  | _ => false
def Abs.p : Abs → (Nat → Option Obj) → Nat → List Nat → List Value → Prop
  | .raw p _, f, b, A, V => p f b A V
  | .map m key R, f, b, A, V => ∃ es clock l, f b = some (.map es clock) ∧ entsOf es l ∧ (∀ x ∈ l, x.1.length = m) ∧ (l.map (·.1)).Nodup ∧ V = [atKey key l] ∧ R.p f A (l.filter fun x => !decide (x.1 = key))
  | .own l, f, _, A, _ => ownP f A l
theorem Abs.loc (o : Abs) (f g : Nat → Option Obj) (b : Nat) (A : List Nat) (V : List Value) (h : ∀ x, x = b ∨ x ∈ A → f x = g x) (hp : o.p f b A V) : o.p g b A V := by
  cases o with
  | own l => exact ownP.loc (fun x hx => h x (.inr hx)) hp
  | raw p loc => exact loc f g b A V h hp
  | map m key R =>
    obtain ⟨es, clock, l, h1, h2, h3, h4, h5, h6⟩ := hp
    exact ⟨es, clock, l, (h b (.inl rfl)).symm.trans h1, h2, h3, h4, h5, R.loc f g A _ (fun x hx => h x (.inr hx)) h6⟩
def newMap : Abs := .raw (fun f b A _ => f b = some (.map #[] 0) ∧ A = []) fun _ _ b _ _ h hp => ⟨(h b (.inl rfl)).symm.trans hp.1, hp.2⟩
def elM (ag : Bool) (l : List SV) : M := bif ag then .agg l else match l with
  | [s] => .one s
  | _ => .tup []
inductive Blk : Type 1 where
  | cells (l : List SV)
  | row (es : Nat) {α : Type} (enc : Enc α) (l : List α) (cap : Nat)
  | obj (A : List Nat) (V : List SV) (o : Abs)
  | chan (cap : Nat) (ag : Bool) {α : Type} (enc : Enc α) (l : List α)

def Blk.holds (σ : Nat → Nat) (w : World) (b : Nat) : Blk → Prop
  | .cells l => ∃ t f, w.heap[b]? = some (.cells (denL σ l).toArray t f) ∧ thawed f (denL σ l).length
  | .row es enc l cap => l.length ≤ cap ∧ (∀ x ∈ l, (denL σ (enc x)).length = es) ∧ (0 < cap → ∃ c t f, w.heap[b]? = some (.cells c t f) ∧ thawed f c.size ∧ c.size = cap * es ∧
      ∀ (i k : Nat) (hi : i < l.length) (u : Value), (denL σ (enc l[i]))[k]? = some u → c[i * es + k]? = some u)
  | .obj A V o => (o.loose = false → ∃ x, w.heap[b]? = some x) ∧ (∀ a ∈ A, ∃ x, w.heap[a]? = some x) ∧ (o.loose = false → b ∉ A) ∧ o.p (fun x => w.heap[x]?) b A (denL σ V)
  | .chan cap ag enc l => ∃ s r, w.heap[b]? = some (.chan cap (l.map fun x => (elM ag (enc.enc x)).den nowhere).toArray false s r false)

def Blk.Ok (w : World) (av : Nat → Prop) (n : Nat) : Blk → Prop
  | .cells l => ∀ s ∈ l, s.Ok w av n
  | .row _ enc l _ => ∀ x ∈ l, ∀ s ∈ enc x, s.Ok w av n
  | .obj _ V _ => ∀ s ∈ V, s.Ok w av n
  | .chan _ _ enc l => ∀ x ∈ l, ∀ s ∈ enc.enc x, s.Ok w av n

def Blk.real : Blk → Prop
  | .row _ _ _ cap => 0 < cap
  | .obj _ _ o => o.loose = false
  | _ => True
def Blk.foot : Blk → List Nat
  | .obj A _ _ => A
  | _ => []
def Blk.occ (k : Blk) (a b : Nat) : Prop := (k.real ∧ a = b) ∨ b ∈ k.foot
theorem Blk.occ.mk {k : Blk} {a : Nat} (h : k.real) : k.occ a a := .inl ⟨h, rfl⟩

theorem Blk.holds.lt {σ : Nat → Nat} {w : World} {b : Nat} {k : Blk} (h : k.holds σ w b) (hr : k.real) : b < w.heap.size := by
  cases k <;> simp only [Blk.holds] at h
  · obtain ⟨_, _, h, _⟩ := h; exact (Array.getElem?_eq_some_iff.1 h).1
  · obtain ⟨_, _, h⟩ := h; obtain ⟨_, _, _, h, _⟩ := h hr; exact (Array.getElem?_eq_some_iff.1 h).1
  · obtain ⟨h, _⟩ := h; obtain ⟨_, h⟩ := h hr; exact (Array.getElem?_eq_some_iff.1 h).1
  · obtain ⟨_, _, h⟩ := h; exact (Array.getElem?_eq_some_iff.1 h).1
theorem Blk.holds.occ_lt {σ : Nat → Nat} {w : World} {b c : Nat} {k : Blk} (h : k.holds σ w b) (hr : k.occ b c) : c < w.heap.size := by
  rcases hr with ⟨hr, rfl⟩ | hr
  · exact h.lt hr
  · cases k with
    | obj A V o =>
      obtain ⟨_, h2, _⟩ := h
      obtain ⟨x, hx⟩ := h2 c hr
      exact (Array.getElem?_eq_some_iff.1 hx).1
    | _ => cases hr

theorem Blk.holds.of_block {σ τ : Nat → Nat} {w w' w₀ : World} {b b' n : Nat} {k : Blk} {av : Nat → Prop} (h : k.holds σ w b) (hok : k.Ok w₀ av n) (e : ∀ j, j < n → σ j = τ j) (hb : k.real → b' = b)
    (hw : ∀ c, k.occ b c → w'.heap[c]? = w.heap[c]?) : k.holds τ w' b' := by
  cases k <;> simp only [Blk.holds, Blk.Ok] at h hok ⊢
  · obtain ⟨t, f, h1, h2⟩ := h
    rw [← denL_congr hok e, hb trivial]
    exact ⟨t, f, (hw b (.mk trivial)).trans h1, h2⟩
  · obtain ⟨h4, h5, h7⟩ := h
    refine ⟨h4, fun x hx => by rw [← denL_congr (hok x hx) e]; exact h5 x hx, fun hc => ?_⟩
    obtain ⟨c, t, f, h1, h2, h3, h6⟩ := h7 hc
    rw [hb hc]
    exact ⟨c, t, f, (hw b (.mk hc)).trans h1, h2, h3, fun i k hi u hu => h6 i k hi u (by rw [denL_congr (hok _ (List.getElem_mem hi)) e]; exact hu)⟩
  · rename_i A V o
    obtain ⟨h1, h2, h3, h4⟩ := h
    have hA : ∀ a ∈ A, ∃ x, w'.heap[a]? = some x := fun a ha => by
      obtain ⟨y, hy⟩ := h2 a ha
      exact ⟨y, (hw a (.inr ha)).trans hy⟩
    cases hl : o.loose with
    | true =>
      refine ⟨fun hf => (by cases hf), hA, fun hf => (by cases hf), ?_⟩
      cases o <;> first | (cases hl; done) | skip
      exact ownP.loc (fun x hx => (hw x (.inr hx)).symm) h4
    | false =>
      have hr : (Blk.obj A V o).real := hl
      rw [hb hr]
      obtain ⟨x, h1⟩ := h1 hl
      refine ⟨fun _ => ⟨x, (hw b (.mk hr)).trans h1⟩, hA, fun _ => h3 hl, ?_⟩
      rw [← denL_congr hok e]
      refine Abs.loc _ _ _ _ _ _ (fun x hx => ?_) h4
      rcases hx with rfl | hx
      · exact (hw _ (.mk hr)).symm
      · exact (hw _ (.inr hx)).symm
  · obtain ⟨x, r, h1⟩ := h
    rw [hb trivial]
    exact ⟨x, r, (hw b (.mk trivial)).trans h1⟩

theorem Blk.Ok.mono {w w' : World} {av av' : Nat → Prop} {n n' : Nat} {k : Blk} (h : k.Ok w av n) (hn : n ≤ n')
    (hk : ∀ b, b < w.heap.size → ¬ av b → ¬ av' b ∧ w'.heap[b]? = w.heap[b]?) : k.Ok w' av' n' := by
  cases k <;> simp only [Blk.Ok] at h ⊢
  · exact fun s hs => (h s hs).mono hn hk
  · exact fun x hx s hs => (h x hx s hs).mono hn hk
  · exact fun s hs => (h s hs).mono hn hk
  · exact fun x hx s hs => (h x hx s hs).mono hn hk

abbrev Env := List (Nat × M)
abbrev Bs := List (Nat × Blk)

def get {α : Type 1} : List (Nat × α) → Nat → Option α
  | [], _ => none
  | (k, x) :: r, i => bif Nat.beq k i then some x else get r i

def del {α : Type 1} : List (Nat × α) → Nat → List (Nat × α)
  | [], _ => []
  | (k, x) :: r, i => bif Nat.beq k i then del r i else (k, x) :: del r i

def put {α : Type 1} (l : List (Nat × α)) (i : Nat) (x : α) : List (Nat × α) := (i, x) :: l

def upd {α : Type 1} : List (Nat × α) → Nat → α → List (Nat × α)
  | [], i, x => [(i, x)]
  | (k, y) :: r, i, x => bif Nat.beq k i then (i, x) :: r else (k, y) :: upd r i x

theorem beqF {i j : Nat} (h : ¬ i = j) : Nat.beq i j = false := by
  cases hb : Nat.beq i j with
  | false => rfl
  | true => exact absurd (Nat.eq_of_beq_eq_true hb) h

theorem beqT (i : Nat) : Nat.beq i i = true := Nat.beq_refl i

theorem get_put {α : Type 1} (l : List (Nat × α)) (i j : Nat) (x : α) : get (put l i x) j = if i = j then some x else get l j := by
  simp only [put, get]
  by_cases h : i = j
  · subst h; simp
  · have : Nat.beq i j = false := beqF h
    simp [this, h]

theorem get_upd {α : Type 1} (l : List (Nat × α)) (i j : Nat) (x : α) : get (upd l i x) j = if i = j then some x else get l j := by
  induction l with
  | nil =>
    simp only [upd, get]
    by_cases h : i = j
    · subst h; simp
    · have : Nat.beq i j = false := beqF h
      simp [this, h]
  | cons p r ih =>
    obtain ⟨k, y⟩ := p
    simp only [upd]
    by_cases hk : k = i
    · subst hk
      have : Nat.beq k k = true := beqT _
      simp only [this, cond_true, get]
      by_cases h : k = j
      · subst h; simp
      · have : Nat.beq k j = false := beqF h
        simp [this, h]
    · have hki : Nat.beq k i = false := beqF hk
      simp only [hki, cond_false, get, ih]
      by_cases h : k = j
      · subst h
        have : ¬ i = k := fun e => hk e.symm
        simp [this]
      · have : Nat.beq k j = false := beqF h
        simp [this]

theorem get_del {α : Type 1} (l : List (Nat × α)) (i j : Nat) : get (del l i) j = if i = j then none else get l j := by
  induction l with
  | nil => simp [del, get]
  | cons p r ih =>
    obtain ⟨k, y⟩ := p
    simp only [del]
    by_cases hk : k = i
    · subst hk
      have : Nat.beq k k = true := beqT _
      simp only [this, cond_true, ih, get]
      by_cases h : k = j
      · simp [h]
      · have : Nat.beq k j = false := beqF h
        simp [this, h]
    · have hki : Nat.beq k i = false := beqF hk
      simp only [hki, cond_false, get, ih]
      by_cases h : k = j
      · subst h
        have : ¬ i = k := fun e => hk e.symm
        simp [this]
      · have : Nat.beq k j = false := beqF h
        simp [this]

structure Base where
  w : World
  may : Nat → Prop
  av : Nat → Prop
  k : Nat
  anc : Nat → Nat

def gget : List (Nat × (IntKind × List Int)) → Nat → Option (IntKind × List Int)
  | [], _ => none
  | (g, x) :: r, i => bif Nat.beq g i then some x else gget r i

def Base.gok (B : Base) : Prop := ∀ g k l, gget gtab g = some (k, l) → (g < B.w.heap.size ∧ ∀ i (hi : i < l.length), B.w.cell? ⟨g, i, none⟩ = some (.int k l[i])) ∧ ¬ B.may g ∧ ¬ B.av g

structure Frame (B : Base) (w : World) : Prop where
  os : w.os = B.w.os
  tape : w.tape = B.w.tape
  output : w.output = B.w.output
  size : B.w.heap.size ≤ w.heap.size
  block : ∀ b, b < B.w.heap.size → ¬ B.may b → w.heap[b]? = B.w.heap[b]?
  gok : B.gok

def avoids (B : Base) (σ : Nat → Nat) (h : Bs) (b : Nat) : Prop := B.av b ∨ ∃ j k, get h j = some k ∧ k.occ (σ j) b

structure Mem (B : Base) (σ : Nat → Nat) (n : Nat) (h : Bs) (w : World) : Prop where
  frame : Frame B w
  avlt : ∀ b, B.av b → b < B.w.heap.size ∧ ¬ B.may b
  kn : B.k ≤ n
  anch : ∀ j, j < B.k → σ j = B.anc j
  lt : ∀ j k, get h j = some k → j < n
  injO : ∀ i j k k' b, get h i = some k → get h j = some k' → k.occ (σ i) b → k'.occ (σ j) b → i = j
  ownO : ∀ j k b, get h j = some k → k.occ (σ j) b → b < B.w.heap.size → B.may b
  holds : ∀ j k, get h j = some k → k.holds σ w (σ j)
  ok : ∀ j k, get h j = some k → k.Ok w (avoids B σ h) n

theorem Mem.inj {B : Base} {σ : Nat → Nat} {n : Nat} {h : Bs} {w : World} (s : Mem B σ n h w) (i j : Nat) (k k' : Blk) (hi : get h i = some k) (hj : get h j = some k') (hr : k.real) (hr' : k'.real) (e : σ i = σ j) : i = j :=
  s.injO i j k k' (σ j) hi hj (.inl ⟨hr, e⟩) (.mk hr')
theorem Mem.own {B : Base} {σ : Nat → Nat} {n : Nat} {h : Bs} {w : World} (s : Mem B σ n h w) (j : Nat) (k : Blk) (hj : get h j = some k) (hr : k.real) (hb : σ j < B.w.heap.size) : B.may (σ j) := s.ownO j k (σ j) hj (.mk hr) hb

structure Sat (B : Base) (nt : Nat) (σ : Nat → Nat) (n : Nat) (e : Env) (h : Bs) (a : Act) (w : World) : Prop where
  mem : Mem B σ n h w
  defers : a.defers = []
  size : a.tmps.size = nt
  env : ∀ s m, get e s = some m → a.tmps.getD s undef = m.den σ
  ok : ∀ s m, get e s = some m → m.Ok w (avoids B σ h) n

theorem Frame.refl (w : World) (may av : Nat → Prop) (k : Nat) (anc : Nat → Nat) (g : Base.gok ⟨w, may, av, k, anc⟩) : Frame ⟨w, may, av, k, anc⟩ w := ⟨rfl, rfl, rfl, Nat.le_refl _, fun _ _ _ => rfl, g⟩

end Go.Sx
