/- A state that is another one under other numbers, which are found by computation; a nil slice as an own row without room. Holds for every program. -/
import Derived.Test.YtgbikcniediomaaSxM
namespace Go.Sx
set_option linter.unusedSimpArgs false
set_option linter.unusedVariables false

abbrev Rn := List (Nat × Nat)

def lookP : Rn → Nat → Nat
  | [], j => j
  | (a, b) :: r, j => bif Nat.beq a j then b else lookP r j

def hasP : Rn → Nat → Bool
  | [], _ => false
  | (a, _) :: r, j => Nat.beq a j || hasP r j

def addP (τ : Rn) (j j' : Nat) : Rn := bif hasP τ j then τ else (j, j') :: τ

def unC : List CV → List CV → Rn → Rn
  | .ptr j _ :: r, .ptr j' _ :: q, τ => unC r q (addP τ j j')
  | _ :: r, _ :: q, τ => unC r q τ
  | _, _, τ => τ

def unS (x y : SV) (τ : Rn) : Rn :=
  match x, y with
  | .ptr j _, .ptr j' _ => addP τ j j'
  | .aptr j _ _, .aptr j' _ _ => addP τ j j'
  | .eptr j _ _ _, .eptr j' _ _ _ => addP τ j j'
  | .slc j _ _ _ _, .slc j' _ _ _ _ => addP τ j j'
  | .nslc j _ _ _, .nslc j' _ _ _ => addP τ j j'
  | .asl j _ _ _ _, .asl j' _ _ _ _ => addP τ j j'
  | .mp j, .mp j' => addP τ j j'
  | .ch j, .ch j' => addP τ j j'
  | .clo _ l, .clo _ l' => unC l l' τ
  | _, _ => τ

def unL : List SV → List SV → Rn → Rn
  | x :: r, y :: q, τ => unL r q (unS x y τ)
  | _, _, τ => τ

def unM : M → M → Rn → Rn
  | .one x, .one y, τ => unS x y τ
  | .agg l, .agg l', τ => unL l l' τ
  | .tup l, .tup l', τ => unT l l' τ
  | _, _, τ => τ
where unT : List M → List M → Rn → Rn
  | x :: r, y :: q, τ => unT r q (unM x y τ)
  | _, _, τ => τ

def unE (e : Env) : Env → Rn → Rn
  | [], τ => τ
  | (s, m) :: r, τ => unE e r (match get e s with
    | some m0 => unM m m0 τ
    | none => τ)

def unH (h : Bs) : Bs → Rn → Rn
  | [], τ => τ
  | (j, .cells l) :: r, τ => unH h r (match get h (lookP τ j) with
    | some (.cells l0) => unL l l0 τ
    | _ => τ)
  | (j, .obj _ V _) :: r, τ => unH h r (match get h (lookP τ j) with
    | some (.obj _ V0 _) => unL V V0 τ
    | _ => τ)
  | _ :: r, τ => unH h r τ

def uni (e' : Env) (h' : Bs) (e : Env) (h : Bs) : Rn := unH h h' (unH h h' (unE e e' []))

def fixB (τ : Rn) : Nat → Bool
  | 0 => true
  | k + 1 => Nat.beq (lookP τ k) k && fixB τ k

def nilB : M → Bool
  | .one (.v (.slice none 0 0)) => true
  | _ => false

def ghE (h' : Bs) : Env → Nat → Env → Bs → (Nat → Env → Bs → Prop) → Prop
  | [], n, e, h, K => K n e h
  | (s, m') :: r, n, e, h, K => match m' with
    | .one (.nslc j es _ _) => (match get e s with
      | some m0 => (bif nilB m0 then (match get h' j with
        | some (.row _ enc _ _) => ghE h' r (n + 1) (put e s (.one (.nslc n es 0 0))) (put h n (.row es enc [] 0)) K
        | _ => ghE h' r n e h K) else ghE h' r n e h K)
      | _ => ghE h' r n e h K)
    | .one (.view _ es enc _) => (match get e s with
      | some m0 => (bif nilB m0 then ghE h' r n (put e s (.one (.view (.slice none 0 0) es enc []))) h K else ghE h' r n e h K)
      | _ => ghE h' r n e h K)
    | _ => ghE h' r n e h K

def nilS : SV → Bool
  | .v (.slice none 0 0) => true
  | _ => false

def ghL (h' : Bs) : List SV → List SV → Nat → Bs → (List SV → Nat → Bs → Prop) → Prop
  | x :: r, y :: q, n, h, K => match x with
    | .nslc j es _ _ => (bif nilS y then (match get h' j with
      | some (.row _ enc _ _) => ghL h' r q (n + 1) (put h n (.row es enc [] 0)) fun l n' h => K (.nslc n es 0 0 :: l) n' h
      | _ => ghL h' r q n h fun l n h => K (y :: l) n h) else ghL h' r q n h fun l n h => K (y :: l) n h)
    | .view _ es enc _ => (bif nilS y then ghL h' r q n h fun l n h => K (.view (.slice none 0 0) es enc [] :: l) n h else ghL h' r q n h fun l n h => K (y :: l) n h)
    | _ => ghL h' r q n h fun l n h => K (y :: l) n h
  | _, q, n, h, K => K q n h

def ghH (h' : Bs) (τ : Rn) : Bs → Nat → Bs → (Nat → Bs → Prop) → Prop
  | [], n, h, K => K n h
  | (j, .cells l) :: r, n, h, K => (match get h (lookP τ j) with
    | some (.cells l0) => ghL h' l l0 n h fun l1 n h => ghH h' τ r n (upd h (lookP τ j) (.cells l1)) K
    | _ => ghH h' τ r n h K)
  | _ :: r, n, h, K => ghH h' τ r n h K

def impV (a b : Value) : Prop :=
  match a, b with
  | .int k x, .int k' y => bif kindB k k' then x = y else False
  | .bool x, .bool y => x = y
  | .string x, .string y => x = y
  | a, b => a = b

def impC (τ : Nat → Nat) (n : Nat) : List CV → List CV → Prop
  | [], [] => True
  | .v a :: r, .v b :: q => a = b ∧ impC τ n r q
  | .ptr j o :: r, .ptr j' o' :: q => (Nat.beq (τ j) j' && Nat.beq o o' && Nat.blt j n) = true ∧ impC τ n r q
  | _, _ => False

def impS (τ : Nat → Nat) (n : Nat) (x y : SV) : Prop :=
  match x, y with
  | .v a, .v b => impV a b
  | .ints k m l, .ints k' m' l' => bif kindB k k' && Nat.beq m m' then l = l' else False
  | .ptr j o, .ptr j' o' => (Nat.beq (τ j) j' && Nat.blt j n) = true ∧ o = o'
  | .aptr j o k, .aptr j' o' k' => (Nat.beq (τ j) j' && Nat.blt j n) = true ∧ o = o' ∧ k = k'
  | .eptr j es i k, .eptr j' es' i' k' => (Nat.beq (τ j) j' && Nat.blt j n && Nat.beq es es') = true ∧ i = i' ∧ k = k'
  | .slc j es off len cap, .slc j' es' off' len' cap' => (Nat.beq (τ j) j' && Nat.blt j n && Nat.beq es es') = true ∧ off = off' ∧ len = len' ∧ cap = cap'
  | .nslc j es len cap, .nslc j' es' len' cap' => (Nat.beq (τ j) j' && Nat.blt j n && Nat.beq es es') = true ∧ len = len' ∧ cap = cap'
  | .asl j off i len cap, .asl j' off' i' len' cap' => (Nat.beq (τ j) j' && Nat.blt j n && Nat.beq off off') = true ∧ i = i' ∧ len = len' ∧ cap = cap'
  | .mp j, .mp j' => (Nat.beq (τ j) j' && Nat.blt j n) = true
  | .ch j, .ch j' => (Nat.beq (τ j) j' && Nat.blt j n) = true
  | .clo f l, .clo f' l' => f = f' ∧ impC τ n l l'
  | .view x es enc l, y => SV.view x es enc l = y
  | .rptr a l, y => SV.rptr a l = y
  | _, _ => False

def impL (τ : Nat → Nat) (n : Nat) : List SV → List SV → Prop
  | [], [] => True
  | x :: r, y :: q => impS τ n x y ∧ impL τ n r q
  | _, _ => False

def impM (τ : Nat → Nat) (n : Nat) : M → M → Prop
  | .one x, .one y => impS τ n x y
  | .agg l, .agg l' => impL τ n l l'
  | .tup l, .tup l' => impT τ n l l'
  | _, _ => False
where impT (τ : Nat → Nat) (n : Nat) : List M → List M → Prop
  | [], [] => True
  | x :: r, y :: q => impM τ n x y ∧ impT τ n r q
  | _, _ => False

def impO (τ : Nat → Nat) (n : Nat) (V V' : List SV) : Prop :=
  match V with
  | [] => (match V' with
    | [] => True
    | _ => False)
  | [x] => (match V' with
    | [y] => impS τ n x y
    | _ => False)
  | V => V = V' ∧ V.all SV.isPure = true
def impB (τ : Nat → Nat) (n : Nat) : Blk → Blk → Prop
  | .cells l, .cells l0 => impL τ n l l0
  | .row es enc l cap, .row es' enc' l' cap' => (Nat.beq es es') = true ∧ cap = cap' ∧ l.map enc.enc = l'.map enc'.enc ∧ ∀ x ∈ l, ∀ s ∈ enc x, s.isPure = true
  | .chan cap ag enc l, .chan cap' ag' enc' l' => cap = cap' ∧ ag = ag' ∧ l.map enc.enc = l'.map enc'.enc
  | .obj A V o, .obj A' V' o' => A = A' ∧ impO τ n V V' ∧ o = o'
  | _, _ => False

def impE' (τ : Nat → Nat) (n : Nat) (e : Env) : Env → Prop
  | [] => True
  | (s, m) :: r => (match get e s with
    | some m0 => impM τ n m m0
    | none => False) ∧ impE' τ n e r

def impH' (τ : Nat → Nat) (n : Nat) (h : Bs) : Bs → Prop
  | [] => True
  | (j, b) :: r => (match get h (τ j) with
    | some b0 => impB τ n b b0
    | none => False) ∧ Nat.blt j n = true ∧ impH' τ n h r

theorem impV_eq {a b : Value} (h : impV a b) : a = b := by
  unfold impV at h
  split at h
  · obtain ⟨h1, h2⟩ := bif_false h
    rw [kindB_eq h1, h2]
  · rw [h]
  · rw [h]
  · exact h

theorem impC_eq {τ : Nat → Nat} {n : Nat} : ∀ {l l' : List CV}, impC τ n l l' → l.map (CV.ren τ) = l' ∧ (l.all fun c => match c with
    | .ptr j _ => Nat.blt j n
    | .v _ => true) = true
  | [], [], _ => ⟨rfl, rfl⟩
  | .v a :: r, .v b :: q, h => by
    obtain ⟨h1, h2⟩ := h
    obtain ⟨g1, g2⟩ := impC_eq h2
    subst h1
    exact ⟨by rw [List.map_cons, g1]; rfl, by rw [List.all_cons, g2]; rfl⟩
  | .ptr j o :: r, .ptr j' o' :: q, h => by
    obtain ⟨h1, h2⟩ := h
    obtain ⟨g1, g2⟩ := impC_eq h2
    simp only [Bool.and_eq_true] at h1
    have e1 := Nat.eq_of_beq_eq_true h1.1.1
    have e2 := Nat.eq_of_beq_eq_true h1.1.2
    subst e1
    subst e2
    exact ⟨by rw [List.map_cons, g1]; rfl, by rw [List.all_cons, g2, Bool.and_true]; exact h1.2⟩
  | [], _ :: _, h => h.elim
  | _ :: _, [], h => by simp [impC] at h
  | .v _ :: _, .ptr _ _ :: _, h => by simp [impC] at h
  | .ptr _ _ :: _, .v _ :: _, h => by simp [impC] at h

theorem impS_eq {τ : Nat → Nat} {n : Nat} {x y : SV} (h : impS τ n x y) : x.ren τ = y ∧ x.idB n = true := by
  unfold impS at h
  split at h
  · rw [impV_eq h]; exact ⟨rfl, rfl⟩
  · obtain ⟨h1, h2⟩ := bif_false h
    simp only [Bool.and_eq_true] at h1
    rw [kindB_eq h1.1, Nat.eq_of_beq_eq_true h1.2, h2]
    exact ⟨rfl, rfl⟩
  · simp only [Bool.and_eq_true] at h
    obtain ⟨⟨h1, h2⟩, rfl⟩ := h
    exact ⟨by rw [← Nat.eq_of_beq_eq_true h1]; rfl, h2⟩
  · simp only [Bool.and_eq_true] at h
    obtain ⟨⟨h1, h2⟩, rfl, rfl⟩ := h
    exact ⟨by rw [← Nat.eq_of_beq_eq_true h1]; rfl, h2⟩
  · simp only [Bool.and_eq_true] at h
    obtain ⟨⟨⟨h1, h2⟩, h3⟩, rfl, rfl⟩ := h
    exact ⟨by rw [← Nat.eq_of_beq_eq_true h1, ← Nat.eq_of_beq_eq_true h3]; rfl, h2⟩
  · simp only [Bool.and_eq_true] at h
    obtain ⟨⟨⟨h1, h2⟩, h3⟩, rfl, rfl, rfl⟩ := h
    exact ⟨by rw [← Nat.eq_of_beq_eq_true h1, ← Nat.eq_of_beq_eq_true h3]; rfl, h2⟩
  · simp only [Bool.and_eq_true] at h
    obtain ⟨⟨⟨h1, h2⟩, h3⟩, rfl, rfl⟩ := h
    exact ⟨by rw [← Nat.eq_of_beq_eq_true h1, ← Nat.eq_of_beq_eq_true h3]; rfl, h2⟩
  · simp only [Bool.and_eq_true] at h
    obtain ⟨⟨⟨h1, h2⟩, h3⟩, rfl, rfl, rfl⟩ := h
    exact ⟨by rw [← Nat.eq_of_beq_eq_true h1, ← Nat.eq_of_beq_eq_true h3]; rfl, h2⟩
  · simp only [Bool.and_eq_true] at h
    exact ⟨by rw [← Nat.eq_of_beq_eq_true h.1]; rfl, h.2⟩
  · simp only [Bool.and_eq_true] at h
    exact ⟨by rw [← Nat.eq_of_beq_eq_true h.1]; rfl, h.2⟩
  · obtain ⟨rfl, h2⟩ := h
    obtain ⟨g1, g2⟩ := impC_eq h2
    exact ⟨by simp only [SV.ren, g1], g2⟩
  · subst h; exact ⟨rfl, rfl⟩
  · subst h; exact ⟨rfl, rfl⟩
  · exact h.elim

theorem impL_eq {τ : Nat → Nat} {n : Nat} : ∀ {l l' : List SV}, impL τ n l l' → l.map (SV.ren τ) = l' ∧ l.all (SV.idB n) = true
  | [], [], _ => ⟨rfl, rfl⟩
  | x :: r, y :: q, h => by
    obtain ⟨h1, h2⟩ := h
    obtain ⟨g1, g2⟩ := impS_eq h1
    obtain ⟨g3, g4⟩ := impL_eq h2
    exact ⟨by rw [List.map_cons, g1, g3], by rw [List.all_cons, g2, g4]; rfl⟩
  | [], _ :: _, h => h.elim
  | _ :: _, [], h => h.elim

mutual
theorem impM_eq {τ : Nat → Nat} {n : Nat} : ∀ {x y : M}, impM τ n x y → x.ren τ = y ∧ x.idB n = true
  | .one x, .one y, h => by
    obtain ⟨h1, h2⟩ := impS_eq (show impS τ n x y from h)
    exact ⟨by simp only [M.ren, h1], h2⟩
  | .agg l, .agg l', h => by
    obtain ⟨h1, h2⟩ := impL_eq (show impL τ n l l' from h)
    exact ⟨by simp only [M.ren, h1], h2⟩
  | .tup l, .tup l', h => by
    obtain ⟨h1, h2⟩ := impT_eq (show impM.impT τ n l l' from h)
    exact ⟨by simp only [M.ren, h1], h2⟩
  | .one _, .agg _, h => h.elim
  | .one _, .tup _, h => h.elim
  | .agg _, .one _, h => h.elim
  | .agg _, .tup _, h => h.elim
  | .tup _, .one _, h => h.elim
  | .tup _, .agg _, h => h.elim
theorem impT_eq {τ : Nat → Nat} {n : Nat} : ∀ {l l' : List M}, impM.impT τ n l l' → M.ren.renT τ l = l' ∧ M.idB.idT n l = true
  | [], [], _ => ⟨rfl, rfl⟩
  | x :: r, y :: q, h => by
    obtain ⟨h1, h2⟩ := (show impM τ n x y ∧ impM.impT τ n r q from h)
    obtain ⟨g1, g2⟩ := impM_eq h1
    obtain ⟨g3, g4⟩ := impT_eq h2
    exact ⟨by simp only [M.ren.renT, g1, g3], by simp only [M.idB.idT, g2, g4]; rfl⟩
  | [], _ :: _, h => h.elim
  | _ :: _, [], h => h.elim
end

theorem impO_eq {τ : Nat → Nat} {n : Nat} {V V' : List SV} (h : impO τ n V V') : (V.map (SV.ren τ) = V' ∧ V.all (SV.idB n) = true) ∨ (V = V' ∧ ∀ s ∈ V, s.isPure = true) := by
  unfold impO at h
  split at h
  · split at h
    · exact .inl ⟨rfl, rfl⟩
    · exact h.elim
  · split at h
    · exact .inl (impL_eq (l := [_]) (l' := [_]) ⟨h, trivial⟩)
    · exact h.elim
  · exact .inr ⟨h.1, List.all_eq_true.1 h.2⟩
theorem impB_imp {τ : Nat → Nat} {n : Nat} {b b0 : Blk} (h : impB τ n b b0) : b.imp τ n b0 := by
  cases b <;> cases b0 <;> simp only [impB] at h <;> simp only [Blk.imp]
  · exact impL_eq h
  · exact ⟨Nat.eq_of_beq_eq_true h.1, h.2⟩
  · exact ⟨h.1, impO_eq h.2.1, h.2.2⟩
  · exact h

theorem impE'_imp {τ : Nat → Nat} {n : Nat} {e : Env} : ∀ {e' : Env}, impE' τ n e e' → impE τ n e e'
  | [], _ => trivial
  | (s, m) :: r, h => by
    refine ⟨?_, impE'_imp h.2⟩
    have := h.1
    split at this
    · rename_i m0 he
      rw [he]
      exact impM_eq this
    · exact this.elim

theorem impH'_imp {τ : Nat → Nat} {n : Nat} {hh : Bs} : ∀ {h' : Bs}, impH' τ n hh h' → impH τ n hh h'
  | [], _ => trivial
  | (s, m) :: r, h => by
    refine ⟨?_, h.2.1, impH'_imp h.2.2⟩
    have := h.1
    split at this
    · rename_i m0 he
      rw [he]
      exact impB_imp this
    · exact this.elim

def Imp0 (k : Nat) (n : Nat) (e : Env) (h : Bs) (n' : Nat) (e' : Env) (h' : Bs) : Prop :=
  ghE h' e' n e h fun n e h => ghH h' (uni e' h' e h) h' n h fun _ h =>
    impE' (lookP (uni e' h' e h)) n' e e' ∧ impH' (lookP (uni e' h' e h)) n' h h' ∧ (noDup (h'.map fun p => lookP (uni e' h' e h) p.1) && Nat.ble k n' && fixB (uni e' h' e h) k) = true

theorem fixB_spec {τ : Rn} : ∀ {k : Nat}, fixB τ k = true → ∀ j, j < k → lookP τ j = j
  | 0, _, j, hj => absurd hj (Nat.not_lt_zero _)
  | k + 1, h, j, hj => by
    simp only [fixB, Bool.and_eq_true] at h
    by_cases hjk : j = k
    · subst hjk; exact Nat.eq_of_beq_eq_true h.1
    · exact fixB_spec h.2 j (by omega)

section
variable {P : Program} {tt : Tab} {B : Base} {nt : Nat} {σ : Nat → Nat} {n : Nat} {e : Env} {h : Bs} {a : Act} {w : World}

theorem nilB_eq {m : M} (h : nilB m = true) : m = .one (.v (.slice none 0 0)) := by
  unfold nilB at h
  split at h
  · rfl
  · cases h
theorem nilS_eq {m : SV} (h : nilS m = true) : m = .v (.slice none 0 0) := by
  unfold nilS at h
  split at h
  · rfl
  · cases h

theorem Sat.ghost (s : Sat B nt σ n e h a w) {es : Nat} {α : Type} (E : Enc α) : Sat B nt (ext σ n 0) (n + 1) e (Sx.put h n (.row es E [] 0)) a w := by
  obtain ⟨h1, h2⟩ := s.mem.ghost (es := es) E
  exact ⟨h1, s.defers, s.size, fun q m hm => by rw [s.env q m hm]; exact M.den_congr (s.ok q m hm) fun j hj => ext_lt σ n _ hj, fun q m hm => (s.ok q m hm).mono (by omega) h2⟩

theorem nil_view_ok {w : World} {av : Nat → Prop} {n : Nat} (es : Nat) {α : Type} (enc : α → List SV) : (SV.view (.slice none 0 0) es enc []).Ok w av n := by
  have : (SV.view (.slice none 0 0) es enc []) = .view (.slice none ([] : List α).length 0) es enc [] := rfl
  rw [this]
  exact .view (by simp) (by simp) (by simp) (by simp) (by simp)

theorem ghE_sound {h' : Bs} : ∀ (e' : Env) {n : Nat} {e : Env} {h : Bs} {σ : Nat → Nat} {K : Nat → Env → Bs → Prop}, Sat B nt σ n e h a w → ghE h' e' n e h K → ∃ σ' n' e1 h1, K n' e1 h1 ∧ Sat B nt σ' n' e1 h1 a w
  | [], n, e, h, σ, K, s, hk => ⟨σ, n, e, h, hk, s⟩
  | (q, m') :: r, n, e, h, σ, K, s, hk => by
    unfold ghE at hk
    split at hk
    · split at hk
      · rename_i j es _ _ _ m0 he
        cases hb : nilB m0 with
        | true =>
          rw [hb] at hk
          simp only [cond_true] at hk
          split at hk
          · rename_i enc l cap _
            have := nilB_eq hb
            subst this
            refine ghE_sound r ((s.ghost (es := es) enc).reput he (by simp [M.den, SV.den]) (.one rfl (.nslc (Nat.lt_succ_self n) (Nat.le_refl 0)))) hk
          · exact ghE_sound r s hk
        | false => rw [hb] at hk; exact ghE_sound r s hk
      · exact ghE_sound r s hk
    · split at hk
      · rename_i x es α enc l _ m0 he
        cases hb : nilB m0 with
        | true =>
          rw [hb] at hk
          simp only [cond_true] at hk
          have := nilB_eq hb
          subst this
          exact ghE_sound r (s.reput he (by simp [M.den, SV.den]) (.one rfl (nil_view_ok es enc))) hk
        | false => rw [hb] at hk; exact ghE_sound r s hk
      · exact ghE_sound r s hk
    · exact ghE_sound r s hk

theorem ghL_sound {h' : Bs} {j : Nat} : ∀ (l' l0 : List SV) {n : Nat} {h : Bs} {σ : Nat → Nat} {K : List SV → Nat → Bs → Prop} (pre : List SV), Sat B nt σ n e h a w → get h j = some (.cells (pre ++ l0)) → ghL h' l' l0 n h K →
    ∃ σ' n' l1 h1, K l1 n' h1 ∧ Sat B nt σ' n' e h1 a w ∧ get h1 j = some (.cells (pre ++ l0)) ∧ n ≤ n' ∧ (∀ τ, denL τ l1 = denL τ l0) ∧ (∀ s ∈ l1, s.Ok w (avoids B σ' h1) n')
  | [], l0, n, h, σ, K, pre, s, hj, hk => by
    unfold ghL at hk
    exact ⟨σ, n, l0, h, hk, s, hj, Nat.le_refl _, fun _ => rfl, fun x hx => s.mem.ok j _ hj x (List.mem_append_right _ hx)⟩
  | x :: r, [], n, h, σ, K, pre, s, hj, hk => by
    unfold ghL at hk
    exact ⟨σ, n, [], h, hk, s, hj, Nat.le_refl _, fun _ => rfl, fun x hx => by cases hx⟩
  | x :: r, y :: q, n, h, σ, K, pre, s, hj, hk => by
    have e1 : pre ++ y :: q = (pre ++ [y]) ++ q := by simp
    have plain : ghL h' r q n h (fun l n h => K (y :: l) n h) → ∃ σ' n' l1 h1, K l1 n' h1 ∧ Sat B nt σ' n' e h1 a w ∧ get h1 j = some (.cells (pre ++ y :: q)) ∧ n ≤ n' ∧ (∀ τ, denL τ l1 = denL τ (y :: q)) ∧ (∀ s ∈ l1, s.Ok w (avoids B σ' h1) n') := by
      intro hk
      obtain ⟨σ', n', l1, h1, g1, g2, g3, g0, g4, g5⟩ := ghL_sound r q (pre ++ [y]) s (by rw [← e1]; exact hj) hk
      refine ⟨σ', n', y :: l1, h1, g1, g2, by rw [e1]; exact g3, g0, fun τ => by rw [denL_cons, denL_cons, g4 τ], fun z hz => ?_⟩
      rcases List.mem_cons.1 hz with rfl | hz
      · exact g2.mem.ok j _ g3 z (by simp)
      · exact g5 z hz
    unfold ghL at hk
    split at hk
    · rename_i j' es _ _
      cases hb : nilS y with
      | true =>
        rw [hb] at hk
        simp only [cond_true] at hk
        split at hk
        · rename_i enc l cap _
          have := nilS_eq hb
          subst this
          have hne : j < n := s.mem.lt j _ hj
          obtain ⟨σ', n', l1, h1, g1, g2, g3, g0, g4, g5⟩ := ghL_sound (j := j) r q (pre ++ [SV.v (.slice none 0 0)]) (s.ghost (es := es) enc) (by rw [get_put, if_neg (by omega), hj, e1]) hk
          refine ⟨σ', n', _, h1, g1, g2, by rw [e1]; exact g3, by omega, fun τ => ?_, fun z hz => ?_⟩
          · rw [denL_cons, denL_cons, g4 τ]
            simp [SV.dens, SV.den]
          · rcases List.mem_cons.1 hz with rfl | hz
            · exact .nslc (by omega) (Nat.le_refl 0)
            · exact g5 z hz
        · exact plain hk
      | false => rw [hb] at hk; exact plain hk
    · rename_i v es α enc l
      cases hb : nilS y with
      | true =>
        rw [hb] at hk
        simp only [cond_true] at hk
        have := nilS_eq hb
        subst this
        obtain ⟨σ', n', l1, h1, g1, g2, g3, g0, g4, g5⟩ := ghL_sound (j := j) r q (pre ++ [SV.v (.slice none 0 0)]) s (by rw [← e1]; exact hj) hk
        refine ⟨σ', n', _, h1, g1, g2, by rw [e1]; exact g3, g0, fun τ => ?_, fun z hz => ?_⟩
        · rw [denL_cons, denL_cons, g4 τ]
          simp [SV.dens, SV.den]
        · rcases List.mem_cons.1 hz with rfl | hz
          · exact nil_view_ok es enc
          · exact g5 z hz
      | false => rw [hb] at hk; exact plain hk
    · exact plain hk

theorem Sat.recell (s : Sat B nt σ n e h a w) {j : Nat} {l l' : List SV} (hj : get h j = some (.cells l)) (hd : ∀ τ, denL τ l' = denL τ l) (hok : ∀ x ∈ l', x.Ok w (avoids B σ h) n) : Sat B nt σ n e (Sx.upd h j (.cells l')) a w := by
  have hg : ∀ i x, get (Sx.upd h j (.cells l')) i = some x → (i = j ∧ x = .cells l') ∨ (i ≠ j ∧ get h i = some x) := by
    intro i x hi
    rw [get_upd] at hi
    split at hi
    · rename_i he; subst he; cases hi; exact .inl ⟨rfl, rfl⟩
    · rename_i he; exact .inr ⟨fun h => he h.symm, hi⟩
  have hav : ∀ b, avoids B σ (Sx.upd h j (.cells l')) b ↔ avoids B σ h b := by
    intro b
    constructor
    · rintro (h1 | ⟨i, x, hi, hr⟩)
      · exact .inl h1
      · rcases hg i x hi with ⟨rfl, rfl⟩ | ⟨_, hi⟩
        · exact .inr ⟨i, _, hj, hr⟩
        · exact .inr ⟨i, x, hi, hr⟩
    · rintro (h1 | ⟨i, x, hi, hr⟩)
      · exact .inl h1
      · by_cases hij : i = j
        · subst hij
          rw [hj] at hi
          cases hi
          exact .inr ⟨i, .cells l', by rw [get_upd, if_pos rfl], hr⟩
        · exact .inr ⟨i, x, by rw [get_upd, if_neg fun h => hij h.symm]; exact hi, hr⟩
  have hk : ∀ b, b < w.heap.size → ¬ avoids B σ h b → ¬ avoids B σ (Sx.upd h j (.cells l')) b ∧ w.heap[b]? = w.heap[b]? := fun b _ hb => ⟨fun h1 => hb ((hav b).1 h1), rfl⟩
  refine ⟨⟨s.mem.frame, s.mem.avlt, s.mem.kn, s.mem.anch, ?_, ?_, ?_, ?_, ?_⟩, s.defers, s.size, s.env, fun q m hq => (s.ok q m hq).mono (Nat.le_refl _) hk⟩
  · intro i x hi
    rcases hg i x hi with ⟨rfl, _⟩ | ⟨_, hi⟩
    · exact s.mem.lt _ _ hj
    · exact s.mem.lt _ _ hi
  · intro i i' x x' b hi hi' hr hr'
    have real : ∀ i x, get (Sx.upd h j (.cells l')) i = some x → x.occ (σ i) b → ∃ y, get h i = some y ∧ y.occ (σ i) b := by
      intro i x hi hr
      rcases hg i x hi with ⟨rfl, rfl⟩ | ⟨_, hi⟩
      · exact ⟨_, hj, hr⟩
      · exact ⟨x, hi, hr⟩
    obtain ⟨y, g1, g2⟩ := real i x hi hr
    obtain ⟨y', g3, g4⟩ := real i' x' hi' hr'
    exact s.mem.injO _ _ _ _ b g1 g3 g2 g4
  · intro i x b hi hr hb
    rcases hg i x hi with ⟨rfl, rfl⟩ | ⟨_, hi⟩
    · exact s.mem.ownO _ (.cells l) b hj hr hb
    · exact s.mem.ownO _ _ b hi hr hb
  · intro i x hi
    rcases hg i x hi with ⟨rfl, rfl⟩ | ⟨_, hi⟩
    · have := s.mem.holds _ _ hj
      simp only [Blk.holds] at this ⊢
      rw [hd]
      exact this
    · exact s.mem.holds _ _ hi
  · intro i x hi
    rcases hg i x hi with ⟨rfl, rfl⟩ | ⟨_, hi⟩
    · exact fun z hz => (hok z hz).mono (Nat.le_refl _) hk
    · exact (s.mem.ok _ _ hi).mono (Nat.le_refl _) hk

theorem ghH_sound {h' : Bs} {τ : Rn} : ∀ (hh : Bs) {n : Nat} {h : Bs} {σ : Nat → Nat} {K : Nat → Bs → Prop}, Sat B nt σ n e h a w → ghH h' τ hh n h K → ∃ σ' n' h1, K n' h1 ∧ Sat B nt σ' n' e h1 a w
  | [], n, h, σ, K, s, hk => ⟨σ, n, h, hk, s⟩
  | (j, b) :: r, n, h, σ, K, s, hk => by
    unfold ghH at hk
    split at hk
    · rename_i heq
      cases heq
    · rename_i heq
      cases heq
      split at hk
      · rename_i l0 hj
        obtain ⟨σ', n', l1, h1, g1, g2, g3, g0, g4, g5⟩ := ghL_sound _ l0 [] s hj hk
        simp only [List.nil_append] at g3
        exact ghH_sound r (g2.recell g3 g4 g5) g1
      · exact ghH_sound r s hk
    · rename_i heq
      cases heq
      exact ghH_sound r s hk

theorem Imp0.to {n' : Nat} {e' : Env} {h' : Bs} (hi : Imp0 B.k n e h n' e' h') (s : Sat B nt σ n e h a w) : ∃ σ', Sat B nt σ' n' e' h' a w := by
  unfold Imp0 at hi
  obtain ⟨σ1, n1, e1, h1, hi, s⟩ := ghE_sound e' s hi
  obtain ⟨σ2, n2, h2, hi, s⟩ := ghH_sound h' s hi
  obtain ⟨g1, g2, g3⟩ := hi
  simp only [Bool.and_eq_true] at g3
  exact s.imp ⟨_, impE'_imp g1, impH'_imp g2, g3.1.1, Nat.le_of_ble_eq_true g3.1.2, fixB_spec g3.2⟩
end

section
variable {P : Program} {tt : Tab} {nt n : Nat} {e : Env} {h : Bs}

theorem SWp.loop0 {ι : Type} {k : Nat} {c : Code} {Q : Exit → Nat → Env → Bs → Prop} (I : ι → St) (μ : ι → Nat) (i₀ : ι) (h₀ : Imp0 k n e h (I i₀).n (I i₀).e (I i₀).h)
    (round : ∀ i, SWp P nt k c (thenQ (fun n e h => ∃ i', μ i' < μ i ∧ Imp0 k n e h (I i').n (I i').e (I i').h) Q) (I i).n (I i).e (I i).h) : SWp P nt k (.loop c) Q n e h := by
  refine ⟨fun B σ a w hb s => ?_⟩
  subst hb
  obtain ⟨σ', s'⟩ := h₀.to s
  refine wp_loop_ix (ι := ULift.{1} ι) (fun i a w => ∃ σ, Sat B nt σ (I i.down).n (I i.down).e (I i.down).h a w) (fun i => μ i.down) ?_ ⟨i₀⟩ a w ⟨σ', s'⟩
  rintro ⟨i⟩ a w ⟨σ, s⟩
  refine wp_mono ((round i).out B σ a w rfl s) fun ex a' w' hp => hp.then ?_
  rintro ⟨σ', n', e', h', ⟨i', hlt, himp⟩, s'⟩
  obtain ⟨σ'', s''⟩ := himp.to s'
  exact ⟨⟨i'⟩, hlt, σ'', s''⟩

theorem SWp.jumps0 {ι : Type} {k : Nat} {c rest : Code} {Q : Exit → Nat → Env → Bs → Prop} (l : Nat) (I : ι → St) (μ : ι → Nat) (hf : findLabel c l = some rest)
    (pass : ∀ i, SWp P nt k rest (jumpQ l (fun n e h => ∃ i', μ i' < μ i ∧ Imp0 k n e h (I i').n (I i').e (I i').h) Q) (I i).n (I i).e (I i).h)
    (first : SWp P nt k c (jumpQ l (fun n e h => ∃ i', Imp0 k n e h (I i').n (I i').e (I i').h) Q) n e h) : SWp P nt k (.scope c) Q n e h := by
  refine ⟨fun B σ a w hb s => ?_⟩
  subst hb
  refine wp_scope_ix (ι := ULift.{1} ι) l (fun i a w => ∃ σ, Sat B nt σ (I i.down).n (I i.down).e (I i.down).h a w) (fun i => μ i.down) hf ?_ ?_
  · rintro ⟨i⟩ a w ⟨σ, s⟩
    refine wp_mono ((pass i).out B σ a w rfl s) ?_
    rintro ex a' w' ⟨σ', n', e', h', h1, s'⟩
    cases ex <;> first | exact ⟨σ', n', e', h', h1, s'⟩ | skip
    obtain ⟨rfl, i', hlt, himp⟩ := h1
    obtain ⟨σ'', s''⟩ := himp.to s'
    exact ⟨rfl, ⟨i'⟩, hlt, σ'', s''⟩
  · refine wp_mono (first.out B σ a w rfl s) ?_
    rintro ex a' w' ⟨σ', n', e', h', h1, s'⟩
    cases ex <;> first | exact ⟨σ', n', e', h', h1, s'⟩ | skip
    obtain ⟨rfl, i', himp⟩ := h1
    obtain ⟨σ'', s''⟩ := himp.to s'
    exact ⟨rfl, ⟨i'⟩, σ'', s''⟩
end
end Go.Sx
