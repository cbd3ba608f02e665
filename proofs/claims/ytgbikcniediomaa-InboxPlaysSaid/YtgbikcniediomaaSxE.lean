/- An own slice that is given up: it is only looked at from now on. Holds for every program. -/
import Derived.Test.YtgbikcniediomaaSx10
import Derived.Lib.ConvBytes
namespace Go.Sx
set_option linter.unusedSimpArgs false
set_option linter.unusedVariables false

def hasSl : List RK → Bool
  | [] => false
  | .sl _ _ :: _ => true
  | _ :: r => hasSl r

def frzS (s : SV) (h : Bs) (K : SV → Bs → Prop) : Prop :=
  match s with
  | .slc j es off len cap => (match get h j with
    | some (.row es' enc l _) => bif Nat.beq es es' then off + len ≤ l.length ∧ len ≤ cap ∧ (∀ y, (enc.enc y).all SV.isPure = true) ∧ ∀ x, K (.view x es enc.enc ((l.drop off).take len)) (del h j) else
        (bif Nat.beq es (es' + 1000000) && Nat.beq off 0 then len ≤ l.length ∧ len ≤ cap ∧ (∀ y, (enc.enc y).all SV.isPure = true) ∧ ∀ x, K (.view x es' enc.enc (l.take len)) (del h j) else False)
    | _ => False)
  | .nslc j es len cap => (match get h j with
    | some (.row es' enc l cap') => bif Nat.beq es es' then len ≤ l.length ∧ len ≤ cap ∧ cap = cap' ∧ (∀ y, (enc.enc y).all SV.isPure = true) ∧ ∀ x, K (.view x es enc.enc (l.take len)) (del h j) else False
    | _ => False)
  | s => K s h

def frzL : List SV → Bs → (List SV → Bs → Prop) → Prop
  | [], h, K => K [] h
  | s :: r, h, K => frzS s h fun s h => frzL r h fun l h => K (s :: l) h

def frzM (m : M) (h : Bs) (K : M → Bs → Prop) : Prop :=
  match m with
  | .one s => frzS s h fun s h => K (.one s) h
  | .agg l => frzL l h fun l h => K (.agg l) h
  | .tup l => K (.tup l) h

def frzA : List M → Bs → (List M → Bs → Prop) → Prop
  | [], h, K => K [] h
  | m :: r, h, K => frzM m h fun m h => frzA r h fun l h => K (m :: l) h

def frzX (m : M) (h : Bs) (K : M → Bs → Prop) : Prop :=
  match m with
  | .one (.asl j off i len cap) => (match get h j with
    | some (.cells l) => chunkK l off fun k q il => i + len ≤ q ∧ len ≤ cap ∧ ∀ x, K (.one (.view x 1 (fun b : Int => [.v (.int k b)]) ((il.drop i).take len))) (del h j)
    | _ => False)
  | m => frzM m h K

def frzP : List Operand → Env → Bs → (Env → Bs → Prop) → Prop
  | [], e, h, K => K e h
  | x :: r, e, h, K => match x with
    | .tmp t => (match get e t with
      | some m => frzX m h fun m h => frzP r (put e t m) h K
      | none => False)
    | _ => frzP r e h K

def frzO (tt : Tab) (o : Op) (e : Env) (h : Bs) (K : Env → Bs → Prop) : Prop :=
  match o with
  | .buildSlice t _ parts => (match get tt t with
    | some ti => (match ti.kind with
      | .sl el => (match get tt el with
        | some te => bif hasSl te.el.E.code then frzP (parts.toList.map (·.2)) e h K else K e h
        | none => K e h)
      | _ => K e h)
    | none => K e h)
  | _ => K e h

theorem frzS_mono {s : SV} {h : Bs} {K K' : SV → Bs → Prop} (hk : ∀ s h, K s h → K' s h) (hq : frzS s h K) : frzS s h K' := by
  unfold frzS at hq ⊢
  split at hq
  · split at hq
    · rename_i _ j es off len cap _ es' _ _ _ _ _
      cases hb : Nat.beq es es' with
      | true =>
        rw [hb] at hq
        obtain ⟨h1, h2, h3, h4⟩ := hq
        exact ⟨h1, h2, h3, fun x => hk _ _ (h4 x)⟩
      | false =>
        rw [hb] at hq
        obtain ⟨hb, h1, h2, h3, h4⟩ := cond_false_elim hq
        simp only [cond_false]
        rw [hb]
        exact ⟨h1, h2, h3, fun x => hk _ _ (h4 x)⟩
    · exact hq.elim
  · split at hq
    · obtain ⟨hb, h1, h2, h3, h5, h4⟩ := cond_false_elim hq
      rw [hb]
      exact ⟨h1, h2, h3, h5, fun x => hk _ _ (h4 x)⟩
    · exact hq.elim
  · exact hk _ _ hq
theorem frzL_mono : ∀ {l : List SV} {h : Bs} {K K' : List SV → Bs → Prop}, (∀ s h, K s h → K' s h) → frzL l h K → frzL l h K'
  | [], _, _, _, hk, hq => hk _ _ hq
  | _ :: _, _, _, _, hk, hq => frzS_mono (fun _ _ h1 => frzL_mono (fun _ _ h2 => hk _ _ h2) h1) hq
theorem frzM_mono {m : M} {h : Bs} {K K' : M → Bs → Prop} (hk : ∀ s h, K s h → K' s h) (hq : frzM m h K) : frzM m h K' := by
  cases m with
  | one s => exact frzS_mono (K := fun s h => K (.one s) h) (K' := fun s h => K' (.one s) h) (fun _ _ h1 => hk _ _ h1) hq
  | agg l => exact frzL_mono (K := fun l h => K (.agg l) h) (K' := fun l h => K' (.agg l) h) (fun _ _ h1 => hk _ _ h1) hq
  | tup l => exact hk _ _ hq
theorem frzX_mono {m : M} {h : Bs} {K K' : M → Bs → Prop} (hk : ∀ s h, K s h → K' s h) (hq : frzX m h K) : frzX m h K' := by
  have cm : ∀ {l : List SV} {off : Nat} {K K' : IntKind → Nat → List Int → Prop}, (∀ k n il, K k n il → K' k n il) → chunkK l off K → chunkK l off K' := by
    intro l
    induction l with
    | nil => exact fun _ h => h.elim
    | cons s r ih =>
      intro off K K' hk h
      simp only [chunkK] at h ⊢
      cases h1 : Nat.beq off 0 with
      | true =>
        simp only [h1, cond_true] at h ⊢
        cases s <;> first | exact hk _ _ _ h | exact h
      | false =>
        simp only [h1, cond_false] at h ⊢
        obtain ⟨h2, h3⟩ := cond_false_elim h
        rw [h2]
        exact ih hk h3
  unfold frzX at hq ⊢
  split at hq
  · split at hq
    · exact cm (fun k n il h1 => ⟨h1.1, h1.2.1, fun x => hk _ _ (h1.2.2 x)⟩) hq
    · exact hq.elim
  · exact frzM_mono hk hq
theorem frzA_mono : ∀ {l : List M} {h : Bs} {K K' : List M → Bs → Prop}, (∀ s h, K s h → K' s h) → frzA l h K → frzA l h K'
  | [], _, _, _, hk, hq => hk _ _ hq
  | _ :: _, _, _, _, hk, hq => frzM_mono (fun _ _ h1 => frzA_mono (fun _ _ h2 => hk _ _ h2) h1) hq

def memN (d : Nat) : List Nat → Bool
  | [] => false
  | x :: r => Nat.beq d x || memN d r

def Down (h h' : Bs) : Prop := ∀ j k, get h' j = some k → get h j = some k

section
variable {P : Program} {tt : Tab} {B : Base} {nt : Nat} {σ : Nat → Nat} {n : Nat} {e : Env} {h h' : Bs} {a : Act} {w : World}

theorem Down.refl (h : Bs) : Down h h := fun _ _ hk => hk
theorem Down.trans {h1 h2 h3 : Bs} (a : Down h1 h2) (b : Down h2 h3) : Down h1 h3 := fun j k hk => a j k (b j k hk)
theorem Down.del (h : Bs) (j : Nat) : Down h (del h j) := fun i k hk => get_del_sub i k hk

theorem Down.av (hd : Down h h') {b : Nat} (hb : avoids B σ h' b) : avoids B σ h b := by
  rcases hb with hb | ⟨j, k, hj, hr⟩
  · exact .inl hb
  · exact .inr ⟨j, k, hd _ _ hj, hr⟩

theorem Down.ok (hd : Down h h') {s : SV} (hs : s.Ok w (avoids B σ h) n) : s.Ok w (avoids B σ h') n := hs.mono (Nat.le_refl _) fun b _ hb => ⟨fun h1 => hb (hd.av h1), rfl⟩
theorem Down.okM (hd : Down h h') {m : M} (hs : m.Ok w (avoids B σ h) n) : m.Ok w (avoids B σ h') n := hs.mono (Nat.le_refl _) fun b _ hb => ⟨fun h1 => hb (hd.av h1), rfl⟩

theorem Sat.down (s : Sat B nt σ n e h a w) (hd : Down h h') : Sat B nt σ n e h' a w :=
  ⟨s.mem.sub hd, s.defers, s.size, s.env, fun q m hq => hd.okM (s.ok q m hq)⟩

theorem Sat.reput (s : Sat B nt σ n e h a w) {d : Nat} {m m' : M} (hm : get e d = some m) (hd : m'.den σ = m.den σ) (hok : m'.Ok w (avoids B σ h) n) : Sat B nt σ n (Sx.put e d m') h a w := by
  refine ⟨s.mem, s.defers, s.size, fun q x hq => ?_, fun q x hq => ?_⟩
  · rw [get_put] at hq
    split at hq
    · rename_i hdq; subst hdq; cases hq; rw [hd]; exact s.env d m hm
    · exact s.env q x hq
  · rw [get_put] at hq
    split at hq
    · cases hq; exact hok
    · exact s.ok q x hq

theorem get_del_self : ∀ (h : Bs) (j : Nat), get (del h j) j = none
  | [], _ => rfl
  | (a, b) :: r, j => by
    simp only [del]
    cases hb : Nat.beq a j with
    | true => exact get_del_self r j
    | false =>
      simp only [cond_false, get, hb]
      exact get_del_self r j

theorem Mem.lone (s : Mem B σ n h w) {j : Nat} {k : Blk} (hj : get h j = some k) (hr : k.real) : ¬ avoids B σ (del h j) (σ j) := by
  rintro (hb | ⟨i, k', hi, hr'⟩)
  · have := s.avlt _ hb
    exact this.2 (s.own _ _ hj hr this.1)
  · have h1 := get_del_sub _ _ hi
    have := s.injO _ _ _ _ _ h1 hj hr' (.mk hr)
    subst this
    rw [get_del_self] at hi
    cases hi

theorem view_ok' {j es off len cap : Nat} {α : Type} {enc : Enc α} {l : List α} {cap' : Nat} {av av0 : Nat → Prop} {n0 : Nat} (hb : (Blk.row es enc l cap').holds σ w (σ j)) (hok : (Blk.row es enc l cap').Ok w av0 n0) (h1 : off + len ≤ l.length) (h2 : len ≤ cap)
    (hp : ∀ y, (enc.enc y).all SV.isPure = true) (hav : ∀ b, av b → av0 b) (hne : 0 < cap' → ¬ av (σ j)) :
    (SV.view (.slice (some ⟨σ j, off * es, none⟩) len cap) es enc.enc ((l.drop off).take len)).Ok w av n := by
  obtain ⟨hlc, hes, hb⟩ := hb
  have hmem : ∀ y ∈ (l.drop off).take len, y ∈ l := fun y hy => List.mem_of_mem_drop (List.mem_of_mem_take hy)
  have hlen : ((l.drop off).take len).length = len := by simp; omega
  have hpp : ∀ (y : α), ∀ s ∈ enc.enc y, s.isPure = true := fun y => List.all_eq_true.1 (hp y)
  have e : (SV.view (.slice (some ⟨σ j, off * es, none⟩) len cap) es enc.enc ((l.drop off).take len)) = .view (.slice (some ⟨σ j, off * es, none⟩) ((l.drop off).take len).length cap) es enc.enc ((l.drop off).take len) := by rw [hlen]
  rw [e]
  have pm : ∀ {s : SV}, s.Ok w av0 n0 → s.isPure = true → s.Ok w av n := by
    intro s h hp
    induction h with
    | v h => exact .v h
    | ints h => exact .ints h
    | view hcap hes hpp hok hcell ih =>
      refine .view hcap hes hpp (fun x hx s hs => ih x hx s hs (hpp x hx s hs)) fun i k hi u hu => ?_
      obtain ⟨b, o, h1, h2, h3⟩ := hcell i k hi u hu
      exact ⟨b, o, h1, fun h4 => h2 (hav b h4), h3⟩
    | rptr hpp hok hcell ih =>
      exact .rptr hpp (fun s hs => ih s hs (hpp s hs)) fun k u hu => ⟨fun h4 => (hcell k u hu).1 (hav _ h4), (hcell k u hu).2⟩
    | _ => cases hp
  refine .view (by rw [hlen]; exact h2) (fun y hy => ?_) (fun y _ => hpp y) (fun y hy s hs => pm (hok y (hmem y hy) s hs) (hpp y s hs)) fun i k hi u hu => ?_
  · rw [denL_pure (hpp y) nowhere σ]; exact hes y (hmem y hy)
  · have hi' : off + i < l.length := by rw [hlen] at hi; omega
    have hc : 0 < cap' := by omega
    obtain ⟨c, t, f, g1, g2, g3, g4⟩ := hb hc
    refine ⟨_, _, rfl, hne hc, ?_⟩
    have ge : ((l.drop off).take len)[i] = l[off + i] := by simp
    rw [ge, denL_pure (hpp _) nowhere σ] at hu
    have := g4 (off + i) k hi' u hu
    rw [cell_of_cells g1, show off * es + (i * es + k) = (off + i) * es + k by rw [Nat.add_mul]; omega]
    exact this

theorem frzS_sound (s : Mem B σ n h w) {x : SV} (hx : x.Ok w (avoids B σ h) n) {K : SV → Bs → Prop} (hk : frzS x h K) :
    ∃ y h', K y h' ∧ Down h h' ∧ y.dens σ = x.dens σ ∧ y.isOne = x.isOne ∧ y.Ok w (avoids B σ h') n := by
  unfold frzS at hk
  split at hk
  · rename_i j es off len cap
    split at hk
    · rename_i es' α enc l cap' hj
      cases hb : Nat.beq es es' with
      | false =>
        rw [hb] at hk
        obtain ⟨hb2, h1, h2, h3, hk1⟩ := cond_false_elim hk
        simp only [Bool.and_eq_true] at hb2
        have e3 := Nat.eq_of_beq_eq_true hb2.2
        subst e3
        refine ⟨_, _, hk1 (.slice (some ⟨σ j, 0, none⟩) len cap), Down.del _ _, by simp [SV.dens, SV.den], rfl, ?_⟩
        have := view_ok' (n := n) (off := 0) (len := len) (cap := cap) (s.holds j _ hj) (s.ok j _ hj) (by omega) h2 h3 (fun b => (Down.del h j).av) fun hc => s.lone hj hc
        simp only [Nat.zero_mul, List.drop_zero] at this
        exact this
      | true =>
      rw [hb] at hk
      obtain ⟨h1, h2, h3, hk1⟩ := hk
      have := Nat.eq_of_beq_eq_true hb
      subst this
      exact ⟨_, _, hk1 (.slice (some ⟨σ j, off * es, none⟩) len cap), Down.del _ _, rfl, rfl, view_ok' (s.holds j _ hj) (s.ok j _ hj) h1 h2 h3 (fun b => (Down.del h j).av) fun hc => s.lone hj hc⟩
    · exact hk.elim
  · rename_i j es len cap
    split at hk
    · rename_i es' α enc l cap' hj
      obtain ⟨hb, h1, h2, h4, h3, hk1⟩ := cond_false_elim hk
      clear hk
      have := Nat.eq_of_beq_eq_true hb
      subst this
      subst h4
      by_cases hc : cap = 0
      · subst hc
        have hl : len = 0 := by omega
        subst hl
        refine ⟨_, _, hk1 (.slice none 0 0), Down.del _ _, by simp [SV.dens, SV.den], rfl, ?_⟩
        have e : (SV.view (.slice none 0 0) es enc.enc (l.take 0)) = .view (.slice none (l.take 0).length 0) es enc.enc (l.take 0) := by simp
        rw [e]
        exact .view (by simp) (by simp) (by simp) (by simp) (by simp)
      · refine ⟨_, _, hk1 (.slice (some ⟨σ j, 0, none⟩) len cap), Down.del _ _, by simp [SV.dens, SV.den, hc], rfl, ?_⟩
        have := view_ok' (n := n) (off := 0) (len := len) (cap := cap) (s.holds j _ hj) (s.ok j _ hj) (by omega) h2 h3 (fun b => (Down.del h j).av) fun hc => s.lone hj hc
        simp only [Nat.zero_mul, List.drop_zero] at this
        exact this
    · exact hk.elim
  · exact ⟨x, h, hk, Down.refl h, rfl, rfl, hx⟩

theorem frzL_sound : ∀ {l : List SV} {h : Bs} {K : List SV → Bs → Prop}, Mem B σ n h w → (∀ s ∈ l, s.Ok w (avoids B σ h) n) → frzL l h K →
    ∃ l' h', K l' h' ∧ Down h h' ∧ denL σ l' = denL σ l ∧ ∀ s ∈ l', s.Ok w (avoids B σ h') n
  | [], h, K, s, _, hk => ⟨[], h, hk, Down.refl h, rfl, fun _ h => by cases h⟩
  | x :: r, h, K, s, hl, hk => by
    obtain ⟨y, h1, k1, d1, e1, _, o1⟩ := frzS_sound s (hl x (by simp)) hk
    obtain ⟨l', h2, k2, d2, e2, o2⟩ := frzL_sound (s.sub d1) (fun z hz => d1.ok (hl z (by simp [hz]))) k1
    exact ⟨_, h2, k2, d1.trans d2, by rw [denL_cons, denL_cons, e1, e2], fun z hz => by
      rcases List.mem_cons.1 hz with rfl | hz
      · exact d2.ok o1
      · exact o2 z hz⟩

theorem frzM_sound (s : Mem B σ n h w) {m : M} (hm : m.Ok w (avoids B σ h) n) {K : M → Bs → Prop} (hk : frzM m h K) :
    ∃ m' h', K m' h' ∧ Down h h' ∧ m'.den σ = m.den σ ∧ m'.Ok w (avoids B σ h') n := by
  cases hm with
  | one h9 hx =>
    obtain ⟨y, h1, k1, d1, e1, e2, o1⟩ := frzS_sound s hx (show frzS _ h fun s h => K (.one s) h from hk)
    rw [h9] at e2
    refine ⟨_, h1, k1, d1, ?_, .one e2 o1⟩
    rw [SV.dens_one e2, SV.dens_one h9] at e1
    simpa [M.den] using e1
  | agg hl =>
    obtain ⟨l', h1, k1, d1, e1, o1⟩ := frzL_sound s hl (show frzL _ h fun l h => K (.agg l) h from hk)
    exact ⟨_, h1, k1, d1, by simp only [M.den, e1], .agg o1⟩
  | tup hl => exact ⟨_, h, hk, Down.refl h, rfl, .tup hl⟩

theorem frzX_sound (s : Mem B σ n h w) {m : M} (hm : m.Ok w (avoids B σ h) n) {K : M → Bs → Prop} (hk : frzX m h K) :
    ∃ m' h', K m' h' ∧ Down h h' ∧ m'.den σ = m.den σ ∧ m'.Ok w (avoids B σ h') n := by
  unfold frzX at hk
  split at hk
  · rename_i j off i len cap
    split at hk
    · rename_i l hj
      obtain ⟨k, q, il, ⟨h1, h2, hk⟩, h3, h4⟩ := chunkK_spec l off _ (s.ok j _ hj) hk
      refine ⟨_, _, hk (.slice (some ⟨σ j, off + i, none⟩) len cap), Down.del _ _, rfl, .one rfl ?_⟩
      have hlen : ((il.drop i).take len).length = len := by simp; omega
      have e : ∀ en : Int → List SV, (SV.view (.slice (some ⟨σ j, off + i, none⟩) len cap) 1 en ((il.drop i).take len)) = .view (.slice (some ⟨σ j, off + i, none⟩) ((il.drop i).take len).length cap) 1 en ((il.drop i).take len) := by intro en; rw [hlen]
      rw [e]
      obtain ⟨t, f, g1, g2⟩ := s.holds j _ hj
      have hne := s.lone hj trivial
      refine .view (by rw [hlen]; exact h2) (fun _ _ => rfl) (fun y _ s hs => by rw [List.mem_singleton] at hs; subst hs; rfl) (fun y _ s hs => by rw [List.mem_singleton] at hs; subst hs; exact .v rfl) fun a b ha u hu => ?_
      refine ⟨_, _, rfl, hne, ?_⟩
      have hb0 : b = 0 := by
        have := (List.getElem?_eq_some_iff.1 hu).1
        have e1 : (denL nowhere [SV.v (Value.int k ((il.drop i).take len)[a])]).length = 1 := rfl
        omega
      subst hb0
      have hu : some (Value.int k ((il.drop i).take len)[a]) = some u := hu
      cases hu
      rw [hlen] at ha
      rw [cell_of_cells g1]
      have := h4 σ (i + a) (by omega)
      simp only [List.getElem?_toArray]
      rw [show off + i + (a * 1 + 0) = off + (i + a) by omega, this]
      simp
    · exact hk.elim
  · exact frzM_sound s hm hk

theorem frzA_sound : ∀ {l : List M} {h : Bs} {K : List M → Bs → Prop}, Mem B σ n h w → (∀ m ∈ l, m.Ok w (avoids B σ h) n) → frzA l h K →
    ∃ l' h', K l' h' ∧ Down h h' ∧ l'.map (M.den σ) = l.map (M.den σ) ∧ ∀ m ∈ l', m.Ok w (avoids B σ h') n
  | [], h, K, s, _, hk => ⟨[], h, hk, Down.refl h, rfl, fun _ h => by cases h⟩
  | x :: r, h, K, s, hl, hk => by
    obtain ⟨y, h1, k1, d1, e1, o1⟩ := frzM_sound s (hl x (by simp)) hk
    obtain ⟨l', h2, k2, d2, e2, o2⟩ := frzA_sound (s.sub d1) (fun z hz => d1.okM (hl z (by simp [hz]))) k1
    exact ⟨_, h2, k2, d1.trans d2, by rw [List.map_cons, List.map_cons, e1, e2], fun z hz => by
      rcases List.mem_cons.1 hz with rfl | hz
      · exact d2.okM o1
      · exact o2 z hz⟩

theorem frzP_sound : ∀ {l : List Operand} {e : Env} {h : Bs} {K : Env → Bs → Prop}, Sat B nt σ n e h a w → frzP l e h K → ∃ e' h', K e' h' ∧ Sat B nt σ n e' h' a w
  | [], e, h, K, s, hk => ⟨e, h, hk, s⟩
  | x :: r, e, h, K, s, hk => by
    unfold frzP at hk
    split at hk
    · split at hk
      · rename_i m hm
        obtain ⟨m', h', k1, d1, e1, o1⟩ := frzX_sound s.mem (s.ok _ _ hm) hk
        exact frzP_sound ((s.down d1).reput hm e1 o1) k1
      · exact hk.elim
    · exact frzP_sound s hk

theorem frzP_down : ∀ {l : List Operand} {e : Env} {h : Bs} {K : Env → Bs → Prop}, Sat B nt σ n e h a w → frzP l e h K → ∃ e' h', K e' h' ∧ Sat B nt σ n e' h' a w ∧ Down h h'
  | [], e, h, K, s, hk => ⟨e, h, hk, s, Down.refl h⟩
  | x :: r, e, h, K, s, hk => by
    unfold frzP at hk
    split at hk
    · split at hk
      · rename_i m hm
        obtain ⟨m', h', k1, d1, e1, o1⟩ := frzX_sound s.mem (s.ok _ _ hm) hk
        obtain ⟨e2, h2, g1, g2, g3⟩ := frzP_down ((s.down d1).reput hm e1 o1) k1
        exact ⟨e2, h2, g1, g2, d1.trans g3⟩
      · exact hk.elim
    · exact frzP_down s hk

def bsF (te : TI) (e : Env) (h : Bs) (n len : Nat) (parts : List (Nat × Operand)) (K : M → Bs → Prop) : Prop :=
  frzP (parts.map (·.2)) e h fun e1 h1 => buildSliceK te e1 h1 n len parts K

theorem bsF_sound (hT : TOK P tt) (s : Sat B nt σ n e h a w) {t el : TypeId} {te ti : TI} (hti : get tt t = some ti) (htk : ti.kind = .sl el) (hte : get tt el = some te) {len : Nat} {parts : Array (Nat × Operand)} {K : M → Bs → Prop}
    (hk : bsF te e h n len parts.toList K) : Made P B σ n h w ((Instr.buildSlice t len (parts.map fun (i, x) => (i, a.eval x))).run P w) K := by
  obtain ⟨e1, h1, k1, s1, d1⟩ := frzP_down s hk
  obtain ⟨σ', m, h', w', g1, g2, g3, g4, g5, g6⟩ := (buildSliceK_sound hT s1 hti htk hte k1).out
  exact ⟨σ', m, h', w', g1, g2, g3, g4, g5, fun b hb hna => g6 b hb fun h2 => hna (d1.av h2)⟩

theorem frzO_sound {o : Op} {K : Env → Bs → Prop} (s : Sat B nt σ n e h a w) (hk : frzO tt o e h K) : ∃ e' h', K e' h' ∧ Sat B nt σ n e' h' a w := by
  unfold frzO at hk
  split at hk
  · split at hk
    · split at hk
      · split at hk
        · rename_i te _
          cases hb : hasSl te.el.E.code with
          | true => rw [hb] at hk; exact frzP_sound s hk
          | false => rw [hb] at hk; exact ⟨e, h, hk, s⟩
        · exact ⟨e, h, hk, s⟩
      · exact ⟨e, h, hk, s⟩
    · exact ⟨e, h, hk, s⟩
  · exact ⟨e, h, hk, s⟩
end

def strO (tt : Tab) (o : Op) (e : Env) (A : ByteArray → Prop) (B : Prop) : Prop :=
  match o with
  | .convert s d x => (match get tt s, get tt d with
    | some _, some td => (match td.kind with
      | .sl el => (match get tt el with
        | some te => (match te.kind with
          | .int .u8 => ev e x fun m => match m with
            | .one (.v (.string b)) => A b
            | _ => False
          | _ => B)
        | none => B)
      | _ => B)
    | _, _ => B)
  | _ => B

def cnvO (tt : Tab) (o : Op) (e : Env) (h : Bs) (A : M → Prop) (B : Prop) : Prop :=
  match o with
  | .convert s d x => bif Nat.beq s d then
      (match get tt s with
      | some ts => (match ts.kind with
        | .sl el => (match get tt el with
          | some te => (match te.kind with
            | .int .u8 => ev e x fun m => match m with
              | .one (.slc j es off len cap) => (match get h j with
                | some (.row _ _ _ cap') => 0 < cap' ∧ A (.one (.slc j es off len cap))
                | _ => False)
              | _ => False
            | _ => B)
          | none => B)
        | _ => B)
      | none => B) else B
  | _ => B

def xopF (C : CallT) (tt : Tab) (nt : Nat) (o : Oper) (n : Nat) (e : Env) (h : Bs) (K : Nat → Env → Bs → Prop) : Prop :=
  cnvO tt o.op e h (fun m => dstK nt o.dst m e fun e' => K n e' h)
  (strO tt o.op e (fun b => ∀ cap, b.size ≤ cap → dstK nt o.dst (.one (.slc n 1 0 b.size cap)) e fun e' => K (n + 1) e' (put h n (.row 1 (encInt .u8) (sl b) cap)))
    (frzO tt o.op e h fun e h => xop C tt nt o n e h K))

theorem Mem.frozen {B : Base} {σ : Nat → Nat} {n : Nat} {h : Bs} {w : World} (s : Mem B σ n h w) {j es cap : Nat} {α : Type} {enc : Enc α} {l : List α} (hj : get h j = some (.row es enc l cap)) (hc : 0 < cap) :
    ∃ w' t m, w.shape? (σ j) = some (t, m) ∧ w' = w.freeze ⟨σ j, m, none⟩ 1 ∧ Mem B σ n h w' ∧ ∀ b, b < w.heap.size → ¬ avoids B σ h b → ¬ avoids B σ h b ∧ w'.heap[b]? = w.heap[b]? := by
  obtain ⟨h1, h2, h3⟩ := s.holds j _ hj
  obtain ⟨c, t, f, g1, g2, g3, g4⟩ := h3 hc
  have hlt : σ j < w.heap.size := (Array.getElem?_eq_some_iff.1 g1).1
  have hsh : w.shape? (σ j) = some (t, c.size) := by simp [World.shape?, g1]
  obtain ⟨lo, hi⟩ := f
  have hnew : (w.freeze ⟨σ j, c.size, none⟩ 1).heap[σ j]? = some (.cells c t (if lo == hi then (c.size, c.size + 1) else (min lo c.size, max hi (c.size + 1)))) := by
    simp [World.freeze, Array.getElem?_modify, g1]
  have hold : ∀ b, b ≠ σ j → (w.freeze ⟨σ j, c.size, none⟩ 1).heap[b]? = w.heap[b]? := fun b hb => by
    simp [World.freeze, Array.getElem?_modify, Ne.symm hb]
  have hm := s.upd (k' := .row es enc l cap) hj hc hold (by simp [World.freeze]) rfl rfl rfl ⟨h1, h2, fun _ => ⟨c, t, _, hnew, ?_, g3, g4⟩⟩ (s.ok j _ hj)
  · refine ⟨_, t, c.size, hsh, rfl, ?_, fun b _ hav => ⟨hav, hold b fun h1 => hav (.inr ⟨j, _, hj, .inl ⟨hc, h1.symm⟩⟩)⟩⟩
    exact hm.sub fun i k hi => by
      rw [get_upd]
      split
      · rename_i h0; subst h0; rw [hj] at hi; exact hi
      · exact hi
  · by_cases he : lo = hi
    · rw [if_pos (by simpa using he)]; exact .inr (Nat.le_refl _)
    · rw [if_neg (by simpa using he)]
      rcases g2 with g2 | g2
      · exact absurd g2 he
      · exact .inr (by simp only at g2 ⊢; omega)

theorem bytesWorld_heap (w : World) (e : TypeId) (s : ByteArray) : (Lib.bytesWorld w e s).heap = w.heap.push (.cells (Lib.bytesCells w e s) e ((Lib.bytesCells w e s).size, (Lib.bytesCells w e s).size + 1)) := by
  apply Array.ext_getElem?
  intro i
  rcases Nat.lt_trichotomy i w.heap.size with hi | hi | hi
  · rw [Lib.bytesWorld_at_old w e s i hi, Array.getElem?_push, if_neg (by omega)]
  · subst hi
    rw [Lib.bytesWorld_at_new, Array.getElem?_push, if_pos rfl]
  · rw [Array.getElem?_eq_none (by rw [Lib.bytesWorld_size]; omega), Array.getElem?_eq_none (by rw [Array.size_push]; omega)]

theorem sl_length (b : ByteArray) : (sl b).length = b.size := by
  unfold sl
  rw [List.length_map, Array.length_toList]
  rfl

theorem strB_made {P : Program} {B : Base} {σ : Nat → Nat} {n : Nat} {h : Bs} {w : World} (s : Mem B σ n h w) {src dst el : TypeId} {u : TypeDesc} (hs : P.underlying src = some u) (hd : P.underlying dst = some (.slice el)) (he : P.underlying el = some (.int .u8)) (b : ByteArray) {K : M → Bs → Prop}
    (hk : ∀ cap, b.size ≤ cap → K (.one (.slc n 1 0 b.size cap)) (put h n (.row 1 (encInt .u8) (sl b) cap))) : Made P B σ n h w ((convert src dst (.string b)).run P w) K := by
  have hcap := grownCap_ge w b.size 0 el
  have hsz : (Lib.bytesCells w el b).size = grownCap w b.size 0 el * 1 := by
    have h1 : b.data.size = b.size := rfl
    simp [Lib.bytesCells]
    omega
  refine ⟨ext σ n w.heap.size, _, _, Lib.bytesWorld w el b, hk _ hcap, ?_, fun j hj => ext_lt σ n _ hj, ?_, .one rfl (.slc (by omega)), s.push_hk (bytesWorld_heap w el b) _⟩
  · rw [Lib.run_convert_string_bytes w src dst el b hs hd he]
    simp [M.den, SV.den, ext_self]
  · refine s.push (bytesWorld_heap w el b) rfl rfl rfl ⟨by rw [sl_length]; exact hcap, fun y _ => rfl, fun _ => ⟨_, _, _, Lib.bytesWorld_at_new w el b, .inr (Nat.le_refl _), hsz, fun i k hi v hv => ?_⟩⟩ (fun y _ z hz => ?_)
    · have hk0 : k = 0 := by
        have := (List.getElem?_eq_some_iff.1 hv).1
        have e1 : (denL (ext σ n w.heap.size) ((encInt .u8).enc (sl b)[i])).length = 1 := rfl
        omega
      subst hk0
      have hv' : some (Value.int .u8 (sl b)[i]) = some v := hv
      cases hv'
      rw [sl_length] at hi
      have hi' : i < b.data.size := hi
      rw [Nat.mul_one, Nat.add_zero, Lib.bytesCells, Array.getElem?_append_left (by simpa using hi')]
      simp [sl]
      exact ⟨_, Array.getElem?_eq_getElem hi', rfl⟩
    · have : z ∈ [SV.v (.int .u8 y)] := hz
      rw [List.mem_singleton] at this
      subst this
      exact .v rfl

theorem xopF_sound {P : Program} {tt : Tab} {B : Base} {nt : Nat} {σ : Nat → Nat} {n : Nat} {e : Env} {h : Bs} {a : Act} {w : World} {C : CallT} (hC : COK P C) (hT : TOK P tt) (s : Sat B nt σ n e h a w) {o : Oper} {K : Nat → Env → Bs → Prop} (hk : xopF C tt nt o n e h K) {next : Act → World → Prop} {Q : Exit → Act → World → Prop}
    (hn : ∀ a' w', Behind B nt K a' w' → next a' w') : o.wp P a w next Q := by
  have other : (frzO tt o.op e h fun e h => xop C tt nt o n e h K) → o.wp P a w next Q := by
    intro hk
    obtain ⟨e', h', k1, s1⟩ := frzO_sound s hk
    exact xop_sound hC hT s1 k1 hn
  obtain ⟨dst, op, type, pos, after, guard⟩ := o
  have other0 : (strO tt op e (fun b => ∀ cap, b.size ≤ cap → dstK nt dst (.one (.slc n 1 0 b.size cap)) e fun e' => K (n + 1) e' (put h n (.row 1 (encInt .u8) (sl b) cap)))
    (frzO tt op e h fun e h => xop C tt nt ⟨dst, op, type, pos, after, guard⟩ n e h K)) → Oper.wp P ⟨dst, op, type, pos, after, guard⟩ a w next Q := by
   clear hk
   intro hk
   unfold strO at hk
   simp only at hk
   split at hk
   · rename_i sr ds x
     split at hk
     · rename_i ts td hs hd
       split at hk
       · rename_i el hkd
         split at hk
         · rename_i te he
           split at hk
           · rename_i hke
             obtain ⟨m, k1, h1, h2⟩ := ev_sound s hk
             split at k1
             · rename_i b
               have rs := (hT _ _ hs).und
               obtain ⟨us, hus, _⟩ := rs
               have hm := strB_made (P := P) (K := fun m h' => dstK nt dst m e fun e' => K (n + 1) e' h') s.mem hus ((hT _ _ hd).sl hkd) (by
                 obtain ⟨d, g1, g2⟩ := (hT _ _ he).und
                 rw [hke] at g2
                 cases d <;> first | exact g2.elim | skip
                 simp only [TK.fits] at g2
                 rw [g1, g2]) b k1
               obtain ⟨σ', m, h', w', k2, hr, hσ, hmem, hok, hkeep⟩ := hm.out
               have s2 : Sat B nt σ' (n + 1) e h' a w' := ⟨hmem, s.defers, s.size, fun q m hm => by rw [s.env q m hm]; exact M.den_congr (s.ok q m hm) hσ, fun q m hm => (s.ok q m hm).mono (by omega) hkeep⟩
               obtain ⟨e', k4, s3⟩ := dstK_sound s2 hok k2
               have hrun : (execOp a.eval { dst := dst, op := .convert sr ds x, type := type, pos := pos, after := after, guard := guard }).run P w = .ok (.value (m.den σ')) w' := by
                 have hx : a.eval x = .string b := h1
                 simp [execOp, hx, hr]
               unfold Oper.wp
               rw [hrun]
               exact hn _ _ ⟨_, _, _, _, k4, s3⟩
             · exact k1.elim
           · exact other hk
         · exact other hk
       · exact other hk
     · exact other hk
   · exact other hk
  unfold xopF cnvO at hk
  simp only at hk
  split at hk
  · rename_i sr ds x
    cases hb : Nat.beq sr ds with
    | false => rw [hb] at hk; exact other0 hk
    | true =>
      rw [hb] at hk
      have := Nat.eq_of_beq_eq_true hb
      subst this
      simp only [cond_true] at hk
      split at hk
      · rename_i ts hs
        split at hk
        · rename_i el hkd
          split at hk
          · rename_i te he
            split at hk
            · rename_i hke
              obtain ⟨m, k1, h1, h2⟩ := ev_sound s hk
              split at k1
              · rename_i j es off len cap
                split at k1
                · rename_i es' α enc l cap' hj
                  obtain ⟨hc, k2⟩ := k1
                  obtain ⟨w', t, m0, hsh, rfl, hmem, hkeep⟩ := s.mem.frozen hj hc
                  have s2 : Sat B nt σ n e h a (w.freeze ⟨σ j, m0, none⟩ 1) := ⟨hmem, s.defers, s.size, s.env, fun q m hm => (s.ok q m hm).mono (Nat.le_refl _) hkeep⟩
                  obtain ⟨e', k4, s3⟩ := dstK_sound s2 (h2.mono (Nat.le_refl _) hkeep) k2
                  have hus := (hT _ _ hs).sl hkd
                  have hue : P.underlying el = some (.int .u8) := by
                    obtain ⟨d, g1, g2⟩ := (hT _ _ he).und
                    rw [hke] at g2
                    cases d <;> first | exact g2.elim | skip
                    simp only [TK.fits] at g2
                    rw [g1, g2]
                  have hrun : (execOp a.eval { dst := dst, op := .convert sr sr x, type := type, pos := pos, after := after, guard := guard }).run P w = .ok (.value ((M.one (.slc j es off len cap)).den σ)) (w.freeze ⟨σ j, m0, none⟩ 1) := by
                    simp [execOp, h1, M.den, SV.den, convert, run_underlying hus, run_underlying hue, markStringish, hsh]
                  unfold Oper.wp
                  rw [hrun]
                  exact hn _ _ ⟨_, _, _, _, k4, s3⟩
                · exact k1.elim
              · exact k1.elim
            · exact other0 hk
          · exact other0 hk
        · exact other0 hk
      · exact other0 hk
  · exact other0 hk

def xopD (mf : List Nat) (C : CallT) (tt : Tab) (nt : Nat) (o : Oper) (n : Nat) (e : Env) (h : Bs) (K : Nat → Env → Bs → Prop) : Prop :=
  match o.op with
  | .buildSlice t len parts => bif memN (1000000 + t) mf then (ty tt t fun ti => match ti.kind with
    | .sl el => ty tt el fun te => bsF te e h n len parts.toList fun m h' => dstK nt o.dst m e fun e' => K (n + 1) e' h'
    | _ => False) else xop C tt nt o n e h K
  | .convert sr ds x => bif Nat.beq sr ds && memN (3000000 + sr) mf then (ty tt sr fun ti => match ti.kind with
    | .sl el => ty tt el fun te => (match te.kind with
      | .int .u8 => ev e x fun m => (match m with
        | .one (.slc j es off len cap) => (match get h j with
          | some (.row _ _ _ cap') => 0 < cap' ∧ dstK nt o.dst (.one (.slc j es off len cap)) e fun e' => K n e' h
          | _ => False)
        | _ => False)
      | _ => False)
    | _ => False) else bif memN (4000000 + sr) mf && memN (3000000 + ds) mf then (ty tt sr fun ts => ty tt ds fun ti => match ti.kind with
    | .sl el => ty tt el fun te => (match te.kind with
      | .int .u8 => ev e x fun m => (match m with
        | .one (.v (.string b)) => ∀ cap, b.size ≤ cap → dstK nt o.dst (.one (.slc n 1 0 b.size cap)) e fun e' => K (n + 1) e' (put h n (.row 1 (encInt .u8) (sl b) cap))
        | _ => False)
      | _ => False)
    | _ => False) else xop C tt nt o n e h K
  | _ => xop C tt nt o n e h K

section
variable {P : Program} {tt : Tab} {B : Base} {nt : Nat} {σ : Nat → Nat} {n : Nat} {e : Env} {h : Bs} {a : Act} {w : World}
theorem xopD_sound {mf : List Nat} {C : CallT} (hC : COK P C) (hT : TOK P tt) (s : Sat B nt σ n e h a w) {o : Oper} {K : Nat → Env → Bs → Prop} (hk : xopD mf C tt nt o n e h K) {next : Act → World → Prop} {Q : Exit → Act → World → Prop}
    (hn : ∀ a' w', Behind B nt K a' w' → next a' w') : o.wp P a w next Q := by
  unfold xopD at hk
  split at hk
  · rename_i t len parts hop
    cases hb : memN (1000000 + t) mf with
    | false => rw [hb] at hk; exact xop_sound hC hT s hk hn
    | true =>
      rw [hb] at hk
      simp only [cond_true] at hk
      obtain ⟨ti, hti, k1⟩ := ty_spec hk
      split at k1
      · rename_i el hkd
        obtain ⟨te, hte, k2⟩ := ty_spec k1
        obtain ⟨σ', m, h', w', k3, hrun, hσ, hmem, hok, hkeep⟩ := (bsF_sound hT s hti hkd hte k2).out
        have s2 : Sat B nt σ' (n + 1) e h' a w' := ⟨hmem, s.defers, s.size, fun q m hm => by rw [s.env q m hm]; exact M.den_congr (s.ok q m hm) hσ, fun q m hm => (s.ok q m hm).mono (by omega) hkeep⟩
        obtain ⟨e', k4, s3⟩ := dstK_sound s2 hok k3
        obtain ⟨dst, op, type, pos, after, guard⟩ := o
        simp only at hop
        subst hop
        unfold Oper.wp
        have hr : (execOp a.eval { dst := dst, op := .buildSlice t len parts, type := type, pos := pos, after := after, guard := guard }).run P w = .ok (.value (m.den σ')) w' := by
          simp [execOp, hrun]
        rw [hr]
        exact hn _ _ ⟨_, _, _, _, k4, s3⟩
      · exact k1.elim
  · rename_i sr ds x hop
    cases hb : (Nat.beq sr ds && memN (3000000 + sr) mf) with
    | false =>
      rw [hb] at hk
      simp only [cond_false] at hk
      cases hb2 : (memN (4000000 + sr) mf && memN (3000000 + ds) mf) with
      | false => rw [hb2] at hk; exact xop_sound hC hT s hk hn
      | true =>
        rw [hb2] at hk
        simp only [cond_true] at hk
        obtain ⟨ts, hts, hk⟩ := ty_spec hk
        obtain ⟨ti, hti, k1⟩ := ty_spec hk
        split at k1
        · rename_i el hkd
          obtain ⟨te, hte, k2⟩ := ty_spec k1
          split at k2
          · rename_i hke
            obtain ⟨m, k1, h1, h2⟩ := ev_sound s k2
            split at k1
            · rename_i b
              obtain ⟨us, hus, _⟩ := (hT _ _ hts).und
              obtain ⟨dst, op, type, pos, after, guard⟩ := o
              simp only at hop
              subst hop
              have hm := strB_made (P := P) (K := fun m h' => dstK nt dst m e fun e' => K (n + 1) e' h') s.mem hus ((hT _ _ hti).sl hkd) (by
                obtain ⟨d, g1, g2⟩ := (hT _ _ hte).und
                rw [hke] at g2
                cases d <;> first | exact g2.elim | skip
                simp only [TK.fits] at g2
                rw [g1, g2]) b k1
              obtain ⟨σ', m, h', w', k2, hr, hσ, hmem, hok, hkeep⟩ := hm.out
              have s2 : Sat B nt σ' (n + 1) e h' a w' := ⟨hmem, s.defers, s.size, fun q m hm => by rw [s.env q m hm]; exact M.den_congr (s.ok q m hm) hσ, fun q m hm => (s.ok q m hm).mono (by omega) hkeep⟩
              obtain ⟨e', k4, s3⟩ := dstK_sound s2 hok k2
              have hrun : (execOp a.eval { dst := dst, op := .convert sr ds x, type := type, pos := pos, after := after, guard := guard }).run P w = .ok (.value (m.den σ')) w' := by
                have hx : a.eval x = .string b := h1
                simp [execOp, hx, hr]
              unfold Oper.wp
              rw [hrun]
              exact hn _ _ ⟨_, _, _, _, k4, s3⟩
            · exact k1.elim
          · exact k2.elim
        · exact k1.elim
    | true =>
      rw [hb] at hk
      simp only [cond_true] at hk
      simp only [Bool.and_eq_true] at hb
      have := Nat.eq_of_beq_eq_true hb.1
      subst this
      obtain ⟨ti, hti, k1⟩ := ty_spec hk
      split at k1
      · rename_i el hkd
        obtain ⟨te, hte, k2⟩ := ty_spec k1
        split at k2
        · rename_i hke
          obtain ⟨m, k1, h1, h2⟩ := ev_sound s k2
          split at k1
          · rename_i j es off len cap
            split at k1
            · rename_i es' α enc l cap' hj
              obtain ⟨hc, k2⟩ := k1
              obtain ⟨w', t, m0, hsh, rfl, hmem, hkeep⟩ := s.mem.frozen hj hc
              have s2 : Sat B nt σ n e h a (w.freeze ⟨σ j, m0, none⟩ 1) := ⟨hmem, s.defers, s.size, s.env, fun q m hm => (s.ok q m hm).mono (Nat.le_refl _) hkeep⟩
              obtain ⟨e', k4, s3⟩ := dstK_sound s2 (h2.mono (Nat.le_refl _) hkeep) k2
              have hus := (hT _ _ hti).sl hkd
              have hue : P.underlying el = some (.int .u8) := by
                obtain ⟨d, g1, g2⟩ := (hT _ _ hte).und
                rw [hke] at g2
                cases d <;> first | exact g2.elim | skip
                simp only [TK.fits] at g2
                rw [g1, g2]
              obtain ⟨dst, op, type, pos, after, guard⟩ := o
              simp only at hop
              subst hop
              have hrun : (execOp a.eval { dst := dst, op := .convert sr sr x, type := type, pos := pos, after := after, guard := guard }).run P w = .ok (.value ((M.one (.slc j es off len cap)).den σ)) (w.freeze ⟨σ j, m0, none⟩ 1) := by
                simp [execOp, h1, M.den, SV.den, convert, run_underlying hus, run_underlying hue, markStringish, hsh]
              unfold Oper.wp
              rw [hrun]
              exact hn _ _ ⟨_, _, _, _, k4, s3⟩
            · exact k1.elim
          · exact k1.elim
        · exact k2.elim
      · exact k1.elim
  · exact xop_sound hC hT s hk hn
end
end Go.Sx
