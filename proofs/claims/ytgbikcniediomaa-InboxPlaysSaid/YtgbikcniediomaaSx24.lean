/- Contracts of functions that write memory handed to them, or hand back new memory. Holds for every program. -/
import Derived.Test.YtgbikcniediomaaSx23
namespace Go.Sx
set_option linter.unusedSimpArgs false
set_option linter.unusedVariables false

theorem quietH_all : ∀ h : Bs, quietH h
  | [] => trivial
  | (_, .cells _) :: r => ⟨trivial, quietH_all r⟩
  | (_, .row _ enc _ _) :: r => ⟨fun y => enc.pure y, quietH_all r⟩
  | (_, .obj _ _ _) :: r => ⟨trivial, quietH_all r⟩
  | (_, .chan _ _ enc _) :: r => ⟨trivial, quietH_all r⟩

abbrev MT := List M → Nat → Bs → (Nat → M → Bs → Prop) → Prop
def MMono (T : MT) : Prop := ∀ args n h (K K' : Nat → M → Bs → Prop), (∀ n m h, K n m h → K' n m h) → T args n h K → T args n h K'
structure MOK (P : Program) (f : Nat) (T : MT) : Prop where
  ok : ∀ args n h K, T args n h K → SCall P f args n h K
  mono : MMono T
abbrev MSpec := List (Nat × MT)
def MSOK (P : Program) (l : MSpec) : Prop := ∀ p ∈ l, MOK P p.1 p.2
theorem MSOK.nil {P : Program} : MSOK P [] := fun _ h => by cases h
theorem MSOK.cons {P : Program} {f : Nat} {T : MT} {l : MSpec} (h : MOK P f T) (hl : MSOK P l) : MSOK P ((f, T) :: l) := fun p hp => by
  rcases List.mem_cons.1 hp with rfl | hp
  · exact h
  · exact hl p hp

/-! ### Own arrays lent to a function whose contract tells of memory -/

def lndA (h : Bs) : List M → List Nat → (List M → List Nat → Prop) → Prop
  | [], L, K => K [] L
  | m :: r, L, K => match m with
    | .one (.asl j off i len cap) => (match get h j with
      | some (.cells l) => chunkK l off fun k n il => i + len ≤ n ∧ len ≤ cap ∧ ∀ x, lndA h r (j :: L) fun ms L => K (.one (.view x 1 (fun b : Int => [.v (.int k b)]) ((il.drop i).take len)) :: ms) L
      | _ => False)
    | m => lndA h r L fun ms L => K (m :: ms) L

def Blk.flatB : Blk → Bool
  | .cells l => l.all SV.flat
  | .obj _ V _ => V.all SV.flat
  | _ => false

def backB (h : Bs) : Bs → Prop
  | [] => True
  | (j, k) :: r => (bif k.flatB then True else get h j = some k) ∧ backB h r

def backL (h : Bs) : List Nat → Bs → (Bs → Prop) → Prop
  | [], h', K => K h'
  | j :: r, h', K => match get h j with
    | some k => backL h r (put h' j k) K
    | none => False

def lentT (T : MT) (args : List M) (n : Nat) (h : Bs) (K : Nat → M → Bs → Prop) : Prop :=
  lndA h args [] fun ms L => bif L.isEmpty then T ms n h K else
    bif noDup L then T ms n (delL L h) fun n' m h' => (bif m.flat then True else False) ∧ backB h h' ∧ backL h L h' fun h2 => K n' m h2 else False

def noT : MT := fun _ _ _ _ => False
theorem noT_ok {P : Program} {f : Nat} : MOK P f noT := ⟨fun _ _ _ _ h => h.elim, fun _ _ _ _ _ _ h => h.elim⟩
def keepF (mt : MSpec) (f : Nat) : Bool := match get mt (2000000 + f) with
  | some _ => true
  | none => false
def dirT (mt : MSpec) (f : Nat) (T : MT) (args : List M) (n : Nat) (h : Bs) (K : Nat → M → Bs → Prop) : Prop :=
  bif keepF mt f then T args n h K else frzA args h fun ms h => lentT T ms n h K

def sameB (h : Bs) (j : Nat) (k : Blk) : Prop := match get h j with
  | some k' => k' = k
  | none => False
theorem sameB_eq {h : Bs} {j : Nat} {k : Blk} (hs : sameB h j k) : get h j = some k := by
  unfold sameB at hs
  split at hs
  · rename_i k' hg
    rw [hg, hs]
  · exact hs.elim
def subP (h h' : Bs) : Bs → Prop
  | [] => True
  | (j, _) :: r => (match get h j with
    | some a => sameB h' j a
    | none => True) ∧ subP h h' r
theorem subP_sub {h h' : Bs} : ∀ {l : Bs}, subP h h' l → ∀ {j : Nat} {b : Blk}, (j, b) ∈ l → ∀ {a : Blk}, get h j = some a → get h' j = some a
  | [], _, _, _, hm, _, _ => by cases hm
  | (i, c) :: r, hs, j, b, hm, a, ha => by
    obtain ⟨h1, h2⟩ := hs
    rcases List.mem_cons.1 hm with e | hm
    · cases e
      rw [ha] at h1
      exact sameB_eq h1
    · exact subP_sub h2 hm ha
def mtD (mt : MSpec) (mf : List Nat) : CallT := fun f args n h K => match get mt f with
  | some T => bif memN (6000000 + f) mf then dirT mt f T args n h fun n' m h' => subP h h' h ∧ K n' m h' else dirT mt f T args n h K
  | none => False

def numsM : MSpec → List Nat
  | [] => []
  | (f, _) :: r => f :: numsM r

def nestT (tt : Tab) : Tab → List Nat
  | [] => []
  | (t, ti) :: r => (match ti.kind with
    | .sl el => (match get tt el with
      | some te => bif hasSl te.el.E.code then [1000000 + t] else []
      | none => [])
    | _ => []) ++ nestT tt r

def cnvT (tt : Tab) : Tab → List Nat
  | [] => []
  | (t, ti) :: r => (match ti.kind with
    | .sl el => (match get tt el with
      | some te => (match te.kind with
        | .int .u8 => [3000000 + t]
        | _ => [])
      | none => [])
    | _ => []) ++ cnvT tt r

def strT : Tab → List Nat
  | [] => []
  | (t, ti) :: r => (match ti.kind with
    | .string => [4000000 + t]
    | _ => []) ++ strT r

def gm (tt : Tab) (l : Spec) (mt : MSpec) : GT := ⟨gtF l, mtD mt (numsM mt ++ (nestT tt tt ++ (cnvT tt tt ++ strT tt))), numsM mt ++ (nestT tt tt ++ (cnvT tt tt ++ strT tt))⟩

theorem chunkK_mono {K K' : IntKind → Nat → List Int → Prop} (hk : ∀ k n il, K k n il → K' k n il) : ∀ {l : List SV} {off : Nat}, chunkK l off K → chunkK l off K'
  | [], _, h => h.elim
  | s :: r, off, h => by
    simp only [chunkK] at h ⊢
    cases h1 : Nat.beq off 0 with
    | true =>
      simp only [h1, cond_true] at h ⊢
      cases s <;> first | exact hk _ _ _ h | exact h
    | false =>
      simp only [h1, cond_false] at h ⊢
      obtain ⟨h2, h3⟩ := cond_false_elim h
      rw [h2]
      exact chunkK_mono hk h3

theorem lndA_mono {h : Bs} : ∀ {l : List M} {L : List Nat} {K K' : List M → List Nat → Prop}, (∀ ms L, K ms L → K' ms L) → lndA h l L K → lndA h l L K'
  | [], _, _, _, hk, hq => hk _ _ hq
  | m :: r, L, K, K', hk, hq => by
    unfold lndA at hq ⊢
    split at hq
    · split at hq
      · exact chunkK_mono (fun k n il h1 => ⟨h1.1, h1.2.1, fun x => lndA_mono (fun ms L h2 => hk _ _ h2) (h1.2.2 x)⟩) hq
      · exact hq.elim
    · exact lndA_mono (fun ms L h2 => hk _ _ h2) hq
theorem backL_mono {h : Bs} {K K' : Bs → Prop} (hk : ∀ h, K h → K' h) : ∀ {L : List Nat} {h' : Bs}, backL h L h' K → backL h L h' K'
  | [], _, hq => hk _ hq
  | j :: r, h', hq => by
    unfold backL at hq ⊢
    split at hq
    · exact backL_mono hk hq
    · exact hq.elim
theorem lentT_mono {T : MT} (hT : MMono T) {args : List M} {n : Nat} {h : Bs} {K K' : Nat → M → Bs → Prop} (hk : ∀ n m h, K n m h → K' n m h) (hq : lentT T args n h K) : lentT T args n h K' := by
  refine lndA_mono (fun ms L h1 => ?_) hq
  cases hb : L.isEmpty with
  | true => rw [hb] at h1; exact hT _ _ _ _ _ hk h1
  | false =>
    rw [hb] at h1
    obtain ⟨h2, h3⟩ := cond_false_elim h1
    rw [h2]
    exact hT _ _ _ _ _ (fun n m h' h4 => ⟨h4.1, h4.2.1, backL_mono (fun h h5 => hk _ _ _ h5) h4.2.2⟩) h3

theorem dirT_mono {P : Program} {mt : MSpec} {f : Nat} {T : MT} (hT : MOK P f T) : MMono (dirT mt f T) := fun args n h K K' hk hq => by
  unfold dirT at hq ⊢
  cases hb : keepF mt f with
  | true =>
    rw [hb] at hq
    exact hT.mono _ _ _ _ _ hk hq
  | false =>
    rw [hb] at hq
    exact frzA_mono (fun ms h' h1 => lentT_mono hT.mono hk h1) hq
theorem mtD_mono {P : Program} {mt : MSpec} {mf : List Nat} (hM : MSOK P mt) : DMono (mtD mt mf) := fun f args n h K K' hk hq => by
  unfold mtD at hq ⊢
  split at hq
  · rename_i T ht
    cases hb : memN (6000000 + f) mf with
    | true =>
      rw [hb] at hq
      exact dirT_mono (hM _ (get_mem ht)) _ _ _ _ _ (fun n m h' hh => ⟨hh.1, hk _ _ _ hh.2⟩) hq
    | false =>
      rw [hb] at hq
      exact dirT_mono (hM _ (get_mem ht)) _ _ _ _ _ hk hq
  · exact hq.elim
theorem mtD_sub {P : Program} {mt : MSpec} {mf : List Nat} (hM : MSOK P mt) {f : Nat} {args : List M} {n : Nat} {h : Bs} {K : Nat → M → Bs → Prop} (hb : memN (6000000 + f) mf = true) (hq : mtD mt mf f args n h K) :
    mtD mt mf f args n h fun n' m h' => K n' m h' ∧ ∀ j k, get h j = some k → get h' j = some k := by
  unfold mtD at hq ⊢
  split at hq
  · rename_i T ht
    rw [hb] at hq ⊢
    exact dirT_mono (hM _ (get_mem ht)) _ _ _ _ _ (fun n m h' hh => ⟨hh.1, hh.2, fun j k hj => subP_sub hh.1 (get_mem hj) hj⟩) hq
  · exact hq.elim

def cm (G : GT) (mt : MSpec) (tt : Tab) (inl : List (Nat × Inl)) : Nat → CallT
  | 0 => fun _ _ _ _ _ => False
  | d + 1 => fun f args n h K => match get inl f with
    | some i => (match i.fn.body with
      | some c => bif Nat.ble args.length i.fn.ntmps then xc (cm G mt tt inl d) G tt i.fn.ntmps n i.un i.inv i.lab 1000 c (finQ tt i.fn.results.toList K) n (params 0 args) h else False
      | none => False)
    | none => (match get mt f with
      | some T => dirT mt f T args n h K
      | none => callL G f args n h K)

section
variable {P : Program} {tt : Tab}

theorem SV.Ok.reav {av av' : Nat → Prop} {s : SV} {w : World} {n : Nat} (h : s.Ok w av n) (hav : ∀ b, av' b → av b) : s.Ok w av' n := h.mono (Nat.le_refl _) fun b _ h1 => ⟨fun h2 => h1 (hav b h2), rfl⟩
theorem M.Ok.reav {av av' : Nat → Prop} {m : M} {w : World} {n : Nat} (h : m.Ok w av n) (hav : ∀ b, av' b → av b) : m.Ok w av' n := h.mono (Nat.le_refl _) fun b _ h1 => ⟨fun h2 => h1 (hav b h2), rfl⟩

def Reals (h : Bs) (L : List Nat) : Prop := ∀ j ∈ L, ∃ l, get h j = some (.cells l)

theorem lndA_sound {B : Base} {σ : Nat → Nat} {n : Nat} {h : Bs} {w : World} (s : Mem B σ n h w) : ∀ {args : List M} {L : List Nat} {K : List M → List Nat → Prop}, (∀ m ∈ args, m.Ok w (avoids B σ h) n) → Reals h L → lndA h args L K →
    ∃ ms L', K ms L' ∧ Reals h L' ∧ (∀ j ∈ L, j ∈ L') ∧ ms.map (M.den σ) = args.map (M.den σ) ∧ ∀ av : Nat → Prop, (∀ b, av b → avoids B σ h b) → (∀ j ∈ L', ¬ av (σ j)) → ∀ m ∈ ms, m.Ok w av n
  | [], L, K, _, hR, hk => ⟨[], L, hk, hR, fun _ h => h, rfl, fun _ _ _ _ h => by cases h⟩
  | m :: r, L, K, hok, hR, hk => by
    have hr : ∀ m ∈ r, m.Ok w (avoids B σ h) n := fun x hx => hok x (by simp [hx])
    have hm := hok m (by simp)
    unfold lndA at hk
    split at hk
    · rename_i j off i len cap
      split at hk
      · rename_i l hj
        obtain ⟨k, q, il, ⟨h1, h2, hk⟩, h3, h4⟩ := chunkK_spec l off _ (s.ok j _ hj) hk
        have hR' : Reals h (j :: L) := fun x hx => by
          rcases List.mem_cons.1 hx with rfl | hx
          · exact ⟨l, hj⟩
          · exact hR x hx
        obtain ⟨ms, L', a1, a2, a3, a4, a5⟩ := lndA_sound s (args := r) hr hR' (hk (.slice (some ⟨σ j, off + i, none⟩) len cap))
        refine ⟨_, L', a1, a2, fun x hx => a3 x (List.mem_cons_of_mem _ hx), by simp only [List.map_cons, a4]; rfl, fun av h5 h6 => ?_⟩
        simp only [List.mem_cons, forall_eq_or_imp]
        refine ⟨.one rfl ?_, a5 av h5 h6⟩
        have hne := h6 j (a3 j List.mem_cons_self)
        have hlen : ((il.drop i).take len).length = len := by simp; omega
        have e : ∀ en : Int → List SV, (SV.view (.slice (some ⟨σ j, off + i, none⟩) len cap) 1 en ((il.drop i).take len)) = .view (.slice (some ⟨σ j, off + i, none⟩) ((il.drop i).take len).length cap) 1 en ((il.drop i).take len) := by intro en; rw [hlen]
        rw [e]
        obtain ⟨t, f, g1, g2⟩ := s.holds j _ hj
        refine .view (by rw [hlen]; exact h2) (fun _ _ => rfl) (fun y _ s hs => by rw [List.mem_singleton] at hs; subst hs; rfl) (fun y _ s hs => by rw [List.mem_singleton] at hs; subst hs; exact .v rfl) fun a b ha u hu => ?_
        refine ⟨_, _, rfl, hne, ?_⟩
        have hb0 : b = 0 := by
          have := (List.getElem?_eq_some_iff.1 hu).1
          have e1 : (denL nowhere [SV.v (Value.int k ((il.drop i).take len)[a])]).length = 1 := rfl
          omega
        subst hb0
        have hu : some (Value.int k ((il.drop i).take len)[a]) = some u := hu
        cases hu
        rw [hlen] at ha
        rw [cell_of_cells g1]
        have := h4 σ (i + a) (by omega)
        simp only [List.getElem?_toArray]
        rw [show off + i + (a * 1 + 0) = off + (i + a) by omega, this]
        simp
      · exact hk.elim
    · obtain ⟨ms, L', a1, a2, a3, a4, a5⟩ := lndA_sound s hr hR hk
      refine ⟨_, L', a1, a2, a3, by simp only [List.map_cons, a4], fun av h5 h6 => ?_⟩
      simp only [List.mem_cons, forall_eq_or_imp]
      exact ⟨hm.reav h5, a5 av h5 h6⟩

theorem Mem.back {B : Base} {σ : Nat → Nat} {n : Nat} {h : Bs} {w : World} {σ' : Nat → Nat} {n' : Nat} {h' : Bs} {w' : World} (s : Mem B σ n h w) (s' : Mem B σ' n' h' w') (hn : n ≤ n') (hσ : ∀ j, j < n → σ j = σ' j) {j : Nat} {k : Blk} (hj : get h j = some k) (hr : k.real)
    (hf : k.foot = []) (hb : w'.heap[σ j]? = w.heap[σ j]?) (hna : ¬ avoids B σ' h' (σ j)) (hok' : ∀ i k, get h' i = some k → k.Ok w' (fun b => avoids B σ' h' b ∨ b = σ j) n') (hok : k.Ok w' (fun b => avoids B σ' h' b ∨ b = σ j) n') : Mem B σ' n' (put h' j k) w' := by
  have hjn := s.lt j k hj
  have ej := hσ j hjn
  have hav : ∀ b, avoids B σ' (put h' j k) b → avoids B σ' h' b ∨ b = σ j := by
    rintro b (h1 | ⟨i, x, hi, hx⟩)
    · exact .inl (.inl h1)
    · rw [get_put] at hi
      split at hi
      · rename_i e; subst e; cases hi; exact .inr ((hx.nil hf).2.symm.trans ej.symm)
      · exact .inl (.inr ⟨i, x, hi, hx⟩)
  have hg : ∀ i x, get (put h' j k) i = some x → (i = j ∧ x = k) ∨ (i ≠ j ∧ get h' i = some x) := by
    intro i x hi
    rw [get_put] at hi
    split at hi
    · rename_i e; subst e; cases hi; exact .inl ⟨rfl, rfl⟩
    · rename_i e; exact .inr ⟨fun e' => e e'.symm, hi⟩
  refine ⟨s'.frame, s'.avlt, s'.kn, s'.anch, fun i x hi => ?_, fun a b x y c ha hb' hx hy => ?_, fun i x c hi hx hlt => ?_, fun i x hi => ?_, fun i x hi => ?_⟩
  · rcases hg i x hi with ⟨rfl, rfl⟩ | ⟨_, h1⟩
    · omega
    · exact s'.lt i x h1
  · rcases hg a x ha with ⟨rfl, rfl⟩ | ⟨n1, h1⟩
    · rcases hg b y hb' with ⟨rfl, rfl⟩ | ⟨n2, h2⟩
      · rfl
      · exact absurd (.inr ⟨b, y, h2, by rw [ej, (hx.nil hf).2]; exact hy⟩) hna
    · rcases hg b y hb' with ⟨rfl, rfl⟩ | ⟨n2, h2⟩
      · exact absurd (.inr ⟨a, x, h1, by rw [ej, (hy.nil hf).2]; exact hx⟩) hna
      · exact s'.injO a b x y c h1 h2 hx hy
  · rcases hg i x hi with ⟨rfl, rfl⟩ | ⟨_, h1⟩
    · rw [← ej] at hx
      exact s.ownO i x c hj hx hlt
    · exact s'.ownO i x c h1 hx hlt
  · rcases hg i x hi with ⟨rfl, rfl⟩ | ⟨_, h1⟩
    · exact (s.holds i x hj).of_block (s.ok i x hj) hσ (fun _ => ej.symm) fun c hc => (hc.nil hf).2 ▸ hb
    · exact s'.holds i x h1
  · rcases hg i x hi with ⟨rfl, rfl⟩ | ⟨_, h1⟩
    · exact hok.mono (Nat.le_refl _) fun b _ h2 => ⟨fun h3 => h2 (hav b h3), rfl⟩
    · exact (hok' i x h1).mono (Nat.le_refl _) fun b _ h2 => ⟨fun h3 => h2 (hav b h3), rfl⟩

theorem backB_get {h : Bs} : ∀ {h' : Bs}, backB h h' → ∀ {i k}, get h' i = some k → k.flatB = true ∨ get h i = some k
  | [], _, i, k, hg => by cases hg
  | (a, b) :: r, hb, i, k, hg => by
    obtain ⟨h1, h2⟩ := hb
    simp only [get] at hg
    cases he : Nat.beq a i with
    | true =>
      rw [he] at hg
      cases hg
      have := Nat.eq_of_beq_eq_true he
      subst this
      cases hf : b.flatB with
      | true => exact .inl rfl
      | false => rw [hf] at h1; exact .inr h1
    | false => rw [he] at hg; exact backB_get h2 hg

theorem Blk.flat_ok {k : Blk} (hf : k.flatB = true) {w w' : World} {av av' : Nat → Prop} {n n' : Nat} (h : k.Ok w av n) : k.Ok w' av' n' := by
  cases k with
  | cells l => exact fun s hs => (h s hs).of_flat (List.all_eq_true.1 hf s hs)
  | obj A V o => exact fun s hs => (h s hs).of_flat (List.all_eq_true.1 hf s hs)
  | _ => cases hf

theorem backL_sound {B : Base} {σ : Nat → Nat} {n : Nat} {h : Bs} {w : World} {σ' : Nat → Nat} {n' : Nat} {w' : World} (s : Mem B σ n h w) (hn : n ≤ n') (hσ : ∀ j, j < n → σ j = σ' j)
    (hko : ∀ b, b < w.heap.size → ¬ avoids B σ h b → w'.heap[b]? = w.heap[b]?) : ∀ {L : List Nat} {h' : Bs} {K : Bs → Prop}, Reals h L → noDup L = true → Mem B σ' n' h' w' →
    (∀ j ∈ L, w'.heap[σ j]? = w.heap[σ j]? ∧ ¬ avoids B σ' h' (σ j)) → (∀ i k, get h' i = some k → k.flatB = true ∨ get h i = some k) → (∀ b, b < w.heap.size → avoids B σ' h' b → avoids B σ h b) →
    backL h L h' K → ∃ h2, K h2 ∧ Mem B σ' n' h2 w' ∧ ∀ b, b < w.heap.size → avoids B σ' h2 b → avoids B σ h b
  | [], h', K, _, _, s', _, _, hA, hk => ⟨h', hk, s', hA⟩
  | j :: r, h', K, hR, hd, s', hL, hB, hA, hk => by
    unfold backL at hk
    obtain ⟨l, hj⟩ := hR j List.mem_cons_self
    rw [hj] at hk
    simp only [noDup, Bool.and_eq_true] at hd
    have hjr : j ∉ r := fun hm => by
      have := List.all_eq_true.1 hd.1 j hm
      simp [beqT] at this
    have hlt := s.tracked_lt hj trivial
    obtain ⟨hb, hna⟩ := hL j List.mem_cons_self
    have hout : ∀ b, b < w.heap.size → avoids B σ' h' b ∨ b = σ j → avoids B σ h b := by
      rintro b hb (h1 | rfl)
      · exact hA b hb h1
      · exact .inr ⟨j, _, hj, .mk trivial⟩
    have okk : ∀ i k, get h i = some k → k.Ok w' (fun b => avoids B σ' h' b ∨ b = σ j) n' := fun i k hi =>
      (s.ok i k hi).mono hn fun b hb h1 => ⟨fun h2 => h1 (hout b hb h2), hko b hb h1⟩
    have s2 := s.back s' hn hσ hj trivial rfl hb hna (fun i k hi => by
      rcases hB i k hi with h1 | h1
      · exact Blk.flat_ok h1 (s'.ok i k hi)
      · exact okk i k h1) (okk j _ hj)
    have hg : ∀ i x, get (put h' j (.cells l)) i = some x → (i = j ∧ x = .cells l) ∨ (i ≠ j ∧ get h' i = some x) := by
      intro i x hi
      rw [get_put] at hi
      split at hi
      · rename_i e; subst e; cases hi; exact .inl ⟨rfl, rfl⟩
      · rename_i e; exact .inr ⟨fun e' => e e'.symm, hi⟩
    refine backL_sound s hn hσ hko (fun x hx => hR x (List.mem_cons_of_mem _ hx)) hd.2 s2 (fun x hx => ?_) (fun i k hi => ?_) (fun b hb' h1 => ?_) hk
    · obtain ⟨h1, h2⟩ := hL x (List.mem_cons_of_mem _ hx)
      obtain ⟨lx, hxj⟩ := hR x (List.mem_cons_of_mem _ hx)
      refine ⟨h1, ?_⟩
      rintro (h3 | ⟨i, y, hi, hy⟩)
      · exact h2 (.inl h3)
      · rcases hg i y hi with ⟨rfl, rfl⟩ | ⟨_, h4⟩
        · rw [← hσ i (s.lt _ _ hj)] at hy
          have := s.injO _ _ _ _ _ hj hxj hy (.mk trivial)
          subst this
          exact hjr hx
        · exact h2 (.inr ⟨i, y, h4, hy⟩)
    · rcases hg i k hi with ⟨rfl, rfl⟩ | ⟨_, h4⟩
      · exact .inr hj
      · exact hB i k h4
    · rcases h1 with h1 | ⟨i, y, hi, hy⟩
      · exact .inl h1
      · rcases hg i y hi with ⟨rfl, rfl⟩ | ⟨_, h4⟩
        · rw [← hσ i (s.lt _ _ hj)] at hy
          exact .inr ⟨i, _, hj, hy⟩
        · exact hA b hb' (.inr ⟨i, y, h4, hy⟩)

theorem SCall.lent {f n : Nat} {args : List M} {h : Bs} {K : Nat → M → Bs → Prop} {T : MT} (hT : MOK P f T) (hk : lentT T args n h K) : SCall P f args n h K := by
  refine ⟨fun B σ w s hargs => ?_⟩
  obtain ⟨ms, L, h1, h2, _, h3, h4⟩ := lndA_sound s hargs (fun j hj => by cases hj) hk
  cases hb : L.isEmpty with
  | true =>
    rw [hb] at h1
    have hL : L = [] := by simpa using hb
    subst hL
    rw [← h3]
    exact (hT.ok _ _ _ _ h1).out B σ w s (h4 _ (fun _ h => h) (fun _ h => by cases h))
  | false =>
    rw [hb] at h1
    obtain ⟨hd, h1⟩ := cond_false_elim h1
    have hdown : Down h (delL L h) := fun j k hg => (get_delL hg).1
    have sd := s.sub hdown
    have hne : ∀ j ∈ L, ¬ avoids B σ (delL L h) (σ j) := by
      intro j hj
      obtain ⟨l, hl⟩ := h2 j hj
      rintro (h5 | ⟨i, k', hi, hr'⟩)
      · have := s.avlt _ h5
        exact this.2 (s.own _ _ hl trivial this.1)
      · obtain ⟨h6, h7⟩ := get_delL hi
        have := s.injO _ _ _ _ _ h6 hl hr' (.mk trivial)
        subst this
        exact h7 hj
    rw [← h3]
    refine ((hT.ok _ _ _ _ h1).out B σ w sd (h4 _ (fun b hb => hdown.av hb) hne)).mono ?_
    rintro e w1 ⟨σ', n', m, h', g1, ⟨g2, g3, g4⟩, g5, g6, g7, g8, g9⟩
    have hm : m.flat = true := by
      cases hf : m.flat with
      | true => rfl
      | false => rw [hf] at g2; exact g2.elim
    have keep : ∀ b, b < w.heap.size → avoids B σ' h' b → avoids B σ h b := fun b hb h5 => Classical.byContradiction fun h6 => (g9 b hb fun h7 => h6 (hdown.av h7)).1 h5
    obtain ⟨h2', k1, k2, k3⟩ := backL_sound s g5 g6 (fun b hb h5 => (g9 b hb fun h7 => h5 (hdown.av h7)).2) h2 hd g7
      (fun j hj => by
        obtain ⟨l, hl⟩ := h2 j hj
        have hlt := s.tracked_lt hl trivial
        obtain ⟨q1, q2⟩ := g9 _ hlt (hne j hj)
        exact ⟨q2, q1⟩) (fun i k hi => backB_get g3 hi) keep g4
    exact ⟨σ', n', m, h2', g1, k1, g5, g6, k2, g8.of_flat hm, fun b hb hna => ⟨fun h5 => hna (k3 b hb h5), (g9 b hb fun h5 => hna (hdown.av h5)).2⟩⟩

theorem SCall.frz {f n : Nat} {args : List M} {h : Bs} {K : Nat → M → Bs → Prop} {T : MT} (hT : MOK P f T) (hk : frzA args h fun ms h => lentT T ms n h K) : SCall P f args n h K := by
  refine ⟨fun B σ w s hargs => ?_⟩
  obtain ⟨ms, h', k1, d1, e1, o1⟩ := frzA_sound s hargs hk
  rw [← e1]
  refine ((SCall.lent hT k1).out B σ w (s.sub d1) o1).mono ?_
  rintro e w1 ⟨σ', n', m, h2, g1, g2, g3, g4, g5, g6, g7⟩
  exact ⟨σ', n', m, h2, g1, g2, g3, g4, g5, g6, fun b hb hna => g7 b hb fun h1 => hna (d1.av h1)⟩

theorem SCall.dir {mt : MSpec} {f n : Nat} {args : List M} {h : Bs} {K : Nat → M → Bs → Prop} {T : MT} (hT : MOK P f T) (hk : dirT mt f T args n h K) : SCall P f args n h K := by
  unfold dirT at hk
  cases hb : keepF mt f with
  | true => rw [hb] at hk; exact hT.ok _ _ _ _ hk
  | false => rw [hb] at hk; exact SCall.frz hT hk
theorem mtD_ok {mt : MSpec} {mf : List Nat} (hM : MSOK P mt) : COK P (mtD mt mf) := fun f args n h K hk => by
  unfold mtD at hk
  split at hk
  · rename_i T ht
    cases hb : memN (6000000 + f) mf with
    | true =>
      rw [hb] at hk
      exact SCall.dir (hM _ (get_mem ht)) (dirT_mono (hM _ (get_mem ht)) _ _ _ _ _ (fun n m h' hh => hh.2) hk)
    | false => rw [hb] at hk; exact SCall.dir (hM _ (get_mem ht)) hk
  · exact hk.elim
theorem gm_det {tt : Tab} {l : Spec} (h : SOK P l) {mt : MSpec} (hM : MSOK P mt) : GDet (gm tt l mt) := ⟨h.detF, mtD_mono hM, fun f args n h K hb hq => mtD_sub hM hb hq⟩
theorem gm_ok {tt : Tab} {l : Spec} (h : SOK P l) {mt : MSpec} (hM : MSOK P mt) : GOK P (gm tt l mt) := ⟨h.okF, mtD_ok hM⟩

theorem cm_ok {G : GT} (hD : GDet G) (hG : GOK P G) (hT : TOK P tt) (hm : P.follows .mixedOrders = true) {mt : MSpec} (hM : MSOK P mt) {inl : List (Nat × Inl)} (hI : IOK P inl) : ∀ d, COK P (cm G mt tt inl d)
  | 0 => fun _ _ _ _ _ hk => hk.elim
  | d + 1 => fun f args n h K hk => by
    unfold cm at hk
    split at hk
    · rename_i i hi
      obtain ⟨h1, h2⟩ := hI _ (get_mem hi)
      split at hk
      · rename_i c hc
        obtain ⟨hb, hk⟩ := cond_false_elim hk
        exact SCall.body hT h2 h1 hc (Nat.le_of_ble_eq_true hb) (xc_sound (cm_ok hD hG hT hm hM hI d) hD hG hT hm 1000 _ _ _ _ _ hk)
      · exact hk.elim
    · split at hk
      · rename_i T ht
        exact SCall.dir (hM _ (get_mem ht)) hk
      · exact callL_ok hG f args n h K hk

theorem SFun.inm (tb : Spec) (hS : SOK P tb) (mt : MSpec) (hM : MSOK P mt) (hT : TOK P tt) (hm : P.follows .mixedOrders = true) (inl : List (Nat × Inl)) (hI : IOK P inl) (un : Bool) (inv : List (Nat × Inv)) (lab : List (Nat × (Nat × Inv))) {f : Nat} {fn : Func} {c : Code} {args : List M} {res : M}
    (hentry : ∀ (vs : Array Value) (w : World), (callFunc f vs).run P w = .ok (.enter f vs) w)
    (hf : P.funcs[f]? = some fn) (hb : fn.body = some c) (hl : Nat.ble args.length fn.ntmps = true)
    (hx : xc (cm (gm tt tb mt) mt tt inl 40) (gm tt tb mt) tt fn.ntmps 0 un inv lab 1000 c (finQ tt fn.results.toList fun _ m _ => m = res ∧ m.pure = true) 0 (params 0 args) []) : SFun P f args res :=
  ⟨SCall.body hT hentry hf hb (Nat.le_of_ble_eq_true hl) (xc_sound (cm_ok (gm_det hS hM) (gm_ok hS hM) hT hm hM hI 40) (gm_det hS hM) (gm_ok hS hM) hT hm 1000 _ _ _ _ _ hx)⟩

structure Out : Type 1 where
  n : Nat
  m : M
  h : Bs

structure SMem (P : Program) (f : Nat) (args : List M) (n0 : Nat) (h0 : Bs) {ο : Type} (O : ο → Out) : Prop where
  spec : SCall P f args n0 h0 fun n' m h' => ∃ o, n' = (O o).n ∧ m = (O o).m ∧ h' = (O o).h

theorem SCall.weaken {f n : Nat} {args : List M} {h : Bs} {K K' : Nat → M → Bs → Prop} (spec : SCall P f args n h K)
    (hK : ∀ n' m h', K n' m h' → ∃ n2 m2 h2, K' n2 m2 h2 ∧ Imp0 n n' [(0, m)] h' n2 [(0, m2)] h2) : SCall P f args n h K' := by
  refine ⟨fun B σ w s hargs => ?_⟩
  refine (spec.out (B.now σ n h w) σ w s.rebase hargs).mono ?_
  rintro e w1 ⟨σ', n', m, h', rfl, k1, g3, g4, s1, g6, -⟩
  obtain ⟨n2, m2, h2, k2, hi⟩ := hK _ _ _ k1
  have hs : Sat (B.now σ n h w) 1 σ' n' [(0, m)] h' { tmps := #[m.den σ'], defers := [] } w1 := by
    refine ⟨s1, rfl, rfl, fun q x hq => ?_, fun q x hq => ?_⟩
    · simp only [get] at hq
      cases hb : Nat.beq 0 q with
      | true =>
        rw [hb] at hq
        cases hq
        have := Nat.eq_of_beq_eq_true hb
        subst this
        rfl
      | false => rw [hb] at hq; cases hq
    · simp only [get] at hq
      cases hb : Nat.beq 0 q with
      | true => rw [hb] at hq; cases hq; exact g6
      | false => rw [hb] at hq; cases hq
  obtain ⟨σ2, s2⟩ := hi.to (B := B.now σ n h w) hs
  have h0 : get [((0 : Nat), m2)] 0 = some m2 := rfl
  have e0 : m.den σ' = m2.den σ2 := s2.env 0 m2 h0
  obtain ⟨q1, q2, q3, q4⟩ := s.unbase s2.mem
  exact ⟨σ2, n2, m2, h2, by rw [e0], k2, q3, q4, q1, s2.ok 0 m2 h0, q2⟩

theorem SMem.inm {ο : Type} {O : ο → Out} (tb : Spec) (hS : SOK P tb) (mt : MSpec) (hM : MSOK P mt) (hT : TOK P tt) (hm : P.follows .mixedOrders = true) (inl : List (Nat × Inl)) (hI : IOK P inl) (un : Bool) (inv : List (Nat × Inv)) (lab : List (Nat × (Nat × Inv))) {f n0 : Nat} {h0 : Bs} {fn : Func} {c : Code} {args : List M}
    (hentry : ∀ (vs : Array Value) (w : World), (callFunc f vs).run P w = .ok (.enter f vs) w)
    (hf : P.funcs[f]? = some fn) (hb : fn.body = some c) (hl : Nat.ble args.length fn.ntmps = true)
    (hx : xc (cm (gm tt tb mt) mt tt inl 40) (gm tt tb mt) tt fn.ntmps n0 un inv lab 1000 c (finQ tt fn.results.toList fun n m h => ∃ o, Imp0 n0 n [(0, m)] h (O o).n [(0, (O o).m)] (O o).h) n0 (params 0 args) h0) : SMem P f args n0 h0 O :=
  ⟨SCall.weaken (SCall.body hT hentry hf hb (Nat.le_of_ble_eq_true hl) (xc_sound (cm_ok (gm_det hS hM) (gm_ok hS hM) hT hm hM hI 40) (gm_det hS hM) (gm_ok hS hM) hT hm 1000 _ _ _ _ _ hx))
    fun n' m h' ⟨o, hi⟩ => ⟨_, _, _, ⟨o, rfl, rfl, rfl⟩, hi⟩⟩

theorem SFun.mem {f : Nat} {args : List M} {res : M} (s : SFun P f args res) (ha : args.all M.pure = true) : SMem P f args 0 [] (fun _ : Unit => ⟨0, res, []⟩) :=
  ⟨s.use ha ⟨(), rfl, rfl, rfl⟩⟩

theorem SMem.use {ο : Type} {O : ο → Out} {f n0 n : Nat} {args0 args : List M} {h0 h : Bs} {K : Nat → M → Bs → Prop} (s : SMem P f args0 n0 h0 O) (ρ : Nat → Nat)
    (ha : args0.map (M.ren ρ) = args) (hai : args0.all (M.idB n0) = true) (hh : impH ρ n0 h h0) (hd : noDup (h0.map fun p => ρ p.1) = true) (hc : ∀ j, j < n0 → ∃ k, get h0 j = some k)
    (hK : ∀ o, K (n + ((O o).n - n0)) ((O o).m.ren (tau ρ n0 n)) (renH (tau ρ n0 n) (O o).h ++ delL (h0.map fun p => ρ p.1) h)) : SCall P f args n h K :=
  s.spec.frame ρ ha hai hh hd hc fun n' m h' ⟨o, h1, h2, h3⟩ => by subst h1; subst h2; subst h3; exact ⟨quietH_all _, hK o⟩

def nilV (es : Nat) {α : Type} (E : Enc α) : SV → SV
  | .v (.slice none 0 0) => .view (.slice none 0 0) es E.enc []
  | s => s
def nilM1 (es : Nat) {α : Type} (E : Enc α) : M → M
  | .one s => .one (nilV es E s)
  | .agg l => .agg (l.map (nilV es E))
  | .tup l => .tup l
theorem nilV_same (es : Nat) {α : Type} (E : Enc α) (s : SV) : nilV es E s = s ∨ (s = .v (.slice none 0 0) ∧ nilV es E s = .view (.slice none 0 0) es E.enc []) := by
  unfold nilV
  split
  · exact .inr ⟨rfl, rfl⟩
  · exact .inl rfl
theorem nilV_dens (es : Nat) {α : Type} (E : Enc α) (s : SV) (σ : Nat → Nat) : (nilV es E s).dens σ = s.dens σ := by
  rcases nilV_same es E s with h | ⟨rfl, h⟩ <;> rw [h]
  rfl
theorem nilV_ok {w : World} {av : Nat → Prop} {n : Nat} (es : Nat) {α : Type} (E : Enc α) {s : SV} (hs : s.Ok w av n) : (nilV es E s).Ok w av n := by
  rcases nilV_same es E s with h | ⟨rfl, h⟩ <;> rw [h]
  · exact hs
  · exact nil_view_ok es E.enc
theorem nilV_isOne (es : Nat) {α : Type} (E : Enc α) (s : SV) : (nilV es E s).isOne = s.isOne := by
  rcases nilV_same es E s with h | ⟨rfl, h⟩ <;> rw [h]
  rfl
theorem nilL_den (es : Nat) {α : Type} (E : Enc α) (σ : Nat → Nat) : ∀ l : List SV, denL σ (l.map (nilV es E)) = denL σ l
  | [] => rfl
  | s :: r => by rw [List.map_cons, denL_cons, denL_cons, nilV_dens, nilL_den es E σ r]
theorem nilM1_den (es : Nat) {α : Type} (E : Enc α) (σ : Nat → Nat) (m : M) : (nilM1 es E m).den σ = m.den σ := by
  cases m with
  | one s => rcases nilV_same es E s with h | ⟨rfl, h⟩ <;> simp only [nilM1, h] <;> rfl
  | agg l => simp only [nilM1, M.den, nilL_den]
  | tup l => rfl
theorem nilM1_ok {w : World} {av : Nat → Prop} {n : Nat} (es : Nat) {α : Type} (E : Enc α) {m : M} (hm : m.Ok w av n) : (nilM1 es E m).Ok w av n := by
  cases hm with
  | one h hs => exact .one (by rw [nilV_isOne]; exact h) (nilV_ok es E hs)
  | agg hl =>
    refine .agg fun s hs => ?_
    obtain ⟨x, hx, rfl⟩ := List.mem_map.1 hs
    exact nilV_ok es E (hl x hx)
  | tup hl => exact .tup hl

def frzV (es : Nat) {α : Type} (E : Enc α) (m : M) (h : Bs) (K : M → Bs → Prop) : Prop :=
  match m with
  | .tup l => frzA l h fun l h => K (.tup (l.map (nilM1 es E))) h
  | m => frzM m h fun m h => K (nilM1 es E m) h

theorem SCall.frzOut {f n : Nat} {args : List M} {h : Bs} {es : Nat} {α : Type} {E : Enc α} {K : Nat → M → Bs → Prop} (spec : SCall P f args n h fun n' m h' => frzV es E m h' fun m h' => K n' m h') : SCall P f args n h K := by
  refine ⟨fun B σ w s hargs => ?_⟩
  refine (spec.out B σ w s hargs).mono ?_
  rintro e w1 ⟨σ', n', m, h', g1, g2, g3, g4, g5, g6, g7⟩
  unfold frzV at g2
  split at g2
  · obtain ⟨l', h2, k1, d1, e1, o1⟩ := frzA_sound g5 (by cases g6 with | tup hl => exact hl) g2
    refine ⟨σ', n', _, h2, ?_, k1, g3, g4, g5.sub d1, .tup fun m hm => ?_, fun b hb hna => ⟨fun h3 => (g7 b hb hna).1 (d1.av h3), (g7 b hb hna).2⟩⟩
    · rw [g1, M.den_tup, M.den_tup, List.map_map, ← e1]
      congr 3
      exact List.map_congr_left fun m _ => (nilM1_den es E σ' m).symm
    · obtain ⟨x, hx, rfl⟩ := List.mem_map.1 hm
      exact nilM1_ok es E (o1 x hx)
  · obtain ⟨m', h2, k1, d1, e1, o1⟩ := frzM_sound g5 g6 g2
    exact ⟨σ', n', _, h2, by rw [g1, nilM1_den, e1], k1, g3, g4, g5.sub d1, nilM1_ok es E o1, fun b hb hna => ⟨fun h3 => (g7 b hb hna).1 (d1.av h3), (g7 b hb hna).2⟩⟩

theorem SMem.inf {ο : Type} {O : ο → Out} (es : Nat) {α : Type} (E : Enc α) (tb : Spec) (hS : SOK P tb) (mt : MSpec) (hM : MSOK P mt) (hT : TOK P tt) (hm : P.follows .mixedOrders = true) (inl : List (Nat × Inl)) (hI : IOK P inl) (un : Bool) (inv : List (Nat × Inv)) (lab : List (Nat × (Nat × Inv))) {f n0 : Nat} {h0 : Bs} {fn : Func} {c : Code} {args : List M}
    (hentry : ∀ (vs : Array Value) (w : World), (callFunc f vs).run P w = .ok (.enter f vs) w)
    (hf : P.funcs[f]? = some fn) (hb : fn.body = some c) (hl : Nat.ble args.length fn.ntmps = true)
    (hx : xc (cm (gm tt tb mt) mt tt inl 40) (gm tt tb mt) tt fn.ntmps n0 un inv lab 1000 c (finQ tt fn.results.toList fun n m h => frzV es E m h fun m h => ∃ o, Imp0 n0 n [(0, m)] h (O o).n [(0, (O o).m)] (O o).h) n0 (params 0 args) h0) : SMem P f args n0 h0 O :=
  ⟨SCall.weaken (SCall.frzOut (SCall.body hT hentry hf hb (Nat.le_of_ble_eq_true hl) (xc_sound (cm_ok (gm_det hS hM) (gm_ok hS hM) hT hm hM hI 40) (gm_det hS hM) (gm_ok hS hM) hT hm 1000 _ _ _ _ _ hx)))
    fun n' m h' ⟨o, hi⟩ => ⟨_, _, _, ⟨o, rfl, rfl, rfl⟩, hi⟩⟩

theorem SCall.seen {f n : Nat} {ms ms' : List M} {h : Bs} {K : Nat → M → Bs → Prop} (s : SCall P f ms' n h K) (hv : VEqs ms ms') : SCall P f ms n h K := by
  refine ⟨fun B σ w sm hargs => ?_⟩
  have h1 : ms'.map (M.den σ) = ms.map (M.den σ) := (VEqs.den hv σ).symm
  rw [← h1]
  exact s.out B σ w sm (VEqs.ok hv hargs)
end
end Go.Sx
