/- Own rows lent to a function whose contract tells of memory. Holds for every program. -/
import Derived.Test.YtblapbjafbmndaaDoorSxO
namespace Go.Sx
set_option linter.unusedSimpArgs false
set_option linter.unusedVariables false

def RK.flatB : RK → Bool
  | .sl _ _ => false
  | _ => true
theorem RK.sv_flat : ∀ (f : RK) (x : RK.T f), f.flatB = true → (RK.sv f x).flat = true
  | .int _, _, _ => rfl
  | .bool, _, _ => rfl
  | .str, _, _ => rfl
  | .ints _ _, _, _ => rfl
  | .sl _ _, _, h => by cases h
theorem RK.svs_flat : ∀ (fs : List RK) (x : RK.TL fs), fs.all RK.flatB = true → (RK.svs fs x).all SV.flat = true
  | [], _, _ => rfl
  | f :: r, x, h => by
    simp only [List.all_cons, Bool.and_eq_true] at h
    show (SV.flat (RK.sv f x.1) && (RK.svs r x.2).all SV.flat) = true
    rw [RK.sv_flat f x.1 h.1, RK.svs_flat r x.2 h.2]
    rfl

/-- No part of a block looks at memory. -/
def Blk.flatR : Blk → Bool
  | .cells l => l.all SV.flat
  | .obj _ V _ => V.all SV.flat
  | .row _ E _ _ => E.code.all RK.flatB

theorem Blk.flatR_ok {k : Blk} (hf : k.flatR = true) {w w' : World} {av av' : Nat → Prop} {n n' : Nat} (h : k.Ok w av n) : k.Ok w' av' n' := by
  cases k with
  | cells l => exact fun s hs => (h s hs).of_flat (List.all_eq_true.1 hf s hs)
  | obj A V o => exact fun s hs => (h s hs).of_flat (List.all_eq_true.1 hf s hs)
  | row es E l cap =>
    intro x hx s hs
    refine (h x hx s hs).of_flat ?_
    have : (E.enc x).all SV.flat = true := by rw [E.henc]; exact RK.svs_flat _ _ hf
    exact List.all_eq_true.1 this s hs

def lndS (h : Bs) : List M → List Nat → (List M → List Nat → Prop) → Prop
  | [], L, K => K [] L
  | m :: r, L, K => match m with
    | .one (.slc j es off len cap) => (match get h j with
      | some (.row es' E l _) => bif Nat.beq es es' then off + len ≤ l.length ∧ len ≤ cap ∧ ∀ x, lndS h r (j :: L) fun ms L => K (.one (.view x es E.enc ((l.drop off).take len)) :: ms) L else False
      | _ => False)
    | m => lndS h r L fun ms L => K (m :: ms) L

def backR (h : Bs) : Bs → Prop
  | [] => True
  | (j, k) :: r => (bif k.flatR then True else sameB h j k) ∧ backR h r

/-- Own rows are lent. -/
def lendT (T : MT) : MT := fun args n h K =>
  lndS h args [] fun ms L => bif L.isEmpty then T ms n h K else
    bif noDup L then T ms n (delL L h) fun n' m h' => (bif m.flat then True else False) ∧ backR h h' ∧ backL h L h' fun h2 => K n' m h2 else False

theorem lndS_mono {h : Bs} : ∀ {l : List M} {L : List Nat} {K K' : List M → List Nat → Prop}, (∀ ms L, K ms L → K' ms L) → lndS h l L K → lndS h l L K'
  | [], _, _, _, hk, hq => hk _ _ hq
  | m :: r, L, K, K', hk, hq => by
    unfold lndS at hq ⊢
    split at hq
    · split at hq
      · obtain ⟨hb, h1, h2, h3⟩ := cond_false_elim hq
        rw [hb]
        exact ⟨h1, h2, fun x => lndS_mono (fun ms L h4 => hk _ _ h4) (h3 x)⟩
      · exact hq.elim
    · exact lndS_mono (fun ms L h2 => hk _ _ h2) hq

theorem lendT_mono {T : MT} (hT : MMono T) : MMono (lendT T) := by
  intro args n h K K' hk hq
  refine lndS_mono (fun ms L h1 => ?_) hq
  cases hb : L.isEmpty with
  | true => rw [hb] at h1; exact hT _ _ _ _ _ hk h1
  | false =>
    rw [hb] at h1
    obtain ⟨h2, h3⟩ := cond_false_elim h1
    rw [h2]
    exact hT _ _ _ _ _ (fun n m h' h4 => ⟨h4.1, h4.2.1, backL_mono (fun h h5 => hk _ _ _ h5) h4.2.2⟩) h3

section
variable {P : Program} {tt : Tab}

/-- Each of the numbers is a block's that owns nothing besides. -/
def Plain (h : Bs) (L : List Nat) : Prop := ∀ j ∈ L, ∃ k, get h j = some k ∧ k.foot = []

theorem lndS_sound {B : Base} {σ : Nat → Nat} {n : Nat} {h : Bs} {w : World} (s : Mem B σ n h w) : ∀ {args : List M} {L : List Nat} {K : List M → List Nat → Prop}, (∀ m ∈ args, m.Ok w (avoids B σ h) n) → Plain h L → lndS h args L K →
    ∃ ms L', K ms L' ∧ Plain h L' ∧ (∀ j ∈ L, j ∈ L') ∧ ms.map (M.den σ) = args.map (M.den σ) ∧ ∀ av : Nat → Prop, (∀ b, av b → avoids B σ h b) → (∀ j ∈ L', ∀ k, get h j = some k → k.real → ¬ av (σ j)) → ∀ m ∈ ms, m.Ok w av n
  | [], L, K, _, hR, hk => ⟨[], L, hk, hR, fun _ h => h, rfl, fun _ _ _ _ h => by cases h⟩
  | m :: r, L, K, hok, hR, hk => by
    have hr : ∀ m ∈ r, m.Ok w (avoids B σ h) n := fun x hx => hok x (by simp [hx])
    have hm := hok m (by simp)
    unfold lndS at hk
    split at hk
    · rename_i j es off len cap
      split at hk
      · rename_i es' α E l cap' hj
        replace hk := cond_false_elim hk
        obtain ⟨hb, h1, h2, hk⟩ := hk
        have he := Nat.eq_of_beq_eq_true hb
        subst he
        have hR' : Plain h (j :: L) := fun x hx => by
          rcases List.mem_cons.1 hx with rfl | hx
          · exact ⟨_, hj, rfl⟩
          · exact hR x hx
        obtain ⟨ms, L', a1, a2, a3, a4, a5⟩ := lndS_sound s (args := r) hr hR' (hk (.slice (some ⟨σ j, off * es, none⟩) len cap))
        refine ⟨_, L', a1, a2, fun x hx => a3 x (List.mem_cons_of_mem _ hx), by simp only [List.map_cons, a4]; rfl, fun av h5 h6 => ?_⟩
        simp only [List.mem_cons, forall_eq_or_imp]
        refine ⟨.one rfl ?_, a5 av h5 h6⟩
        exact view_ok' (s.holds j _ hj) (s.ok j _ hj) h1 h2 (fun y => E.pure y) h5 fun hc => h6 j (a3 j List.mem_cons_self) _ hj hc
      · exact hk.elim
    · obtain ⟨ms, L', a1, a2, a3, a4, a5⟩ := lndS_sound s hr hR hk
      refine ⟨_, L', a1, a2, a3, by simp only [List.map_cons, a4], fun av h5 h6 => ?_⟩
      simp only [List.mem_cons, forall_eq_or_imp]
      exact ⟨hm.reav h5, a5 av h5 h6⟩

theorem Mem.back2 {B : Base} {σ : Nat → Nat} {n : Nat} {h : Bs} {w : World} {σ' : Nat → Nat} {n' : Nat} {h' : Bs} {w' : World} (s : Mem B σ n h w) (s' : Mem B σ' n' h' w') (hn : n ≤ n') (hσ : ∀ j, j < n → σ j = σ' j) {j : Nat} {k : Blk} (hj : get h j = some k) (hf : k.foot = [])
    (hb : k.real → w'.heap[σ j]? = w.heap[σ j]?) (hna : k.real → ¬ avoids B σ' h' (σ j)) (hok' : ∀ i x, get h' i = some x → x.Ok w' (fun b => avoids B σ' h' b ∨ (k.real ∧ b = σ j)) n') (hok : k.Ok w' (fun b => avoids B σ' h' b ∨ (k.real ∧ b = σ j)) n') : Mem B σ' n' (put h' j k) w' := by
  have hjn := s.lt j k hj
  have ej := hσ j hjn
  have hav : ∀ b, avoids B σ' (put h' j k) b → avoids B σ' h' b ∨ (k.real ∧ b = σ j) := by
    rintro b (h1 | ⟨i, x, hi, hx⟩)
    · exact .inl (.inl h1)
    · rw [get_put] at hi
      split at hi
      · rename_i e; subst e; cases hi; exact .inr ⟨(hx.nil hf).1, (hx.nil hf).2.symm.trans ej.symm⟩
      · exact .inl (.inr ⟨i, x, hi, hx⟩)
  have hg : ∀ i x, get (put h' j k) i = some x → (i = j ∧ x = k) ∨ (i ≠ j ∧ get h' i = some x) := by
    intro i x hi
    rw [get_put] at hi
    split at hi
    · rename_i e; subst e; cases hi; exact .inl ⟨rfl, rfl⟩
    · rename_i e; exact .inr ⟨fun e' => e e'.symm, hi⟩
  refine ⟨s'.frame, s'.avlt, s'.kn, s'.anch, fun i x hi => ?_, fun a b x y c ha hb' hx hy => ?_, fun i x c hi hx hlt => ?_, fun i x hi => ?_, fun i x hi => ?_⟩
  · rcases hg i x hi with ⟨rfl, rfl⟩ | ⟨_, h1⟩
    · omega
    · exact s'.lt i x h1
  · rcases hg a x ha with ⟨rfl, rfl⟩ | ⟨n1, h1⟩
    · rcases hg b y hb' with ⟨rfl, rfl⟩ | ⟨n2, h2⟩
      · rfl
      · exact absurd (.inr ⟨b, y, h2, by rw [ej, (hx.nil hf).2]; exact hy⟩) (hna (hx.nil hf).1)
    · rcases hg b y hb' with ⟨rfl, rfl⟩ | ⟨n2, h2⟩
      · exact absurd (.inr ⟨a, x, h1, by rw [ej, (hy.nil hf).2]; exact hx⟩) (hna (hy.nil hf).1)
      · exact s'.injO a b x y c h1 h2 hx hy
  · rcases hg i x hi with ⟨rfl, rfl⟩ | ⟨_, h1⟩
    · rw [← ej] at hx
      exact s.ownO i x c hj hx hlt
    · exact s'.ownO i x c h1 hx hlt
  · rcases hg i x hi with ⟨rfl, rfl⟩ | ⟨_, h1⟩
    · exact (s.holds i x hj).of_block (s.ok i x hj) hσ (fun _ => ej.symm) fun c hc => (hc.nil hf).2 ▸ hb (hc.nil hf).1
    · exact s'.holds i x h1
  · rcases hg i x hi with ⟨rfl, rfl⟩ | ⟨_, h1⟩
    · exact hok.mono (Nat.le_refl _) fun b _ h2 => ⟨fun h3 => h2 (hav b h3), rfl⟩
    · exact (hok' i x h1).mono (Nat.le_refl _) fun b _ h2 => ⟨fun h3 => h2 (hav b h3), rfl⟩

theorem backR_get {h : Bs} : ∀ {h' : Bs}, backR h h' → ∀ {i k}, get h' i = some k → k.flatR = true ∨ get h i = some k
  | [], _, i, k, hg => by cases hg
  | (a, b) :: r, hb, i, k, hg => by
    obtain ⟨h1, h2⟩ := hb
    simp only [get] at hg
    cases he : Nat.beq a i with
    | true =>
      rw [he] at hg
      cases hg
      have := Nat.eq_of_beq_eq_true he
      subst this
      cases hf : b.flatR with
      | true => exact .inl rfl
      | false => rw [hf] at h1; exact .inr (sameB_eq h1)
    | false => rw [he] at hg; exact backR_get h2 hg

theorem backL2_sound {B : Base} {σ : Nat → Nat} {n : Nat} {h : Bs} {w : World} {σ' : Nat → Nat} {n' : Nat} {w' : World} (s : Mem B σ n h w) (hn : n ≤ n') (hσ : ∀ j, j < n → σ j = σ' j)
    (hko : ∀ b, b < w.heap.size → ¬ avoids B σ h b → w'.heap[b]? = w.heap[b]?) : ∀ {L : List Nat} {h' : Bs} {K : Bs → Prop}, Plain h L → noDup L = true → Mem B σ' n' h' w' →
    (∀ j ∈ L, ∀ k, get h j = some k → k.real → w'.heap[σ j]? = w.heap[σ j]? ∧ ¬ avoids B σ' h' (σ j)) → (∀ i k, get h' i = some k → k.flatR = true ∨ get h i = some k) → (∀ b, b < w.heap.size → avoids B σ' h' b → avoids B σ h b) →
    backL h L h' K → ∃ h2, K h2 ∧ Mem B σ' n' h2 w' ∧ ∀ b, b < w.heap.size → avoids B σ' h2 b → avoids B σ h b
  | [], h', K, _, _, s', _, _, hA, hk => ⟨h', hk, s', hA⟩
  | j :: r, h', K, hR, hd, s', hL, hB, hA, hk => by
    unfold backL at hk
    obtain ⟨k, hj, hf⟩ := hR j List.mem_cons_self
    rw [hj] at hk
    simp only [noDup, Bool.and_eq_true] at hd
    have hjr : j ∉ r := fun hm => by
      have := List.all_eq_true.1 hd.1 j hm
      simp [beqT] at this
    have hbn := hL j List.mem_cons_self k hj
    have hout : ∀ b, b < w.heap.size → avoids B σ' h' b ∨ (k.real ∧ b = σ j) → avoids B σ h b := by
      rintro b hb (h1 | ⟨hr, rfl⟩)
      · exact hA b hb h1
      · exact .inr ⟨j, _, hj, .mk hr⟩
    have okk : ∀ i x, get h i = some x → x.Ok w' (fun b => avoids B σ' h' b ∨ (k.real ∧ b = σ j)) n' := fun i x hi =>
      (s.ok i x hi).mono hn fun b hb h1 => ⟨fun h2 => h1 (hout b hb h2), hko b hb h1⟩
    have s2 := s.back2 s' hn hσ hj hf (fun hr => (hbn hr).1) (fun hr => (hbn hr).2) (fun i x hi => by
      rcases hB i x hi with h1 | h1
      · exact Blk.flatR_ok h1 (s'.ok i x hi)
      · exact okk i x h1) (okk j _ hj)
    have hg : ∀ i x, get (put h' j k) i = some x → (i = j ∧ x = k) ∨ (i ≠ j ∧ get h' i = some x) := by
      intro i x hi
      rw [get_put] at hi
      split at hi
      · rename_i e; subst e; cases hi; exact .inl ⟨rfl, rfl⟩
      · rename_i e; exact .inr ⟨fun e' => e e'.symm, hi⟩
    refine backL2_sound s hn hσ hko (fun x hx => hR x (List.mem_cons_of_mem _ hx)) hd.2 s2 (fun x hx kx hxj hrx => ?_) (fun i k hi => ?_) (fun b hb' h1 => ?_) hk
    · obtain ⟨h1, h2⟩ := hL x (List.mem_cons_of_mem _ hx) kx hxj hrx
      refine ⟨h1, ?_⟩
      rintro (h3 | ⟨i, y, hi, hy⟩)
      · exact h2 (.inl h3)
      · rcases hg i y hi with ⟨rfl, rfl⟩ | ⟨_, h4⟩
        · rw [← hσ i (s.lt _ _ hj)] at hy
          have := s.injO _ _ _ _ _ hj hxj hy (.mk hrx)
          subst this
          exact hjr hx
        · exact h2 (.inr ⟨i, y, h4, hy⟩)
    · rcases hg i k hi with ⟨rfl, rfl⟩ | ⟨_, h4⟩
      · exact .inr hj
      · exact hB i k h4
    · rcases h1 with h1 | ⟨i, y, hi, hy⟩
      · exact .inl h1
      · rcases hg i y hi with ⟨rfl, rfl⟩ | ⟨_, h4⟩
        · rw [← hσ i (s.lt _ _ hj)] at hy
          exact .inr ⟨i, _, hj, hy⟩
        · exact hA b hb' (.inr ⟨i, y, h4, hy⟩)

theorem lendT_ok {f : Nat} {T : MT} (hT : MOK P f T) : MOK P f (lendT T) := by
  refine ⟨fun args n h K hk => ⟨fun B σ w s hargs => ?_⟩, lendT_mono hT.mono⟩
  obtain ⟨ms, L, h1, h2, _, h3, h4⟩ := lndS_sound s hargs (fun j hj => by cases hj) hk
  cases hb : L.isEmpty with
  | true =>
    rw [hb] at h1
    have hL : L = [] := by simpa using hb
    subst hL
    rw [← h3]
    exact (hT.ok _ _ _ _ h1).out B σ w s (h4 _ (fun _ h => h) (fun _ h => by cases h))
  | false =>
    rw [hb] at h1
    obtain ⟨hd, h1⟩ := cond_false_elim h1
    have hdown : Down h (delL L h) := fun j k hg => (get_delL hg).1
    have sd := s.sub hdown
    have hne : ∀ j ∈ L, ∀ k, get h j = some k → k.real → ¬ avoids B σ (delL L h) (σ j) := by
      intro j hj l hl hr
      rintro (h5 | ⟨i, k', hi, hr'⟩)
      · have := s.avlt _ h5
        exact this.2 (s.own _ _ hl hr this.1)
      · obtain ⟨h6, h7⟩ := get_delL hi
        have := s.injO _ _ _ _ _ h6 hl hr' (.mk hr)
        subst this
        exact h7 hj
    rw [← h3]
    refine ((hT.ok _ _ _ _ h1).out B σ w sd (h4 _ (fun b hb => hdown.av hb) hne)).mono ?_
    rintro e w1 ⟨σ', n', m, h', g1, ⟨g2, g3, g4⟩, g5, g6, g7, g8, g9⟩
    have hm : m.flat = true := by
      cases hf : m.flat with
      | true => rfl
      | false => rw [hf] at g2; exact g2.elim
    have keep : ∀ b, b < w.heap.size → avoids B σ' h' b → avoids B σ h b := fun b hb h5 => Classical.byContradiction fun h6 => (g9 b hb fun h7 => h6 (hdown.av h7)).1 h5
    obtain ⟨h2', k1, k2, k3⟩ := backL2_sound s g5 g6 (fun b hb h5 => (g9 b hb fun h7 => h5 (hdown.av h7)).2) h2 hd g7
      (fun j hj k hjk hr => by
        have hlt := s.tracked_lt hjk hr
        obtain ⟨q1, q2⟩ := g9 _ hlt (hne j hj k hjk hr)
        exact ⟨q2, q1⟩) (fun i k hi => backR_get g3 hi) keep g4
    exact ⟨σ', n', m, h2', g1, k1, g5, g6, k2, g8.of_flat hm, fun b hb hna => ⟨fun h5 => hna (k3 b hb h5), (g9 b hb fun h5 => hna (hdown.av h5)).2⟩⟩
end
end Go.Sx
