/- How a symbolic state turns: a temporary is written, a block is made, written, let go, renamed. Holds for every program. -/
import Derived.Test.YtgbikcniediomaaSx1
namespace Go.Sx
set_option linter.unusedSimpArgs false
set_option linter.unusedVariables false

theorem Act.getD_put (a : Act) (d s : Nat) (v : Value) (hd : d < a.tmps.size) : (a.put (some d) v).tmps.getD s undef = if d = s then v else a.tmps.getD s undef := by
  simp only [Act.put, Array.getD_eq_getD_getElem?, Array.getElem?_setIfInBounds]
  by_cases h : d = s
  · subst h; simp [hd]
  · simp [h]

theorem Act.size_put (a : Act) (d : Option Nat) (v : Value) : (a.put d v).tmps.size = a.tmps.size := by
  cases d <;> simp [Act.put]

theorem Act.defers_put (a : Act) (d : Option Nat) (v : Value) : (a.put d v).defers = a.defers := by
  cases d <;> simp [Act.put]

section
variable {B : Base} {nt : Nat} {σ : Nat → Nat} {n : Nat} {e : Env} {h : Bs} {a : Act} {w : World}

theorem Sat.tmp (s : Sat B nt σ n e h a w) {t : Nat} {m : M} (hm : get e t = some m) : a.eval (.tmp t) = m.den σ := s.env t m hm

theorem Sat.put (s : Sat B nt σ n e h a w) {d : Nat} {m : M} (hd : d < nt) (hm : m.Ok w (avoids B σ h) n) : Sat B nt σ n (put e d m) h (a.put (some d) (m.den σ)) w := by
  refine ⟨s.mem, ?_, ?_, ?_, ?_⟩
  · rw [Act.defers_put]; exact s.defers
  · rw [Act.size_put]; exact s.size
  · intro t x hx
    rw [get_put] at hx
    rw [Act.getD_put _ _ _ _ (by rw [s.size]; exact hd)]
    split at hx
    · rename_i hdt; cases hx; simp [hdt]
    · rename_i hdt; simp only [hdt, if_false]; exact s.env t x hx
  · intro t x hx
    rw [get_put] at hx
    split at hx
    · cases hx; exact hm
    · exact s.ok t x hx

theorem Sat.forget (s : Sat B nt σ n e h a w) (d : Option Nat) (v : Value) (hd : ∀ t, d = some t → get e t = none) : Sat B nt σ n e h (a.put d v) w := by
  refine ⟨s.mem, ?_, ?_, ?_, s.ok⟩
  · rw [Act.defers_put]; exact s.defers
  · rw [Act.size_put]; exact s.size
  · intro t x hx
    cases d with
    | none => exact s.env t x hx
    | some d =>
      by_cases hdt : d = t
      · subst hdt; rw [hd _ rfl] at hx; cases hx
      · have : (a.put (some d) v).tmps.getD t undef = a.tmps.getD t undef := by
          simp only [Act.put, Array.getD_eq_getD_getElem?, Array.getElem?_setIfInBounds]
          simp [hdt]
        rw [this]; exact s.env t x hx

theorem Sat.none (s : Sat B nt σ n e h a w) (v : Value) : Sat B nt σ n e h (a.put .none v) w := s.forget .none v (by intro t h; cases h)

theorem Sat.sub (s : Sat B nt σ n e h a w) {e' : Env} (he : ∀ t m, get e' t = some m → get e t = some m) : Sat B nt σ n e' h a w :=
  ⟨s.mem, s.defers, s.size, fun t m hm => s.env t m (he t m hm), fun t m hm => s.ok t m (he t m hm)⟩

theorem Mem.fresh (s : Mem B σ n h w) : B.w.heap.size ≤ w.heap.size := s.frame.size

theorem Mem.glob_not (s : Mem B σ n h w) {g : Nat} {k : IntKind} {l : List Int} (hg : gget gtab g = some (k, l)) : (g < w.heap.size ∧ ∀ i (hi : i < l.length), w.cell? ⟨g, i, none⟩ = some (.int k l[i])) ∧ ¬ avoids B σ h g := by
  obtain ⟨⟨hlt, hb⟩, hm, ha⟩ := s.frame.gok g k l hg
  refine ⟨⟨Nat.lt_of_lt_of_le hlt s.frame.size, fun i hi => (World.cell?_of_block (s.frame.block g hlt hm)).trans (hb i hi)⟩, ?_⟩
  rintro (h1 | ⟨j, b, hj, hr⟩)
  · exact ha h1
  · exact hm (s.ownO j b g hj hr hlt)

theorem Mem.glob (s : Mem B σ n h w) {g : Nat} {k : IntKind} {l : List Int} (hg : gget gtab g = some (k, l)) : (SV.rptr ⟨g, 0, none⟩ [.ints k l.length l]).Ok w (avoids B σ h) n := by
  obtain ⟨⟨_, hb⟩, ha⟩ := s.glob_not hg
  refine .rptr (fun x hx => by simp at hx; subst hx; rfl) (fun x hx => by simp at hx; subst hx; exact .ints rfl) fun q u hu => ⟨ha, ?_⟩
  simp only [denL_cons, denL_nil, SV.dens, List.append_nil, List.getElem?_map] at hu
  by_cases hq : q < l.length
  · rw [List.getElem?_eq_getElem hq] at hu
    rw [Nat.zero_add, hb q hq]
    simpa using hu
  · rw [List.getElem?_eq_none (by omega)] at hu
    cases hu

theorem Mem.tracked_lt (s : Mem B σ n h w) {j : Nat} {k : Blk} (hj : get h j = some k) (hr : k.real) : σ j < w.heap.size := (s.holds j k hj).lt hr

theorem Mem.occ_lt (s : Mem B σ n h w) {j b : Nat} {k : Blk} (hj : get h j = some k) (hr : k.occ (σ j) b) : b < w.heap.size := (s.holds j k hj).occ_lt hr
theorem Blk.occ.nil {k : Blk} {a b : Nat} (h : k.occ a b) (hf : k.foot = []) : k.real ∧ a = b := by
  rcases h with h | h
  · exact h
  · rw [hf] at h
    cases h

def ext (σ : Nat → Nat) (n b : Nat) : Nat → Nat := fun j => if j = n then b else σ j

theorem ext_lt (σ : Nat → Nat) (n b : Nat) {j : Nat} (h : j < n) : σ j = ext σ n b j := by
  unfold ext; rw [if_neg (by omega)]

theorem ext_self (σ : Nat → Nat) (n b : Nat) : ext σ n b n = b := by unfold ext; rw [if_pos rfl]

theorem Mem.push_hk (s : Mem B σ n h w) {w' : World} {o : Obj} (hw : w'.heap = w.heap.push o) (k : Blk) (hf : k.foot = [] := by rfl) :
    ∀ b, b < w.heap.size → ¬ avoids B σ h b → ¬ avoids B (ext σ n w.heap.size) (put h n k) b ∧ w'.heap[b]? = w.heap[b]? := by
  intro b hb hav
  refine ⟨?_, by rw [hw, Array.getElem?_push, if_neg (by omega)]⟩
  rintro (h1 | ⟨j, k', hj, hr⟩)
  · exact hav (.inl h1)
  · rw [get_put] at hj
    split at hj
    · rename_i hn; subst hn; cases hj; have h1 := (hr.nil hf).2; rw [ext_self] at h1; omega
    · rw [← ext_lt σ n _ (s.lt j k' hj)] at hr; exact hav (.inr ⟨j, k', hj, hr⟩)

theorem Mem.push (s : Mem B σ n h w) {w' : World} {o : Obj} (hw : w'.heap = w.heap.push o) (hos : w'.os = w.os) (ht : w'.tape = w.tape) (hout : w'.output = w.output)
    {k : Blk} (hk : k.holds (ext σ n w.heap.size) w' w.heap.size) (hok : k.Ok w (avoids B σ h) (n + 1)) (hf : k.foot = [] := by rfl) : Mem B (ext σ n w.heap.size) (n + 1) (Sx.put h n k) w' := by
  have hkk := s.push_hk hw k hf
  have hsz : w'.heap.size = w.heap.size + 1 := by rw [hw]; simp
  refine ⟨⟨hos.trans s.frame.os, ht.trans s.frame.tape, hout.trans s.frame.output, by have := s.frame.size; omega, fun b hb hm => ?_, s.frame.gok⟩, s.avlt, by have := s.kn; omega, fun j hj => by rw [← ext_lt σ n _ (Nat.lt_of_lt_of_le hj s.kn)]; exact s.anch j hj, ?_, ?_, ?_, ?_, ?_⟩
  · rw [hw, Array.getElem?_push, if_neg (by have := s.frame.size; omega)]; exact s.frame.block b hb hm
  · intro j k' hj
    rw [get_put] at hj
    split at hj
    · omega
    · have := s.lt j k' hj; omega
  · intro i j k1 k2 b hi hj hr1 hr2
    rw [get_put] at hi hj
    by_cases h1 : n = i
    · by_cases h2 : n = j
      · omega
      · rw [if_neg h2] at hj
        rw [if_pos h1] at hi
        subst h1
        cases hi
        have e := (hr1.nil hf).2
        rw [ext_self] at e
        rw [← ext_lt σ n _ (s.lt j k2 hj)] at hr2
        have := s.occ_lt hj hr2
        omega
    · rw [if_neg h1] at hi
      by_cases h2 : n = j
      · rw [if_pos h2] at hj
        subst h2
        cases hj
        have e := (hr2.nil hf).2
        rw [ext_self] at e
        rw [← ext_lt σ n _ (s.lt i k1 hi)] at hr1
        have := s.occ_lt hi hr1
        omega
      · rw [if_neg h2] at hj
        rw [← ext_lt σ n _ (s.lt i k1 hi)] at hr1
        rw [← ext_lt σ n _ (s.lt j k2 hj)] at hr2
        exact s.injO i j k1 k2 b hi hj hr1 hr2
  · intro j k' b hj hr hb
    rw [get_put] at hj
    split at hj
    · rename_i h1; subst h1; cases hj; have e := (hr.nil hf).2; rw [ext_self] at e; have := s.frame.size; omega
    · rw [← ext_lt σ n _ (s.lt j k' hj)] at hr; exact s.ownO j k' b hj hr hb
  · intro j k' hj
    rw [get_put] at hj
    split at hj
    · rename_i h1; subst h1; cases hj; rw [ext_self]; exact hk
    · have hjn := s.lt j k' hj
      refine (s.holds j k' hj).of_block (s.ok j k' hj) (fun i hi => ext_lt σ n _ hi) (fun _ => (ext_lt σ n _ hjn).symm) fun c hr => ?_
      rw [hw, Array.getElem?_push, if_neg (by have := s.occ_lt hj hr; omega)]
  · intro j k' hj
    rw [get_put] at hj
    split at hj
    · cases hj; exact hok.mono (Nat.le_refl _) hkk
    · exact (s.ok j k' hj).mono (by omega) hkk

theorem Sat.push (s : Sat B nt σ n e h a w) {w' : World} {o : Obj} (hw : w'.heap = w.heap.push o) (hos : w'.os = w.os) (ht : w'.tape = w.tape) (hout : w'.output = w.output)
    {k : Blk} (hk : k.holds (ext σ n w.heap.size) w' w.heap.size) (hok : k.Ok w (avoids B σ h) (n + 1)) (hf : k.foot = [] := by rfl) : Sat B nt (ext σ n w.heap.size) (n + 1) e (Sx.put h n k) a w' := by
  refine ⟨s.mem.push hw hos ht hout hk hok hf, s.defers, s.size, fun t m hm => ?_, fun t m hm => (s.ok t m hm).mono (by omega) (s.mem.push_hk hw k hf)⟩
  rw [s.env t m hm]
  exact M.den_congr (s.ok t m hm) fun j hj => ext_lt σ n _ hj

theorem avoids_upd (B : Base) (σ : Nat → Nat) {h : Bs} {j : Nat} {k k' : Blk} (hj : get h j = some k) (hr : k'.real → k.real) (b : Nat) (hf : ∀ b, b ∈ k'.foot → b ∈ k.foot := by intro _ h; exact absurd h List.not_mem_nil) : avoids B σ (upd h j k') b → avoids B σ h b := by
  unfold avoids
  rintro (h1 | ⟨i, x, hi, hx⟩)
  · exact .inl h1
  · rw [get_upd] at hi
    split at hi
    · rename_i h2; subst h2; cases hi; exact .inr ⟨_, k, hj, hx.imp (fun h => ⟨hr h.1, h.2⟩) (hf b)⟩
    · exact .inr ⟨i, x, hi, hx⟩

theorem Mem.upd_hk (_s : Mem B σ n h w) {j : Nat} {k k' : Blk} (hj : get h j = some k) (hr : k.real) {w' : World} (hw : ∀ b, b ≠ σ j → w'.heap[b]? = w.heap[b]?) (hf : ∀ b, b ∈ k'.foot → b ∈ k.foot := by intro _ h; exact absurd h List.not_mem_nil) :
    ∀ b, b < w.heap.size → ¬ avoids B σ h b → ¬ avoids B σ (upd h j k') b ∧ w'.heap[b]? = w.heap[b]? := by
  intro b _ hav
  refine ⟨fun h1 => hav (avoids_upd B σ hj (fun _ => hr) b hf h1), hw b fun h1 => hav (.inr ⟨j, k, hj, .inl ⟨hr, h1.symm⟩⟩)⟩

theorem Mem.upd (s : Mem B σ n h w) {j : Nat} {k k' : Blk} (hj : get h j = some k) (hr : k.real) {w' : World} (hw : ∀ b, b ≠ σ j → w'.heap[b]? = w.heap[b]?)
    (hsz : w'.heap.size = w.heap.size) (hos : w'.os = w.os) (ht : w'.tape = w.tape) (hout : w'.output = w.output)
    (hk : k'.holds σ w' (σ j)) (hok : k'.Ok w (avoids B σ h) n) (hf : ∀ b, b ∈ k'.foot → b ∈ k.foot := by intro _ h; exact absurd h List.not_mem_nil) : Mem B σ n (Sx.upd h j k') w' := by
  have hkk := s.upd_hk (k' := k') hj hr hw hf
  refine ⟨⟨hos.trans s.frame.os, ht.trans s.frame.tape, hout.trans s.frame.output, by have := s.frame.size; omega, fun b hb hm => ?_, s.frame.gok⟩, s.avlt, s.kn, s.anch, ?_, ?_, ?_, ?_, ?_⟩
  · rw [hw b fun h1 => hm (h1 ▸ s.own j k hj hr (h1 ▸ hb))]; exact s.frame.block b hb hm
  · intro i x hi
    rw [get_upd] at hi
    split at hi
    · rename_i h1; subst h1; exact s.lt _ k hj
    · exact s.lt i x hi
  · intro i i' x x' b hi hi' hx hx'
    rw [get_upd] at hi hi'
    have g1 : ∃ y, get h i = some y ∧ y.occ (σ i) b := by
      split at hi
      · rename_i h1; subst h1; cases hi; exact ⟨k, hj, hx.imp (fun h => ⟨hr, h.2⟩) (hf b)⟩
      · exact ⟨x, hi, hx⟩
    have g2 : ∃ y, get h i' = some y ∧ y.occ (σ i') b := by
      split at hi'
      · rename_i h1; subst h1; cases hi'; exact ⟨k, hj, hx'.imp (fun h => ⟨hr, h.2⟩) (hf b)⟩
      · exact ⟨x', hi', hx'⟩
    obtain ⟨y1, g1, r1⟩ := g1
    obtain ⟨y2, g2, r2⟩ := g2
    exact s.injO i i' y1 y2 b g1 g2 r1 r2
  · intro i x b hi hx hb
    rw [get_upd] at hi
    split at hi
    · rename_i h1; subst h1; cases hi; exact s.ownO _ k b hj (hx.imp (fun h => ⟨hr, h.2⟩) (hf b)) hb
    · exact s.ownO i x b hi hx hb
  · intro i x hi
    rw [get_upd] at hi
    split at hi
    · rename_i h1; subst h1; cases hi; exact hk
    · rename_i h1
      refine (s.holds i x hi).of_block (s.ok i x hi) (fun _ _ => rfl) (fun _ => rfl) fun c hx => hw _ fun h2 => h1 (s.injO j i k x c hj hi (.inl ⟨hr, h2.symm⟩) hx)
  · intro i x hi
    rw [get_upd] at hi
    split at hi
    · cases hi; exact hok.mono (Nat.le_refl _) hkk
    · exact (s.ok i x hi).mono (Nat.le_refl _) hkk

theorem Sat.upd (s : Sat B nt σ n e h a w) {j : Nat} {k k' : Blk} (hj : get h j = some k) (hr : k.real) {w' : World} (hw : ∀ b, b ≠ σ j → w'.heap[b]? = w.heap[b]?)
    (hsz : w'.heap.size = w.heap.size) (hos : w'.os = w.os) (ht : w'.tape = w.tape) (hout : w'.output = w.output)
    (hk : k'.holds σ w' (σ j)) (hok : k'.Ok w (avoids B σ h) n) (hf : ∀ b, b ∈ k'.foot → b ∈ k.foot := by intro _ h; exact absurd h List.not_mem_nil) : Sat B nt σ n e (Sx.upd h j k') a w' :=
  ⟨s.mem.upd hj hr hw hsz hos ht hout hk hok hf, s.defers, s.size, s.env, fun t m hm => (s.ok t m hm).mono (Nat.le_refl _) (s.mem.upd_hk hj hr hw hf)⟩

theorem Mem.updF_hk (_s : Mem B σ n h w) {j : Nat} {k k' : Blk} {c : Nat} (hj : get h j = some k) (hc : k.occ (σ j) c) {w' : World} (hw : ∀ b, b ≠ c → w'.heap[b]? = w.heap[b]?) (hf : ∀ b, k'.occ (σ j) b → k.occ (σ j) b) :
    ∀ b, b < w.heap.size → ¬ avoids B σ h b → ¬ avoids B σ (Sx.upd h j k') b ∧ w'.heap[b]? = w.heap[b]? := by
  intro b _ hav
  refine ⟨?_, hw b fun h1 => hav (.inr ⟨j, k, hj, h1 ▸ hc⟩)⟩
  rintro (h1 | ⟨i, x, hi, hx⟩)
  · exact hav (.inl h1)
  · rw [get_upd] at hi
    split at hi
    · rename_i h2; subst h2; cases hi; exact hav (.inr ⟨_, k, hj, hf b hx⟩)
    · exact hav (.inr ⟨i, x, hi, hx⟩)
theorem Mem.updF (s : Mem B σ n h w) {j : Nat} {k k' : Blk} {c : Nat} (hj : get h j = some k) (hc : k.occ (σ j) c) {w' : World} (hw : ∀ b, b ≠ c → w'.heap[b]? = w.heap[b]?)
    (hsz : w'.heap.size = w.heap.size) (hos : w'.os = w.os) (ht : w'.tape = w.tape) (hout : w'.output = w.output)
    (hk : k'.holds σ w' (σ j)) (hok : k'.Ok w (avoids B σ h) n) (hf : ∀ b, k'.occ (σ j) b → k.occ (σ j) b) : Mem B σ n (Sx.upd h j k') w' := by
  have hkk := s.updF_hk (k' := k') hj hc hw hf
  refine ⟨⟨hos.trans s.frame.os, ht.trans s.frame.tape, hout.trans s.frame.output, by have := s.frame.size; omega, fun b hb hm => ?_, s.frame.gok⟩, s.avlt, s.kn, s.anch, ?_, ?_, ?_, ?_, ?_⟩
  · rw [hw b fun h1 => hm (h1 ▸ s.ownO j k c hj hc (h1 ▸ hb))]; exact s.frame.block b hb hm
  · intro i x hi
    rw [get_upd] at hi
    split at hi
    · rename_i h1; subst h1; exact s.lt _ k hj
    · exact s.lt i x hi
  · intro i i' x x' b hi hi' hx hx'
    rw [get_upd] at hi hi'
    have g1 : ∃ y, get h i = some y ∧ y.occ (σ i) b := by
      split at hi
      · rename_i h1; subst h1; cases hi; exact ⟨k, hj, hf b hx⟩
      · exact ⟨x, hi, hx⟩
    have g2 : ∃ y, get h i' = some y ∧ y.occ (σ i') b := by
      split at hi'
      · rename_i h1; subst h1; cases hi'; exact ⟨k, hj, hf b hx'⟩
      · exact ⟨x', hi', hx'⟩
    obtain ⟨y1, g1, r1⟩ := g1
    obtain ⟨y2, g2, r2⟩ := g2
    exact s.injO i i' y1 y2 b g1 g2 r1 r2
  · intro i x b hi hx hb
    rw [get_upd] at hi
    split at hi
    · rename_i h1; subst h1; cases hi; exact s.ownO _ k b hj (hf b hx) hb
    · exact s.ownO i x b hi hx hb
  · intro i x hi
    rw [get_upd] at hi
    split at hi
    · rename_i h1; subst h1; cases hi; exact hk
    · rename_i h1
      refine (s.holds i x hi).of_block (s.ok i x hi) (fun _ _ => rfl) (fun _ => rfl) fun d hx => hw _ fun h2 => h1 (s.injO j i k x d hj hi (h2 ▸ hc) hx)
  · intro i x hi
    rw [get_upd] at hi
    split at hi
    · cases hi; exact hok.mono (Nat.le_refl _) hkk
    · exact (s.ok i x hi).mono (Nat.le_refl _) hkk
theorem Sat.updF (s : Sat B nt σ n e h a w) {j : Nat} {k k' : Blk} {c : Nat} (hj : get h j = some k) (hc : k.occ (σ j) c) {w' : World} (hw : ∀ b, b ≠ c → w'.heap[b]? = w.heap[b]?)
    (hsz : w'.heap.size = w.heap.size) (hos : w'.os = w.os) (ht : w'.tape = w.tape) (hout : w'.output = w.output)
    (hk : k'.holds σ w' (σ j)) (hok : k'.Ok w (avoids B σ h) n) (hf : ∀ b, k'.occ (σ j) b → k.occ (σ j) b) : Sat B nt σ n e (Sx.upd h j k') a w' :=
  ⟨s.mem.updF hj hc hw hsz hos ht hout hk hok hf, s.defers, s.size, s.env, fun t m hm => (s.ok t m hm).mono (Nat.le_refl _) (s.mem.updF_hk hj hc hw hf)⟩

theorem Mem.same (s : Mem B σ n h w) {w' : World} (hw : w'.heap = w.heap) (hos : w'.os = w.os) (ht : w'.tape = w.tape) (hout : w'.output = w.output) : Mem B σ n h w' := by
  have hkk : ∀ b, b < w.heap.size → ¬ avoids B σ h b → ¬ avoids B σ h b ∧ w'.heap[b]? = w.heap[b]? := fun b _ h1 => ⟨h1, by rw [hw]⟩
  exact ⟨⟨hos.trans s.frame.os, ht.trans s.frame.tape, hout.trans s.frame.output, by rw [hw]; exact s.frame.size, fun b hb hm => by rw [hw]; exact s.frame.block b hb hm, s.frame.gok⟩, s.avlt, s.kn, s.anch, s.lt, s.injO, s.ownO,
    fun j k hj => (s.holds j k hj).of_block (s.ok j k hj) (fun _ _ => rfl) (fun _ => rfl) (fun _ _ => by rw [hw]), fun j k hj => (s.ok j k hj).mono (Nat.le_refl _) hkk⟩

theorem Sat.same (s : Sat B nt σ n e h a w) {w' : World} (hw : w'.heap = w.heap) (hos : w'.os = w.os) (ht : w'.tape = w.tape) (hout : w'.output = w.output) : Sat B nt σ n e h a w' :=
  ⟨s.mem.same hw hos ht hout, s.defers, s.size, s.env, fun t m hm => (s.ok t m hm).mono (Nat.le_refl _) fun b _ h1 => ⟨h1, by rw [hw]⟩⟩

theorem Sat.drew (s : Sat B nt σ n e h a w) : Sat B nt σ n e h a w.drew := s.same rfl rfl rfl rfl

end

def CV.ren (τ : Nat → Nat) : CV → CV
  | .v x => .v x
  | .ptr j off => .ptr (τ j) off

def SV.ren (τ : Nat → Nat) : SV → SV
  | .ptr j off => .ptr (τ j) off
  | .aptr j off k => .aptr (τ j) off k
  | .eptr j es i k => .eptr (τ j) es i k
  | .slc j es off len cap => .slc (τ j) es off len cap
  | .nslc j es len cap => .nslc (τ j) es len cap
  | .asl j off i len cap => .asl (τ j) off i len cap
  | .clo f cap => .clo f (cap.map (CV.ren τ))
  | .mp j => .mp (τ j)
  | .ch j => .ch (τ j)
  | s => s

def M.ren (τ : Nat → Nat) : M → M
  | .one s => .one (s.ren τ)
  | .agg l => .agg (l.map (SV.ren τ))
  | .tup l => .tup (renT l)
where renT : List M → List M
  | [] => []
  | m :: r => m.ren τ :: renT r

theorem SV.dens_ren (τ σ : Nat → Nat) (s : SV) : (s.ren τ).dens σ = s.dens (fun j => σ (τ j)) := by
  cases s with
  | clo f cap =>
    simp only [SV.ren, SV.dens, SV.den, List.map_map]
    congr 3
    apply List.map_congr_left
    intro c _
    cases c <;> rfl
  | _ => rfl

theorem SV.den_ren (τ σ : Nat → Nat) (s : SV) : (s.ren τ).den σ = s.den (fun j => σ (τ j)) := by
  cases s with
  | clo f cap =>
    simp only [SV.ren, SV.den, List.map_map]
    congr 2
    apply List.map_congr_left
    intro c _
    cases c <;> rfl
  | _ => rfl

theorem denL_ren (τ σ : Nat → Nat) (l : List SV) : denL σ (l.map (SV.ren τ)) = denL (fun j => σ (τ j)) l := by
  induction l with
  | nil => rfl
  | cons s r ih => rw [List.map_cons, denL_cons, denL_cons, SV.dens_ren, ih]

theorem M.renT_eq (τ : Nat → Nat) (l : List M) : M.ren.renT τ l = l.map (M.ren τ) := by
  induction l with
  | nil => rfl
  | cons m r ih => simp [M.ren.renT, ih]

end Go.Sx
