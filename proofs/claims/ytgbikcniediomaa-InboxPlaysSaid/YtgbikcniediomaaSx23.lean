/- A call seen from a greater state: what the function does not look at stays. Holds for every program. -/
import Derived.Test.YtgbikcniediomaaSx22
namespace Go.Sx
set_option linter.unusedSimpArgs false
set_option linter.unusedVariables false

def Blk.quiet : Blk → Prop
  | .row _ enc _ _ => ∀ y, (enc.enc y).all SV.isPure = true
  | _ => True

def Blk.ren (τ : Nat → Nat) : Blk → Blk
  | .cells l => .cells (l.map (SV.ren τ))
  | .obj A V o => .obj A (V.map (SV.ren τ)) o
  | b => b

def renH (τ : Nat → Nat) : Bs → Bs
  | [] => []
  | (j, b) :: r => (τ j, b.ren τ) :: renH τ r

def delL : List Nat → Bs → Bs
  | [], h => h
  | j :: r, h => delL r (del h j)

def quietH : Bs → Prop
  | [] => True
  | (_, b) :: r => b.quiet ∧ quietH r

def tau (ρ : Nat → Nat) (n0 n : Nat) (j : Nat) : Nat := bif Nat.blt j n0 then ρ j else n + (j - n0)

theorem get_renH {τ : Nat → Nat} : ∀ {h : Bs} {q : Nat} {k : Blk}, get (renH τ h) q = some k → ∃ j k0, get h j = some k0 ∧ τ j = q ∧ k = k0.ren τ
  | [], _, _, hk => by cases hk
  | (a, b) :: r, q, k, hk => by
    simp only [renH, get] at hk
    cases hb : Nat.beq (τ a) q with
    | true =>
      rw [hb] at hk
      cases hk
      exact ⟨a, b, by simp only [get, beqT, cond_true], Nat.eq_of_beq_eq_true hb, rfl⟩
    | false =>
      rw [hb] at hk
      obtain ⟨j, k0, h1, h2, h3⟩ := get_renH hk
      refine ⟨j, k0, ?_, h2, h3⟩
      have : Nat.beq a j = false := beqF fun h => by
        subst h
        rw [h2, beqT] at hb
        cases hb
      simp only [get, this, cond_false]
      exact h1

theorem get_append {α : Type 1} : ∀ {x y : List (Nat × α)} {q : Nat} {k : α}, get (x ++ y) q = some k → get x q = some k ∨ get y q = some k
  | [], _, _, _, hk => .inr hk
  | (a, b) :: r, y, q, k, hk => by
    simp only [List.cons_append, get] at hk ⊢
    cases hb : Nat.beq a q with
    | true => rw [hb] at hk; exact .inl hk
    | false => rw [hb] at hk; exact get_append hk

theorem get_del_ne {h : Bs} {j : Nat} : ∀ {i k}, get (del h j) i = some k → get h i = some k ∧ i ≠ j := by
  induction h with
  | nil => intro i k hk; cases hk
  | cons p r ih =>
    obtain ⟨a, b⟩ := p
    intro i k hk
    simp only [del] at hk
    cases hb : Nat.beq a j with
    | true =>
      rw [hb] at hk
      obtain ⟨h1, h2⟩ := ih hk
      refine ⟨?_, h2⟩
      have := Nat.eq_of_beq_eq_true hb
      subst this
      have : Nat.beq a i = false := beqF fun h => h2 h.symm
      simp only [get, this, cond_false]
      exact h1
    | false =>
      rw [hb] at hk
      simp only [cond_false, get] at hk ⊢
      cases hc : Nat.beq a i with
      | true =>
        rw [hc] at hk
        have := Nat.eq_of_beq_eq_true hc
        subst this
        refine ⟨hk, fun h => ?_⟩
        subst h
        rw [beqT] at hb
        cases hb
      | false => rw [hc] at hk; exact ih hk

theorem get_delL : ∀ {l : List Nat} {h : Bs} {i : Nat} {k : Blk}, get (delL l h) i = some k → get h i = some k ∧ i ∉ l
  | [], _, _, _, hk => ⟨hk, by simp⟩
  | j :: r, h, i, k, hk => by
    obtain ⟨h1, h2⟩ := get_delL (l := r) hk
    obtain ⟨h3, h4⟩ := get_del_ne h1
    exact ⟨h3, by simp [h4, h2]⟩

theorem Blk.ren_occ {τ : Nat → Nat} {b : Blk} {x y : Nat} : (b.ren τ).occ x y ↔ b.occ x y := by cases b <;> exact Iff.rfl
theorem quietH_get : ∀ {h : Bs}, quietH h → ∀ {j k}, get h j = some k → k.quiet
  | (a, b) :: r, hq, j, k, hk => by
    simp only [get] at hk
    cases hb : Nat.beq a j with
    | true => rw [hb] at hk; cases hk; exact hq.1
    | false => rw [hb] at hk; exact quietH_get hq.2 hk

section
variable {P : Program} {B : Base} {σ : Nat → Nat} {n : Nat} {h : Bs} {w : World}

theorem CV.ren_lt {τ : Nat → Nat} {n1 n2 : Nat} (hτ : ∀ j, j < n1 → τ j < n2) {c : CV} (h : c.lt n1) : (c.ren τ).lt n2 := by
  cases c with
  | v x => exact h
  | ptr j off => exact hτ j h

theorem SV.Ok.ren {av av' : Nat → Prop} {n1 n2 : Nat} {τ : Nat → Nat} {s : SV} (h : s.Ok w av n1) (hτ : ∀ j, j < n1 → τ j < n2) (hav : ∀ b, av' b → av b) : (s.ren τ).Ok w av' n2 := by
  cases s with
  | v x => cases h with | v h => exact .v h
  | ints k m l => cases h with | ints h => exact .ints h
  | view x es enc l => exact h.pure_mono rfl hav
  | rptr a l => exact h.pure_mono rfl hav
  | ptr j off => cases h with | ptr h => exact .ptr (hτ _ h)
  | aptr j off k => cases h with | aptr h => exact .aptr (hτ _ h)
  | eptr j es i k => cases h with | eptr h => exact .eptr (hτ _ h)
  | slc j es off len cap => cases h with | slc h => exact .slc (hτ _ h)
  | nslc j es len cap => cases h with | nslc h hl => exact .nslc (hτ _ h) hl
  | asl j off i len cap => cases h with | asl h => exact .asl (hτ _ h)
  | mp j => cases h with | mp h => exact .mp (hτ _ h)
  | ch j => cases h with | ch h => exact .ch (hτ _ h)
  | clo f cap =>
    cases h with
    | clo h =>
      refine .clo fun c hc => ?_
      obtain ⟨c0, h1, rfl⟩ := List.mem_map.1 hc
      exact CV.ren_lt hτ (h c0 h1)

theorem M.Ok.ren {av av' : Nat → Prop} {n1 n2 : Nat} {τ : Nat → Nat} (hτ : ∀ j, j < n1 → τ j < n2) (hav : ∀ b, av' b → av b) : ∀ {m : M}, m.Ok w av n1 → (m.ren τ).Ok w av' n2
  | .one s, h => by
    cases h with
    | one h9 h => exact .one (by cases s <;> first | rfl | exact h9) (h.ren hτ hav)
  | .agg l, h => by
    cases h with
    | agg h =>
      refine .agg fun s hs => ?_
      obtain ⟨s0, h1, rfl⟩ := List.mem_map.1 hs
      exact (h s0 h1).ren hτ hav
  | .tup l, h => by
    simp only [M.ren, M.renT_eq]
    cases h with
    | tup h =>
      refine .tup fun m hm => ?_
      obtain ⟨m0, h1, rfl⟩ := List.mem_map.1 hm
      exact M.Ok.ren hτ hav (h m0 h1)

theorem Blk.Ok.ren {av av' : Nat → Prop} {n1 n2 : Nat} {τ : Nat → Nat} {b : Blk} (h : b.Ok w av n1) (hq : b.quiet) (hτ : ∀ j, j < n1 → τ j < n2) (hav : ∀ b, av' b → av b) : (b.ren τ).Ok w av' n2 := by
  cases b with
  | cells l =>
    simp only [Blk.ren, Blk.Ok] at h ⊢
    intro s hs
    obtain ⟨s0, h1, rfl⟩ := List.mem_map.1 hs
    exact (h s0 h1).ren hτ hav
  | row es enc l cap =>
    simp only [Blk.ren, Blk.Ok] at h ⊢
    exact fun x hx s hs => (h x hx s hs).pure_mono (List.all_eq_true.1 (hq x) s hs) hav
  | obj A V o =>
    simp only [Blk.ren, Blk.Ok] at h ⊢
    intro s hs
    obtain ⟨s0, h1, rfl⟩ := List.mem_map.1 hs
    exact (h s0 h1).ren hτ hav
  | chan cap ag enc l =>
    simp only [Blk.ren, Blk.Ok] at h ⊢
    exact fun x hx s hs => (h x hx s hs).pure_mono (Enc.pures enc x s hs) hav

theorem Blk.holds.ren {σ1 σ2 : Nat → Nat} {τ : Nat → Nat} {b : Blk} {q n1 : Nat} {av : Nat → Prop} (h : b.holds σ1 w q) (hok : b.Ok w av n1) (hq : b.quiet) (e : ∀ j, j < n1 → σ2 (τ j) = σ1 j) : (b.ren τ).holds σ2 w q := by
  cases b with
  | cells l =>
    simp only [Blk.ren, Blk.holds, Blk.Ok] at h hok ⊢
    rw [denL_ren, denL_congr hok e]
    exact h
  | row es enc l cap =>
    simp only [Blk.ren, Blk.holds, Blk.quiet] at h hq ⊢
    have hd : ∀ y, denL σ2 (enc.enc y) = denL σ1 (enc.enc y) := fun y => denL_pure (List.all_eq_true.1 (hq y)) _ _
    obtain ⟨h1, h2, h3⟩ := h
    refine ⟨h1, fun x hx => by rw [hd]; exact h2 x hx, fun hc => ?_⟩
    obtain ⟨c, t, f, g1, g2, g3, g4⟩ := h3 hc
    exact ⟨c, t, f, g1, g2, g3, fun i k hi u hu => g4 i k hi u (by rw [← hd]; exact hu)⟩
  | obj A V o =>
    simp only [Blk.ren, Blk.holds, Blk.Ok] at h hok ⊢
    rw [denL_ren, denL_congr hok e]
    exact h
  | chan cap ag enc l => exact h

theorem M.Ok.den_eq {σ1 σ2 : Nat → Nat} {τ : Nat → Nat} {n1 : Nat} {av : Nat → Prop} {m : M} (h : m.Ok w av n1) (e : ∀ j, j < n1 → σ2 (τ j) = σ1 j) : (m.ren τ).den σ2 = m.den σ1 := by
  rw [M.den_ren]
  exact M.den_congr h e

theorem tau_lo {ρ : Nat → Nat} {n0 n j : Nat} (h : j < n0) : tau ρ n0 n j = ρ j := by
  unfold tau
  have : Nat.blt j n0 = true := by simp only [Nat.blt]; exact Nat.ble_eq_true_of_le h
  rw [this]; rfl
theorem tau_hi {ρ : Nat → Nat} {n0 n j : Nat} (h : ¬ j < n0) : tau ρ n0 n j = n + (j - n0) := by
  unfold tau
  have : Nat.blt j n0 = false := by
    cases hb : Nat.blt j n0 with
    | false => rfl
    | true => exact absurd (blt_lt hb) h
  rw [this]; rfl

theorem SCall.frame {f n0 : Nat} {args0 args : List M} {h0 : Bs} {R : Nat → M → Bs → Prop} {K : Nat → M → Bs → Prop} (ρ : Nat → Nat)
    (spec : SCall P f args0 n0 h0 R) (ha : args0.map (M.ren ρ) = args) (hai : args0.all (M.idB n0) = true)
    (hh : impH ρ n0 h h0) (hd : noDup (h0.map fun p => ρ p.1) = true) (hc : ∀ j, j < n0 → ∃ k, get h0 j = some k)
    (hK : ∀ n' m h', R n' m h' → quietH h' ∧ K (n + (n' - n0)) (m.ren (tau ρ n0 n)) (renH (tau ρ n0 n) h' ++ delL (h0.map fun p => ρ p.1) h)) : SCall P f args n h K := by
  refine ⟨fun B σ w s hargs => ?_⟩
  have hρ : ∀ j, j < n0 → ρ j < n := fun j hj => by
    obtain ⟨k, hk⟩ := hc j hj
    obtain ⟨b0, g1, _, _⟩ := impH_spec hh j k hk
    exact s.lt _ _ g1
  -- the blocks of h0, as they lie
  let own0 : Nat → Prop := fun b => ∃ j k, get h0 j = some k ∧ k.occ (σ (ρ j)) b
  have ownT : ∀ b, own0 b → ∃ j0 k0, get h j0 = some k0 ∧ k0.occ (σ j0) b := by
    rintro b ⟨j, k, hj, hr⟩
    obtain ⟨b0, g1, g2, _⟩ := impH_spec hh j k hj
    exact ⟨_, b0, g1, Blk.imp_occ g2 hr⟩
  have ownA : ∀ b, own0 b → avoids B σ h b := fun b hb => .inr (ownT b hb)
  let X : Nat → Prop := fun b => avoids B σ h b ∧ ¬ own0 b
  let B0 : Base := ⟨w, own0, X, n0, fun j => σ (ρ j)⟩
  have avE : ∀ b, avoids B0 (fun j => σ (ρ j)) h0 b → avoids B σ h b := by
    rintro b (h1 | ⟨j, k, hj, hr⟩)
    · exact h1.1
    · exact ownA _ ⟨j, k, hj, hr⟩
  have avlt : ∀ b, avoids B σ h b → b < w.heap.size := by
    rintro b (h1 | ⟨j, k, hj, hr⟩)
    · exact Nat.lt_of_lt_of_le (s.avlt b h1).1 s.frame.size
    · exact s.occ_lt hj hr
  have s0 : Mem B0 (fun j => σ (ρ j)) n0 h0 w := by
    refine ⟨Frame.refl _ _ _ _ _ (fun g k l hg => ⟨(s.glob_not hg).1, fun h1 => (s.glob_not hg).2 (ownA _ h1), fun h1 => (s.glob_not hg).2 h1.1⟩), fun b hb => ⟨avlt b hb.1, hb.2⟩, Nat.le_refl _, fun _ _ => rfl, fun j k hj => ?_, fun i j k k' b hi hj hr hr' => ?_, fun j k b hj hr _ => ⟨j, k, hj, hr⟩, fun j k hj => ?_, fun j k hj => ?_⟩
    · obtain ⟨_, _, _, g3⟩ := impH_spec hh j k hj
      exact g3
    · obtain ⟨b1, g1, g2, _⟩ := impH_spec hh i k hi
      obtain ⟨b2, g3, g4, _⟩ := impH_spec hh j k' hj
      exact noDup_inj hd i j k k' hi hj (s.injO _ _ _ _ b g1 g3 (Blk.imp_occ g2 hr) (Blk.imp_occ g4 hr'))
    · obtain ⟨b0, g1, g2, _⟩ := impH_spec hh j k hj
      exact Blk.imp_holds g2 (s.holds _ _ g1)
    · obtain ⟨b0, g1, g2, _⟩ := impH_spec hh j k hj
      exact Blk.imp_ok g2 (s.ok _ _ g1) avE
  have hargs0 : ∀ m ∈ args0, m.Ok w (avoids B0 (fun j => σ (ρ j)) h0) n0 := fun m hm => by
    have h1 : m.ren ρ ∈ args := by rw [← ha]; exact List.mem_map.2 ⟨m, hm, rfl⟩
    exact (hargs _ h1).unren (List.all_eq_true.1 hai m hm) avE
  have hcall := spec.out B0 _ w s0 hargs0
  have hvs : (args0.map (M.den fun j => σ (ρ j))) = args.map (M.den σ) := by
    rw [← ha, List.map_map]
    exact List.map_congr_left fun m _ => (M.den_ren ρ σ m).symm
  rw [hvs] at hcall
  refine hcall.mono ?_
  rintro e1 w1 ⟨σ1, n1, m, h1, rfl, hR, hn1, hσ1, s1, hm, -⟩
  obtain ⟨hq, hK⟩ := hK n1 m h1 hR
  let σ2 : Nat → Nat := fun j => if j < n then σ j else σ1 (n0 + (j - n))
  have e2 : ∀ j, j < n1 → σ2 (tau ρ n0 n j) = σ1 j := fun j hj => by
    by_cases hlt : j < n0
    · rw [tau_lo hlt]
      show (if ρ j < n then σ (ρ j) else _) = _
      rw [if_pos (hρ j hlt)]
      exact hσ1 j hlt
    · rw [tau_hi hlt]
      show (if n + (j - n0) < n then _ else σ1 (n0 + (n + (j - n0) - n))) = _
      rw [if_neg (by omega)]
      congr 1
      omega
  have e3 : ∀ j, j < n → σ2 j = σ j := fun j hj => if_pos hj
  have tl : ∀ j, j < n1 → tau ρ n0 n j < n + (n1 - n0) := fun j hj => by
    by_cases hlt : j < n0
    · rw [tau_lo hlt]; have := hρ j hlt; omega
    · rw [tau_hi hlt]; omega
  -- the blocks behind the call
  have split : ∀ q k, get (renH (tau ρ n0 n) h1 ++ delL (h0.map fun p => ρ p.1) h) q = some k →
      (∃ j k0, get h1 j = some k0 ∧ tau ρ n0 n j = q ∧ k = k0.ren (tau ρ n0 n)) ∨ (get h q = some k ∧ ∀ j k', get h0 j = some k' → q ≠ ρ j) := by
    intro q k hk
    rcases get_append hk with hk | hk
    · exact .inl (get_renH hk)
    · obtain ⟨g1, g2⟩ := get_delL hk
      refine .inr ⟨g1, fun j k' hj he => g2 ?_⟩
      rw [he]
      exact List.mem_map.2 ⟨(j, k'), get_mem hj, rfl⟩
  have apart : ∀ q k b, get h q = some k → k.occ (σ q) b → (∀ j k', get h0 j = some k' → q ≠ ρ j) → ¬ own0 b := by
    rintro q k b hq hr hne ⟨j, k', hj, hr'⟩
    obtain ⟨b0, g1, g2, _⟩ := impH_spec hh j k' hj
    exact hne j k' hj (s.injO _ _ _ _ b hq g1 hr (Blk.imp_occ g2 hr'))
  have bnot : ∀ b, B.av b → ¬ own0 b := by
    intro b hb ho
    obtain ⟨j0, k0, hj, hr⟩ := ownT b ho
    have := s.avlt _ hb
    exact this.2 (s.ownO _ _ b hj hr this.1)
  have av2 : ∀ b, avoids B σ2 (renH (tau ρ n0 n) h1 ++ delL (h0.map fun p => ρ p.1) h) b → avoids B0 σ1 h1 b := by
    rintro b (hb | ⟨q, k, hqk, hr⟩)
    · exact .inl ⟨.inl hb, bnot b hb⟩
    · rcases split q k hqk with ⟨j, k0, hj, rfl, rfl⟩ | ⟨hq, hne⟩
      · rw [e2 j (s1.lt _ _ hj)] at hr
        exact .inr ⟨j, k0, hj, Blk.ren_occ.1 hr⟩
      · rw [e3 q (s.lt _ _ hq)] at hr
        exact .inl ⟨.inr ⟨q, k, hq, hr⟩, apart q k b hq hr hne⟩
  have keep : ∀ b, b < w.heap.size → ¬ avoids B σ h b → ¬ avoids B σ2 (renH (tau ρ n0 n) h1 ++ delL (h0.map fun p => ρ p.1) h) b ∧ w1.heap[b]? = w.heap[b]? := by
    intro b hb hna
    refine ⟨?_, s1.frame.block b hb fun ho => hna (ownA b ho)⟩
    rintro (hb' | ⟨q, k, hqk, hr⟩)
    · exact hna (.inl hb')
    · rcases split q k hqk with ⟨j, k0, hj, rfl, rfl⟩ | ⟨hq, hne⟩
      · rw [e2 j (s1.lt _ _ hj)] at hr
        exact hna (ownA _ (s1.ownO _ _ b hj (Blk.ren_occ.1 hr) hb))
      · rw [e3 q (s.lt _ _ hq)] at hr
        exact hna (.inr ⟨q, k, hq, hr⟩)
  refine ⟨σ2, n + (n1 - n0), _, _, by rw [hm.den_eq e2], hK, by omega, fun j hj => (e3 j hj).symm, ?_, hm.ren tl av2, keep⟩
  refine ⟨⟨s1.frame.os.trans s.frame.os, s1.frame.tape.trans s.frame.tape, s1.frame.output.trans s.frame.output, Nat.le_trans s.frame.size s1.frame.size, fun b hb hmay => ?_, s.frame.gok⟩, s.avlt, Nat.le_trans s.kn (by omega),
    fun j hj => (e3 j (Nat.lt_of_lt_of_le hj s.kn)).trans (s.anch j hj), ?_, ?_, ?_, ?_, ?_⟩
  · rw [s1.frame.block b (Nat.lt_of_lt_of_le hb s.frame.size) fun ho => ?_]
    · exact s.frame.block b hb hmay
    · obtain ⟨j0, k0, hj, hr⟩ := ownT b ho
      exact hmay (s.ownO _ _ b hj hr hb)
  · intro q k hqk
    rcases split q k hqk with ⟨j, k0, hj, rfl, rfl⟩ | ⟨hq, hne⟩
    · exact tl j (s1.lt _ _ hj)
    · have := s.lt _ _ hq; omega
  · intro p q k k' b hp hq' hr hr'
    have mix : ∀ j k0 q k', get h1 j = some k0 → k0.occ (σ1 j) b → get h q = some k' → k'.occ (σ q) b → (∀ j k', get h0 j = some k' → q ≠ ρ j) → False := by
      intro j k0 q k' hj hr hq hr' hne
      have := s1.ownO _ _ b hj hr (s.occ_lt hq hr')
      exact apart q k' b hq hr' hne this
    rcases split p k hp with ⟨j, k0, hj, rfl, rfl⟩ | ⟨hp1, hne⟩
    · rcases split q k' hq' with ⟨i, k1, hi, rfl, rfl⟩ | ⟨hq1, hne⟩
      · rw [e2 j (s1.lt _ _ hj)] at hr
        rw [e2 i (s1.lt _ _ hi)] at hr'
        rw [s1.injO _ _ _ _ b hj hi (Blk.ren_occ.1 hr) (Blk.ren_occ.1 hr')]
      · rw [e2 j (s1.lt _ _ hj)] at hr
        rw [e3 q (s.lt _ _ hq1)] at hr'
        exact (mix j k0 q k' hj (Blk.ren_occ.1 hr) hq1 hr' hne).elim
    · rcases split q k' hq' with ⟨i, k1, hi, rfl, rfl⟩ | ⟨hq1, hne'⟩
      · rw [e3 p (s.lt _ _ hp1)] at hr
        rw [e2 i (s1.lt _ _ hi)] at hr'
        exact (mix i k1 p k hi (Blk.ren_occ.1 hr') hp1 hr hne).elim
      · rw [e3 p (s.lt _ _ hp1)] at hr
        rw [e3 q (s.lt _ _ hq1)] at hr'
        exact s.injO _ _ _ _ b hp1 hq1 hr hr'
  · intro q k b hqk hr hb
    rcases split q k hqk with ⟨j, k0, hj, rfl, rfl⟩ | ⟨hq, hne⟩
    · rw [e2 j (s1.lt _ _ hj)] at hr
      obtain ⟨j0, k1, g1, g2⟩ := ownT _ (s1.ownO _ _ b hj (Blk.ren_occ.1 hr) (Nat.lt_of_lt_of_le hb s.frame.size))
      exact s.ownO _ _ b g1 g2 hb
    · rw [e3 q (s.lt _ _ hq)] at hr
      exact s.ownO _ _ b hq hr hb
  · intro q k hqk
    rcases split q k hqk with ⟨j, k0, hj, rfl, rfl⟩ | ⟨hq', hne⟩
    · rw [e2 j (s1.lt _ _ hj)]
      exact (s1.holds _ _ hj).ren (s1.ok _ _ hj) (quietH_get hq hj) e2
    · refine (s.holds _ _ hq').of_block (s.ok _ _ hq') (fun j hj => (e3 j hj).symm) (fun _ => e3 q (s.lt _ _ hq')) fun c hr => ?_
      exact s1.frame.block _ (s.occ_lt hq' hr) (apart q k c hq' hr hne)
  · intro q k hqk
    rcases split q k hqk with ⟨j, k0, hj, rfl, rfl⟩ | ⟨hq', hne⟩
    · exact (s1.ok _ _ hj).ren (quietH_get hq hj) tl av2
    · exact (s.ok _ _ hq').mono (by omega) keep
end
end Go.Sx
