/- Calls of functions whose bodies are stepped through in place; own slices lent to a function that only looks. Holds for every program. -/
import Derived.Test.YtgbikcniediomaaSx21
namespace Go.Sx
set_option linter.unusedSimpArgs false
set_option linter.unusedVariables false

/-! ### Lending -/

def SV.flat : SV → Bool
  | .v _ => true
  | .ints .. => true
  | _ => false

def M.flat : M → Bool
  | .one s => s.flat
  | .agg l => l.all SV.flat
  | .tup l => flatT l
where flatT : List M → Bool
  | [] => true
  | m :: r => m.flat && flatT r

def lendK (h : Bs) : List M → (List M → Prop) → Prop
  | [], K => K []
  | m :: r, K => match m with
    | .one (.slc j es off len cap) => (match get h j with
      | some (.row es' enc l _) => bif Nat.beq es es' then off + len ≤ l.length ∧ len ≤ cap ∧ (∀ y, (enc y).all SV.isPure = true) ∧ ∀ x, lendK h r fun ms => K (.one (.view x es enc.enc ((l.drop off).take len)) :: ms) else False
      | _ => False)
    | .one (.nslc j es len cap) => (match get h j with
      | some (.row es' enc l cap') => bif Nat.beq es es' then len ≤ l.length ∧ len ≤ cap ∧ cap = cap' ∧ (∀ y, (enc y).all SV.isPure = true) ∧ ∀ x, lendK h r fun ms => K (.one (.view x es enc.enc (l.take len)) :: ms) else False
      | _ => False)
    | .one (.asl j off i len cap) => (match get h j with
      | some (.cells l) => chunkK l off fun k n il => i + len ≤ n ∧ len ≤ cap ∧ ∀ x, lendK h r fun ms => K (.one (.view x 1 (fun b : Int => [.v (.int k b)]) ((il.drop i).take len)) :: ms)
      | _ => False)
    | .one (.ptr j off) => (match get h j with
      | some (.cells l) => bif Nat.beq off 0 && l.all SV.isPure then ∀ b : Nat, lendK h r fun ms => K (.one (.rptr ⟨b, 0, none⟩ l) :: ms) else False
      | _ => False)
    | m => bif m.pure then lendK h r fun ms => K (m :: ms) else False

def callL (G : GT) : CallT := fun f args n h K =>
  bif args.all M.pure then G.g f args fun m => K n m h
  else lendK h args fun ms => G.g f ms fun m => bif m.flat then K n m h else False

section
variable {P : Program} {tt : Tab} {B : Base} {σ : Nat → Nat} {n : Nat} {h : Bs} {w : World}

theorem M.flatT_mem : ∀ {l : List M}, M.flat.flatT l = true → ∀ m ∈ l, m.flat = true
  | [], _, m, hm => by cases hm
  | x :: r, h, m, hm => by
    simp only [M.flat.flatT, Bool.and_eq_true] at h
    rcases List.mem_cons.1 hm with rfl | hm
    · exact h.1
    · exact M.flatT_mem h.2 m hm

theorem SV.Ok.of_flat {av av' : Nat → Prop} {n n' : Nat} {w w' : World} {s : SV} (h : s.Ok w av n) (hf : s.flat = true) : s.Ok w' av' n' := by
  cases h with
  | v h => exact .v h
  | ints h => exact .ints h
  | _ => cases hf

theorem M.Ok.of_flat {av av' : Nat → Prop} {n n' : Nat} {w w' : World} : ∀ {m : M}, m.Ok w av n → m.flat = true → m.Ok w' av' n'
  | .one s, h, hf => by cases h with | one h9 h => exact .one h9 (h.of_flat hf)
  | .agg l, h, hf => by cases h with | agg h => exact .agg fun s hs => (h s hs).of_flat (List.all_eq_true.1 hf s hs)
  | .tup l, h, hf => by cases h with | tup h => exact .tup fun m hm => M.Ok.of_flat (h m hm) (M.flatT_mem hf m hm)

theorem view_ok {j es off len cap : Nat} {α : Type} {enc : Enc α} {l : List α} {cap' : Nat} (hb : (Blk.row es enc l cap').holds σ w (σ j)) (hok : (Blk.row es enc l cap').Ok w (avoids B σ h) n) (h1 : off + len ≤ l.length) (h2 : len ≤ cap) (hp : ∀ y, (enc y).all SV.isPure = true) :
    (SV.view (.slice (some ⟨σ j, off * es, none⟩) len cap) es enc ((l.drop off).take len)).Ok w (fun _ => False) 0 := by
  obtain ⟨hlc, hes, hb⟩ := hb
  have hmem : ∀ y ∈ (l.drop off).take len, y ∈ l := fun y hy => List.mem_of_mem_drop (List.mem_of_mem_take hy)
  have hlen : ((l.drop off).take len).length = len := by simp; omega
  have hpp : ∀ (y : α), ∀ s ∈ enc y, s.isPure = true := fun y => List.all_eq_true.1 (hp y)
  have e : (SV.view (.slice (some ⟨σ j, off * es, none⟩) len cap) es enc ((l.drop off).take len)) = .view (.slice (some ⟨σ j, off * es, none⟩) ((l.drop off).take len).length cap) es enc ((l.drop off).take len) := by rw [hlen]
  rw [e]
  refine .view (by rw [hlen]; exact h2) (fun y hy => ?_) (fun y _ => hpp y) (fun y hy s hs => (hok y (hmem y hy) s hs).of_pure (hpp y s hs) fun _ h => h.elim) fun i k hi u hu => ?_
  · rw [denL_pure (hpp y) nowhere σ]; exact hes y (hmem y hy)
  · have hi' : off + i < l.length := by rw [hlen] at hi; omega
    have hc : 0 < cap' := by omega
    obtain ⟨c, t, f, g1, g2, g3, g4⟩ := hb hc
    refine ⟨_, _, rfl, fun h => h, ?_⟩
    have ge : ((l.drop off).take len)[i] = l[off + i] := by simp
    rw [ge, denL_pure (hpp _) nowhere σ] at hu
    have := g4 (off + i) k hi' u hu
    rw [cell_of_cells g1, show off * es + (i * es + k) = (off + i) * es + k by rw [Nat.add_mul]; omega]
    exact this

theorem lendK_sound (s : Mem B σ n h w) : ∀ {args : List M} {K : List M → Prop}, (∀ m ∈ args, m.Ok w (avoids B σ h) n) → lendK h args K →
    ∃ ms, K ms ∧ ms.map (M.den σ) = args.map (M.den σ) ∧ (∀ m ∈ ms, m.Ok w (fun _ => False) 0)
  | [], K, _, hk => ⟨[], hk, rfl, fun _ h => by cases h⟩
  | m :: r, K, hok, hk => by
    have hr : ∀ m ∈ r, m.Ok w (avoids B σ h) n := fun x hx => hok x (by simp [hx])
    have hm := hok m (by simp)
    unfold lendK at hk
    split at hk
    · rename_i j es off len cap
      split at hk
      · rename_i es' α enc l cap' hj
        obtain ⟨hb, h1, h2, h3, hk1⟩ := cond_false_elim hk
        have := Nat.eq_of_beq_eq_true hb
        subst this
        obtain ⟨ms, a1, a2, a3⟩ := lendK_sound s (args := r) hr (hk1 (.slice (some ⟨σ j, off * es, none⟩) len cap))
        refine ⟨_, a1, by simp only [List.map_cons, a2]; rfl, ?_⟩
        simp only [List.mem_cons, forall_eq_or_imp]
        exact ⟨.one rfl (view_ok (s.holds j _ hj) (s.ok j _ hj) h1 h2 h3), a3⟩
      · exact hk.elim
    · rename_i j es len cap
      split at hk
      · rename_i es' α enc l cap' hj
        obtain ⟨hb, h1, h2, h4, h3, hk1⟩ := cond_false_elim hk
        have := Nat.eq_of_beq_eq_true hb
        subst this
        subst h4
        by_cases hc : cap = 0
        · subst hc
          have hl : len = 0 := by omega
          subst hl
          obtain ⟨ms, a1, a2, a3⟩ := lendK_sound s (args := r) hr (hk1 (.slice none 0 0))
          refine ⟨_, a1, by simp only [List.map_cons, a2]; rfl, ?_⟩
          simp only [List.mem_cons, forall_eq_or_imp]
          refine ⟨.one rfl ?_, a3⟩
          have e : (SV.view (.slice none 0 0) es enc (l.take 0)) = .view (.slice none (l.take 0).length 0) es enc (l.take 0) := by simp
          rw [e]
          exact .view (by simp) (by simp) (by simp) (by simp) (by simp)
        · obtain ⟨ms, a1, a2, a3⟩ := lendK_sound s (args := r) hr (hk1 (.slice (some ⟨σ j, 0, none⟩) len cap))
          refine ⟨_, a1, ?_, ?_⟩
          · simp only [List.map_cons, a2]
            simp [M.den, SV.den, hc]
          simp only [List.mem_cons, forall_eq_or_imp]
          have := view_ok (off := 0) (len := len) (cap := cap) (s.holds j _ hj) (s.ok j _ hj) (by omega) h2 h3
          simp only [Nat.zero_mul, List.drop_zero] at this
          exact ⟨.one rfl this, a3⟩
      · exact hk.elim
    · rename_i j off i len cap
      split at hk
      · rename_i l hj
        obtain ⟨k, q, il, ⟨h1, h2, hk⟩, h3, h4⟩ := chunkK_spec l off _ (s.ok j _ hj) hk
        obtain ⟨ms, a1, a2, a3⟩ := lendK_sound s (args := r) hr (hk (.slice (some ⟨σ j, off + i, none⟩) len cap))
        refine ⟨_, a1, by simp only [List.map_cons, a2]; rfl, ?_⟩
        simp only [List.mem_cons, forall_eq_or_imp]
        refine ⟨.one rfl ?_, a3⟩
        have hlen : ((il.drop i).take len).length = len := by simp; omega
        have e : ∀ en : Int → List SV, (SV.view (.slice (some ⟨σ j, off + i, none⟩) len cap) 1 en ((il.drop i).take len)) = .view (.slice (some ⟨σ j, off + i, none⟩) ((il.drop i).take len).length cap) 1 en ((il.drop i).take len) := by intro en; rw [hlen]
        rw [e]
        obtain ⟨t, f, g1, g2⟩ := s.holds j _ hj
        refine .view (by rw [hlen]; exact h2) (fun _ _ => rfl) (fun y _ s hs => by rw [List.mem_singleton] at hs; subst hs; rfl) (fun y _ s hs => by rw [List.mem_singleton] at hs; subst hs; exact .v rfl) fun a b ha u hu => ?_
        refine ⟨_, _, rfl, fun h => h, ?_⟩
        have hb0 : b = 0 := by
          have := (List.getElem?_eq_some_iff.1 hu).1
          have e1 : (denL nowhere [SV.v (Value.int k ((il.drop i).take len)[a])]).length = 1 := rfl
          omega
        subst hb0
        have hu : some (Value.int k ((il.drop i).take len)[a]) = some u := hu
        cases hu
        rw [hlen] at ha
        rw [cell_of_cells g1]
        have := h4 σ (i + a) (by omega)
        simp only [List.getElem?_toArray]
        rw [show off + i + (a * 1 + 0) = off + (i + a) by omega, this]
        simp
      · exact hk.elim
    · rename_i j off
      split at hk
      · rename_i l hj
        obtain ⟨hb, hk1⟩ := cond_false_elim hk
        simp only [Bool.and_eq_true] at hb
        have h0 := Nat.eq_of_beq_eq_true hb.1
        subst h0
        have hp := List.all_eq_true.1 hb.2
        obtain ⟨ms, a1, a2, a3⟩ := lendK_sound s (args := r) hr (hk1 (σ j))
        refine ⟨_, a1, by simp only [List.map_cons, a2]; rfl, ?_⟩
        simp only [List.mem_cons, forall_eq_or_imp]
        refine ⟨.one rfl (.rptr hp (fun x hx => (s.ok j _ hj x hx).of_pure (hp x hx) fun _ h => h.elim) fun k u hu => ⟨fun h => h, ?_⟩), a3⟩
        obtain ⟨t, f, g1, g2⟩ := s.holds j _ hj
        rw [denL_pure hp nowhere σ] at hu
        rw [cell_of_cells g1, Nat.zero_add]
        simpa using hu
      · exact hk.elim
    · obtain ⟨hb, hk⟩ := cond_false_elim hk
      obtain ⟨ms, a1, a2, a3⟩ := lendK_sound s hr hk
      refine ⟨_, a1, by simp only [List.map_cons, a2], ?_⟩
      simp only [List.mem_cons, forall_eq_or_imp]
      exact ⟨hm.of_pure (fun _ h => h.elim) hb, a3⟩

theorem callL_ok {G : GT} (hG : GOK P G) : COK P (callL G) := fun f args n h K hk => by
  unfold callL at hk
  cases hp : args.all M.pure with
  | true =>
    rw [hp] at hk
    obtain ⟨m, h1, h2, h3⟩ := hG.1 f args _ hk
    exact h2.use h3 h1
  | false =>
    rw [hp] at hk
    refine ⟨fun B σ w s hargs => ?_⟩
    · obtain ⟨ms, hk, he, hok⟩ := lendK_sound s hargs hk
      obtain ⟨m, h1, h2, h3⟩ := hG.1 f ms _ hk
      obtain ⟨hfl, h1⟩ := cond_false_elim h1
      have s0 : Mem ⟨w, fun _ => False, fun _ => False, 0, σ⟩ σ 0 [] w :=
        ⟨Frame.refl _ _ _ _ _ (fun g k l hg => ⟨(s.glob_not hg).1, fun h1 => h1, fun h1 => h1⟩), fun _ h => h.elim, Nat.le_refl _, fun _ h => absurd h (Nat.not_lt_zero _), fun _ _ h => by (cases h), fun _ _ _ _ _ h => by (cases h), fun _ _ _ h => by (cases h), fun _ _ h => by (cases h), fun _ _ h => by (cases h)⟩
      rw [← he]
      refine (h2.spec.out _ σ w s0 fun m hm => (hok m hm).of_pure (fun b hb => ?_) (List.all_eq_true.1 h3 m hm)).mono ?_
      · rcases hb with hb | ⟨j, k, hj, _⟩
        · exact hb
        · cases hj
      rintro e1 w1 ⟨σ', n', m', h', rfl, ⟨rfl, hf⟩, _, _, s1, hm1, _⟩
      have hb : ∀ b, b < w.heap.size → w1.heap[b]? = w.heap[b]? := fun b hb => s1.frame.block b hb (fun h => h)
      refine ⟨σ, n, _, h, by rw [M.den_pure σ' σ hf], h1, Nat.le_refl _, fun _ _ => rfl, ?_, hm1.of_flat hfl, fun b hb' hav => ⟨hav, hb b hb'⟩⟩
      refine ⟨⟨s1.frame.os.trans s.frame.os, s1.frame.tape.trans s.frame.tape, s1.frame.output.trans s.frame.output, Nat.le_trans s.frame.size s1.frame.size, fun b hb' hm => ?_, s.frame.gok⟩, s.avlt, s.kn, s.anch, s.lt, s.injO, s.ownO, fun j k hj => ?_, fun j k hj => ?_⟩
      · rw [hb b (Nat.lt_of_lt_of_le hb' s.frame.size)]; exact s.frame.block b hb' hm
      · exact (s.holds j k hj).of_block (s.ok j k hj) (fun _ _ => rfl) (fun _ => rfl) fun c hr => hb _ (s.occ_lt hj hr)
      · exact (s.ok j k hj).mono (Nat.le_refl _) fun b hb' hav => ⟨hav, hb b hb'⟩
end

/-! ### Bodies in place -/

structure Inl : Type 1 where
  fn : Func
  un : Bool
  inv : List (Nat × Inv)
  lab : List (Nat × (Nat × Inv))

def IOK (P : Program) (l : List (Nat × Inl)) : Prop := ∀ p ∈ l, P.funcs[p.1]? = some p.2.fn ∧ ∀ (vs : Array Value) (w : World), (callFunc p.1 vs).run P w = .ok (.enter p.1 vs) w

theorem IOK.nil {P : Program} : IOK P [] := fun _ h => by cases h

theorem IOK.cons {P : Program} {f : Nat} {i : Inl} {l : List (Nat × Inl)} (h1 : P.funcs[f]? = some i.fn) (h2 : ∀ (vs : Array Value) (w : World), (callFunc f vs).run P w = .ok (.enter f vs) w) (hl : IOK P l) : IOK P ((f, i) :: l) := fun p hp => by
  rcases List.mem_cons.1 hp with rfl | hp
  · exact ⟨h1, h2⟩
  · exact hl p hp

def cc (G : GT) (tt : Tab) (inl : List (Nat × Inl)) : Nat → CallT
  | 0 => fun _ _ _ _ _ => False
  | d + 1 => fun f args n h K => match get inl f with
    | some i => (match i.fn.body with
      | some c => bif Nat.ble args.length i.fn.ntmps then xc (cc G tt inl d) G tt i.fn.ntmps n i.un i.inv i.lab 1000 c (finQ tt i.fn.results.toList K) n (params 0 args) h else False
      | none => False)
    | none => callL G f args n h K

section
variable {P : Program} {tt : Tab}

theorem cc_ok {G : GT} (hD : GDet G) (hG : GOK P G) (hT : TOK P tt) (hm : P.follows .mixedOrders = true) {inl : List (Nat × Inl)} (hI : IOK P inl) : ∀ d, COK P (cc G tt inl d)
  | 0 => fun _ _ _ _ _ hk => hk.elim
  | d + 1 => fun f args n h K hk => by
    unfold cc at hk
    split at hk
    · rename_i i hi
      obtain ⟨h1, h2⟩ := hI _ (get_mem hi)
      split at hk
      · rename_i c hc
        obtain ⟨hb, hk⟩ := cond_false_elim hk
        exact SCall.body hT h2 h1 hc (Nat.le_of_ble_eq_true hb) (xc_sound (cc_ok hD hG hT hm hI d) hD hG hT hm 1000 _ _ _ _ _ hk)
      · exact hk.elim
    · exact callL_ok hG f args n h K hk

theorem SFun.inl (tb : Spec) (hS : SOK P tb) (hT : TOK P tt) (hm : P.follows .mixedOrders = true) (inl : List (Nat × Inl)) (hI : IOK P inl) (un : Bool) (inv : List (Nat × Inv)) (lab : List (Nat × (Nat × Inv))) {f : Nat} {fn : Func} {c : Code} {args : List M} {res : M}
    (hentry : ∀ (vs : Array Value) (w : World), (callFunc f vs).run P w = .ok (.enter f vs) w)
    (hf : P.funcs[f]? = some fn) (hb : fn.body = some c) (hl : Nat.ble args.length fn.ntmps = true)
    (hx : xc (cc (gt tb) tt inl 40) (gt tb) tt fn.ntmps 0 un inv lab 1000 c (finQ tt fn.results.toList fun _ m _ => m = res ∧ m.pure = true) 0 (params 0 args) []) : SFun P f args res :=
  ⟨SCall.body hT hentry hf hb (Nat.le_of_ble_eq_true hl) (xc_sound (cc_ok hS.det hS.ok hT hm hI 40) hS.det hS.ok hT hm 1000 _ _ _ _ _ hx)⟩
end

/-! ### One call of a function, its answer by a name -/

end Go.Sx
