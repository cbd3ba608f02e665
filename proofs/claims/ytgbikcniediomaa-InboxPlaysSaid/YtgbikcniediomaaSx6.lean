/- That the computation of an operation that leaves memory alone is what the model does. Holds for every program. -/
import Derived.Test.YtgbikcniediomaaSx5
namespace Go.Sx
set_option linter.unusedSimpArgs false
set_option linter.unusedVariables false

section
variable {P : Program} {tt : Tab} {B : Base} {nt : Nat} {σ : Nat → Nat} {n : Nat} {e : Env} {h : Bs} {a : Act} {w : World}

theorem ty_spec {t : Nat} {K : TI → Prop} (hk : ty tt t K) : ∃ ti, get tt t = some ti ∧ K ti := by
  unfold ty at hk
  split at hk
  · exact ⟨_, ‹_›, hk⟩
  · exact hk.elim

theorem ev_sound (s : Sat B nt σ n e h a w) {x : Operand} {K : M → Prop} (hk : ev e x K) : ∃ m, K m ∧ a.eval x = m.den σ ∧ m.Ok w (avoids B σ h) n := by
  unfold ev at hk
  cases x with
  | tmp t =>
    simp only at hk
    split at hk
    · rename_i m hm
      exact ⟨m, hk, s.env t m hm, s.ok t m hm⟩
    · exact hk.elim
  | const v =>
    simp only [constK] at hk
    cases v <;> first | exact hk.elim | exact ⟨_, hk, rfl, .one rfl (.v rfl)⟩
  | global g =>
    simp only at hk
    split at hk
    · rename_i k l hg
      exact ⟨_, hk, rfl, .one rfl (s.mem.glob hg)⟩
    · exact ⟨_, hk, rfl, .one rfl (.v rfl)⟩
  | func f => exact ⟨_, hk, rfl, .one rfl (.clo (by simp))⟩

theorem idx_spec {m : M} {K : Nat → Prop} (hk : idx m K) : ∃ kk k, m = .one (.v (.int kk ((k : Nat) : Int))) ∧ K k := by
  unfold idx at hk
  split at hk
  · rename_i kk i
    exact ⟨kk, i.toNat, by rw [Int.toNat_of_nonneg hk.1], hk.2⟩
  · exact hk.elim

theorem TRow.run_isAgg {t : Nat} {ti : TI} (r : TRow P t ti) (hk : ti.kind ≠ .other) (w : World) : (isAgg t).run P w = .ok ti.agg w := by
  obtain ⟨d, hd, hf⟩ := r.und
  simp only [isAgg, Sem.run_bind, run_underlying hd, Result.andThen_ok]
  have := hk
  cases hkd : ti.kind <;> simp only [hkd] at hf this <;> cases d <;> simp only [TK.fits] at hf <;> first | exact absurd rfl this | exact hf.elim | simp [TI.agg, hkd]

theorem TRow.run_sizeOf {t : Nat} {ti : TI} (r : TRow P t ti) (w : World) : (sizeOf t).run P w = .ok ti.size w := by
  obtain ⟨i, hi, hs, _⟩ := r.info
  simp [sizeOf, typeInfo, hi, hs]

theorem TRow.cellsOf {t : Nat} {ti : TI} (r : TRow P t ti) : P.cellsOf t = ti.size := by
  obtain ⟨i, hi, hs, _⟩ := r.info
  simp [Program.cellsOf, hi, hs]

theorem TRow.zok {t : Nat} {ti : TI} (r : TRow P t ti) (w : World) (av : Nat → Prop) (n : Nat) : ∀ s ∈ ti.zero, s.Ok w av n := by
  intro s hs
  have := List.all_eq_true.1 r.zero s hs
  cases s <;> simp only [SV.zeroB] at this <;> first | exact .v this | exact .ints (Nat.eq_of_beq_eq_true this) | cases this

theorem TRow.zpure {t : Nat} {ti : TI} (r : TRow P t ti) : ∀ s ∈ ti.zero, s.isPure = true := by
  intro s hs
  have := List.all_eq_true.1 r.zero s hs
  cases s <;> simp only [SV.zeroB] at this <;> first | rfl | cases this

theorem run_loadVar_at {t : Nat} {ti : TI} (r : TRow P t ti) (hk : ti.kind ≠ .other) {b o : Nat} {cs : List Value} (hl : cs.length = ti.size) (hc : ∀ j u, cs[j]? = some u → w.cell? ⟨b, o + j, none⟩ = some u)
    (h1 : ti.agg = false → ti.size = 1) : (loadVar t ⟨b, o, none⟩).run P w = .ok (if ti.agg then .agg cs.toArray else cs.headD undef) w := by
  have hag := r.run_isAgg hk w
  simp only [loadVar, Sem.run_bind, hag, Result.andThen_ok, Sem.run_ite]
  cases ha : ti.agg with
  | true =>
    have hlc : (loadCells ⟨b, o, none⟩ ti.size).run P w = .ok cs.toArray w := by
      rw [← hl]
      refine run_loadCells_list w ⟨b, o, none⟩ cs fun j v hj => ?_
      have hadd : (⟨b, o, none⟩ : Addr).add j = ⟨b, o + j, none⟩ := by unfold Addr.add; split <;> simp_all
      rw [hadd]; exact hc j v hj
    simp [r.run_sizeOf, hlc]
  | false =>
    have hs := h1 ha
    match cs, hl with
    | [u], _ =>
      have := hc 0 u rfl
      simp only [Nat.add_zero] at this
      simp [Go.load, Sem.run, this]
    | [], hl => rw [hs] at hl; simp at hl
    | _ :: _ :: _, hl => rw [hs] at hl; simp at hl

theorem cell_of_cells {b off : Nat} {c : Array Value} {t : TypeId} {f : Nat × Nat} (hb : w.heap[b]? = some (.cells c t f)) : w.cell? ⟨b, off, none⟩ = c[off]? := by
  simp [World.cell?, hb]

theorem ldK_spec {t : Nat} {ti : TI} (r : TRow P t ti) {av : Nat → Prop} {l : List SV} (hl : ∀ s ∈ l, s.Ok w av n) {off : Nat} {K : M → Prop} (hk : ldK ti l off K) :
    ∃ m, K m ∧ m.Ok w av n ∧ (∀ x, (part t (denL σ l).toArray off).run P x = .ok (m.den σ) x) ∧
      ∀ b o, (∀ j u, (denL σ l)[j]? = some u → w.cell? ⟨b, o + j, none⟩ = some u) → (loadVar t ⟨b, o + off, none⟩).run P w = .ok (m.den σ) w := by
  have sub : ∀ K' : List SV → Prop, subK l off ti.size K' → ti.agg = true → ∃ l', K' l' ∧ (M.agg l').Ok w av n ∧
      (∀ x, (part t (denL σ l).toArray off).run P x = .ok ((M.agg l').den σ) x) ∧
      ∀ b o, (∀ j u, (denL σ l)[j]? = some u → w.cell? ⟨b, o + j, none⟩ = some u) → (loadVar t ⟨b, o + off, none⟩).run P w = .ok ((M.agg l').den σ) w := by
    intro K' h1 ha
    obtain ⟨l', a1, a2, a3, a4, _⟩ := subK_spec l off ti.size K' hl h1
    have hlen : (denL σ l').length = ti.size := by rw [denL_length a4, a3]
    have hko : ti.kind ≠ .other := by intro h0; simp [TI.agg, h0] at ha
    refine ⟨l', a1, .agg a4, fun x => ?_, fun b o hc => ?_⟩
    · simp only [part, Sem.run_bind, r.run_isAgg hko x, Result.andThen_ok, ha, if_true, r.run_sizeOf x, Sem.run_pure]
      congr 1
      simp only [M.den]
      rw [a2]
      simp [List.extract_eq_take_drop]
    · rw [run_loadVar_at r hko hlen (fun j u hj => ?_) (fun h0 => by rw [ha] at h0; cases h0), ha, if_pos rfl]
      · rfl
      · rw [a2, List.getElem?_take] at hj
        split at hj
        · rw [List.getElem?_drop] at hj
          rw [Nat.add_assoc]; exact hc _ u hj
        · cases hj
  have one : ∀ K' : M → Prop, (bif Nat.beq ti.size 1 then nthK l off fun s => K' (.one s) else False) → ti.agg = false → ti.kind ≠ .other →
      ∃ m, K' m ∧ m.Ok w av n ∧ (∀ x, (part t (denL σ l).toArray off).run P x = .ok (m.den σ) x) ∧
      ∀ b o, (∀ j u, (denL σ l)[j]? = some u → w.cell? ⟨b, o + j, none⟩ = some u) → (loadVar t ⟨b, o + off, none⟩).run P w = .ok (m.den σ) w := by
    intro K' h1 ha hko
    obtain ⟨h2, h3⟩ := cond_false_elim h1
    have hs : ti.size = 1 := Nat.eq_of_beq_eq_true h2
    obtain ⟨s, a1, a2, a3, a4, _⟩ := nthK_spec l off _ hl h3
    refine ⟨.one s, a1, .one a2 a3, fun x => ?_, fun b o hc => ?_⟩
    · simp only [part, Sem.run_bind, r.run_isAgg hko x, Result.andThen_ok, ha, Bool.false_eq_true, if_false, List.getElem?_toArray, a4 σ, Sem.run_pure]
      rfl
    · rw [run_loadVar_at r hko (cs := [s.den σ]) (by simp [hs]) (fun j u hj => ?_) (fun _ => hs), ha]
      · rfl
      · cases j with
        | zero => simp at hj; subst hj; exact hc off _ (a4 σ)
        | succ j => simp at hj
  unfold ldK at hk
  split at hk
  · rename_i h0; obtain ⟨l', b1, b2⟩ := sub _ hk (by simp [TI.agg, h0]); exact ⟨_, b1, b2⟩
  · rename_i h0; obtain ⟨l', b1, b2⟩ := sub _ hk (by simp [TI.agg, h0]); exact ⟨_, b1, b2⟩
  · exact hk.elim
  · rename_i h0 h1 h2
    exact one K hk (by cases hkd : ti.kind <;> simp_all [TI.agg]) (by intro h3; exact h2 h3)

theorem ldK_sound {t : Nat} {ti : TI} (r : TRow P t ti) {av : Nat → Prop} {l : List SV} (hl : ∀ s ∈ l, s.Ok w av n) {off : Nat} {K : M → Prop} (hk : ldK ti l off K) {b o : Nat}
    (hc : ∀ j u, (denL σ l)[j]? = some u → w.cell? ⟨b, o + j, none⟩ = some u) :
    ∃ m, K m ∧ (loadVar t ⟨b, o + off, none⟩).run P w = .ok (m.den σ) w ∧ m.Ok w av n := by
  obtain ⟨m, b1, b2, _, b4⟩ := ldK_spec (σ := σ) r hl hk
  exact ⟨m, b1, b4 b o hc, b2⟩

theorem ldK_part {t : Nat} {ti : TI} (r : TRow P t ti) {av : Nat → Prop} {l : List SV} (hl : ∀ s ∈ l, s.Ok w av n) {off : Nat} {K : M → Prop} (hk : ldK ti l off K) :
    ∃ m, K m ∧ m.Ok w av n ∧ (∀ x, (part t (denL σ l).toArray off).run P x = .ok (m.den σ) x) := by
  obtain ⟨m, b1, b2, b3, _⟩ := ldK_spec (σ := σ) r hl hk
  exact ⟨m, b1, b2, b3⟩

theorem Mem.cells_cell (s : Mem B σ n h w) {j : Nat} {l : List SV} (hj : get h j = some (.cells l)) (off : Nat) : w.cell? ⟨σ j, off, none⟩ = (denL σ l)[off]? := by
  obtain ⟨t, f, h1, _⟩ := s.holds j _ hj
  rw [cell_of_cells h1]; simp

theorem Mem.row_cell (s : Mem B σ n h w) {j es cap : Nat} {α : Type} {enc : Enc α} {l : List α} (hj : get h j = some (.row es enc l cap)) {i k : Nat} (hi : i < l.length) {u : Value}
    (hu : (denL σ (enc l[i]))[k]? = some u) : w.cell? ⟨σ j, i * es + k, none⟩ = some u := by
  obtain ⟨h4, _, h7⟩ := s.holds j _ hj
  obtain ⟨c, t, f, h1, _, _, h6⟩ := h7 (by omega)
  rw [cell_of_cells h1]; exact h6 i k hi u hu

theorem isBytes_den {α : Type} {enc : α → List SV} {l : List α} (hb : isBytes enc l) {x : α} (hx : x ∈ l) (σ : Nat → Nat) : denL σ (enc x) = [.int .u8 (num1 (enc x))] := by
  obtain ⟨b, hb⟩ := hb x hx
  rw [hb]; rfl

theorem rowArr_spec {ti : TI} {es k : Nat} (h : rowArr ti es k = true) : es = 1 ∧ k = 0 ∧ ti.agg = true ∧ ti.kind ≠ .other := by
  unfold rowArr at h
  split at h
  · rename_i hk
    simp only [Bool.and_eq_true] at h
    exact ⟨Nat.eq_of_beq_eq_true h.1, Nat.eq_of_beq_eq_true h.2.1, by simp [TI.agg, hk], by simp [hk]⟩
  · cases h

theorem loadK_sound (hT : TOK P tt) (s : Mem B σ n h w) {t : Nat} {ti : TI} (ht : get tt t = some ti) {p : M} (hp : p.Ok w (avoids B σ h) n) {K : M → Prop} (hk : loadK ti p h K) :
    ∃ m, K m ∧ (Instr.loadAt t (p.den σ)).run P w = .ok (m.den σ) w ∧ m.Ok w (avoids B σ h) n := by
  have r := hT t ti ht
  unfold loadK at hk
  split at hk
  · rename_i j off
    split at hk
    · rename_i l hj
      obtain ⟨m, b1, b2, b3⟩ := ldK_sound (σ := σ) r (s.ok j _ hj) hk (b := σ j) (o := 0) (fun i u hu => by rw [Nat.zero_add, s.cells_cell hj]; exact hu)
      refine ⟨m, b1, ?_, b3⟩
      simpa [Instr.loadAt, Instr.sureAddr, M.den, SV.den] using b2
    · exact hk.elim
  · rename_i j off k
    split at hk
    · rename_i l kk hj hkk
      obtain ⟨k', m, il, ⟨b1, b2⟩, b3, b4⟩ := chunkK_spec l off _ (s.ok j _ hj) hk
      have hil : k < il.length := by omega
      refine ⟨_, b2, ?_, .one rfl (.v rfl)⟩
      have hs : ti.size = 1 := by
        have := r.one
        simp only [TI.oneB, hkk] at this
        exact Nat.eq_of_beq_eq_true this
      have hl := run_loadVar_at (w := w) r (by rw [hkk]; simp) (b := σ j) (o := off + k) (cs := [.int k' il[k]]) (by simp [hs]) (fun i u hu => by
        cases i with
        | zero => simp at hu; subst hu; rw [Nat.add_zero, s.cells_cell hj]; exact b4 σ k hil
        | succ i => simp at hu) (fun _ => hs)
      have ha : ti.agg = false := by simp [TI.agg, hkk]
      rw [ha] at hl
      simpa [Instr.loadAt, Instr.sureAddr, M.den, SV.den, List.getD_eq_getElem?_getD, List.getElem?_eq_getElem hil] using hl
    · rename_i l kk _ hj hkk
      obtain ⟨m, b1, b2, b3⟩ := ldK_sound (σ := σ) r (s.ok j _ hj) hk (b := σ j) (o := 0) (fun i u hu => by rw [Nat.zero_add, s.cells_cell hj]; exact hu)
      refine ⟨m, b1, ?_, b3⟩
      simpa [Instr.loadAt, Instr.sureAddr, M.den, SV.den] using b2
    · exact hk.elim
  · rename_i j es i k
    split at hk
    · rename_i es' α enc l cap hj
      obtain ⟨h1, h2⟩ := cond_false_elim hk
      have hes : es = es' := Nat.eq_of_beq_eq_true h1
      subst hes
      cases hra : rowArr ti es k with
      | true =>
        rw [hra] at h2
        obtain ⟨h3, h4, h5⟩ := h2
        obtain ⟨rfl, rfl, ha, hko⟩ := rowArr_spec hra
        have hlen : (bytesOf enc.enc ((l.drop i).take ti.size)).length = ti.size := by simp [bytesOf]; omega
        refine ⟨_, h5, ?_, .agg (by intro x hx; rw [List.mem_singleton] at hx; subst hx; exact .ints hlen)⟩
        have hl := run_loadVar_at (w := w) r hko (b := σ j) (o := i) (cs := (bytesOf enc.enc ((l.drop i).take ti.size)).map (Value.int .u8)) (by rw [List.length_map, hlen]) (fun q u hu => by
          have hq : q < ti.size := by
            have := (List.getElem?_eq_some_iff.1 hu).1
            rw [List.length_map, hlen] at this
            exact this
          have hiq : i + q < l.length := by omega
          have hd := isBytes_den h4 (List.getElem_mem hiq) σ
          have hc := s.row_cell (k := 0) hj hiq (u := .int .u8 (num1 (enc.enc l[i + q]))) (by
            show (denL σ (enc.enc l[i + q]))[0]? = _
            rw [hd]; rfl)
          rw [Nat.mul_one, Nat.add_zero] at hc
          rw [hc]
          simp only [bytesOf, List.getElem?_map, List.getElem?_take, List.getElem?_drop, hq, if_true, List.getElem?_eq_getElem hiq, Option.map_some] at hu
          exact hu) (fun h0 => by rw [ha] at h0; cases h0)
        rw [ha, if_pos rfl] at hl
        have e : (M.agg [SV.ints .u8 ti.size (bytesOf enc.enc ((l.drop i).take ti.size))]).den σ = .agg ((bytesOf enc.enc ((l.drop i).take ti.size)).map (Value.int .u8)).toArray := by
          simp [M.den, denL, SV.dens]
        rw [e]
        simpa [Instr.loadAt, Instr.sureAddr, M.den, SV.den] using hl
      | false =>
        rw [hra] at h2
        obtain ⟨hi, h2⟩ := h2
        obtain ⟨m, b1, b2, b3⟩ := ldK_sound (σ := σ) r (fun x hx => s.ok j _ hj l[i] (List.getElem_mem hi) x hx) h2 (b := σ j) (o := i * es) (fun q u hu => s.row_cell hj hi hu)
        refine ⟨m, b1, ?_, b3⟩
        simpa [Instr.loadAt, Instr.sureAddr, M.den, SV.den] using b2
    · exact hk.elim
  · rename_i ad cells
    cases hp with
    | one _ hp =>
      cases hp with
      | rptr hpure hok hcell =>
        rename_i b o _
        obtain ⟨m, b1, b2, b3⟩ := ldK_sound (σ := σ) r hok hk (b := b) (o := o) (fun q u hu => (hcell q u (by rw [denL_pure hpure nowhere σ]; exact hu)).2)
        refine ⟨m, b1, ?_, b3⟩
        simpa [Instr.loadAt, Instr.sureAddr, M.den, SV.den] using b2
  · exact hk.elim

end
end Go.Sx
