/- Communications over channels of the state's, where nothing waits. Holds for every program. -/
import Derived.Test.YtgbikcniediomaaSx10
namespace Go.Sx
open Go.Conc
set_option linter.unusedSimpArgs false
set_option linter.unusedVariables false

def isOneR : RK → Bool
  | .ints _ _ => false
  | _ => true
def oneC : List RK → Bool
  | [f] => isOneR f
  | _ => false
def chvK {α : Type} (ag : Bool) (E : Enc α) (m : M) (K : α → Prop) : Prop :=
  match m with
  | .tup _ => False
  | .agg l => bif ag then E.dec l K else False
  | .one s => bif !ag && oneC E.code then E.dec [s] K else False

def sendK (mc mx : M) (h : Bs) (K : Bs → Prop) : Prop :=
  match mc with
  | .one (.ch j) => (match get h j with
    | some (.chan cap ag E l) => l.length < cap ∧ chvK ag E mx fun x => K (upd h j (.chan cap ag E (l ++ [x])))
    | _ => False)
  | _ => False

def selSK (mc mx : M) (h : Bs) (K : M → Bs → Prop) : Prop :=
  match mc with
  | .one (.ch j) => (match get h j with
    | some (.chan cap ag E l) => bif decide (l.length < cap) then chvK ag E mx fun x => K (.tup [.one (.v (.int .i64 0)), .one (.v (.bool false))]) (upd h j (.chan cap ag E (l ++ [x])))
      else K (.tup [.one (.v (.int .i64 (-1))), .one (.v (.bool false))]) h
    | _ => False)
  | _ => False

def zeroK (tt : Tab) (t : Nat) (K : M → Prop) : Prop :=
  ty tt t fun ti => match ti.kind with
  | .sl _ => K (.one (.v (.slice none 0 0)))
  | _ => bif Nat.beq (wdL ti.zero) 1 then False else K (.agg ti.zero)

def elK (ag : Bool) (l : List SV) (K : M → Prop) : Prop :=
  bif ag then K (.agg l) else match l with
  | [s] => bif s.isOne then K (.one s) else False
  | _ => False

def selRK (tt : Tab) (t : Nat) (mc : M) (h : Bs) (K : M → Bs → Prop) : Prop :=
  match mc with
  | .one (.ch j) => (match get h j with
    | some (.chan cap ag E l) => zeroK tt t fun z => bif l.isEmpty then K (.tup [.one (.v (.int .i64 (-1))), .one (.v (.bool false)), z]) h
      else ∃ hl : 0 < l.length, elK ag (E.enc l[0]) fun m => K (.tup [.one (.v (.int .i64 0)), .one (.v (.bool true)), m]) (upd h j (.chan cap ag E (l.drop 1)))
    | _ => False)
  | _ => False

def commB : Op → Bool
  | .send .. => true
  | .select .. => true
  | _ => false
def commK (tt : Tab) (nt : Nat) (o : Oper) (n : Nat) (e : Env) (h : Bs) (K : Nat → Env → Bs → Prop) : Prop :=
  match o.op with
  | .send c x => ev e c fun mc => ev e x fun mx => sendK mc mx h fun h' => dstK nt o.dst (.tup []) e fun e' => K n e' h'
  | .select cs bl => bif bl then False else (match cs.toList with
    | [s] => ev e s.chan fun mc => (match s.send with
      | some x => ev e x fun mx => ty tt s.elem fun _ => selSK mc mx h fun m h' => dstK nt o.dst m e fun e' => K n e' h'
      | none => selRK tt s.elem mc h fun m h' => dstK nt o.dst m e fun e' => K n e' h')
    | _ => False)
  | _ => False

section
variable {P : Program} {tt : Tab} {B : Base} {nt : Nat} {σ : Nat → Nat} {n : Nat} {e : Env} {h : Bs} {a : Act} {w : World}

theorem oneC_svs : ∀ (c : List RK) (h : oneC c = true) (t : RK.TL c), ∃ s, RK.svs c t = [s] ∧ s.isOne = true
  | [], h, _ => by simp [oneC] at h
  | [f], h, t => ⟨RK.sv f t.1, rfl, by cases f <;> first | rfl | (simp [oneC, isOneR] at h)⟩
  | _ :: _ :: _, h, _ => by simp [oneC] at h
theorem oneC_enc {α : Type} {E : Enc α} (h : oneC E.code = true) (y : α) : ∃ s, E.enc y = [s] ∧ s.isOne = true := by
  rw [E.henc]
  exact oneC_svs _ h _
theorem chvK_spec {α : Type} {ag : Bool} {E : Enc α} {m : M} {av : Nat → Prop} (hm : m.Ok w av n) {K : α → Prop} (hk : chvK ag E m K) : ∃ x, m.den σ = (elM ag (E.enc x)).den nowhere ∧ (∀ s ∈ E.enc x, s.Ok w av n) ∧ K x := by
  unfold chvK at hk
  cases hm with
  | tup _ => exact hk.elim
  | agg hl =>
    rename_i l
    replace hk := cond_false_elim hk
    obtain ⟨rfl, hk⟩ := hk
    obtain ⟨y, ⟨h1, h2⟩, h3, _⟩ := E.ok _ _ hk
    refine ⟨y, ?_, h2 w av n hl, h3⟩
    rw [← elM_pure true (Enc.pures E y) σ nowhere]
    show Value.agg (denL σ l).toArray = Value.agg (denL σ (E.enc y)).toArray
    rw [h1 σ]
  | one h9 hs =>
    rename_i s
    replace hk := cond_false_elim hk
    obtain ⟨hb, hk⟩ := hk
    simp only [Bool.and_eq_true, Bool.not_eq_true'] at hb
    obtain ⟨rfl, hc⟩ := hb
    obtain ⟨y, ⟨h1, h2⟩, h3, _⟩ := E.ok _ _ hk
    refine ⟨y, ?_, h2 w av n (fun x hx => by rw [List.mem_singleton.1 hx]; exact hs), h3⟩
    rw [← elM_pure false (Enc.pures E y) σ nowhere]
    obtain ⟨s2, e2, h4⟩ := oneC_enc hc y
    have e3 := h1 σ
    rw [e2] at e3 ⊢
    rw [denL_cons, denL_nil, denL_cons, denL_nil, SV.dens_one h4, SV.dens_one h9] at e3
    simp only [List.append_nil, List.cons.injEq, and_true] at e3
    exact e3.symm

theorem chan_put (s : Sat B nt σ n e h a w) {j cap : Nat} {ag : Bool} {α : Type} {E : Enc α} {l l' : List α} (hj : get h j = some (.chan cap ag E l)) (hl : ∀ x ∈ l', x ∈ l ∨ ∀ s ∈ E.enc x, s.Ok w (avoids B σ h) n) (c1 c2 : Nat) :
    Sat B nt σ n e (upd h j (.chan cap ag E l')) a (w.setChan (σ j) cap (l'.map fun x => (elM ag (E.enc x)).den nowhere).toArray false c1 c2 false) := by
  obtain ⟨s1, r1, h1⟩ := s.mem.holds j _ hj
  have hb : σ j < w.heap.size := (Array.getElem?_eq_some_iff.1 h1).1
  refine s.upd hj (show (Blk.chan cap ag E l).real from trivial) (fun b hne => by simp [World.setChan, Array.getElem?_setIfInBounds_ne (Ne.symm hne)]) (by simp [World.setChan]) rfl rfl rfl ⟨c1, c2, by simp [World.setChan, Array.getElem?_setIfInBounds, hb]⟩ (fun x hx => ?_)
  rcases hl x hx with h2 | h2
  · exact s.mem.ok j _ hj x h2
  · exact h2

theorem zero_run (hT : TOK P tt) {t : Nat} {ti : TI} (ht : get tt t = some ti) : ∃ z, ∀ w, (zeroValue t).run P w = .ok z w := by
  obtain ⟨it, hi, _, _, z, hz, _⟩ := (hT t ti ht).info
  exact ⟨z, fun w => by simp [zeroValue, typeInfo, hi, hz]⟩

theorem zeroK_spec (hT : TOK P tt) {t : Nat} {K : M → Prop} (hk : zeroK tt t K) {av : Nat → Prop} : ∃ m z, K m ∧ (∀ w, (zeroValue t).run P w = .ok z w) ∧ z = m.den σ ∧ m.Ok w av n := by
  obtain ⟨ti, ht, k1⟩ := ty_spec hk
  have r := hT t ti ht
  obtain ⟨it, hi, _, _, z, hz, hzc⟩ := r.info
  have hrun : ∀ w, (zeroValue t).run P w = .ok z w := fun w => by simp [zeroValue, typeInfo, hi, hz]
  split at k1
  · rename_i el hkd
    obtain ⟨i2, h1, h2⟩ := r.zsl el hkd
    rw [hi] at h1
    cases h1
    rw [hz] at h2
    cases h2
    exact ⟨_, _, k1, hrun, rfl, okv rfl⟩
  · obtain ⟨h3, k2⟩ : Nat.beq (wdL ti.zero) 1 = false ∧ K (.agg ti.zero) := by
      cases hb : Nat.beq (wdL ti.zero) 1 with
      | true => rw [hb] at k1; exact k1.elim
      | false => rw [hb] at k1; exact ⟨rfl, k1⟩
    have hok := r.zok w av n
    refine ⟨_, z, k2, hrun, ?_, .agg hok⟩
    have h4 : z.cells.toList = denL σ ti.zero := by rw [hzc, denL_pure r.zpure nowhere σ]
    have h5 : z.cells.size ≠ 1 := by
      have : z.cells.toList.length = wdL ti.zero := by rw [h4, denL_length hok]
      rw [Array.length_toList] at this
      rw [this]
      exact fun e => by rw [e] at h3; cases h3
    cases z with
    | agg c => 
      simp only [Value.cells] at h4
      simp only [M.den, ← h4]
    | _ => exact absurd rfl h5

theorem elK_spec {ag : Bool} {l : List SV} {av : Nat → Prop} (hl : ∀ s ∈ l, s.Ok w av n) {K : M → Prop} (hk : elK ag l K) : K (elM ag l) ∧ (elM ag l).Ok w av n := by
  unfold elK at hk
  unfold elM
  cases ag with
  | true => exact ⟨hk, .agg hl⟩
  | false =>
    simp only [cond_false] at hk ⊢
    split at hk
    · obtain ⟨h1, h2⟩ := cond_false_elim hk
      exact ⟨h2, .one h1 (hl _ (List.mem_singleton.2 rfl))⟩
    · exact hk.elim

theorem commK_sound (hT : TOK P tt) (s : Sat B nt σ n e h a w) {o : Oper} {K : Nat → Env → Bs → Prop} (hk : commK tt nt o n e h K) {next : Act → World → Prop}
    (hn : ∀ a' w', Behind B nt K a' w' → next a' w') {ops : Array Oper} {i : Nat} (ho : ops[i]? = some o) (hw : Region.wanted o (yielded ops a.tmps) = true) : opN P ops i next a w := by
  obtain ⟨dst, op, type, pos, after, guard⟩ := o
  unfold commK at hk
  simp only at hk
  split at hk
  · rename_i c x
    obtain ⟨mc, k1, h1, h2⟩ := ev_sound s hk
    obtain ⟨mx, k2, h3, h4⟩ := ev_sound s k1
    unfold sendK at k2
    split at k2 <;> first | exact k2.elim | skip
    rename_i j
    split at k2 <;> first | exact k2.elim | skip
    rename_i cap ag α E l hj
    obtain ⟨hr, k3⟩ := k2
    obtain ⟨x0, q1, q2, k4⟩ := chvK_spec (σ := σ) h4 k3
    obtain ⟨s1, r1, g1⟩ := s.mem.holds j _ hj
    have s2 := chan_put s hj (l' := l ++ [x0]) (fun y hy => (List.mem_append.1 hy).imp id fun h => by rw [List.mem_singleton.1 h]; exact q2) (s1 + 1) r1
    obtain ⟨e', k5, s3⟩ := dstK_sound s2 (.tup (by simp)) k4
    have hrun : (execOp a.eval { dst := dst, op := .send c x, type := type, pos := pos, after := after, guard := guard }).run P w = .ok (.comm #[scase (σ j) (mx.den σ) (.tuple #[])] true .send) w := by
      simp [execOp, h1, h3, scase, M.den, SV.den]
    refine opN.of_step ho (fun rest b hb k cs => ?_) (hn _ _ ⟨_, _, _, _, k5, s3⟩)
    rw [lone_eq_solo, lone_eq_solo, step_lone_send_room (stepG_comm ho hw hb hrun) g1 (by simpa using hr)]
    rw [M.den_tup, q1]
    simp [undef]
  · rename_i cs bl
    cases bl with
    | true => exact hk.elim
    | false =>
      simp only [cond_false] at hk
      split at hk <;> first | exact hk.elim | skip
      rename_i s0 hcs
      obtain ⟨ch, snd, elem⟩ := s0
      have hcs : cs = #[⟨ch, snd, elem⟩] := by cases cs; exact congrArg Array.mk hcs
      subst hcs
      obtain ⟨mc, k1, h1, h2⟩ := ev_sound s hk
      split at k1
      · rename_i x hx
        simp only at hx
        subst hx
        obtain ⟨mx, k2, h3, h4⟩ := ev_sound s k1
        obtain ⟨ti, hti, k3⟩ := ty_spec k2
        obtain ⟨z, hz⟩ := zero_run hT hti
        unfold selSK at k3
        split at k3 <;> first | exact k3.elim | skip
        rename_i j
        split at k3 <;> first | exact k3.elim | skip
        rename_i cap ag α E l hj
        obtain ⟨s1, r1, g1⟩ := s.mem.holds j _ hj
        have hrun : (execOp a.eval { dst := dst, op := .select #[⟨ch, some x, elem⟩] false, type := type, pos := pos, after := after, guard := guard }).run P w = .ok (.comm #[scase (σ j) (mx.den σ) z] false .select) w := by
          simp only at h1
          simp [execOp, h1, h3, hz, scase, M.den, SV.den]
        by_cases hr : l.length < cap
        · rw [decide_eq_true hr] at k3
          obtain ⟨x0, q1, q2, k4⟩ := chvK_spec (σ := σ) h4 k3
          have s2 := chan_put s hj (l' := l ++ [x0]) (fun y hy => (List.mem_append.1 hy).imp id fun h => by rw [List.mem_singleton.1 h]; exact q2) (s1 + 1) r1
          obtain ⟨e', k5, s3⟩ := dstK_sound s2 (.tup (by
            intro m hm
            simp only [List.mem_cons, List.not_mem_nil, or_false] at hm
            rcases hm with rfl | rfl <;> exact okv rfl)) k4
          refine opN.of_step ho (fun rest b hb k cs => ?_) (hn _ _ ⟨_, _, _, _, k5, s3⟩)
          rw [lone_eq_solo, lone_eq_solo, step_lone_select_send_room (stepG_comm ho hw hb hrun) g1 (by simpa using hr)]
          rw [M.den_tup, q1]
          simp [M.den, SV.den, goInt]
        · rw [decide_eq_false hr] at k3
          simp only [cond_false] at k3
          obtain ⟨e', k5, s3⟩ := dstK_sound s (.tup (by
            intro m hm
            simp only [List.mem_cons, List.not_mem_nil, or_false] at hm
            rcases hm with rfl | rfl <;> exact okv rfl)) k3
          refine opN.of_step ho (fun rest b hb k cs => ?_) (hn _ _ ⟨_, _, _, _, k5, s3⟩)
          rw [lone_eq_solo, lone_eq_solo, step_lone_select_send_full (stepG_comm ho hw hb hrun) g1 (by simpa using hr)]
          rw [M.den_tup]
          simp [M.den, SV.den, goInt]
      · rename_i hx
        simp only at hx
        subst hx
        unfold selRK at k1
        split at k1 <;> first | exact k1.elim | skip
        rename_i j
        split at k1 <;> first | exact k1.elim | skip
        rename_i cap ag α E l hj
        obtain ⟨s1, r1, g1⟩ := s.mem.holds j _ hj
        obtain ⟨mz, z, k2, hz, hze, hzok⟩ := zeroK_spec (P := P) (σ := σ) (w := w) (n := n) hT k1 (av := avoids B σ h)
        have hrun : (execOp a.eval { dst := dst, op := .select #[⟨ch, none, elem⟩] false, type := type, pos := pos, after := after, guard := guard }).run P w = .ok (.comm #[rcase (σ j) z] false .select) w := by
          simp only at h1
          simp [execOp, h1, hz, rcase, M.den, SV.den]
        cases l with
        | nil =>
          simp only [List.isEmpty_nil, cond_true] at k2
          obtain ⟨e', k5, s3⟩ := dstK_sound s (.tup (by
            intro m hm
            simp only [List.mem_cons, List.not_mem_nil, or_false] at hm
            rcases hm with rfl | rfl | rfl <;> first | exact okv rfl | exact hzok)) k2
          refine opN.of_step ho (fun rest b hb k cs => ?_) (hn _ _ ⟨_, _, _, _, k5, s3⟩)
          rw [lone_eq_solo, lone_eq_solo, step_lone_select_default (stepG_comm ho hw hb hrun) g1]
          rw [M.den_tup]
          simp [M.den, SV.den, goInt, hze]
        | cons y r =>
          obtain ⟨_, k3⟩ := k2
          have s2 := chan_put s hj (l' := r) (fun z hz => .inl (by simp [hz])) s1 (r1 + 1)
          have hy : ∀ q ∈ E.enc y, q.Ok w (avoids B σ h) n := fun q hq => s.mem.ok j _ hj y (by simp) q hq
          obtain ⟨k4, hm⟩ := elK_spec hy k3
          have hm2 := hm.mono (Nat.le_refl _) (s.mem.upd_hk (w' := w.setChan (σ j) cap (r.map fun x => (elM ag (E.enc x)).den nowhere).toArray false s1 (r1 + 1) false) (k' := .chan cap ag E r) hj (show (Blk.chan cap ag E (y :: r)).real from trivial) (fun b hne => by simp [World.setChan, Array.getElem?_setIfInBounds_ne (Ne.symm hne)]) (by intro _ h; exact absurd h List.not_mem_nil))
          obtain ⟨e', k5, s3⟩ := dstK_sound s2 (.tup (by
            intro m hm
            simp only [List.mem_cons, List.not_mem_nil, or_false] at hm
            rcases hm with rfl | rfl | rfl <;> first | exact okv rfl | exact hm2)) k4
          refine opN.of_step ho (fun rest b hb k cs => ?_) (hn _ _ ⟨_, _, _, _, k5, s3⟩)
          rw [lone_eq_solo, lone_eq_solo, step_lone_select_recv_buf (stepG_comm ho hw hb hrun) g1 (by simp)]
          have e1 : (elM ag (E.enc y)).den σ = (elM ag (E.enc y)).den nowhere := elM_pure ag (Enc.pures E y) σ nowhere
          rw [M.den_tup]
          simp only [List.map_cons, List.map_nil, e1, M.den, SV.den, goInt]
          have e2 : ∀ l : List Value, List.take r.length (List.map (fun x => M.den nowhere (elM ag (E.enc x))) r) = List.map (fun x => M.den nowhere (elM ag (E.enc x))) r := fun _ => List.take_of_length_le (by rw [List.length_map]; exact Nat.le_refl _)
          simp [e2 []]
  · exact hk.elim

theorem dec_mono {α : Type} {E : Enc α} {l : List SV} {K K' : α → Prop} (hk : ∀ x, K x → K' x) (hq : E.dec l K) : E.dec l K' := by
  obtain ⟨y, _, h2, h3⟩ := E.ok _ _ hq
  exact h3 _ (hk _ h2)
theorem chvK_mono {α : Type} {ag : Bool} {E : Enc α} {m : M} {K K' : α → Prop} (hk : ∀ x, K x → K' x) (hq : chvK ag E m K) : chvK ag E m K' := by
  unfold chvK at hq ⊢
  cases m with
  | tup l => exact hq.elim
  | one s =>
    replace hq := cond_false_elim hq
    simp only [hq.1, cond_true]
    exact dec_mono hk hq.2
  | agg s =>
    replace hq := cond_false_elim hq
    simp only [hq.1, cond_true]
    exact dec_mono hk hq.2
theorem sendK_mono {mc mx : M} {h : Bs} {K K' : Bs → Prop} (hk : ∀ h, K h → K' h) (hq : sendK mc mx h K) : sendK mc mx h K' := by
  unfold sendK at hq ⊢
  split at hq <;> first | exact hq.elim | skip
  split at hq <;> first | exact hq.elim | skip
  exact ⟨hq.1, chvK_mono (fun x => hk _) hq.2⟩
theorem selSK_mono {mc mx : M} {h : Bs} {K K' : M → Bs → Prop} (hk : ∀ m h, K m h → K' m h) (hq : selSK mc mx h K) : selSK mc mx h K' := by
  unfold selSK at hq ⊢
  split at hq <;> first | exact hq.elim | skip
  split at hq <;> first | exact hq.elim | skip
  rename_i cap ag α E l hj
  cases hb : decide (l.length < cap) with
  | true => rw [hb] at hq; exact chvK_mono (fun x => hk _ _) hq
  | false => rw [hb] at hq; exact hk _ _ hq
theorem zeroK_mono {tt : Tab} {t : Nat} {K K' : M → Prop} (hk : ∀ m, K m → K' m) (hq : zeroK tt t K) : zeroK tt t K' := by
  unfold zeroK ty at hq ⊢
  cases hg : get tt t with
  | none => rw [hg] at hq; exact hq.elim
  | some ti =>
    rw [hg] at hq
    simp only at hq ⊢
    split at hq
    · exact hk _ hq
    · cases hb : Nat.beq (wdL ti.zero) 1 with
      | true => rw [hb] at hq; exact hq.elim
      | false => rw [hb] at hq; exact hk _ hq
theorem elK_mono {ag : Bool} {l : List SV} {K K' : M → Prop} (hk : ∀ m, K m → K' m) (hq : elK ag l K) : elK ag l K' := by
  unfold elK at hq ⊢
  cases ag with
  | true => exact hk _ hq
  | false =>
    simp only [cond_false] at hq ⊢
    split at hq
    · replace hq := cond_false_elim hq
      rw [hq.1]
      exact hk _ hq.2
    · exact hq.elim
theorem selRK_mono {tt : Tab} {t : Nat} {mc : M} {h : Bs} {K K' : M → Bs → Prop} (hk : ∀ m h, K m h → K' m h) (hq : selRK tt t mc h K) : selRK tt t mc h K' := by
  unfold selRK at hq ⊢
  split at hq <;> first | exact hq.elim | skip
  split at hq <;> first | exact hq.elim | skip
  rename_i cap ag α E l hj
  refine zeroK_mono (fun z h1 => ?_) hq
  cases hb : l.isEmpty with
  | true => rw [hb] at h1; exact hk _ _ h1
  | false =>
    rw [hb] at h1
    exact h1.elim fun hl h2 => ⟨hl, elK_mono (fun m => hk _ _) h2⟩
end
end Go.Sx
