/- Slices, conversions, literals; all operations that leave memory alone, in one. Holds for every program. -/
import Derived.Test.YtgbikcniediomaaSxL
namespace Go.Sx
set_option linter.unusedSimpArgs false
set_option linter.unusedVariables false

section
variable {P : Program} {tt : Tab} {B : Base} {nt : Nat} {σ : Nat → Nat} {n : Nat} {e : Env} {h : Bs} {a : Act} {w : World} {av : Nat → Prop}

theorem contK_sound (s : Mem B σ n h w) {m : M} (hm : m.Ok w (avoids B σ h) n) {K : IntKind → List Int → Prop} (hk : contK h m K) :
    ∃ k l, K k l ∧ ((m.den σ = .slice none 0 0 ∧ l = []) ∨ ∃ q cap, m.den σ = .slice q l.length cap ∧ (∀ i (hi : i < l.length), ∃ b o, q = some ⟨b, o, none⟩ ∧ w.cell? ⟨b, o + i, none⟩ = some (.int k l[i])) ∧
      (q = none → False ∨ l = [])) := by
  unfold contK at hk
  split at hk
  · exact ⟨_, _, hk, .inl ⟨rfl, rfl⟩⟩
  · rename_i x es α enc l
    cases hb1 : Nat.beq es 1 with
    | false =>
      rw [hb1] at hk
      cases hm with
      | one h9 hm =>
        clear h9
        cases hm with
        | view hcap hes hp hok hcell =>
          rename_i ad cap
          replace hk := cond_false_elim (show bif Nat.beq es 0 then _ else False from hk)
          obtain ⟨hb0, hk⟩ := hk
          split at hk <;> first | exact hk.elim | skip
          rename_i A V P hj
          obtain ⟨q, hq, hxl, hk⟩ := hk
          obtain ⟨hx, hln⟩ := hxl
          obtain ⟨_, _, _, g1, g2⟩ := s.holds 0 _ hj
          refine ⟨_, _, hk, .inr ⟨ad, cap, by simp only [M.den, SV.den, hln], fun i hi => ?_, fun hn => ?_⟩⟩
          · have hne : P[q].2 ≠ [] := fun h0 => by rw [h0] at hi; cases hi
            obtain ⟨b, cap', e1, e2, c, t, fr, e3, e4, e5⟩ := g1 q hq hne
            rw [hx] at e1
            injection e1 with e6 _ _
            exact ⟨b, 0, e6, by rw [Nat.zero_add]; exact (cell_of_cells e3).trans (e5 i hi)⟩
          · by_cases hne : P[q].2 = []
            · exact .inr hne
            · obtain ⟨b, cap', e1, _⟩ := g1 q hq hne
              rw [hx, hn] at e1
              cases e1
    | true =>
    rw [hb1] at hk
    obtain ⟨h2, h3⟩ := hk
    have hes := Nat.eq_of_beq_eq_true hb1
    subst hes
    cases hm with
    | one h9 hm =>
      clear h9
      cases hm with
      | view hcap hes hp hok hcell =>
        rename_i ad cap
        refine ⟨_, _, h3, .inr ⟨ad, cap, by simp [M.den, SV.den, bytesOf], fun i hi => ?_, fun hq => ?_⟩⟩
        · have hi' : i < l.length := by simpa [bytesOf] using hi
          have hd := isBytes_den h2 (List.getElem_mem hi') nowhere
          obtain ⟨b, o, e1, _, e3⟩ := hcell i 0 hi' (.int .u8 (num1 (enc l[i]))) (by rw [hd]; rfl)
          refine ⟨b, o, e1, ?_⟩
          simpa [bytesOf] using e3
        · cases hl : l with
          | nil => exact .inr rfl
          | cons y r =>
            subst hl
            have hd := isBytes_den h2 (List.mem_cons_self (a := y) (l := r)) nowhere
            obtain ⟨b, o, e1, _, _⟩ := hcell 0 0 (by simp) (.int .u8 (num1 (enc y))) (by simp only [List.getElem_cons_zero]; rw [hd]; rfl)
            rw [hq] at e1; cases e1
  · rename_i j es off len cap
    split at hk
    · rename_i es' α enc l cap' hj
      obtain ⟨h1, h2, h3, h4⟩ := cond_false_elim hk
      simp only [Bool.and_eq_true] at h1
      have hes := Nat.eq_of_beq_eq_true h1.1
      have hes' := Nat.eq_of_beq_eq_true h1.2
      subst hes; subst hes'
      have hlen : (bytesOf enc ((l.drop off).take len)).length = len := by simp [bytesOf]; omega
      refine ⟨_, _, h4, .inr ⟨some ⟨σ j, off * 1, none⟩, cap, by rw [hlen]; rfl, fun i hi => ?_, fun hq => by cases hq⟩⟩
      rw [hlen] at hi
      have hi' : off + i < l.length := by omega
      have hd := isBytes_den h3 (List.getElem_mem hi') σ
      refine ⟨σ j, off * 1, rfl, ?_⟩
      have := s.row_cell hj hi' (k := 0) (u := .int .u8 (num1 (enc l[off + i]))) (by rw [hd]; rfl)
      rw [show off * 1 + i = (off + i) * 1 + 0 by omega, this]
      simp [bytesOf]
    · exact hk.elim
  · rename_i j es len cap
    split at hk
    · rename_i es' α enc l cap' hj
      obtain ⟨h1, h2, h3, h4⟩ := cond_false_elim hk
      simp only [Bool.and_eq_true] at h1
      have hes := Nat.eq_of_beq_eq_true h1.1
      have hes' := Nat.eq_of_beq_eq_true h1.2
      subst hes; subst hes'
      have hlen : (bytesOf enc (l.take len)).length = len := by simp [bytesOf]; omega
      have hlc : len ≤ cap := by
        cases hm with
        | one h9 hm => cases hm with | nslc hj hl => exact hl
      refine ⟨_, _, h4, ?_⟩
      by_cases hc : cap = 0
      · refine .inl ⟨by simp [M.den, SV.den, hc], ?_⟩
        have : len = 0 := by omega
        subst this
        simp [bytesOf]
      · refine .inr ⟨some ⟨σ j, 0, none⟩, cap, by rw [hlen]; simp [M.den, SV.den, hc], fun i hi => ?_, fun hq => by cases hq⟩
        rw [hlen] at hi
        have hi' : i < l.length := by omega
        have hd := isBytes_den h3 (List.getElem_mem hi') σ
        refine ⟨σ j, 0, rfl, ?_⟩
        have := s.row_cell hj hi' (k := 0) (u := .int .u8 (num1 (enc l[i]))) (by rw [hd]; rfl)
        rw [show 0 + i = i * 1 + 0 by omega, this]
        simp [bytesOf]
    · exact hk.elim
  · rename_i j off i len cap
    split at hk
    · rename_i l hj
      obtain ⟨k, m', il, ⟨b1, b2⟩, b3, b4⟩ := chunkK_spec l off _ (s.ok j _ hj) hk
      have hlen : ((il.drop i).take len).length = len := by simp; omega
      refine ⟨_, _, b2, .inr ⟨some ⟨σ j, off + i, none⟩, cap, by rw [hlen]; rfl, fun q hq => ?_, fun hq => by cases hq⟩⟩
      rw [hlen] at hq
      have hq' : i + q < il.length := by omega
      refine ⟨σ j, off + i, rfl, ?_⟩
      rw [Nat.add_assoc, s.cells_cell hj, b4 σ (i + q) hq']
      simp
    · exact hk.elim
  · exact hk.elim

theorem convK_sound (hT : TOK P tt) (s : Mem B σ n h w) {src dst : Nat} {x : M} (hx : x.Ok w (avoids B σ h) n) {K : M → Prop} (hk : convK tt src dst x h K) :
    ∃ m, K m ∧ (convert src dst (x.den σ)).run P w = .ok (m.den σ) w ∧ m.Ok w (avoids B σ h) n := by
  unfold convK at hk
  obtain ⟨ts, hts, k1⟩ := ty_spec hk
  clear hk
  obtain ⟨td, htd, k2⟩ := ty_spec k1
  clear k1
  split at k2
  · rename_i ks kd kx v hs hd
    refine ⟨_, k2, ?_, okv rfl⟩
    simp [convert, run_underlying ((hT _ _ hts).int hs), run_underlying ((hT _ _ htd).int hd), M.den, SV.den, Conv.intToInt]
  · rename_i b hs hd
    refine ⟨_, k2, ?_, okv rfl⟩
    simp [convert, run_underlying ((hT _ _ hts).string hs), run_underlying ((hT _ _ htd).string hd), M.den, SV.den]
  · rename_i el hs hd
    obtain ⟨te, hte, k3⟩ := ty_spec k2
    clear k2
    split at k3
    · rename_i he
      obtain ⟨k, l, k4, hc⟩ := contK_sound s hx k3
      obtain ⟨h1, h2⟩ := cond_false_elim k4
      have hku := IntKind.beq_eq h1
      subst hku
      refine ⟨_, h2, ?_, okv rfl⟩
      have hus := (hT _ _ hts).sl hs
      have hud := (hT _ _ htd).string hd
      have hue := (hT _ _ hte).int he
      rcases hc with ⟨hc, rfl⟩ | ⟨q, cap, hq, hcell, hnil⟩
      · rw [hc]
        simp [convert, run_underlying hus, run_underlying hud, run_underlying hue, Conv.bytesToString, M.den, SV.den, strOfNums]
        rfl
      · rw [hq]
        cases q with
        | none =>
          rcases hnil rfl with hf | rfl
          · exact hf.elim
          · simp [convert, run_underlying hus, run_underlying hud, run_underlying hue, Conv.bytesToString, M.den, SV.den, strOfNums]
            rfl
        | some ad =>
          cases l with
          | nil =>
            simp [convert, run_underlying hus, run_underlying hud, run_underlying hue, Conv.bytesToString, M.den, SV.den, strOfNums, loadCells, loadCellsFrom]
            rfl
          | cons y r =>
            obtain ⟨b, o, e1, _⟩ := hcell 0 (by simp)
            cases e1
            exact run_convert_bytes_arg w src el hus hue b o _ cap (y :: r) rfl (fun i hi => by
              obtain ⟨b', o', e1, e2⟩ := hcell i hi
              cases e1
              rw [e2, List.getD_eq_getElem?_getD, List.getElem?_eq_getElem hi]; rfl) dst hud
    · exact k3.elim
  · exact k2.elim

theorem ev_imp {x : Operand} {K K' : M → Prop} (hk : ∀ m, K m → K' m) (h : ev e x K) : ev e x K' := by
  unfold ev at h ⊢
  cases x with
  | tmp t =>
    simp only at h ⊢
    split at h
    · exact hk _ h
    · exact h.elim
  | const v =>
    simp only [constK] at h ⊢
    cases v <;> first | exact h.elim | exact hk _ h
  | global g =>
    simp only at h ⊢
    split at h
    · exact hk _ h
    · exact hk _ h
  | func f => exact hk _ h
theorem optK_imp {x : Option Operand} {d : Nat} {K K' : Nat → Prop} (hk : ∀ k, K k → K' k) (h : optK e x d K) : optK e x d K' := by
  unfold optK at h ⊢
  split at h
  · exact hk _ h
  · refine ev_imp (fun m hm => ?_) h
    unfold idx at hm ⊢
    split at hm
    · exact ⟨hm.1, hk _ hm.2⟩
    · exact hm.elim

theorem optK_sound (s : Sat B nt σ n e h a w) {x : Option Operand} {d : Nat} {K : Nat → Prop} (hk : optK e x d K) :
    ∃ k, K k ∧ ((x = none ∧ k = d) ∨ ∃ o kk, x = some o ∧ a.eval o = .int kk ((k : Nat) : Int)) := by
  unfold optK at hk
  split at hk
  · exact ⟨d, hk, .inl ⟨rfl, rfl⟩⟩
  · rename_i o
    obtain ⟨m, h1, h2, _⟩ := ev_sound s hk
    obtain ⟨kk, k, rfl, h3⟩ := idx_spec h1
    exact ⟨k, h3, .inr ⟨o, kk, rfl, h2⟩⟩

theorem run_sliceBound {kk : IntKind} {k y : Nat} (hk : k ≤ y) (code : BoundsCode) : (Instr.sliceBound (.int kk (k : Int)) y code).run P w = .ok k w := by
  have : (0 : Int) ≤ (k : Int) ∧ (k : Int) ≤ (y : Int) := by omega
  simp [Instr.sliceBound, asIntOf, hk]

theorem run_bounds (isSlice : Bool) {len cap lo hi m : Nat} {xlo xhi xm : Option Value} (h1 : lo ≤ hi) (h2 : hi ≤ m) (h3 : m ≤ cap)
    (hlo : (xlo = none ∧ lo = 0) ∨ ∃ kk, xlo = some (.int kk (lo : Int))) (hhi : (xhi = none ∧ hi = len) ∨ ∃ kk, xhi = some (.int kk (hi : Int)))
    (hm : (xm = none ∧ m = cap) ∨ ∃ kk, xm = some (.int kk (m : Int))) (hb : xm ≠ none → xhi ≠ none) :
    (Instr.sliceBounds isSlice len cap xlo xhi xm).run P w = .ok (lo, hi, m) w := by
  rcases hm with ⟨rfl, rfl⟩ | ⟨kk, rfl⟩ <;> rcases hhi with ⟨rfl, rfl⟩ | ⟨kk', rfl⟩ <;> rcases hlo with ⟨rfl, rfl⟩ | ⟨kk'', rfl⟩ <;>
    first
      | (exact (hb (Option.some_ne_none _) rfl).elim)
      | simp [Instr.sliceBounds, run_sliceBound, h1, h2, h3]

theorem optv {x : Option Operand} {k d : Nat} (h : (x = none ∧ k = d) ∨ ∃ o kk, x = some o ∧ a.eval o = .int kk ((k : Nat) : Int)) :
    (x.map a.eval = none ∧ k = d) ∨ ∃ kk, x.map a.eval = some (.int kk (k : Int)) := by
  rcases h with ⟨rfl, rfl⟩ | ⟨o, kk, rfl, h⟩
  · exact .inl ⟨rfl, rfl⟩
  · exact .inr ⟨kk, by simp [h]⟩

theorem run_slice_sl {t el : Nat} (hu : P.underlying t = some (.slice el)) {sz : Nat} (hs : (sizeOf el).run P w = .ok sz w) {q : Option Addr} {len cap lo hi m : Nat} {xlo xhi xm : Option Value}
    (hb : (Instr.sliceBounds true len cap xlo xhi xm).run P w = .ok (lo, hi, m) w) :
    (Instr.sliceAt t (.slice q len cap) xlo xhi xm).run P w = .ok (.slice (if m = lo then q else q.map (·.add (lo * sz))) (hi - lo) (m - lo)) w := by
  simp [Instr.sliceAt, run_underlying hu, Instr.slice, hb, hs]

theorem sliceK_sound (hT : TOK P tt) (s : Sat B nt σ n e h a w) {t : Nat} {x : M} {lo hi mx : Option Operand} (hx : x.Ok w (avoids B σ h) n) {K : M → Prop} (hk : sliceK tt e t x lo hi mx h K) :
    ∃ m, K m ∧ (Instr.sliceAt t (x.den σ) (lo.map a.eval) (hi.map a.eval) (mx.map a.eval)).run P w = .ok (m.den σ) w ∧ m.Ok w (avoids B σ h) n := by
  unfold sliceK at hk
  obtain ⟨ti, ht, k1⟩ := ty_spec hk
  clear hk
  have nn : ∀ {x : Option Operand}, (x.map a.eval = none → x = none) := fun {x} h => by cases x <;> simp_all
  split at k1
  · rename_i st hkd
    have hu := (hT _ _ ht).string hkd
    cases mx with
    | some _ => exact k1.elim
    | none =>
      obtain ⟨b, k2, hb⟩ := optK_sound s k1
      obtain ⟨c, ⟨k3, k4, k5⟩, hc⟩ := optK_sound s k2
      refine ⟨_, k5, ?_, okv rfl⟩
      have := run_bounds (P := P) (w := w) false (len := st.size) (cap := st.size) k3 k4 (Nat.le_refl _) (optv hc) (optv hb) (.inl ⟨rfl, rfl⟩) (by simp)
      simp [Instr.sliceAt, run_underlying hu, Instr.slice, M.den, SV.den, this]
  · rename_i el j es off len cap hkd
    obtain ⟨te, hte, k2⟩ := ty_spec k1
    clear k1
    have hu := (hT _ _ ht).sl hkd
    have hsz := (hT _ _ hte).run_sizeOf w
    obtain ⟨h1, k3⟩ := cond_false_elim k2
    have hes := Nat.eq_of_beq_eq_true h1
    subst hes
    cases hfb : fulB lo hi mx off with
    | true =>
      rw [hfb] at k3
      replace k3 : optK e mx cap fun m => optK e hi len fun b => b = m ∧ m ≤ cap ∧ K (.one (.slc j (te.size + 1000000) 0 m m)) := k3
      simp only [fulB, Bool.and_eq_true] at hfb
      obtain ⟨⟨⟨f1, f2⟩, f3⟩, f4⟩ := hfb
      have ho := Nat.eq_of_beq_eq_true f4
      subst ho
      obtain ⟨m, k5, hm⟩ := optK_sound s k3
      obtain ⟨b, ⟨rfl, g3, g4⟩, hb⟩ := optK_sound s k5
      cases lo with
      | some _ => cases f3
      | none =>
      refine ⟨_, g4, ?_, ?_⟩
      · have := run_bounds (P := P) (w := w) true (len := len) (cap := cap) (Nat.zero_le b) (Nat.le_refl b) g3 (xlo := none) (.inl ⟨rfl, rfl⟩) (optv hb) (optv hm) (fun _ h2 => by cases hi with
          | none => cases f2
          | some _ => have := nn h2; cases this)
        simp only [M.den, SV.den, Option.map_none]
        rw [run_slice_sl hu hsz this]
        congr 2
        by_cases hmc : b = 0
        · simp [hmc]
        · simp [hmc, addr_add]
      · cases hx with
        | one h9 hx => cases hx with | slc hj => exact .one rfl (.slc hj)
    | false =>
    rw [hfb] at k3
    have hmh : mx ≠ none → hi ≠ none := by
      intro h1 h2; subst h2; cases mx with
      | none => exact h1 rfl
      | some _ => exact k3
    have k4 : optK e mx cap fun m => optK e hi len fun b => optK e lo 0 fun a => a ≤ b ∧ b ≤ m ∧ m ≤ cap ∧ K (.one (.slc j te.size (if m = a then off else off + a) (b - a) (m - a))) := by
      cases mx <;> cases hi <;> first | exact k3 | exact k3.elim
    obtain ⟨m, k5, hm⟩ := optK_sound s k4
    obtain ⟨b, k6, hb⟩ := optK_sound s k5
    obtain ⟨c, ⟨g1, g2, g3, g4⟩, hc⟩ := optK_sound s k6
    refine ⟨_, g4, ?_, ?_⟩
    · have := run_bounds (P := P) (w := w) true (len := len) (cap := cap) g1 g2 g3 (optv hc) (optv hb) (optv hm) (fun h1 h2 => hmh (fun h3 => h1 (by rw [h3]; rfl)) (nn h2))
      simp only [M.den, SV.den]
      rw [run_slice_sl hu hsz this]
      congr 2
      by_cases hmc : m = c
      · simp [hmc]
      · simp [hmc, addr_add, Nat.add_mul]
    · cases hx with
      | one h9 hx => cases hx with | slc hj => exact .one rfl (.slc hj)
  · rename_i el j es len cap hkd
    obtain ⟨te, hte, k2⟩ := ty_spec k1
    clear k1
    have hu := (hT _ _ ht).sl hkd
    have hsz := (hT _ _ hte).run_sizeOf w
    obtain ⟨h1, k3⟩ := cond_false_elim k2
    have hes := Nat.eq_of_beq_eq_true h1
    subst hes
    cases hx with
    | one h9 hx =>
      cases hx with
      | nslc hj hlc =>
        split at k3
        · obtain ⟨b, k6, hb⟩ := optK_sound s k3
          obtain ⟨g2, g4⟩ := k6
          refine ⟨_, g4, ?_, .one rfl (.nslc hj g2)⟩
          have := run_bounds (P := P) (w := w) true (len := len) (cap := cap) (Nat.zero_le b) g2 (Nat.le_refl cap) (xlo := none) (xm := none) (.inl ⟨rfl, rfl⟩) (optv hb) (.inl ⟨rfl, rfl⟩) (by simp)
          by_cases hc : cap = 0
          · subst hc
            have hb0 : b = 0 := by omega
            subst hb0
            have hl0 : len = 0 := by omega
            subst hl0
            simp only [M.den, SV.den, if_true, Option.map_none]
            rw [run_slice_sl hu hsz this]
            rfl
          · simp only [M.den, SV.den, if_neg hc, Option.map_none]
            rw [run_slice_sl hu hsz this]
            simp [hc, addr_add]
        · rename_i lo'
          obtain ⟨b, k6, hb⟩ := optK_sound s k3
          obtain ⟨c, ⟨hc, g1, g2, g4⟩, hcc⟩ := optK_sound s k6
          refine ⟨_, g4, ?_, .one rfl (.slc hj)⟩
          have := run_bounds (P := P) (w := w) true (len := len) (cap := cap) g1 g2 (Nat.le_refl cap) (xm := none) (optv hcc) (optv hb) (.inl ⟨rfl, rfl⟩) (by simp)
          have hc0 : ¬ cap = 0 := by omega
          simp only [M.den, SV.den, if_neg hc0, Option.map_none]
          rw [run_slice_sl hu hsz this]
          congr 2
          by_cases hmc : cap = c
          · simp [hmc]
          · simp [hmc, addr_add]
        · exact k3.elim
  · rename_i el j off i len cap hkd
    obtain ⟨te, hte, k2⟩ := ty_spec k1
    clear k1
    have hu := (hT _ _ ht).sl hkd
    have hsz := (hT _ _ hte).run_sizeOf w
    obtain ⟨h1, k3⟩ := cond_false_elim k2
    have hes := Nat.eq_of_beq_eq_true h1
    have hmh : mx ≠ none → hi ≠ none := by
      intro h1 h2; subst h2; cases mx with
      | none => exact h1 rfl
      | some _ => exact k3
    have k4 : optK e mx cap fun m => optK e hi len fun b => optK e lo 0 fun a => a ≤ b ∧ b ≤ m ∧ m ≤ cap ∧ K (.one (.asl j off (if m = a then i else i + a) (b - a) (m - a))) := by
      cases mx <;> cases hi <;> first | exact k3 | exact k3.elim
    obtain ⟨m, k5, hm⟩ := optK_sound s k4
    obtain ⟨b, k6, hb⟩ := optK_sound s k5
    obtain ⟨c, ⟨g1, g2, g3, g4⟩, hc⟩ := optK_sound s k6
    refine ⟨_, g4, ?_, ?_⟩
    · have := run_bounds (P := P) (w := w) true (len := len) (cap := cap) g1 g2 g3 (optv hc) (optv hb) (optv hm) (fun h1 h2 => hmh (fun h3 => h1 (by rw [h3]; rfl)) (nn h2))
      simp only [M.den, SV.den]
      rw [run_slice_sl hu hsz this]
      congr 2
      by_cases hmc : m = c
      · simp [hmc]
      · simp [hmc, addr_add, hes, Nat.add_assoc]
    · cases hx with
      | one h9 hx => cases hx with | asl hj => exact .one rfl (.asl hj)
  · rename_i el x es α enc l hkd
    obtain ⟨te, hte, k2⟩ := ty_spec k1
    clear k1
    have hu := (hT _ _ ht).sl hkd
    have hsz := (hT _ _ hte).run_sizeOf w
    obtain ⟨h1, k3⟩ := cond_false_elim k2
    have hes := Nat.eq_of_beq_eq_true h1
    subst hes
    have hmh : mx ≠ none → hi ≠ none := by
      intro h1 h2; subst h2; cases mx with
      | none => exact h1 rfl
      | some _ => exact k3
    have k4 : optK e mx (vcap x) fun m => optK e hi l.length fun b => optK e lo 0 fun a => a ≤ b ∧ b ≤ l.length ∧ b ≤ m ∧ m ≤ vcap x ∧ K (.one (.view (vslice x te.size a b m) te.size enc ((l.drop a).take (b - a)))) := by
      have hlc : l.length ≤ vcap x := by
        cases hx with
        | one h9 hx =>
          cases hx with
          | view hcap hes hp hok hcell => exact hcap
      cases mx with
      | none =>
        have k5 : optK e hi l.length fun b => optK e lo 0 fun a => a ≤ b ∧ b ≤ l.length ∧ K (.one (.view (vslice x te.size a b (vcap x)) te.size enc ((l.drop a).take (b - a)))) := by
          cases hi <;> exact k3
        show optK e hi l.length fun b => optK e lo 0 fun a => a ≤ b ∧ b ≤ l.length ∧ b ≤ vcap x ∧ vcap x ≤ vcap x ∧ K (.one (.view (vslice x te.size a b (vcap x)) te.size enc ((l.drop a).take (b - a))))
        refine optK_imp (fun b h => ?_) k5
        refine optK_imp (fun a h => ?_) h
        exact ⟨h.1, h.2.1, Nat.le_trans h.2.1 hlc, Nat.le_refl _, h.2.2⟩
      | some mx =>
        cases hi with
        | none => exact k3.elim
        | some hi =>
          have k5 : optK e (some mx) (vcap x) fun m => optK e (some hi) l.length fun b => optK e lo 0 fun a => a ≤ b ∧ b ≤ l.length ∧ b ≤ m ∧ m ≤ l.length ∧ K (.one (.view (vslice x te.size a b m) te.size enc ((l.drop a).take (b - a)))) := k3
          refine optK_imp (fun m h => ?_) k5
          refine optK_imp (fun b h => ?_) h
          refine optK_imp (fun a h => ?_) h
          exact ⟨h.1, h.2.1, h.2.2.1, Nat.le_trans h.2.2.2.1 hlc, h.2.2.2.2⟩
    obtain ⟨m, k5, hm⟩ := optK_sound s k4
    obtain ⟨b, k6, hb⟩ := optK_sound s k5
    obtain ⟨c, ⟨g1, g2, g3, g5, g4⟩, hc⟩ := optK_sound s k6
    refine ⟨_, g4, ?_, ?_⟩
    · cases hx with
      | one h9 hx =>
        clear h9
        cases hx with
        | view hcap hes hp hok hcell =>
          rename_i ad cap
          have := run_bounds (P := P) (w := w) true (len := l.length) (cap := cap) g1 g3 g5 (optv hc) (optv hb) (optv hm) (fun h1 h2 => hmh (fun h3 => h1 (by rw [h3]; rfl)) (nn h2))
          simp only [M.den, SV.den]
          rw [run_slice_sl hu hsz this]
          rfl
    · cases hx with
      | one h9 hx =>
        clear h9
        cases hx with
        | view hcap hes hp hok hcell =>
          rename_i ad cap
          have hl' : ((l.drop c).take (b - c)).length = b - c := by simp; omega
          have hmem : ∀ y ∈ (l.drop c).take (b - c), y ∈ l := fun y hy => List.mem_of_mem_drop (List.mem_of_mem_take hy)
          simp only [vslice]
          have key := @SV.Ok.view w (avoids B σ h) n te.size α enc ((l.drop c).take (b - c)) (if m = c then ad else ad.map (·.add (c * te.size))) (m - c) (by omega)
            (fun y hy => hes y (hmem y hy)) (fun y hy => hp y (hmem y hy)) (fun y hy => hok y (hmem y hy)) (fun i k hi u hu => by
              rw [hl'] at hi
              have hi2 : c + i < l.length := by omega
              simp only [List.getElem_take, List.getElem_drop] at hu
              obtain ⟨bb, o, e1, e2, e3⟩ := hcell (c + i) k hi2 u hu
              refine ⟨bb, o + c * te.size, ?_, e2, ?_⟩
              · rw [if_neg (by omega), e1]; simp [addr_add]
              · rw [← e3]; congr 2; rw [Nat.add_mul]; omega)
          rw [hl'] at key
          exact .one rfl key
  · rename_i hkd
    cases mx with
    | some mx =>
      cases hi with
      | none => exact k1.elim
      | some hi =>
        have hu := (hT _ _ ht).sl hkd
        obtain ⟨te, hte, k1⟩ := ty_spec k1
        obtain ⟨m, k2, hm⟩ := optK_sound s k1
        obtain ⟨b, k3, hb⟩ := optK_sound s k2
        obtain ⟨c, ⟨rfl, rfl, rfl, k5⟩, hc⟩ := optK_sound s k3
        refine ⟨_, k5, ?_, okv rfl⟩
        have := run_bounds (P := P) (w := w) true (len := 0) (cap := 0) (Nat.le_refl 0) (Nat.le_refl 0) (Nat.le_refl 0) (optv hc) (optv hb) (optv hm) (fun _ h2 => by have := nn h2; cases this)
        simp only [M.den, SV.den, Option.map_none]
        rw [run_slice_sl hu ((hT _ _ hte).run_sizeOf w) this]
        rfl
    | none =>
      have hu := (hT _ _ ht).sl hkd
      obtain ⟨te, hte, k1⟩ := ty_spec k1
      obtain ⟨b, k2, hb⟩ := optK_sound s k1
      obtain ⟨c, ⟨rfl, rfl, k5⟩, hc⟩ := optK_sound s k2
      refine ⟨_, k5, ?_, okv rfl⟩
      have := run_bounds (P := P) (w := w) true (len := 0) (cap := 0) (Nat.le_refl 0) (Nat.le_refl 0) (Nat.le_refl 0) (optv hc) (optv hb) (.inl ⟨rfl, rfl⟩) (by simp)
      simp only [M.den, SV.den, Option.map_none]
      rw [run_slice_sl hu ((hT _ _ hte).run_sizeOf w) this]
      rfl
  · rename_i m0 el j off hkd
    obtain ⟨te, hte, k2⟩ := ty_spec k1
    clear k1
    have hu := (hT _ _ ht).arr hkd
    have hsz := (hT _ _ hte).run_sizeOf w
    split at k2
    · obtain ⟨h1, k3⟩ := cond_false_elim k2
      have hes := Nat.eq_of_beq_eq_true h1
      have hmh : mx ≠ none → hi ≠ none := by
        intro h1 h2; subst h2; cases mx with
        | none => exact h1 rfl
        | some _ => exact k3
      have k4 : optK e mx m0 fun m => optK e hi m0 fun b => optK e lo 0 fun a => a ≤ b ∧ b ≤ m ∧ m ≤ m0 ∧ K (.one (.asl j off (if m = a then 0 else a) (b - a) (m - a))) := by
        cases mx <;> cases hi <;> first | exact k3 | exact k3.elim
      obtain ⟨m, k5, hm⟩ := optK_sound s k4
      obtain ⟨b, k6, hb⟩ := optK_sound s k5
      obtain ⟨c, ⟨g1, g2, g3, g4⟩, hc⟩ := optK_sound s k6
      refine ⟨_, g4, ?_, ?_⟩
      · have := run_bounds (P := P) (w := w) false (len := m0) (cap := m0) g1 g2 g3 (optv hc) (optv hb) (optv hm) (fun h1 h2 => hmh (fun h3 => h1 (by rw [h3]; rfl)) (nn h2))
        simp only [M.den, SV.den, Instr.sliceAt, Sem.run_bind, run_underlying hu, Result.andThen_ok, Instr.sureAddr, Sem.run_pure, this, hsz]
        congr 2
        by_cases hmc : m = c
        · simp [hmc]
        · simp [hmc, addr_add, hes]
      · cases hx with
        | one h9 hx => cases hx with | ptr hj => exact .one rfl (.asl hj)
    · exact k2.elim
  · rename_i m0 el ad cells hkd
    obtain ⟨te, hte, k2⟩ := ty_spec k1
    clear k1
    have hu := (hT _ _ ht).arr hkd
    have hsz := (hT _ _ hte).run_sizeOf w
    split at k2
    · obtain ⟨h1, k3⟩ := cond_false_elim k2
      have hes := Nat.eq_of_beq_eq_true h1
      cases hx with
      | one h9 hx =>
        clear h9
        cases hx with
        | rptr hp hok hcell =>
          rename_i b o
          obtain ⟨kk, m', il, b1, b2, b3⟩ := chunkK_spec cells 0 _ hok k3
          obtain ⟨h2, h3⟩ := cond_false_elim b1
          have hmm := Nat.eq_of_beq_eq_true h2
          subst hmm
          subst b2
          refine ⟨_, h3, ?_, .one rfl (.view (Nat.le_refl _) (fun x _ => rfl) (by simp [SV.isPure]) (by simp; exact fun _ _ => .v rfl) fun i k hi u hu => ?_)⟩
          · have := run_bounds (P := P) (w := w) false (len := il.length) (cap := il.length) (Nat.zero_le _) (Nat.le_refl _) (Nat.le_refl _) (xlo := none) (xhi := none) (xm := none) (.inl ⟨rfl, rfl⟩) (.inl ⟨rfl, rfl⟩) (.inl ⟨rfl, rfl⟩) (by simp)
            simp [M.den, SV.den, Instr.sliceAt, run_underlying hu, Instr.sureAddr, this, hsz, addr_add]
          · cases k with
            | zero =>
              simp [denL, SV.dens, SV.den] at hu
              subst hu
              have := hcell (0 + i) _ (b3 nowhere i hi)
              refine ⟨b, o, rfl, this.1, ?_⟩
              simpa using this.2
            | succ k => simp [denL, SV.dens] at hu
    · exact k2.elim
  · exact k1.elim

theorem capsK_sound (s : Sat B nt σ n e h a w) : ∀ (l : List Operand) (K : List CV → Prop), capsK e l K → ∃ cs, K cs ∧ l.map a.eval = cs.map (CV.den σ) ∧ ∀ c ∈ cs, c.lt n
  | [], K, hk => ⟨[], hk, rfl, by simp⟩
  | x :: r, K, hk => by
    obtain ⟨m, k1, h1, h2⟩ := ev_sound s hk
    obtain ⟨cs, k2, h3, h4⟩ := capsK_sound s r _ k1
    cases h2 with
    | agg _ => exact k2.elim
    | tup _ => exact k2.elim
    | one h9 h2 =>
      clear h9
      cases h2 <;> first | exact k2.elim | skip
      case v x hx => exact ⟨_, k2, by simp [h3, h1, M.den, SV.den, CV.den], by simp only [List.mem_cons, forall_eq_or_imp, CV.lt]; exact ⟨hx, h4⟩⟩
      case ptr j off hj => exact ⟨_, k2, by simp [h3, h1, M.den, SV.den, CV.den], by simp only [List.mem_cons, forall_eq_or_imp, CV.lt]; exact ⟨hj, h4⟩⟩

theorem lenK_sound (hT : TOK P tt) {t : Nat} {m : M} (hm : m.Ok w av n) {K : M → Prop} (hk : lenK tt t m K) (ty' : TypeId) :
    ∃ r, K r ∧ (Builtin.len_ #[t] ty' #[m.den σ]).run P w = .ok (r.den σ) w ∧ r.Ok w av n := by
  unfold lenK at hk
  obtain ⟨ti, ht, k1⟩ := ty_spec hk
  clear hk
  split at k1
  · rename_i hkd
    exact ⟨_, k1, by simp [Builtin.len_, run_underlying ((hT _ _ ht).string hkd), M.den, SV.den, goInt], okv rfl⟩
  · rename_i hkd
    exact ⟨_, k1, by simp [Builtin.len_, run_underlying ((hT _ _ ht).arr hkd), M.den, SV.den, goInt], okv rfl⟩
  · rename_i hkd
    exact ⟨_, k1, by simp [Builtin.len_, run_underlying ((hT _ _ ht).sl hkd), M.den, SV.den, goInt], okv rfl⟩
  · rename_i hkd
    exact ⟨_, k1, by simp [Builtin.len_, run_underlying ((hT _ _ ht).sl hkd), M.den, SV.den, goInt], okv rfl⟩
  · rename_i j es len cap hkd
    refine ⟨_, k1, ?_, okv rfl⟩
    cases hm with
    | one h9 hm =>
      cases hm with
      | nslc hj hl =>
        by_cases hc : cap = 0
        · have : len = 0 := by omega
          simp [Builtin.len_, run_underlying ((hT _ _ ht).sl hkd), M.den, SV.den, goInt, hc, this]
        · simp [Builtin.len_, run_underlying ((hT _ _ ht).sl hkd), M.den, SV.den, goInt, hc]
  · rename_i hkd
    exact ⟨_, k1, by simp [Builtin.len_, run_underlying ((hT _ _ ht).sl hkd), M.den, SV.den, goInt], okv rfl⟩
  · rename_i x es α enc l hkd
    refine ⟨_, k1, ?_, okv rfl⟩
    cases hm with
    | one h9 hm =>
      clear h9
      cases hm with
      | view hcap hes hp hok hcell => simp [Builtin.len_, run_underlying ((hT _ _ ht).sl hkd), M.den, SV.den, goInt]
  · exact k1.elim

theorem fill_eq (place : Nat → Option (Nat × Nat)) (cells : Array Value) (i : Nat) (v : Value) (rest : List (Nat × Value)) {off size : Nat} (hp : place i = some (off, size)) (hv : v.cells.size = size) (hs : off + size ≤ cells.size) :
    Instr.fill place cells ((i, v) :: rest) = Instr.fill place (cells.toList.take off ++ v.cells.toList ++ cells.toList.drop (off + size)).toArray rest := by
  have key : ∀ (l : List Value) (k : Nat) (cs : Array Value), off + k + l.length ≤ cs.size →
      ((l.zipIdx k).foldl (fun cs (p : Value × Nat) => cs.setIfInBounds (off + p.2) p.1) cs).toList = cs.toList.take (off + k) ++ l ++ cs.toList.drop (off + k + l.length) := by
    intro l
    induction l with
    | nil => intro k cs _; simp
    | cons x r ih =>
      intro k cs hl
      simp only [List.zipIdx_cons, List.foldl_cons]
      rw [ih (k + 1) _ (by simp at hl ⊢; omega)]
      simp only [Array.toList_setIfInBounds, List.length_cons] at hl ⊢
      have hlt : off + k < cs.toList.length := by simp; omega
      rw [show off + (k + 1) = off + k + 1 by omega, List.set_eq_take_append_cons_drop, if_pos hlt]
      have h1 : (cs.toList.take (off + k)).length = off + k := by simp; omega
      rw [List.take_append, List.drop_append, h1, show off + k + 1 - (off + k) = 1 by omega, show off + k + 1 + r.length - (off + k) = r.length + 1 by omega,
        List.take_of_length_le (by omega : (cs.toList.take (off + k)).length ≤ off + k + 1), List.drop_of_length_le (by omega : (cs.toList.take (off + k)).length ≤ off + k + 1 + r.length)]
      simp
      congr 1
      omega
  simp only [Instr.fill, hp, hv]
  rw [if_neg (by simp; omega)]
  congr 1
  apply Array.ext'
  rw [← Array.foldl_toList, Array.toList_zipIdx]
  have := key v.cells.toList 0 cells (by simp [hv]; omega)
  simpa [hv] using this

theorem Value.cells_one {v : Value} (h : v.oneCell' = true) : v.cells = #[v] := by
  cases v <;> first | rfl | cases h

theorem partsK_sound (s : Sat B nt σ n e h a w) (offs : Nat → (Nat → Nat → Prop) → Prop) (place : Nat → Option (Nat × Nat)) (hoffs : ∀ i K', offs i K' → ∃ off sz, place i = some (off, sz) ∧ K' off sz) :
    ∀ (parts : List (Nat × Operand)) (l : List SV) (K : List SV → Prop), (∀ x ∈ l, x.Ok w (avoids B σ h) n) → partsK offs e parts l K →
      ∃ l', K l' ∧ (∀ x ∈ l', x.Ok w (avoids B σ h) n) ∧ Instr.fill place (denL σ l).toArray (parts.map fun p => (p.1, a.eval p.2)) = some (denL σ l').toArray
  | [], l, K, hl, hk => ⟨l, hk, hl, rfl⟩
  | (i, x) :: r, l, K, hl, hk => by
    simp only [partsK] at hk
    obtain ⟨off, sz, hp, k1⟩ := hoffs i _ hk
    clear hk
    obtain ⟨m, k2, h1, h2⟩ := ev_sound s k1
    clear k1
    cases h2 with
    | tup _ => exact k2.elim
    | one h9 h2 =>
      obtain ⟨h3, k3⟩ := cond_false_elim k2
      have hsz := Nat.eq_of_beq_eq_true h3
      subst hsz
      rename_i sv
      obtain ⟨l1, k4, a1, a2, a3⟩ := set1K_spec sv h9 h2 l off _ hl k3
      obtain ⟨l', k5, a4, a5⟩ := partsK_sound s offs place hoffs r l1 K a3 k4
      refine ⟨l', k5, a4, ?_⟩
      have hlen : (denL σ l).length = wdL l := denL_length hl σ
      simp only [List.map_cons]
      rw [fill_eq place _ i (a.eval x) _ hp (by rw [h1]; simp [M.den, Value.cells_one (h2.oneCell h9 σ)]) (by simp; omega), ← a5]
      congr 1
      rw [a1 σ, List.set_eq_take_append_cons_drop, if_pos (by omega), h1]
      simp [M.den, Value.cells_one (h2.oneCell h9 σ)]
    | agg h2 =>
      rename_i new
      obtain ⟨h3, k3⟩ := cond_false_elim k2
      have hwd := Nat.eq_of_beq_eq_true h3
      obtain ⟨l1, k4, a1, a2, a3⟩ := setK_spec new sz h2 l off _ hl k3
      obtain ⟨l', k5, a4, a5⟩ := partsK_sound s offs place hoffs r l1 K a3 k4
      refine ⟨l', k5, a4, ?_⟩
      have hlen : (denL σ l).length = wdL l := denL_length hl σ
      have hnl : (denL σ new).length = sz := by rw [denL_length h2, hwd]
      simp only [List.map_cons]
      rw [fill_eq place _ i (a.eval x) _ hp (by rw [h1]; simpa [M.den, Value.cells] using hnl) (by simp; omega), ← a5]
      congr 1
      rw [a1 σ, h1]
      simp [M.den, Value.cells]

theorem buildK_sound (hT : TOK P tt) (s : Sat B nt σ n e h a w) {t : Nat} {parts : Array (Nat × Operand)} {K : M → Prop} (hk : buildK tt e t parts.toList K) :
    ∃ m, K m ∧ (Instr.build t (parts.map fun (i, x) => (i, a.eval x))).run P w = .ok (m.den σ) w ∧ m.Ok w (avoids B σ h) n := by
  unfold buildK at hk
  obtain ⟨ti, ht, k1⟩ := ty_spec hk
  clear hk
  have r := hT t ti ht
  obtain ⟨it, hi, _, _, z, hz, hzc⟩ := r.info
  have hzz : z.cells = (denL σ ti.zero).toArray := by rw [← denL_pure r.zpure nowhere σ, ← hzc]
  have hpl : (parts.map fun (i, x) => (i, a.eval x)).toList = parts.toList.map fun p => (p.1, a.eval p.2) := by simp
  split at k1
  · rename_i fs hkd
    obtain ⟨fa, hu, hfa⟩ := r.fields hkd
    have hkn := r.known
    rw [hkd] at hkn
    simp only [TK.known, List.all_eq_true] at hkn
    have hmap : ∃ places, fa.toList.mapM (fun f => (P.info? f.type).map fun i => (f.offset, i.size)) = some places ∧ ∀ (i : Nat) (f : Field), fa[i]? = some f → places[i]? = some (f.offset, P.cellsOf f.type) := by
      obtain ⟨d, hd, hf⟩ := r.und
      rw [hkd] at hf
      rw [hu] at hd
      cases hd
      simp only [TK.fits] at hf
      have hall : ∀ f ∈ fa.toList, (P.info? f.type).isSome = true := by
        intro f hfm
        have : (f.offset, f.type) ∈ fs := by rw [← hf]; exact List.mem_map.2 ⟨f, hfm, rfl⟩
        exact hkn _ this
      refine ⟨fa.toList.map fun f => (f.offset, P.cellsOf f.type), ?_, fun i f hif => by simp [hif]⟩
      clear hf hfa hu hkn
      generalize fa.toList = l at hall
      induction l with
      | nil => rfl
      | cons f l ih =>
        obtain ⟨i, hi⟩ := Option.isSome_iff_exists.1 (hall f (by simp))
        rw [List.mapM_cons, ih fun g hg => hall g (by simp [hg])]
        simp [hi, Program.cellsOf]
    obtain ⟨places, hpm, hpi⟩ := hmap
    obtain ⟨l', k2, h1, h2⟩ := partsK_sound s _ (places.toArray[·]?) (fun i K' hK' => by
      obtain ⟨o, ft, hf, k3⟩ := fldK_spec _ _ _ hK'
      obtain ⟨tf, htf, k4⟩ := ty_spec k3
      obtain ⟨f, e1, e2, e3⟩ := hfa i o ft hf
      refine ⟨o, tf.size, ?_, k4⟩
      have := hpi i f e1
      rw [e2, e3, (hT ft tf htf).cellsOf] at this
      simpa using this) parts.toList ti.zero _ (r.zok w _ _) k1
    refine ⟨_, k2, ?_, .agg h1⟩
    apply run_build
    simp only [Program.built, hi, hu, hz, hpm, hzz, hpl, h2]
  · rename_i m el hkd
    have hu := r.arr hkd
    obtain ⟨te, hte, k2⟩ := ty_spec k1
    obtain ⟨ie, hie, hies, _⟩ := (hT el te hte).info
    obtain ⟨l', k3, h1, h2⟩ := partsK_sound s _ (fun i => some (i * ie.size, ie.size)) (fun i K' hK' => by
      obtain ⟨_, k4⟩ := cond_false_elim hK'
      exact ⟨_, _, by rw [hies], k4⟩) parts.toList ti.zero _ (r.zok w _ _) k2
    refine ⟨_, k3, ?_, .agg h1⟩
    apply run_build
    simp only [Program.built, hi, hu, hz, hie, hzz, hpl, h2]
  · exact k1.elim

theorem lookK_sound (hT : TOK P tt) (s : Mem B σ n h w) {t : Nat} {mm mx : M} (hx : mx.Ok w (avoids B σ h) n) {K : M → Prop} (hk : lookK tt t mm mx h K) :
    ∃ m, K m ∧ (Instr.lookup t (mm.den σ) (mx.den σ) false).run P w = .ok (m.den σ) w ∧ m.Ok w (avoids B σ h) n := by
  unfold lookK at hk
  split at hk <;> first | exact hk.elim | skip
  rename_i j
  split at hk <;> first | exact hk.elim | skip
  rename_i A v m key R hj
  split at hk <;> first | exact hk.elim | skip
  rename_i k m' key'
  replace hk := cond_false_elim hk
  obtain ⟨hb, he0, hk⟩ := hk
  subst he0
  simp only [Bool.and_eq_true] at hb
  obtain ⟨⟨⟨h1, h2⟩, h3⟩, h4⟩ := hb
  have e2 := Nat.eq_of_beq_eq_true h2
  have e3 := kindB_eq h3
  subst e2 e3
  obtain ⟨_, _, _, es, clock, l, g1, g2, g3, g4, g5, g6⟩ := s.holds j _ hj
  have hv : (denL σ [v]) = [v.den σ] := by rw [denL_cons, denL_nil, SV.dens_one h4]; rfl
  rw [hv] at g5
  simp only [List.cons.injEq, and_true] at g5
  have hkl : key'.length = m := by
    cases hx with
    | agg hx => cases hx _ (List.mem_singleton.2 rfl) with | ints h => exact h
  have he : (M.agg [.ints .u8 m key']).den σ = keyV key' := by simp [M.den, denL, SV.dens, keyV]
  have hm : (M.one (.mp j)).den σ = .map (some (σ j)) := rfl
  refine ⟨_, hk, ?_, .one h4 (s.ok j _ hj v (by simp))⟩
  rw [he, hm, run_lookup_map hT h1 g1 g2 g3 hkl, ← g5]
  rfl

theorem qop_sound (hT : TOK P tt) (s : Sat B nt σ n e h a w) {o : Oper} {K : M → Prop} (hk : qop tt o.op e h K) :
    ∃ m, K m ∧ (execOp a.eval o).run P w = .ok (.value (m.den σ)) w ∧ m.Ok w (avoids B σ h) n := by
  obtain ⟨dst, op, type, pos, after, guard⟩ := o
  simp only at hk
  cases op <;> first | exact hk.elim | skip
  case move x =>
    obtain ⟨m, h1, h2, h3⟩ := ev_sound s hk
    exact ⟨m, h1, by simp [execOp, h2], h3⟩
  case assign x =>
    obtain ⟨m, h1, h2, h3⟩ := ev_sound s hk
    exact ⟨m, h1, by simp [execOp, h2], h3⟩
  case pick c x y =>
    obtain ⟨m, k1, h2, h3⟩ := ev_sound s hk
    split at k1
    · rename_i t
      cases t with
      | true =>
        obtain ⟨m', g1, g2, g3⟩ := ev_sound s k1
        exact ⟨m', g1, by simp [execOp, h2, g2, M.den, SV.den, asBool], g3⟩
      | false =>
        obtain ⟨m', g1, g2, g3⟩ := ev_sound s k1
        exact ⟨m', g1, by simp [execOp, h2, g2, M.den, SV.den, asBool], g3⟩
    · exact k1.elim
  case build t parts =>
    obtain ⟨m, h1, h2, h3⟩ := buildK_sound hT s hk
    exact ⟨m, h1, by simp [execOp, h2], h3⟩
  case load t x =>
    obtain ⟨p, k1, h1, h2⟩ := ev_sound s hk
    obtain ⟨ti, ht, k2⟩ := ty_spec k1
    obtain ⟨m, g1, g2, g3⟩ := loadK_sound hT s.mem ht h2 k2
    exact ⟨m, g1, by simp [execOp, h1, g2], g3⟩
  case lookup t x i ok =>
    cases ok with
    | true => exact hk.elim
    | false =>
      obtain ⟨mm, k1, h1, h2⟩ := ev_sound s hk
      obtain ⟨mx, k2, h3, h4⟩ := ev_sound s k1
      obtain ⟨m, g1, g2, g3⟩ := lookK_sound hT s.mem h4 k2
      exact ⟨m, g1, by simp [execOp, h1, h3, g2], g3⟩
  case nilCheck x =>
    obtain ⟨m, k1, h1, h2⟩ := ev_sound s hk
    cases h2 with
    | agg _ => exact k1.elim
    | tup _ => exact k1.elim
    | one h9 h2 =>
      cases h2 <;> first | exact k1.elim | skip
      case ptr h2 => exact ⟨_, k1, by simp [execOp, h1, M.den, SV.den], .one rfl (.ptr h2)⟩
      case aptr h2 => exact ⟨_, k1, by simp [execOp, h1, M.den, SV.den], .one rfl (.aptr h2)⟩
      case eptr h2 => exact ⟨_, k1, by simp [execOp, h1, M.den, SV.den], .one rfl (.eptr h2)⟩
      case rptr q1 q2 q3 => exact ⟨_, k1, by simp [execOp, h1, M.den, SV.den], .one rfl (.rptr q1 q2 q3)⟩
      case clo h2 => exact ⟨_, k1, by simp [execOp, h1, M.den, SV.den], .one rfl (.clo h2)⟩
  case sliceToArrayPointer t x =>
    obtain ⟨m, k1, h1, h2⟩ := ev_sound s hk
    cases h2 with
    | agg _ => exact k1.elim
    | tup _ => exact k1.elim
    | one h9 h2 =>
      cases h2 <;> first | exact k1.elim | skip
      case asl h2 =>
        obtain ⟨ti, ht, k2⟩ := ty_spec k1
        obtain ⟨d, hd, hf⟩ := (hT t ti ht).und
        split at k2
        · rename_i mm el hkd
          rw [hkd] at hf
          cases d <;> simp only [TK.fits] at hf
          obtain ⟨rfl, rfl⟩ := hf
          refine ⟨_, k2.2, ?_, .one rfl (.aptr h2)⟩
          have hlt := k2.1
          simp [execOp, h1, M.den, SV.den, Instr.arrayAt, run_underlying hd, Nat.not_lt.2 hlt]
        · exact k2.elim
      case slc h2 =>
        obtain ⟨ti, ht, k2⟩ := ty_spec k1
        obtain ⟨d, hd, hf⟩ := (hT t ti ht).und
        split at k2
        · rename_i mm el hkd
          rw [hkd] at hf
          cases d <;> simp only [TK.fits] at hf
          obtain ⟨rfl, rfl⟩ := hf
          refine ⟨_, k2.2, ?_, .one rfl (.eptr h2)⟩
          have hlt := k2.1
          simp [execOp, h1, M.den, SV.den, Instr.arrayAt, run_underlying hd, Nat.not_lt.2 hlt]
        · exact k2.elim
      case view es α enc l xa cap hcap hes hp hok hcell =>
        obtain ⟨ti, ht, k2⟩ := ty_spec k1
        obtain ⟨d, hd, hf⟩ := (hT t ti ht).und
        split at k2
        · rename_i mm el hkd
          rw [hkd] at hf
          cases d <;> simp only [TK.fits] at hf
          obtain ⟨rfl, rfl⟩ := hf
          obtain ⟨hb, hlt, hby, k3⟩ := cond_false_elim k2
          simp only [Bool.and_eq_true] at hb
          have e1 := Nat.eq_of_beq_eq_true hb.1
          have e2 := Nat.le_of_ble_eq_true hb.2
          subst e1
          have first : ∀ (k : Nat) (hk : k < l.length), ∃ (v : Int), enc l[k] = [SV.v (.int .u8 v)] ∧ ∃ b o, xa = some ⟨b, o, none⟩ ∧ ¬ avoids B σ h b ∧ w.cell? ⟨b, o + k, none⟩ = some (.int .u8 v) := by
            intro k hk
            obtain ⟨v, hv⟩ := hby _ (List.getElem_mem hk)
            obtain ⟨b, o, g1, g2, g3⟩ := hcell k 0 hk (.int .u8 v) (by rw [hv]; rfl)
            exact ⟨v, hv, b, o, g1, g2, by rw [← g3]; congr 2; omega⟩
          obtain ⟨v0, _, b, o, rfl, hna, _⟩ := first 0 (by omega)
          refine ⟨_, k3, ?_, .one rfl (.rptr (fun s hs => by rw [List.mem_singleton] at hs; subst hs; rfl) (fun s hs => by rw [List.mem_singleton] at hs; subst hs; exact .ints (by simp [bytesOf]; omega)) fun k u hu => ?_)⟩
          · simp [execOp, h1, M.den, SV.den, Instr.arrayAt, run_underlying hd, Nat.not_lt.2 hlt, vaddr]
          · refine ⟨hna, ?_⟩
            have hu : (List.map (Value.int .u8) (bytesOf enc (l.take mm)) ++ [])[k]? = some u := hu
            rw [List.append_nil, List.getElem?_map] at hu
            have hk : k < l.length ∧ k < mm := by
              cases hg : (bytesOf enc (l.take mm))[k]? with
              | none => rw [hg] at hu; cases hu
              | some y =>
                have := (List.getElem?_eq_some_iff.1 hg).1
                simp [bytesOf] at this
                omega
            obtain ⟨v, hv, b', o', e3, _, g3⟩ := first k hk.1
            cases e3
            have e4 : (bytesOf enc (l.take mm))[k]? = some v := by
              simp only [bytesOf, List.getElem?_map, List.getElem?_take, if_pos hk.2, List.getElem?_eq_getElem hk.1, Option.map_some, hv]
              rfl
            rw [e4] at hu
            cases hu
            exact g3
        · exact k2.elim
  case binOp op t x y yt =>
    obtain ⟨mx, k1, h1, h2⟩ := ev_sound s hk
    obtain ⟨my, k2, h3, h4⟩ := ev_sound s k1
    obtain ⟨m, g1, g2, g3⟩ := binK_sound (P := P) (σ := σ) (w := w) (xo := x) (yo := y) hT h2 h4 k2
    refine ⟨m, g1, ?_, g3⟩
    simp only [execOp, h1, h3]
    rw [Sem.run_bind, g2]
    rfl
  case unOp op t x =>
    obtain ⟨mx, k1, h1, h2⟩ := ev_sound s hk
    obtain ⟨m, g1, g2, g3⟩ := unK_sound (P := P) (σ := σ) (w := w) (av := avoids B σ h) (n := n) k1
    exact ⟨m, g1, by simp [execOp, h1, g2], g3⟩
  case convert src dst' x =>
    obtain ⟨mx, k1, h1, h2⟩ := ev_sound s hk
    obtain ⟨m, g1, g2, g3⟩ := convK_sound hT s.mem h2 k1
    exact ⟨m, g1, by simp [execOp, h1, g2], g3⟩
  case fieldAddr t x f =>
    obtain ⟨mx, k1, h1, h2⟩ := ev_sound s hk
    obtain ⟨m, g1, g2, g3⟩ := fieldAddrK_sound (σ := σ) hT h2 k1
    exact ⟨m, g1, by simp [execOp, h1, g2], g3⟩
  case field t x f =>
    obtain ⟨mx, k1, h1, h2⟩ := ev_sound s hk
    obtain ⟨m, g1, g2, g3⟩ := fieldK_sound (σ := σ) hT h2 k1
    exact ⟨m, g1, by simp [execOp, h1, g2], g3⟩
  case indexAddr t x i =>
    obtain ⟨mx, k1, h1, h2⟩ := ev_sound s hk
    obtain ⟨mi, k2, h3, h4⟩ := ev_sound s k1
    obtain ⟨m, g1, g2, g3⟩ := indexAddrK_sound (σ := σ) hT h2 k2
    exact ⟨m, g1, by simp [execOp, h1, h3, g2], g3⟩
  case index t x i =>
    obtain ⟨mx, k1, h1, h2⟩ := ev_sound s hk
    obtain ⟨mi, k2, h3, h4⟩ := ev_sound s k1
    obtain ⟨m, g1, g2, g3⟩ := indexK_sound (σ := σ) hT h2 k2
    exact ⟨m, g1, by simp [execOp, h1, h3, g2], g3⟩
  case slice t x lo hi mx =>
    obtain ⟨m0, k1, h1, h2⟩ := ev_sound s hk
    obtain ⟨m, g1, g2, g3⟩ := sliceK_sound hT s h2 k1
    exact ⟨m, g1, by simp [execOp, h1, g2], g3⟩
  case extract x i =>
    obtain ⟨m0, k1, h1, h2⟩ := ev_sound s hk
    cases h2 with
    | one _ _ => exact k1.elim
    | agg _ => exact k1.elim
    | tup h2 =>
      obtain ⟨m, g1, g2, g3⟩ := extK_sound (P := P) (σ := σ) _ i K h2 k1
      exact ⟨m, g1, by simp [execOp, h1, g2], g3⟩
  case makeFunc fn first captured =>
    cases fn <;> first | exact hk.elim | skip
    rename_i f
    obtain ⟨h0, k1⟩ := cond_false_elim hk
    obtain ⟨cs, k2, h1, h2⟩ := capsK_sound s captured.toList _ k1
    refine ⟨_, k2, ?_, .one rfl (.clo h2)⟩
    have hf : first = #[] := by simpa using h0
    have hc : captured.map a.eval = (cs.map (CV.den σ)).toArray := by rw [← h1]; exact Array.ext' (by simp)
    simp [execOp, Instr.makeFunc, hf, hc, M.den, SV.den]
  case call c =>
    obtain ⟨callee, args, ts⟩ := c
    cases callee <;> first | exact hk.elim | skip
    rename_i b
    have two : ∀ b : Builtin, (match args.toList with | [x, y] => ev e x fun mx => ev e y fun my => minmaxK b mx my K | _ => False) →
        ∃ m, K m ∧ (execOp a.eval { dst := dst, op := .call ⟨.builtin b, args, ts⟩, type := type, pos := pos, after := after, guard := guard }).run P w = .ok (.value (m.den σ)) w ∧ m.Ok w (avoids B σ h) n := by
      intro b hb
      split at hb
      · rename_i x y hxy
        obtain ⟨mx, k1, h1, h2⟩ := ev_sound s hb
        obtain ⟨my, k2, h3, h4⟩ := ev_sound s k1
        have hargs : args = #[x, y] := Array.toList_inj.1 hxy
        subst hargs
        unfold minmaxK at k2
        split at k2
        · refine ⟨_, k2, ?_, okv rfl⟩
          simp [execOp, resolve, h1, h3, invoke, builtin, Builtin.min_, Builtin.min2, M.den, SV.den]
        · refine ⟨_, k2, ?_, okv rfl⟩
          simp [execOp, resolve, h1, h3, invoke, builtin, Builtin.max_, Builtin.max2, M.den, SV.den]
        · exact k2.elim
      · exact hb.elim
    by_cases hb : b = .len
    · subst hb
      simp only [qop] at hk
      split at hk
      · rename_i x t hx htt
        obtain ⟨mx, k1, h1, h2⟩ := ev_sound s hk
        obtain ⟨m, g1, g2, g3⟩ := lenK_sound (P := P) (σ := σ) (w := w) hT h2 k1 type
        refine ⟨m, g1, ?_, g3⟩
        have hargs : args = #[x] := Array.toList_inj.1 hx
        have hts : ts = #[t] := Array.toList_inj.1 htt
        subst hargs; subst hts
        simp [execOp, resolve, h1, invoke, builtin, g2]
      · exact hk.elim
    · refine two b ?_
      cases b <;> first | exact absurd rfl hb | exact hk

end
end Go.Sx
