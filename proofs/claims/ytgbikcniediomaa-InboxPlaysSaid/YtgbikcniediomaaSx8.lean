/- The remaining operations that leave memory alone. Holds for every program. -/
import Derived.Test.YtgbikcniediomaaSx7
namespace Go.Sx
set_option linter.unusedSimpArgs false
set_option linter.unusedVariables false

section
variable {P : Program} {tt : Tab} {B : Base} {nt : Nat} {σ : Nat → Nat} {n : Nat} {e : Env} {h : Bs} {a : Act} {w : World} {av : Nat → Prop}

theorem eqGuard_skip {op : BinOp} {t : Nat} {xo yo : Operand} {x y : Value} (hx : ∀ c, x ≠ .agg c) (hx' : x ≠ .nilIface) : (eqGuard op t xo yo x y).run P w = .ok () w := by
  unfold eqGuard
  cases op <;> simp <;> (split <;> simp_all)

theorem binK_sound (hT : TOK P tt) {op : BinOp} {t : Nat} {xo yo : Operand} {x y : M} (hx : x.Ok w av n) (hy : y.Ok w av n) {K : M → Prop} (hk : binK tt op t x y K) :
    ∃ m, K m ∧ (do eqGuard op t xo yo (x.den σ) (y.den σ); binOp op t (x.den σ) (y.den σ) : Sem Value).run P w = .ok (m.den σ) w ∧ m.Ok w av n := by
  unfold binK at hk
  split at hk
  · obtain ⟨m, h1, h2, h3⟩ := ints2_sound (P := P) (σ := σ) (w := w) (av := av) (n := n) (t := t) hk
    refine ⟨m, h1, ?_, h3⟩
    simp only [M.den, SV.den, Sem.run_bind]
    rw [eqGuard_skip (by simp) (by simp)]
    exact h2
  · obtain ⟨m, h1, h2, h3⟩ := strs2_sound (P := P) (σ := σ) (w := w) (av := av) (n := n) (t := t) hk
    refine ⟨m, h1, ?_, h3⟩
    simp only [M.den, SV.den, Sem.run_bind]
    rw [eqGuard_skip (by simp) (by simp)]
    exact h2
  · split at hk
    · obtain ⟨ti, ht, hk⟩ := ty_spec hk
      obtain ⟨b, h1, h2, h3, h4, _⟩ := eq2_sound (σ := σ) hT ht hx hy hk
      refine ⟨_, h1, ?_, okv rfl⟩
      simp [h3, h4, h2, M.den, SV.den]
    · obtain ⟨ti, ht, hk⟩ := ty_spec hk
      obtain ⟨b, h1, h2, h3, _, h4⟩ := eq2_sound (σ := σ) hT ht hx hy hk
      refine ⟨_, h1, ?_, okv rfl⟩
      simp [h3, h4, h2, M.den, SV.den]
    · exact hk.elim

theorem unK_sound {op : UnOp} {x : M} {K : M → Prop} (hk : unK op x K) : ∃ m, K m ∧ (Op.unary op (x.den σ)).run P w = .ok (m.den σ) w ∧ m.Ok w av n := by
  unfold unK at hk
  split at hk <;> first | exact hk.elim | (refine ⟨_, hk, ?_, okv rfl⟩; simp [Op.unary, Op.intArith, Op.intBits, M.den, SV.den, bits])

theorem extK_sound : ∀ (l : List M) (i : Nat) (K : M → Prop), (∀ m ∈ l, m.Ok w av n) → extK l i K → ∃ m, K m ∧ (Instr.extract ((M.tup l).den σ) i).run P w = .ok (m.den σ) w ∧ m.Ok w av n := by
  intro l i K hl hk
  have key : ∀ (l : List M) (i : Nat), (∀ m ∈ l, m.Ok w av n) → extK l i K → ∃ m, K m ∧ l[i]? = some m ∧ m.Ok w av n := by
    intro l
    induction l with
    | nil => intro i _ h; exact h.elim
    | cons m r ih =>
      intro i hl hk
      cases i with
      | zero => exact ⟨m, hk, rfl, hl m (by simp)⟩
      | succ i =>
        obtain ⟨m', h1, h2, h3⟩ := ih i (fun x hx => hl x (by simp [hx])) hk
        exact ⟨m', h1, by simpa using h2, h3⟩
  obtain ⟨m, h1, h2, h3⟩ := key l i hl hk
  refine ⟨m, h1, ?_, h3⟩
  rw [M.den_tup]
  simp [Instr.extract, h2]

theorem fldK_spec : ∀ (fs : List (Nat × Nat)) (i : Nat) (K : Nat → Nat → Prop), fldK fs i K → ∃ o t, fs[i]? = some (o, t) ∧ K o t
  | [], _, _, h => h.elim
  | (o, t) :: r, 0, K, h => ⟨o, t, rfl, h⟩
  | (o, t) :: r, i + 1, K, h => by
    obtain ⟨o', t', h1, h2⟩ := fldK_spec r i K h
    exact ⟨o', t', by simpa using h1, h2⟩

theorem TRow.fields {t : Nat} {ti : TI} (r : TRow P t ti) {fs : List (Nat × Nat)} (hk : ti.kind = .str fs) : ∃ a : Array Field, P.underlying t = some (.struct a) ∧ ∀ (i o ft : Nat), fs[i]? = some (o, ft) → ∃ f, a[i]? = some f ∧ f.offset = o ∧ f.type = ft := by
  obtain ⟨d, hd, hf⟩ := r.und
  rw [hk] at hf
  cases d <;> simp only [TK.fits] at hf
  rename_i a
  refine ⟨a, hd, fun i o ft hi => ?_⟩
  rw [← hf] at hi
  simp only [List.getElem?_map, Array.getElem?_toList, Option.map_eq_some_iff, Prod.mk.injEq] at hi
  obtain ⟨f, h1, h2, h3⟩ := hi
  exact ⟨f, h1, h2, h3⟩

theorem fieldAddrK_sound (hT : TOK P tt) {t : Nat} {x : M} {f : Nat} (hx : x.Ok w av n) {K : M → Prop} (hk : fieldAddrK tt t x f K) :
    ∃ m, K m ∧ (Instr.fieldAt t (x.den σ) f).run P w = .ok (m.den σ) w ∧ m.Ok w av n := by
  unfold fieldAddrK at hk
  obtain ⟨ti, ht, k1⟩ := ty_spec hk
  clear hk
  split at k1
  · rename_i fs hfs
    obtain ⟨o, ft, hf, k2⟩ := fldK_spec _ _ _ k1
    clear k1
    obtain ⟨tf, htf, k3⟩ := ty_spec k2
    clear k2
    obtain ⟨fa, hu, hfa⟩ := (hT t ti ht).fields hfs
    obtain ⟨fd, g1, g2, g3⟩ := hfa f o ft hf
    cases h0 : Nat.beq tf.size 0 with
    | true => rw [h0] at k3; exact k3.elim
    | false =>
      rw [h0] at k3
      simp only [cond_false] at k3
      have hsz := (hT ft tf htf).run_sizeOf
      have hne : tf.size ≠ 0 := by intro h1; rw [h1] at h0; cases h0
      have place : ∀ (b off : Nat), (Instr.fieldAt t (.pointer (some ⟨b, off, none⟩)) f).run P w = .ok (.pointer (some ⟨b, off + o, none⟩)) w := by
        intro b off
        have hadd : (⟨b, off, none⟩ : Addr).add o = ⟨b, off + o, none⟩ := by unfold Addr.add; split <;> simp_all
        simp [Instr.fieldAt, run_underlying hu, g1, Instr.sureAddr, fieldPlace, g3, hsz, hne, g2, hadd]
      cases hx with
      | agg _ => exact k3.elim
      | tup _ => exact k3.elim
      | one h9 hx =>
        clear h9
        cases hx <;> first | exact k3.elim | skip
        case ptr j off hj => exact ⟨_, k3, by simpa [M.den, SV.den] using place (σ j) off, .one rfl (.ptr hj)⟩
        case eptr j es i k hj =>
          refine ⟨_, k3, ?_, .one rfl (.eptr hj)⟩
          have := place (σ j) (i * es + k)
          simpa [M.den, SV.den, Nat.add_assoc] using this
        case rptr b off cells hp hok hcell =>
          obtain ⟨l, a1, a2, a3, a4, a5⟩ := subK_spec cells o tf.size _ hok k3
          refine ⟨_, a1, by simpa [M.den, SV.den] using place b off, .one rfl (.rptr (a5 hp) a4 fun k u hu => ?_)⟩
          rw [a2, List.getElem?_take] at hu
          split at hu
          · rw [List.getElem?_drop] at hu
            rw [Nat.add_assoc]; exact hcell _ u hu
          · cases hu
  · exact k1.elim

theorem fieldK_sound (hT : TOK P tt) {t : Nat} {x : M} {f : Nat} (hx : x.Ok w av n) {K : M → Prop} (hk : fieldK tt t x f K) :
    ∃ m, K m ∧ (Instr.field t (x.den σ) f).run P w = .ok (m.den σ) w ∧ m.Ok w av n := by
  unfold fieldK at hk
  obtain ⟨ti, ht, k1⟩ := ty_spec hk
  clear hk
  split at k1
  · rename_i fs l hfs
    obtain ⟨o, ft, hf, k2⟩ := fldK_spec _ _ _ k1
    clear k1
    obtain ⟨tf, htf, k3⟩ := ty_spec k2
    clear k2
    obtain ⟨fa, hu, hfa⟩ := (hT t ti ht).fields hfs
    obtain ⟨fd, g1, g2, g3⟩ := hfa f o ft hf
    cases hx with
    | agg hx =>
      obtain ⟨m, b1, b3, b4⟩ := ldK_part (σ := σ) (w := w) (hT ft tf htf) hx k3
      refine ⟨m, b1, ?_, b3⟩
      simp [Instr.field, run_underlying hu, g1, asAgg, M.den, g2, g3, b4]
  · exact k1.elim

theorem TRow.arr {t : Nat} {ti : TI} (r : TRow P t ti) {m e : Nat} (hk : ti.kind = .arr m e) : P.underlying t = some (.array m e) := by
  obtain ⟨d, hd, hf⟩ := r.und
  rw [hk] at hf
  cases d <;> simp only [TK.fits] at hf
  obtain ⟨rfl, rfl⟩ := hf
  exact hd

theorem TRow.sl {t : Nat} {ti : TI} (r : TRow P t ti) {e : Nat} (hk : ti.kind = .sl e) : P.underlying t = some (.slice e) := by
  obtain ⟨d, hd, hf⟩ := r.und
  rw [hk] at hf
  cases d <;> simp only [TK.fits] at hf
  subst hf
  exact hd

theorem TRow.int {t : Nat} {ti : TI} (r : TRow P t ti) {k : IntKind} (hk : ti.kind = .int k) : P.underlying t = some (.int k) := by
  obtain ⟨d, hd, hf⟩ := r.und
  rw [hk] at hf
  cases d <;> simp only [TK.fits] at hf
  subst hf
  exact hd

theorem TRow.string {t : Nat} {ti : TI} (r : TRow P t ti) (hk : ti.kind = .string) : P.underlying t = some .string := by
  obtain ⟨d, hd, hf⟩ := r.und
  rw [hk] at hf
  cases d <;> first | exact hf.elim | exact hd

theorem addr_add (b o k : Nat) : (⟨b, o, none⟩ : Addr).add k = ⟨b, o + k, none⟩ := by unfold Addr.add; split <;> simp_all

theorem run_indexAt_arr {t m e : Nat} (hu : P.underlying t = some (.array m e)) {sz : Nat} (hs : (sizeOf e).run P w = .ok sz w) {b o k : Nat} {kk : IntKind} (hk : k < m) :
    (Instr.indexAt t (.pointer (some ⟨b, o, none⟩)) (.int kk (k : Int))).run P w = .ok (.pointer (some ⟨b, o + k * sz, none⟩)) w := by
  have h1 : (0 : Int) ≤ (k : Int) ∧ (k : Int) < (m : Int) := by omega
  simp [Instr.indexAt, asIntOf, run_underlying hu, Instr.sureAddr, hs, addr_add, hk]

theorem run_indexAt_sl {t e : Nat} (hu : P.underlying t = some (.slice e)) {sz : Nat} (hs : (sizeOf e).run P w = .ok sz w) {b o k len cap : Nat} {kk : IntKind} (hk : k < len) :
    (Instr.indexAt t (.slice (some ⟨b, o, none⟩) len cap) (.int kk (k : Int))).run P w = .ok (.pointer (some ⟨b, o + k * sz, none⟩)) w := by
  simp [Instr.indexAt, asIntOf, run_underlying hu, hs, addr_add, hk]

theorem indexAddrK_sound (hT : TOK P tt) {t : Nat} {x i : M} (hx : x.Ok w av n) {K : M → Prop} (hk : indexAddrK tt t x i K) :
    ∃ m, K m ∧ (Instr.indexAt t (x.den σ) (i.den σ)).run P w = .ok (m.den σ) w ∧ m.Ok w av n := by
  unfold indexAddrK at hk
  obtain ⟨ti, ht, k1⟩ := ty_spec hk
  clear hk
  split at k1
  · rename_i m e hkd
    obtain ⟨te, hte, k2⟩ := ty_spec k1
    clear k1
    obtain ⟨kk, k, rfl, hkm, k3⟩ := idx_spec k2
    clear k2
    have hu := (hT t ti ht).arr hkd
    have hsz := (hT e te hte).run_sizeOf w
    have place : ∀ b o, (Instr.indexAt t (.pointer (some ⟨b, o, none⟩)) ((M.one (.v (.int kk ((k : Nat) : Int)))).den σ)).run P w = .ok (.pointer (some ⟨b, o + k * te.size, none⟩)) w :=
      fun b o => run_indexAt_arr hu hsz hkm
    cases hx with
    | agg _ => exfalso; revert k3; cases te.kind <;> exact id
    | tup _ => exfalso; revert k3; cases te.kind <;> exact id
    | one h9 hx =>
      clear h9
      cases hx <;> (try (exfalso; revert k3; cases te.kind <;> exact id))
      case ptr j off hj =>
        have h1 := place (σ j) off
        cases hke : te.kind <;> simp only [hke] at k3
        case int =>
          obtain ⟨h2, h3⟩ := cond_false_elim k3
          have hs1 := Nat.eq_of_beq_eq_true h2
          rw [hs1, Nat.mul_one] at h1
          exact ⟨_, h3, h1, .one rfl (.aptr hj)⟩
        all_goals exact ⟨_, k3, h1, .one rfl (.ptr hj)⟩
      case rptr b off cells hp hok hcell =>
        have h1 := place b off
        cases hke : te.kind <;> simp only [hke] at k3 <;> first | exact k3.elim | skip
        obtain ⟨h2, h3⟩ := cond_false_elim k3
        have hs1 := Nat.eq_of_beq_eq_true h2
        rw [hs1, Nat.mul_one] at h1
        obtain ⟨k', mm, il, ⟨b1, b2⟩, b3, b4⟩ := chunkK_spec cells 0 _ hok h3
        have hil : k < il.length := by omega
        refine ⟨_, b2, h1, .one rfl (.rptr (by simp [SV.isPure]) (by simp; exact .v rfl) fun q u hu => ?_)⟩
        cases q with
        | zero =>
          simp [denL, SV.dens, SV.den, List.getElem?_eq_getElem hil] at hu
          subst hu
          rw [Nat.add_zero]
          exact hcell k _ (by have := b4 nowhere k hil; rwa [Nat.zero_add] at this)
        | succ q => simp [denL, SV.dens] at hu
  · rename_i e hkd
    obtain ⟨te, hte, k2⟩ := ty_spec k1
    clear k1
    obtain ⟨kk, k, rfl, k3⟩ := idx_spec k2
    clear k2
    have hu := (hT t ti ht).sl hkd
    have hsz := (hT e te hte).run_sizeOf w
    cases hx with
    | agg _ => exact k3.elim
    | tup _ => exact k3.elim
    | one h9 hx =>
      clear h9
      cases hx <;> first | exact k3.elim | skip
      case slc j es off len cap hj =>
        replace k3 : bif Nat.beq es te.size then k < len ∧ K (.one (.eptr j es (off + k) 0)) else (bif Nat.beq es (te.size + 1000000) && Nat.beq off 0 then k < len ∧ K (.one (.eptr j te.size k 0)) else False) := k3
        cases h2 : Nat.beq es te.size with
        | false =>
          rw [h2] at k3
          obtain ⟨h5, h3, h4⟩ := cond_false_elim (show bif Nat.beq es (te.size + 1000000) && Nat.beq off 0 then k < len ∧ K (.one (.eptr j te.size k 0)) else False from k3)
          simp only [Bool.and_eq_true] at h5
          have ho := Nat.eq_of_beq_eq_true h5.2
          subst ho
          refine ⟨_, h4, ?_, .one rfl (.eptr hj)⟩
          have := run_indexAt_sl (P := P) (w := w) hu hsz (b := σ j) (o := 0) (k := k) (len := len) (cap := cap) (kk := kk) h3
          simpa [M.den, SV.den] using this
        | true =>
        rw [h2] at k3
        obtain ⟨h3, h4⟩ : k < len ∧ K (.one (.eptr j es (off + k) 0)) := k3
        have hs1 := Nat.eq_of_beq_eq_true h2
        subst hs1
        refine ⟨_, h4, ?_, .one rfl (.eptr hj)⟩
        have := run_indexAt_sl (P := P) (w := w) hu hsz (b := σ j) (o := off * te.size) (k := k) (len := len) (cap := cap) (kk := kk) h3
        simpa [M.den, SV.den, Nat.add_mul] using this
      case nslc j es len cap hj hl =>
        obtain ⟨h2, h3, h4⟩ := cond_false_elim k3
        have hs1 := Nat.eq_of_beq_eq_true h2
        subst hs1
        refine ⟨_, h4, ?_, .one rfl (.eptr hj)⟩
        have hc : ¬ cap = 0 := by omega
        have := run_indexAt_sl (P := P) (w := w) hu hsz (b := σ j) (o := 0) (k := k) (len := len) (cap := cap) (kk := kk) h3
        simpa [M.den, SV.den, hc] using this
      case asl j off i len cap hj =>
        obtain ⟨h2, h3, h4⟩ := cond_false_elim k3
        have hs1 := Nat.eq_of_beq_eq_true h2
        refine ⟨_, h4, ?_, .one rfl (.aptr hj)⟩
        have := run_indexAt_sl (P := P) (w := w) hu hsz (b := σ j) (o := off + i) (k := k) (len := len) (cap := cap) (kk := kk) h3
        rw [hs1, Nat.mul_one] at this
        simpa [M.den, SV.den, Nat.add_assoc] using this
      case view es α enc l ad cap hcap hes hp hok hcell =>
        cases hb2 : Nat.beq es te.size && Nat.ble 1 es with
        | false =>
          replace k3 : bif Nat.beq es te.size && Nat.ble 1 es then ∃ hk : k < l.length, K (.one (.rptr (vaddr (.slice ad l.length cap) (k * es)) (enc l[k]))) else
            (bif Nat.beq es 0 && Nat.beq te.size 1 then ∃ b o m c, (Value.slice ad l.length cap) = .slice (some ⟨b, o, none⟩) m c ∧ k < l.length ∧ K (.one (.v (.pointer (some ⟨b, o + k, none⟩)))) else False) := k3
          rw [hb2] at k3
          obtain ⟨h5, b, o, m, c, e1, h3, h4⟩ := cond_false_elim (show bif Nat.beq es 0 && Nat.beq te.size 1 then ∃ b o m c, (Value.slice ad l.length cap) = .slice (some ⟨b, o, none⟩) m c ∧ k < l.length ∧ K (.one (.v (.pointer (some ⟨b, o + k, none⟩)))) else False from k3)
          simp only [Bool.and_eq_true] at h5
          have hs1 := Nat.eq_of_beq_eq_true h5.2
          cases e1
          refine ⟨_, h4, ?_, .one rfl (.v rfl)⟩
          have := run_indexAt_sl (P := P) (w := w) hu hsz (b := b) (o := o) (k := k) (len := l.length) (cap := cap) (kk := kk) h3
          rw [hs1, Nat.mul_one] at this
          simpa [M.den, SV.den] using this
        | true =>
        replace k3 : bif Nat.beq es te.size && Nat.ble 1 es then ∃ hk : k < l.length, K (.one (.rptr (vaddr (.slice ad l.length cap) (k * es)) (enc l[k]))) else
            (bif Nat.beq es 0 && Nat.beq te.size 1 then ∃ b o m c, (Value.slice ad l.length cap) = .slice (some ⟨b, o, none⟩) m c ∧ k < l.length ∧ K (.one (.v (.pointer (some ⟨b, o + k, none⟩)))) else False) := k3
        rw [hb2] at k3
        obtain ⟨h3, h4⟩ : ∃ hk : k < l.length, K (.one (.rptr (vaddr (.slice ad l.length cap) (k * es)) (enc l[k]))) := k3
        have h2 := hb2
        simp only [Bool.and_eq_true] at h2
        have hs1 := Nat.eq_of_beq_eq_true h2.1
        have hs0 := Nat.le_of_ble_eq_true h2.2
        subst hs1
        have hlen := hes l[k] (List.getElem_mem h3)
        have h0 : 0 < (denL nowhere (enc l[k])).length := by omega
        obtain ⟨b, o, rfl, g1, g2⟩ := hcell k 0 h3 _ (List.getElem?_eq_getElem h0)
        refine ⟨_, h4, ?_, .one rfl (.rptr (hp _ (List.getElem_mem h3)) (hok _ (List.getElem_mem h3)) fun q u hu => ?_)⟩
        · have := run_indexAt_sl (P := P) (w := w) hu hsz (b := b) (o := o) (k := k) (len := l.length) (cap := cap) (kk := kk) h3
          simpa [M.den, SV.den, vaddr] using this
        · obtain ⟨b', o', e1, e2, e3⟩ := hcell k q h3 u hu
          cases e1
          exact ⟨e2, by rw [← Nat.add_assoc] at e3; exact e3⟩
  · exact k1.elim

theorem indexK_sound (hT : TOK P tt) {t : Nat} {x i : M} (hx : x.Ok w av n) {K : M → Prop} (hk : indexK tt t x i K) :
    ∃ m, K m ∧ (Instr.index t (x.den σ) (i.den σ)).run P w = .ok (m.den σ) w ∧ m.Ok w av n := by
  unfold indexK at hk
  obtain ⟨ti, ht, k1⟩ := ty_spec hk
  clear hk
  split at k1
  · rename_i m e l hkd
    obtain ⟨te, hte, k2⟩ := ty_spec k1
    clear k1
    obtain ⟨kk, k, rfl, hkm, k3⟩ := idx_spec k2
    clear k2
    have hu := (hT t ti ht).arr hkd
    have hsz := (hT e te hte).run_sizeOf w
    cases hx with
    | agg hx =>
      have red : ∀ v, (part e (denL σ l).toArray (k * te.size)).run P w = .ok v w → (Instr.index t ((M.agg l).den σ) ((M.one (.v (.int kk ((k : Nat) : Int)))).den σ)).run P w = .ok v w := by
        intro v hv
        simp [Instr.index, asIntOf, run_underlying hu, M.den, SV.den, hkm, hsz, hv]
      split at k3
      · rename_i kd hke
        obtain ⟨h2, h3⟩ := cond_false_elim k3
        have hs1 := Nat.eq_of_beq_eq_true h2
        obtain ⟨k', mm, il, ⟨b1, b2⟩, b3, b4⟩ := chunkK_spec l 0 _ hx h3
        have hil : k < il.length := by omega
        refine ⟨_, b2, red _ ?_, okv rfl⟩
        have ha : te.agg = false := by simp [TI.agg, hke]
        have h4 := b4 σ k hil
        rw [Nat.zero_add] at h4
        simp only [part, Sem.run_bind, (hT e te hte).run_isAgg (by rw [hke]; simp) w, Result.andThen_ok, ha, Bool.false_eq_true, if_false, hs1, Nat.mul_one, List.getElem?_toArray, h4, Sem.run_pure]
        simp [M.den, SV.den, List.getElem?_eq_getElem hil]
      · obtain ⟨m', b1, b3, b4⟩ := ldK_part (σ := σ) (w := w) (hT e te hte) hx k3
        exact ⟨m', b1, red _ (b4 w), b3⟩
  · rename_i s hkd
    obtain ⟨kk, k, rfl, hkm, k3⟩ := idx_spec k1
    have hu := (hT t ti ht).string hkd
    refine ⟨_, k3, ?_, okv rfl⟩
    have h1 : s[k]? = some s[k] := by simp [hkm]
    have h2 : (sl s).getD k 0 = (s[k].toNat : Int) := by
      have hd : k < s.data.toList.length := by simpa using hkm
      simp only [sl, List.getD_eq_getElem?_getD, List.getElem?_map, List.getElem?_eq_getElem hd, Option.map_some, Option.getD_some]
      rfl
    simp only [M.den, SV.den]
    rw [h2]
    simp [Instr.index, asIntOf, run_underlying hu, h1]
  · exact k1.elim

end
end Go.Sx
