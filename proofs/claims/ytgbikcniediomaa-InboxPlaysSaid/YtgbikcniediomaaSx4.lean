/- When two values of a plain type are the same. Holds for every program. -/
import Derived.Test.YtgbikcniediomaaSx3
namespace Go.Sx
set_option linter.unusedSimpArgs false
set_option linter.unusedVariables false
open Go

def shp (P : Program) : Nat → TypeId → List Value → Prop
  | 0, _, _ => False
  | m + 1, t, cs => match P.underlying t with
    | some (.int _) => ∃ k x, cs = [.int k x]
    | some .bool => ∃ b, cs = [.bool b]
    | some .string => ∃ s, cs = [.string s]
    | some (.array n e) => cs.length = n * P.cellsOf e ∧ (P.info? e).isSome = true ∧ ∀ i, i < n → shp P m e ((cs.drop (i * P.cellsOf e)).take (P.cellsOf e))
    | some (.struct fs) => P.stoodInHeld t = false ∧ (∀ f ∈ fs.toList, f.name ≠ "_" ∧ f.offset + P.cellsOf f.type ≤ cs.length ∧ (P.info? f.type).isSome = true ∧ shp P m f.type ((cs.drop f.offset).take (P.cellsOf f.type))) ∧
        ∀ i, i < cs.length → ∃ f ∈ fs.toList, f.offset ≤ i ∧ i < f.offset + P.cellsOf f.type
    | _ => False

theorem bytes_beq (a b : ByteArray) : (a.toList == b.toList) = true ↔ a = b := by
  rw [ByteArray.toList_eq, ByteArray.toList_eq, beq_iff_eq]
  obtain ⟨⟨x⟩⟩ := a
  obtain ⟨⟨y⟩⟩ := b
  simp

def leafB : Value → Value → Bool
  | .int k _, .int k' _ => IntKind.beq k k'
  | .bool _, .bool _ => true
  | .string _, .string _ => true
  | _, _ => false

def valOf (P : Program) (t : TypeId) (cs : List Value) : Value :=
  match P.underlying t with
  | some (.struct _) | some (.array _ _) => .agg cs.toArray
  | _ => cs.headD undef

section
variable {P : Program} (w : World)

theorem run_part_val {t : TypeId} {cs : List Value} {off : Nat} {i : TypeInfo} (hi : P.info? t = some i) (hlen : off + P.cellsOf t ≤ cs.length)
    (hone : (match P.underlying t with | some (.struct _) | some (.array _ _) => True | some _ => P.cellsOf t = 1 | none => False)) :
    (part t cs.toArray off).run P w = .ok (valOf P t ((cs.drop off).take (P.cellsOf t))) w := by
  have hc : P.cellsOf t = i.size := by simp [Program.cellsOf, hi]
  cases hu : P.underlying t with
  | none => simp [hu] at hone
  | some d =>
    cases d <;> simp only [hu] at hone <;> simp only [part, isAgg, valOf, Sem.run_bind, run_underlying hu, Result.andThen_ok, Sem.run_pure, Sem.run_ite, Bool.false_eq_true, if_false, if_true] <;>
      first
        | (simp only [sizeOf, typeInfo, Sem.run_bind, run_program, hi, Sem.run_pure, Result.andThen_ok]
           congr 2
           rw [hc]
           simp [List.extract_eq_take_drop, hu])
        | (have h2 : off < cs.length := by omega
           simp only [List.getElem?_toArray, List.getElem?_eq_getElem h2, Sem.run_pure]
           congr 1
           rw [hone, List.take_one, List.head?_drop, List.getElem?_eq_getElem h2]
           simp [hu])

theorem shp_hone {m : Nat} {t : TypeId} {cs : List Value} (h : shp P m t cs) (hl : cs.length = P.cellsOf t) :
    (match P.underlying t with | some (.struct _) | some (.array _ _) => True | some _ => P.cellsOf t = 1 | none => False) := by
  cases m with
  | zero => exact h.elim
  | succ m =>
    unfold shp at h
    cases hu : P.underlying t with
    | none => rw [hu] at h; exact h.elim
    | some d =>
      rw [hu] at h
      cases d <;> simp only at h ⊢
      case bool => obtain ⟨_, rfl⟩ := h; simpa using hl.symm
      case int => obtain ⟨_, _, rfl⟩ := h; simpa using hl.symm
      case string => obtain ⟨_, rfl⟩ := h; simpa using hl.symm

def sameLeaf (xs ys : List Value) : Prop := xs.length = ys.length ∧ ∀ (i : Nat) (x y : Value), xs[i]? = some x → ys[i]? = some y → leafB x y = true

theorem sameLeaf.part {xs ys : List Value} (h : sameLeaf xs ys) (o n : Nat) : sameLeaf ((xs.drop o).take n) ((ys.drop o).take n) := by
  refine ⟨by simp [h.1], fun i x y hx hy => ?_⟩
  rw [List.getElem?_take] at hx hy
  split at hx
  · rename_i hi
    simp only [hi, if_true] at hy
    rw [List.getElem?_drop] at hx hy
    exact h.2 _ x y hx hy
  · cases hx

theorem sameLeaf.symm {xs ys : List Value} (h : sameLeaf xs ys) : sameLeaf ys xs := by
  refine ⟨h.1.symm, fun i x y hx hy => ?_⟩
  have := h.2 i y x hy hx
  cases x <;> cases y <;> simp_all [leafB]
  rw [IntKind.beq_eq this]
  rename_i k _ _ _; cases k <;> rfl

theorem sameLeaf.trans {xs ys zs : List Value} (h : sameLeaf xs ys) (g : sameLeaf ys zs) : sameLeaf xs zs := by
  refine ⟨h.1.trans g.1, fun i x z hx hz => ?_⟩
  have hi : i < ys.length := by rw [← h.1]; exact (List.getElem?_eq_some_iff.1 hx).1
  have h1 := h.2 i x _ hx (List.getElem?_eq_getElem hi)
  have h2 := g.2 i _ z (List.getElem?_eq_getElem hi) hz
  generalize ys[i] = y at h1 h2
  cases x <;> cases y <;> cases z <;> simp_all [leafB]
  rw [IntKind.beq_eq h1]; exact h2

theorem shp_same : ∀ (m : Nat) (t : TypeId) {xs ys : List Value}, shp P m t xs → sameLeaf xs ys → shp P m t ys
  | 0, _, _, _, h, _ => h.elim
  | m + 1, t, xs, ys, h, hs => by
    unfold shp at h ⊢
    have one : ∀ x, xs = [x] → ∃ y, ys = [y] ∧ leafB x y = true := by
      intro x hx
      subst hx
      have hl := hs.1
      match ys, hl with
      | [y], _ => exact ⟨y, rfl, hs.2 0 x y rfl rfl⟩
    cases hu : P.underlying t with
    | none => rw [hu] at h; exact h.elim
    | some d =>
      rw [hu] at h
      cases d <;> simp only at h ⊢
      case bool =>
        obtain ⟨b, hb⟩ := h
        obtain ⟨y, rfl, hy⟩ := one _ hb
        cases y <;> simp [leafB] at hy
        exact ⟨_, rfl⟩
      case int =>
        obtain ⟨k, x, hb⟩ := h
        obtain ⟨y, rfl, hy⟩ := one _ hb
        cases y <;> simp [leafB] at hy
        exact ⟨_, _, rfl⟩
      case string =>
        obtain ⟨b, hb⟩ := h
        obtain ⟨y, rfl, hy⟩ := one _ hb
        cases y <;> simp [leafB] at hy
        exact ⟨_, rfl⟩
      case array n e =>
        exact ⟨hs.1 ▸ h.1, h.2.1, fun i hi => shp_same m e (h.2.2 i hi) (hs.part _ _)⟩
      case struct fs =>
        exact ⟨h.1, fun f hf => ⟨(h.2.1 f hf).1, hs.1 ▸ (h.2.1 f hf).2.1, (h.2.1 f hf).2.2.1, shp_same m f.type (h.2.1 f hf).2.2.2 (hs.part _ _)⟩, hs.1 ▸ h.2.2⟩

theorem run_equal_shp : ∀ (m d : Nat) (t : TypeId) (xs ys : List Value) (w : World), shp P m t xs → sameLeaf xs ys →
    ∃ r : Bool, (Op.equalIn (d + m) t (valOf P t xs) (valOf P t ys)).run P w = .ok r w ∧ (r = true ↔ xs = ys)
  | 0, _, _, _, _, _, h, _ => h.elim
  | m + 1, d, t, xs, ys, w, h, hs => by
    have h' := h
    unfold shp at h
    have one : ∀ x, xs = [x] → ∃ y, ys = [y] ∧ leafB x y = true := by
      intro x hx
      subst hx
      have hl := hs.1
      match ys, hl with
      | [y], _ => exact ⟨y, rfl, hs.2 0 x y rfl rfl⟩
    rw [show d + (m + 1) = (d + m) + 1 by omega]
    cases hu : P.underlying t with
    | none => rw [hu] at h; exact h.elim
    | some dd =>
      rw [hu] at h
      cases dd <;> simp only at h
      case bool =>
        obtain ⟨b, rfl⟩ := h
        obtain ⟨y, rfl, hy⟩ := one _ rfl
        cases y <;> simp [leafB] at hy
        rename_i b'
        refine ⟨b == b', ?_, by simp⟩
        simp only [valOf, hu, List.headD_cons]
        exact run_equalIn_bool' w _ t b b' hu
      case int =>
        obtain ⟨k, x, rfl⟩ := h
        obtain ⟨y, rfl, hy⟩ := one _ rfl
        cases y <;> simp [leafB] at hy
        have := IntKind.beq_eq hy
        subst this
        rename_i x'
        refine ⟨x == x', ?_, by simp⟩
        simp only [valOf, hu, List.headD_cons]
        exact run_equalIn_int w _ t _ _ x x' hu
      case string =>
        obtain ⟨b, rfl⟩ := h
        obtain ⟨y, rfl, hy⟩ := one _ rfl
        cases y <;> simp [leafB] at hy
        rename_i b'
        refine ⟨b.toList == b'.toList, ?_, ?_⟩
        · simp only [valOf, hu, List.headD_cons]
          exact run_equalIn_string w _ t b b' hu
        · rw [bytes_beq]; simp
      case array n e =>
        obtain ⟨hl, hin, hel⟩ := h
        obtain ⟨ie, hie⟩ := Option.isSome_iff_exists.1 hin
        simp only [valOf, hu]
        rw [run_equalIn_array (P := P) w (d + m) xs.toArray ys.toArray hu hie]
        have key : ∀ (is : List Nat), (∀ i ∈ is, i < n) → ∃ r : Bool, (Op.eqItems (d + m) e (P.cellsOf e) xs.toArray ys.toArray is).run P w = .ok r w ∧
            (r = true ↔ ∀ i ∈ is, (xs.drop (i * P.cellsOf e)).take (P.cellsOf e) = (ys.drop (i * P.cellsOf e)).take (P.cellsOf e)) := by
          intro is
          induction is with
          | nil => intro _; exact ⟨true, by simp [Op.eqItems], by simp⟩
          | cons i is ih =>
            intro hall
            have hi : i < n := hall i (by simp)
            have hb : i * P.cellsOf e + P.cellsOf e ≤ xs.length := by
              rw [hl, ← Nat.succ_mul]; exact Nat.mul_le_mul_right _ hi
            have hx := hel i hi
            have hlx : ((xs.drop (i * P.cellsOf e)).take (P.cellsOf e)).length = P.cellsOf e := by simp; omega
            obtain ⟨r1, e1, g1⟩ := run_equal_shp m d e _ _ w hx (hs.part (i * P.cellsOf e) (P.cellsOf e))
            obtain ⟨r2, e2, g2⟩ := ih fun j hj => hall j (by simp [hj])
            have ho := shp_hone hx hlx
            simp only [Op.eqItems, Sem.run_bind]
            rw [run_part_val w hie hb ho]
            simp only [Result.andThen_ok]
            rw [run_part_val w hie (by rw [← hs.1]; exact hb) ho]
            simp only [Result.andThen_ok]
            rw [e1]
            simp only [Result.andThen_ok]
            cases r1 with
            | false =>
              refine ⟨false, by simp, ?_⟩
              simp only [Bool.false_eq_true, false_iff] at g1 ⊢
              intro hh
              exact g1 (hh i (by simp))
            | true =>
              refine ⟨r2, by simpa using e2, ?_⟩
              rw [g2]
              have := g1.1 rfl
              constructor
              · intro hh j hj
                rcases List.mem_cons.1 hj with rfl | hj
                · exact this
                · exact hh j hj
              · intro hh j hj; exact hh j (by simp [hj])
        obtain ⟨r, e1, g1⟩ := key (List.range n) fun i hi => List.mem_range.1 hi
        refine ⟨r, e1, g1.trans ⟨fun hh => ?_, fun hh i _ => by rw [hh]⟩⟩
        refine List.ext_getElem hs.1 fun i hi hi' => ?_
        have hc : 0 < P.cellsOf e := by
          rcases Nat.eq_zero_or_pos (P.cellsOf e) with h0 | h0
          · rw [h0, Nat.mul_zero] at hl; omega
          · exact h0
        have hq : i / P.cellsOf e < n := by
          rw [Nat.div_lt_iff_lt_mul hc]; omega
        have := congrArg (fun l => l[i % P.cellsOf e]?) (hh (i / P.cellsOf e) (List.mem_range.2 hq))
        simp only [List.getElem?_take, Nat.mod_lt _ hc, if_true, List.getElem?_drop, Nat.mul_comm (i / P.cellsOf e), Nat.div_add_mod] at this
        rw [List.getElem?_eq_getElem hi, List.getElem?_eq_getElem hi'] at this
        exact Option.some.inj this
      case struct fs =>
        obtain ⟨hst, hf, hcov⟩ := h
        have hfo : P.underlying t = some (.struct (P.fieldsOf t)) := by simp [Program.fieldsOf, hu]
        have hfs : P.fieldsOf t = fs := by simp [Program.fieldsOf, hu]
        simp only [valOf, hu]
        rw [run_equalIn_struct (P := P) w (d + m) t xs.toArray ys.toArray hfo hst, hfs]
        have key : ∀ (gs : List Field), (∀ f ∈ gs, f ∈ fs.toList) → ∃ r : Bool, (Op.eqFields (d + m) xs.toArray ys.toArray gs).run P w = .ok r w ∧
            (r = true ↔ ∀ f ∈ gs, (xs.drop f.offset).take (P.cellsOf f.type) = (ys.drop f.offset).take (P.cellsOf f.type)) := by
          intro gs
          induction gs with
          | nil => intro _; exact ⟨true, by simp [Op.eqFields], by simp⟩
          | cons f gs ih =>
            intro hall
            have hm := hall f (by simp)
            obtain ⟨hn, hb, hin, hx⟩ := hf f hm
            obtain ⟨ie, hie⟩ := Option.isSome_iff_exists.1 hin
            have hlx : ((xs.drop f.offset).take (P.cellsOf f.type)).length = P.cellsOf f.type := by simp; omega
            obtain ⟨r1, e1, g1⟩ := run_equal_shp m d f.type _ _ w hx (hs.part f.offset (P.cellsOf f.type))
            obtain ⟨r2, e2, g2⟩ := ih fun j hj => hall j (by simp [hj])
            have ho := shp_hone hx hlx
            simp only [Op.eqFields, Sem.run_ite, if_pos hn, Sem.run_bind]
            rw [run_part_val w hie hb ho]
            simp only [Result.andThen_ok]
            rw [run_part_val w hie (by rw [← hs.1]; exact hb) ho]
            simp only [Result.andThen_ok]
            rw [e1]
            simp only [Result.andThen_ok]
            cases r1 with
            | false =>
              refine ⟨false, by simp, ?_⟩
              simp only [Bool.false_eq_true, false_iff] at g1 ⊢
              intro hh
              exact g1 (hh f (by simp))
            | true =>
              refine ⟨r2, by simpa using e2, ?_⟩
              rw [g2]
              have := g1.1 rfl
              constructor
              · intro hh j hj
                rcases List.mem_cons.1 hj with rfl | hj
                · exact this
                · exact hh j hj
              · intro hh j hj; exact hh j (by simp [hj])
        obtain ⟨r, e1, g1⟩ := key fs.toList fun f hf => hf
        refine ⟨r, e1, g1.trans ⟨fun hh => ?_, fun hh i _ => by rw [hh]⟩⟩
        refine List.ext_getElem hs.1 fun i hi hi' => ?_
        obtain ⟨f, hfm, h1, h2⟩ := hcov i hi
        have := congrArg (fun l => l[i - f.offset]?) (hh f hfm)
        simp only [List.getElem?_take, List.getElem?_drop, if_pos (show i - f.offset < P.cellsOf f.type by omega), show f.offset + (i - f.offset) = i by omega] at this
        rw [List.getElem?_eq_getElem hi, List.getElem?_eq_getElem hi'] at this
        exact Option.some.inj this

theorem sameLeaf_cons {x y : Value} {xs ys : List Value} (h : leafB x y = true) (hs : sameLeaf xs ys) : sameLeaf (x :: xs) (y :: ys) := by
  refine ⟨by simp [hs.1], fun i a b ha hb => ?_⟩
  cases i with
  | zero => simp at ha hb; subst ha; subst hb; exact h
  | succ i => simp at ha hb; exact hs.2 i a b ha hb

theorem sameLeaf_append {xs ys xs' ys' : List Value} (h : sameLeaf xs ys) (hs : sameLeaf xs' ys') : sameLeaf (xs ++ xs') (ys ++ ys') := by
  refine ⟨by simp [h.1, hs.1], fun i a b ha hb => ?_⟩
  rcases Nat.lt_or_ge i xs.length with hi | hi
  · rw [List.getElem?_append_left hi] at ha
    rw [List.getElem?_append_left (by rw [← h.1]; exact hi)] at hb
    exact h.2 i a b ha hb
  · rw [List.getElem?_append_right hi] at ha
    rw [List.getElem?_append_right (by rw [← h.1]; exact hi), ← h.1] at hb
    exact hs.2 _ a b ha hb

theorem sameLeaf_ints (k : IntKind) : ∀ (a b : List Int), a.length = b.length → sameLeaf (a.map (Value.int k)) (b.map (Value.int k))
  | [], [], _ => ⟨rfl, fun i x y hx _ => by simp at hx⟩
  | x :: a, y :: b, h => sameLeaf_cons (by cases k <;> rfl) (sameLeaf_ints k a b (by simpa using h))

section
variable {av : Nat → Prop} {n : Nat} {w₀ : World}
theorem eq1K_spec (σ : Nat → Nat) {x y : SV} (hx : x.Ok w₀ av n) (hy : y.Ok w₀ av n) (K : Bool → Prop) (h : eq1K x y K) :
    ∃ b, K b ∧ (b = true ↔ x.dens σ = y.dens σ) ∧ sameLeaf (x.dens σ) (y.dens σ) := by
  unfold eq1K at h
  split at h
  · obtain ⟨h1, h2⟩ := cond_false_elim h
    have := IntKind.beq_eq h1
    subst this
    exact ⟨_, h2, by simp [SV.dens, SV.den], sameLeaf_cons h1 ⟨rfl, fun i x y hx _ => by simp at hx⟩⟩
  · exact ⟨_, h, by simp [SV.dens, SV.den], sameLeaf_cons rfl ⟨rfl, fun i x y hx _ => by simp at hx⟩⟩
  · exact ⟨_, h, by rw [bytes_beq]; simp [SV.dens, SV.den], sameLeaf_cons rfl ⟨rfl, fun i x y hx _ => by simp at hx⟩⟩
  · obtain ⟨h1, h2⟩ := cond_false_elim h
    simp only [Bool.and_eq_true] at h1
    have := IntKind.beq_eq h1.1
    subst this
    have hnm := Nat.eq_of_beq_eq_true h1.2
    subst hnm
    have hl1 : ∀ {k : IntKind} {m : Nat} {l : List Int}, (SV.ints k m l).Ok w₀ av n → l.length = m := fun h => by cases h; assumption
    refine ⟨_, h2, ?_, sameLeaf_ints _ _ _ ((hl1 hx).trans (hl1 hy).symm)⟩
    simp only [SV.dens, beq_iff_eq]
    constructor
    · intro h; rw [h]
    · intro h
      exact (List.map_inj_right (fun a b hab => by simpa using hab)).1 h
  · exact h.elim

theorem eqK_spec (σ : Nat → Nat) : ∀ (xs ys : List SV) (K : Bool → Prop), (∀ s ∈ xs, s.Ok w₀ av n) → (∀ s ∈ ys, s.Ok w₀ av n) → eqK xs ys K →
    ∃ b, K b ∧ (b = true ↔ denL σ xs = denL σ ys) ∧ sameLeaf (denL σ xs) (denL σ ys)
  | [], [], K, _, _, h => ⟨true, h, by simp, ⟨rfl, fun i x y hx _ => by simp [denL] at hx⟩⟩
  | [x], [y], K, hx, hy, h => by
    obtain ⟨b, h1, h2, h3⟩ := eq1K_spec σ (hx x (by simp)) (hy y (by simp)) K h
    exact ⟨b, h1, by simpa [denL] using h2, by simpa [denL] using h3⟩
  | x :: x' :: r, y :: y' :: q, K, hx, hy, h => by
    simp only [eqK] at h
    obtain ⟨b, h1, h2, h3⟩ := eq1K_spec σ (hx x (by simp)) (hy y (by simp)) _ h
    obtain ⟨b', g1, g2, g3⟩ := eqK_spec σ (x' :: r) (y' :: q) _ (fun s hs => hx s (List.mem_cons_of_mem _ hs)) (fun s hs => hy s (List.mem_cons_of_mem _ hs)) h1
    refine ⟨_, g1, ?_, ?_⟩
    · rw [denL_cons σ x, denL_cons σ y, Bool.and_eq_true, h2, g2]
      constructor
      · rintro ⟨h4, h5⟩; rw [h4, h5]
      · intro h4; exact List.append_inj h4 h3.1
    · rw [denL_cons σ x, denL_cons σ y]; exact sameLeaf_append h3 g3
  | [x], y :: y' :: q, K, hx, hy, h => by
    simp only [eqK] at h
    obtain ⟨b, h1, _⟩ := eq1K_spec σ (hx x (by simp)) (hy y (by simp)) _ h
    exact h1.elim
  | x :: x' :: r, [y], K, hx, hy, h => by
    simp only [eqK] at h
    obtain ⟨b, h1, _⟩ := eq1K_spec σ (hx x (by simp)) (hy y (by simp)) _ h
    exact h1.elim
  | [], _ :: _, _, _, _, h => by simp [eqK] at h
  | _ :: _, [], _, _, _, h => by simp [eqK] at h
end
end
end Go.Sx
