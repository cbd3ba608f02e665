/- That a table of types is the program's, by computation. Holds for every program. -/
import Derived.Test.YtgbikcniediomaaSx12
namespace Go.Sx
set_option linter.unusedSimpArgs false
set_option linter.unusedVariables false

def vEq : Value → Value → Bool
  | .int k a, .int k' b => IntKind.beq k k' && a == b
  | .bool a, .bool b => a == b
  | .string a, .string b => a.data.toList.isEmpty && b.data.toList.isEmpty
  | .pointer none, .pointer none => true
  | .slice none 0 0, .slice none 0 0 => true
  | .map none, .map none => true
  | .chan none, .chan none => true
  | .nilFunc, .nilFunc => true
  | .nilIface, .nilIface => true
  | _, _ => false

theorem vEq_eq {u v : Value} (h : vEq u v = true) : u = v := by
  unfold vEq at h
  split at h <;> first | rfl | skip
  · simp only [Bool.and_eq_true, beq_iff_eq] at h
    rw [IntKind.beq_eq h.1, h.2]
  · simp only [beq_iff_eq] at h
    rw [h]
  · simp only [Bool.and_eq_true, List.isEmpty_iff] at h
    rename_i a b
    obtain ⟨⟨x⟩⟩ := a
    obtain ⟨⟨y⟩⟩ := b
    simp at h
    rw [h.1, h.2]
  · cases h

def vsEq : List Value → List Value → Bool
  | [], [] => true
  | x :: r, y :: q => vEq x y && vsEq r q
  | _, _ => false

theorem vsEq_eq : ∀ {x y : List Value}, vsEq x y = true → x = y
  | [], [], _ => rfl
  | x :: r, y :: q, h => by
    simp only [vsEq, Bool.and_eq_true] at h
    rw [vEq_eq h.1, vsEq_eq h.2]
  | [], _ :: _, h => by simp [vsEq] at h
  | _ :: _, [], h => by simp [vsEq] at h

def natsEq : List (Nat × Nat) → List (Nat × Nat) → Bool
  | [], [] => true
  | (a, b) :: r, (c, d) :: q => Nat.beq a c && Nat.beq b d && natsEq r q
  | _, _ => false

theorem natsEq_eq : ∀ {x y : List (Nat × Nat)}, natsEq x y = true → x = y
  | [], [], _ => rfl
  | (a, b) :: r, (c, d) :: q, h => by
    simp only [natsEq, Bool.and_eq_true] at h
    rw [Nat.eq_of_beq_eq_true h.1.1, Nat.eq_of_beq_eq_true h.1.2, natsEq_eq h.2]
  | [], _ :: _, h => by simp [natsEq] at h
  | _ :: _, [], h => by simp [natsEq] at h

def TK.fitsB : TK → TypeDesc → Bool
  | .str fs, .struct a => natsEq (a.toList.map (fun f => (f.offset, f.type))) fs
  | .arr n e, .array n' e' => Nat.beq n n' && Nat.beq e e'
  | .sl e, .slice e' => Nat.beq e e'
  | .p e, .pointer e' => Nat.beq e e'
  | .int k, .int k' => IntKind.beq k k'
  | .bool, .bool => true
  | .string, .string => true
  | .map k v, .map k' v' => Nat.beq k k' && Nat.beq v v'
  | .chan e, .chan _ e' => Nat.beq e e'
  | .fn, .func .. => true
  | .other, _ => true
  | _, _ => false

theorem TK.fitsB_fits {k : TK} {d : TypeDesc} (h : k.fitsB d = true) : k.fits d := by
  cases k <;> cases d <;> simp only [TK.fitsB, Bool.and_eq_true] at h <;> simp only [TK.fits] <;>
    first
      | (cases h; done)
      | exact natsEq_eq h
      | exact ⟨Nat.eq_of_beq_eq_true h.1, Nat.eq_of_beq_eq_true h.2⟩
      | exact Nat.eq_of_beq_eq_true h
      | exact IntKind.beq_eq h

def coversB (fs : List (Nat × Nat)) : Nat → Bool
  | 0 => true
  | i + 1 => (fs.any fun f => Nat.ble f.1 i && Nat.blt i (f.1 + f.2)) && coversB fs i

def shpB (P : Program) : Nat → TypeId → List Value → Bool
  | 0, _, _ => false
  | m + 1, t, cs => match P.underlying t with
    | some (.int _) => (match cs with | [.int _ _] => true | _ => false)
    | some .bool => (match cs with | [.bool _] => true | _ => false)
    | some .string => (match cs with | [.string _] => true | _ => false)
    | some (.array n e) => Nat.beq cs.length (n * P.cellsOf e) && (P.info? e).isSome && (List.range n).all fun i => shpB P m e ((cs.drop (i * P.cellsOf e)).take (P.cellsOf e))
    | some (.struct fs) => !(P.stoodInHeld t) && (fs.toList.all fun f => f.name != "_" && Nat.ble (f.offset + P.cellsOf f.type) cs.length && (P.info? f.type).isSome && shpB P m f.type ((cs.drop f.offset).take (P.cellsOf f.type))) &&
        coversB (fs.toList.map fun f => (f.offset, P.cellsOf f.type)) cs.length
    | _ => false

theorem coversB_spec {fs : List (Nat × Nat)} : ∀ {n : Nat}, coversB fs n = true → ∀ i, i < n → ∃ f ∈ fs, f.1 ≤ i ∧ i < f.1 + f.2
  | 0, _, i, hi => by omega
  | n + 1, h, i, hi => by
    simp only [coversB, Bool.and_eq_true, List.any_eq_true] at h
    by_cases hin : i = n
    · subst hin
      obtain ⟨f, hf, h1, h2⟩ := h.1
      exact ⟨f, hf, Nat.le_of_ble_eq_true h1, blt_lt h2⟩
    · exact coversB_spec h.2 i (by omega)

theorem shpB_shp {P : Program} : ∀ (m : Nat) (t : TypeId) (cs : List Value), shpB P m t cs = true → shp P m t cs
  | 0, _, _, h => by simp [shpB] at h
  | m + 1, t, cs, h => by
    unfold shpB at h
    unfold shp
    cases hu : P.underlying t with
    | none => rw [hu] at h; cases h
    | some d =>
      rw [hu] at h
      cases d <;> simp only at h ⊢ <;> first | (cases h; done) | skip
      case bool =>
        split at h
        · exact ⟨_, rfl⟩
        · cases h
      case int =>
        split at h
        · exact ⟨_, _, rfl⟩
        · cases h
      case string =>
        split at h
        · exact ⟨_, rfl⟩
        · cases h
      case array =>
        simp only [Bool.and_eq_true, List.all_eq_true, List.mem_range] at h
        exact ⟨Nat.eq_of_beq_eq_true h.1.1, h.1.2, fun i hi => shpB_shp m _ _ (h.2 i hi)⟩
      case struct =>
        simp only [Bool.and_eq_true, List.all_eq_true, Bool.not_eq_true', bne_iff_ne] at h
        refine ⟨h.1.1, fun f hf => ?_, fun i hi => ?_⟩
        · obtain ⟨⟨⟨h1, h2⟩, h3⟩, h4⟩ := h.1.2 f hf
          exact ⟨h1, Nat.le_of_ble_eq_true h2, h3, shpB_shp m _ _ h4⟩
        · obtain ⟨f, hf, h1, h2⟩ := coversB_spec h.2 i hi
          obtain ⟨g, hg, rfl⟩ := List.mem_map.1 hf
          exact ⟨g, hg, h1, h2⟩

def rowB (P : Program) (t : Nat) (ti : TI) : Bool :=
  match P.info? t, P.underlying t with
  | some i, some d =>
    Nat.beq i.size ti.size && Nat.beq i.bytes ti.bytes && (match i.zero with | some z => vsEq z.cells.toList (denL nowhere ti.zero) | none => false) && ti.zero.all SV.zeroB && ti.oneB && ti.kind.known P && ti.kind.fitsB d &&
      (Nat.beq ti.eqm 0 || (shpB P ti.eqm t (denL nowhere ti.zero) && !(P.eqGuardType P.depth t) && Nat.ble ti.eqm 100 && ti.agg)) && (match ti.kind with | .sl _ => (match i.zero with | some (.slice none 0 0) => true | _ => false) | _ => true)
  | _, _ => false

theorem rowB_row {P : Program} {t : Nat} {ti : TI} (h : rowB P t ti = true) : TRow P t ti := by
  unfold rowB at h
  split at h
  · rename_i i d hi hd
    simp only [Bool.and_eq_true, Bool.or_eq_true, Bool.not_eq_true'] at h
    obtain ⟨⟨⟨⟨⟨⟨⟨⟨h1, h2⟩, h3⟩, h4⟩, h5⟩, h6⟩, h7⟩, h8⟩, h9⟩ := h
    split at h3
    · rename_i z hz
      refine ⟨⟨i, hi, Nat.eq_of_beq_eq_true h1, Nat.eq_of_beq_eq_true h2, z, hz, vsEq_eq h3⟩, h4, h5, h6, ⟨d, hd, TK.fitsB_fits h7⟩, fun hne => ?_, fun el hel => ⟨i, hi, ?_⟩⟩
      rcases h8 with h8 | h8
      · exact absurd (Nat.eq_of_beq_eq_true h8) hne
      · obtain ⟨⟨⟨g1, g2⟩, g3⟩, g4⟩ := h8
        exact ⟨shpB_shp _ _ _ g1, g2, Nat.le_of_ble_eq_true g3, g4⟩
      · rw [hel] at h9
        simp only at h9
        split at h9
        · assumption
        · cases h9
    · cases h3
  · cases h

theorem tok_of {P : Program} {tt : Tab} (h : (tt.all fun p => rowB P p.1 p.2) = true) : TOK P tt := by
  intro t ti hg
  exact rowB_row (List.all_eq_true.1 h (t, ti) (get_mem hg))

end Go.Sx
