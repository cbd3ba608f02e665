/- What the bound on arguments gives: the bytes of all parts together are few. -/
import Derived.Test.YtblapbjafbmndaaDoorBr2
import Derived.Test.YtblapbjafbmndaaDoorP17
import Derived.Deep.DeepHandedRow
namespace Go.Proofs.YtblapbjafbmndaaDoor
open Go Go.Sx Go.ChangeShapes Go.WideShapes Go.ChangeAt Go.RowKit Go.Sha
set_option linter.unusedVariables false
set_option linter.unusedSimpArgs false
set_option maxHeartbeats 4000000
set_option maxRecDepth 100000
theorem bulk_one {H : Type} (d : DataW H) : 1 ≤ Rows.uptoBulk d := by
  cases d with
  | lit l => cases l <;> simp [Rows.uptoBulk]
  | nil => simp [Rows.uptoBulk]
  | ptr d => simp [Rows.uptoBulk]
  | slice elems spare => simp [Rows.uptoBulk]
  | agg parts => simp [Rows.uptoBulk]
  | iface t d => simp [Rows.uptoBulk]
  | map entries => simp [Rows.uptoBulk]
  | held h => simp [Rows.uptoBulk]
theorem bulk_len {H : Type} (l : List (DataW H)) : l.length ≤ Rows.uptoBulkAll l := by
  induction l with
  | nil => simp [Rows.uptoBulkAll]
  | cons x r ih => have := bulk_one x; simp only [Rows.uptoBulkAll, List.length_cons]; omega
theorem bulk_sum {H α : Type} (f : α → Nat) : ∀ (l : List α) (ds : List (DataW H)), l.length = ds.length → (∀ i (h : i < l.length) (h2 : i < ds.length), f l[i] ≤ Rows.uptoBulk ds[i]) → (l.map f).sum ≤ Rows.uptoBulkAll ds
  | [], _, _, _ => Nat.zero_le _
  | x :: r, [], h, _ => by simp at h
  | x :: r, d :: ds, h, hf => by
    have h0 := hf 0 (by simp) (by simp)
    have ih := bulk_sum f r ds (by simpa using h) fun i h1 h2 => hf (i + 1) (by simpa using h1) (by simpa using h2)
    simp only [List.map_cons, List.sum_cons, Rows.uptoBulkAll]
    exact Nat.add_le_add h0 ih
theorem bulk_parts {H : Type} {enc : TypeId × Value → H} {W : World} {base : Nat} {sp : Nat → Bool} {held : Bool} {d : DataW H} {p : List MemPlace} {v : Value} {av : Nat → Prop} {n : Nat}
    (hT : DataW.Trod enc Tryd.prog W base sp held 30 v d p) {l : List BTy} (hok : (M.one (.view v 1 eBl l)).Ok W av n) : (l.map fun y => (bl y).length + 1).sum ≤ Rows.uptoBulk d := by
  have hu : Tryd.prog.underlying 30 = some (.slice 22) := by kernel_rfl
  have hu2 : Tryd.prog.underlying 22 = some (.slice 5) := by kernel_rfl
  have hc : Tryd.prog.cellsOf 22 = 1 := by kernel_rfl
  obtain ⟨fuel, hT⟩ := hT
  cases hok with
  | one _ hok =>
    cases hok with
    | @view _ _ _ _ a cap hcap hes hp hokl hcell =>
      rcases DataW.trod_slice hu hT with ⟨h1, _⟩ | ⟨a', len, cap', elems, rest, m, rfl, h1, h2, _, hlc, _, hel, hget, _⟩
      · have h1 : [Value.slice a l.length cap] = [Value.slice none 0 0] := h1
        simp only [List.cons.injEq, Value.slice.injEq, and_true] at h1
        have : l = [] := List.length_eq_zero_iff.1 h1.2.1
        subst this
        exact Nat.zero_le _
      · have h1 : [Value.slice a l.length cap] = [Value.slice (some a') len cap'] := h1
        simp only [List.cons.injEq, Value.slice.injEq, and_true] at h1
        obtain ⟨rfl, hlen, _⟩ := h1
        have h2' : d = .slice (elems.map (·.1)) (rest.map (·.1)) := congrArg Prod.fst h2
        rw [h2']
        have hb := bulk_sum (fun y : BTy => (bl y).length + 1) l (elems.map (·.1)) (by simp; omega) fun i hi hi2 => ?_
        · simp only [Rows.uptoBulk]
          omega
        · have hi3 : i < elems.length := by simpa using hi2
          have h3 := hget i (by omega)
          rw [List.getElem?_eq_getElem hi3, hc] at h3
          obtain ⟨ds, h4, h5⟩ := Option.bind_eq_some_iff.1 h3
          have h6 := World.cells?_some h4
          obtain ⟨b, o, ha, _, hcl⟩ := hcell i 0 hi l[i].1.1 rfl
          cases ha
          have h7 := h6.2.2 0 (by decide)
          have hds : ds = [l[i].1.1] := by
            have hl1 := h6.2.1
            match ds, hl1 with
            | [z], _ =>
              have e : (Addr.add (Addr.add ⟨b, o, none⟩ (i * 1)) 0) = ⟨b, o + (i * 1 + 0), none⟩ := by
                unfold Addr.add
                by_cases h : i = 0 <;> simp [h]
              rw [e, hcl] at h7
              simp at h7
              rw [h7]
          subst hds
          have h8 : SV.Ok W av n (.view l[i].1.1 1 (RK.svs [.int .u8]) l[i].1.2) := hokl _ (List.getElem_mem hi) _ (List.mem_singleton.2 rfl)
          generalize hx : l[i].1.1 = X at *
          rw [List.getElem_map, bl_length]
          cases h8 with
          | @view _ _ _ _ a2 cap2 hcap2 hes2 hp2 hok2 hcell2 =>
            rcases DataW.trod_slice hu2 h5 with ⟨g1, _⟩ | ⟨a3, len3, cap3, elems3, rest3, m3, _, g1, g2, _, _, _, hel3, _, _⟩
            · have g1 : [Value.slice a2 (List.length l[i].1.2) cap2] = [Value.slice none 0 0] := g1
              simp only [List.cons.injEq, Value.slice.injEq, and_true] at g1
              rw [g1.2.1]
              exact bulk_one _
            · have g1 : [Value.slice a2 (List.length l[i].1.2) cap2] = [Value.slice (some a3) len3 cap3] := g1
              simp only [List.cons.injEq, Value.slice.injEq, and_true] at g1
              rw [congrArg Prod.fst g2]
              simp only [Rows.uptoBulk]
              have := bulk_len (elems3.map (·.1))
              rw [List.length_map] at this
              omega
theorem sum_flat : ∀ l : List BTy, (l.flatMap fB).length ≤ 8 * (l.map fun y => (bl y).length + 1).sum
  | [] => Nat.zero_le _
  | y :: r => by
    have ih := sum_flat r
    rw [List.flatMap_cons, List.length_append, show (fB y).length = 8 + (bl y).length by unfold fB; rw [blb_length]]
    simp only [List.map_cons, List.sum_cons]
    omega
theorem apart' (t : ByteArray) (x : Value) (l : List BTy) (s : ByteArray) (y : Value) (r : List BTy) (_ : t.size ≤ maxLen) (_ : l.length ≤ maxLen) (hg : ∀ y ∈ l, By (bl y) ∧ (bl y).length ≤ 140737488351232) (hq : (l.map fun y => (bl y).length + 1).sum ≤ 1048576) (h1 : l.length * 24 ≤ 140737488351232)
    (_ : s.size ≤ maxLen) (_ : r.length ≤ maxLen) (hg2 : ∀ y ∈ r, By (bl y) ∧ (bl y).length ≤ 140737488351232) (hq2 : (r.map fun y => (bl y).length + 1).sum ≤ 1048576) (h3 : r.length * 24 ≤ 140737488351232) :
    SFun Tryd.prog 5 [str t, bV x l, str s, bV y r] (bool true) :=
  apart_spec x y t s h1 (fun y hy => (hg y hy).2) h3 (fun y hy => (hg2 y hy).2) (by have := sum_flat l; omega) (by have := sum_flat r; omega) (fun y hy => (hg y hy).1) (fun y hy => (hg2 y hy).1)
end Go.Proofs.YtblapbjafbmndaaDoor
