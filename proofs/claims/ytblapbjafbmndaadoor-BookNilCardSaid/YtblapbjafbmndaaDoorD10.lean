/- A book's clash is the document's. -/
import Derived.Test.YtblapbjafbmndaaDoorPL2
namespace Go.Proofs.YtblapbjafbmndaaDoor
open Go Go.Sx Go.Sha
set_option linter.unusedVariables false
set_option linter.unusedSimpArgs false

structure Inv (L : Ents) (cs : List ByteArray) : Prop where
  len : ∀ x ∈ L, x.1.length = 32
  nd : ∀ h, (under L h).Nodup
  cl : cs = match dcl L with
    | some x => [hdS (under L x.1), x.2]
    | none => []

theorem Inv.nil : Inv [] [] := ⟨fun x hx => (by cases hx), fun h => List.nodup_nil, rfl⟩

theorem mem_under {L : Ents} {h : List Int} {s : ByteArray} : s ∈ under L h ↔ (h, s) ∈ L := by
  unfold under
  simp only [List.mem_map, List.mem_filter, decide_eq_true_eq]
  constructor
  · rintro ⟨x, ⟨h1, rfl⟩, rfl⟩; exact h1
  · intro h1; exact ⟨(h, s), ⟨h1, rfl⟩, rfl⟩

theorem putE_zero {L : Ents} {h : List Int} {s : ByteArray} (he : putE L h s = 0) : s ∉ under L h := by
  intro hs
  unfold putE at he
  rw [hasS_iff.2 hs] at he
  cases he

theorem hdS_append {a b : List ByteArray} (h : a ≠ []) : hdS (a ++ b) = hdS a := by
  cases a with
  | nil => exact absurd rfl h
  | cons x r => rfl

theorem find_congr {α : Type} {p q : α → Bool} : ∀ {l : List α}, (∀ x ∈ l, p x = q x) → l.find? p = l.find? q
  | [], _ => rfl
  | x :: r, h => by
    rw [List.find?_cons, List.find?_cons, h x (by simp), find_congr fun y hy => h y (by simp [hy])]

theorem Inv.put {L : Ents} {cs : List ByteArray} (I : Inv L cs) {h : List Int} (hh : h.length = 32) (s : ByteArray) : Inv (putB L cs h s).1 (putB L cs h s).2 := by
  by_cases he : putE L h s = 0
  rotate_left
  · have e : putB L cs h s = (L, cs) := if_neg he
    rw [e]
    exact I
  have hs := putE_zero he
  have e1 : (putB L cs h s).1 = L ++ [(h, s)] := by unfold putB; rw [if_pos he]
  have e2 : (putB L cs h s).2 = if (under L h).length = 1 ∧ cs = [] then under L h ++ [s] else cs := by unfold putB; rw [if_pos he]
  rw [e1, e2]
  have hun : ∀ k, under (L ++ [(h, s)]) k = under L k ++ if h = k then [s] else [] := fun k => by rw [under_append, under_one]
  have hmem : ∀ x ∈ L, under L x.1 ≠ [] := fun x hx h0 => by
    have : x.2 ∈ under L x.1 := mem_under.2 hx
    rw [h0] at this
    cases this
  have hhd : ∀ x ∈ L, hdS (under (L ++ [(h, s)]) x.1) = hdS (under L x.1) := fun x hx => by rw [hun, hdS_append (hmem x hx)]
  have hfind : L.find? (fun x => !decide (hdS (under (L ++ [(h, s)]) x.1) = x.2)) = dcl L := find_congr fun x hx => by rw [hhd x hx]
  refine ⟨fun x hx => ?_, fun k => ?_, ?_⟩
  · rcases List.mem_append.1 hx with hx | hx
    · exact I.len x hx
    · rw [List.mem_singleton.1 hx]
      exact hh
  · rw [hun]
    split
    · rename_i hk
      subst hk
      rw [List.nodup_append]
      refine ⟨I.nd h, by simp, fun a ha b hb => ?_⟩
      rw [List.mem_singleton] at hb
      subst hb
      exact fun e => hs (e ▸ ha)
    · rw [List.append_nil]
      exact I.nd k
  · have hd : dcl (L ++ [(h, s)]) = (dcl L).or ([(h, s)].find? fun x => !decide (hdS (under (L ++ [(h, s)]) x.1) = x.2)) := by
      unfold dcl
      rw [List.find?_append]
      rw [hfind]
      rfl
    cases hc : dcl L with
    | some x =>
      have hcs := I.cl
      rw [hc] at hcs
      rw [hd, hc, if_neg (fun h0 => by rw [hcs] at h0; cases h0.2)]
      have hx := List.mem_of_find?_eq_some hc
      show cs = [hdS (under (L ++ [(h, s)]) x.1), x.2]
      rw [hhd x hx]
      exact hcs
    | none =>
      have hcs := I.cl
      rw [hc] at hcs
      have hall : ∀ x ∈ L, hdS (under L x.1) = x.2 := fun x hx => by
        have := List.find?_eq_none.1 hc x hx
        simpa using this
      have hsame : ∀ y ∈ under L h, y = hdS (under L h) := fun y hy => (hall _ (mem_under.1 hy)).symm
      rw [hd, hc, Option.none_or]
      have hus : under (L ++ [(h, s)]) h = under L h ++ [s] := by rw [hun, if_pos rfl]
      cases hu : under L h with
      | nil =>
        have : ([(h, s)].find? fun x => !decide (hdS (under (L ++ [(h, s)]) x.1) = x.2)) = none := by
          rw [List.find?_eq_none]
          intro x hx
          rw [List.mem_singleton.1 hx, hus, hu]
          simp [hdS]
        rw [this, if_neg (fun h0 => by cases h0.1)]
        exact hcs
      | cons a r =>
        have hr : r = [] := by
          cases r with
          | nil => rfl
          | cons b r' =>
            have h1 := hsame b (by rw [hu]; simp)
            rw [hu] at h1
            have h2 := I.nd h
            rw [hu, List.nodup_cons] at h2
            exact absurd (show a ∈ b :: r' by rw [show b = a from h1]; simp) h2.1
        subst hr
        have hne : ¬ a = s := fun e => hs (by rw [hu, e]; simp)
        have : ([(h, s)].find? fun x => !decide (hdS (under (L ++ [(h, s)]) x.1) = x.2)) = some (h, s) := by
          rw [List.find?_cons_of_pos]
          rw [hus, hu]
          simp [hdS, hne]
        rw [this, if_pos ⟨rfl, hcs⟩]
        show [a] ++ [s] = [hdS (under (L ++ [(h, s)]) h), s]
        rw [hus, hu]
        rfl

theorem Inv.two {L : Ents} {cs : List ByteArray} (I : Inv L cs) : cs = [] ∨ cs.length = 2 := by
  rw [I.cl]
  split
  · exact .inr rfl
  · exact .inl rfl
theorem Inv.first {L : Ents} {cs : List ByteArray} (I : Inv L cs) : strOfNums (c0 cs) = k0 L := by
  rw [I.cl]
  unfold k0
  cases h : dcl L with
  | some x => exact strOf_sl _
  | none => rfl
theorem Inv.second {L : Ents} {cs : List ByteArray} (I : Inv L cs) : strOfNums (c1 cs) = k1 L := by
  rw [I.cl]
  unfold k1
  cases h : dcl L with
  | some x => exact strOf_sl _
  | none => rfl
theorem Inv.found {L : Ents} {cs : List ByteArray} (I : Inv L cs) : (!cs.isEmpty) = (dcl L).isSome := by
  rw [I.cl]
  split <;> rename_i h <;> rw [h] <;> rfl
end Go.Proofs.YtblapbjafbmndaaDoor
