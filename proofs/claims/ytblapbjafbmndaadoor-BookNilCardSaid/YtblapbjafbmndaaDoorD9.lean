/- A book as an owner: its struct, its map, the rows of strings in that map, the row of the clash; opened at a key, and shut again. -/
import Derived.Test.YtblapbjafbmndaaDoorSxO
namespace Go.Sx
set_option linter.unusedSimpArgs false
set_option linter.unusedVariables false

abbrev STy := RK.TL [.str]
def eS : Enc STy := encRec [.str]
def rowS (l : List ByteArray) : List STy := l.map fun x => (x, ())
theorem rowS_length (l : List ByteArray) : (rowS l).length = l.length := List.length_map (as := l) (fun x => (x, ()))

def nam (x : STy) : ByteArray := @Prod.fst ByteArray Unit x
def namesS (l : List STy) : List ByteArray := l.map nam
theorem namesS_row : ∀ l : List ByteArray, namesS (rowS l) = l
  | [] => rfl
  | x :: r => congrArg (x :: ·) (namesS_row r)
theorem rowS_append (l m : List ByteArray) : rowS (l ++ m) = rowS l ++ rowS m := List.map_append (l₁ := l) (l₂ := m) (f := fun x => ((x, ()) : STy))
theorem rowS_at (σ : Nat → Nat) (l : List ByteArray) {i : Nat} (hi : i < l.length) : (denL σ (eS ((rowS l)[i]'(by rw [rowS_length]; exact hi)))) = [.string l[i]] := by
  have e : (rowS l)[i]'(by rw [rowS_length]; exact hi) = (l[i], ()) := List.getElem_map (l := l) (fun x => (x, ()))
  rw [e]
  rfl

abbrev Ents := List (List Int × ByteArray)
def under (L : Ents) (k : List Int) : List ByteArray := (L.filter fun x => decide (x.1 = k)).map (·.2)
def cut (L : Ents) (h k : List Int) : List ByteArray := if k = h then [] else under L k

def nslV (b len cap : Nat) : Value := if cap = 0 then .slice none 0 0 else .slice (some ⟨b, 0, none⟩) len cap

def rowF (f : Nat → Option Obj) (b : Nat) (ss : List ByteArray) (cap : Nat) : Prop :=
  ss.length ≤ cap ∧ ∃ c t fr, f b = some (.cells c t fr) ∧ thawed fr c.size ∧ c.size = cap ∧ ∀ i (hi : i < ss.length), c[i]? = some (.string ss[i])

theorem rowF_congr {f g : Nat → Option Obj} {b : Nat} {ss : List ByteArray} {cap : Nat} (h : f b = g b) (hf : rowF f b ss cap) : rowF g b ss cap := by
  obtain ⟨h1, c, t, fr, h2, h3⟩ := hf
  exact ⟨h1, c, t, fr, h ▸ h2, h3⟩

theorem holds_of_rowF {σ : Nat → Nat} {w : World} {b cap : Nat} {ss : List ByteArray} (h : 0 < cap → rowF (fun x => w.heap[x]?) b ss cap) (h0 : cap = 0 → ss = []) : (Blk.row 1 eS (rowS ss) cap).holds σ w b := by
  refine ⟨?_, fun x _ => rfl, fun hc => ?_⟩
  · rw [rowS_length]
    by_cases hc : cap = 0
    · rw [h0 hc]; simp
    · exact (h (by omega)).1
  · obtain ⟨_, c, t, fr, h2, h3, h4, h5⟩ := h hc
    refine ⟨c, t, fr, h2, h3, by rw [Nat.mul_one]; exact h4, fun i k hi u hu => ?_⟩
    rw [rowS_length] at hi
    rw [rowS_at σ ss hi] at hu
    cases k with
    | zero =>
      simp only [List.getElem?_cons_zero, Option.some.injEq] at hu
      rw [← hu, Nat.mul_one, Nat.add_zero]
      exact h5 i hi
    | succ k => simp at hu

theorem rowF_of_holds {σ : Nat → Nat} {w : World} {b cap : Nat} {ss : List ByteArray} (h : (Blk.row 1 eS (rowS ss) cap).holds σ w b) (hc : 0 < cap) : rowF (fun x => w.heap[x]?) b ss cap := by
  obtain ⟨h1, _, h2⟩ := h
  obtain ⟨c, t, fr, h3, h4, h5, h6⟩ := h2 hc
  rw [rowS_length] at h1
  refine ⟨h1, c, t, fr, h3, h4, by rw [h5, Nat.mul_one], fun i hi => ?_⟩
  have := h6 i 0 (by rw [rowS_length]; exact hi) (.string ss[i]) (by rw [rowS_at σ ss hi]; rfl)
  rw [Nat.mul_one, Nat.add_zero] at this
  exact this

/-- A map's entry: its key, its row's block, how much room there is. -/
abbrev Ent := List Int × (Nat × Nat)
def entV (u : List Int → List ByteArray) (x : Ent) : List Int × Value := (x.1, nslV x.2.1 (u x.1).length x.2.2)
def mrestP (u : List Int → List ByteArray) (f : Nat → Option Obj) (A : List Nat) (l : List (List Int × Value)) : Prop :=
  ∃ r : List Ent, l = r.map (entV u) ∧ (∀ x ∈ r, (0 < x.2.2 → rowF f x.2.1 (u x.1) x.2.2) ∧ (x.2.2 = 0 → u x.1 = [])) ∧
    (∀ x ∈ r, ∀ y ∈ r, 0 < x.2.2 → 0 < y.2.2 → x.2.1 = y.2.1 → x.1 = y.1) ∧ ∀ a, a ∈ A ↔ ∃ x ∈ r, 0 < x.2.2 ∧ a = x.2.1
def cov (u : List Int → List ByteArray) (l : List (List Int × Value)) : Prop := ∀ k, u k ≠ [] → k ∈ l.map (·.1)

theorem mrestP_loc {u : List Int → List ByteArray} {f g : Nat → Option Obj} {A : List Nat} {l : List (List Int × Value)} (h : ∀ x, x ∈ A → f x = g x) (hp : mrestP u f A l) : mrestP u g A l := by
  obtain ⟨r, h1, h2, h3, h4⟩ := hp
  exact ⟨r, h1, fun x hx => ⟨fun hc => rowF_congr (h _ ((h4 _).2 ⟨x, hx, hc, rfl⟩)) ((h2 x hx).1 hc), (h2 x hx).2⟩, h3, h4⟩

def mrest (u : List Int → List ByteArray) : MRest := ⟨fun f A l => mrestP u f A l ∧ cov u l, fun _ _ _ _ h hp => ⟨mrestP_loc h hp.1, hp.2⟩⟩

def bookP (L : Ents) (cs : List ByteArray) (f : Nat → Option Obj) (b : Nat) (A : List Nat) : Prop :=
  ∃ m cb ccap es clock t fr l Rw, f b = some (.cells #[.map (some m), nslV cb cs.length ccap, .int .i64 (L.length : Int)] t fr) ∧ thawed fr 3 ∧ f m = some (.map es clock) ∧ entsOf es l ∧ (∀ x ∈ l, x.1.length = 32) ∧ (l.map (·.1)).Nodup ∧
    mrestP (under L) f Rw l ∧ m ∉ Rw ∧ (ccap = 0 ↔ cs = []) ∧ (0 < ccap → rowF f cb cs ccap ∧ cb ∉ Rw ∧ cb ≠ m) ∧ cov (under L) l ∧ ∀ a, a ∈ A ↔ a = m ∨ (0 < ccap ∧ a = cb) ∨ a ∈ Rw

def bookAbs (L : Ents) (cs : List ByteArray) : Abs := .raw (fun f b A _ => bookP L cs f b A) fun f g b A _ h hp => by
  obtain ⟨m, cb, ccap, es, clock, t, fr, l, Rw, h1, h2, h3, h4, h5, h6, h7, h8, h9, h10, h11, h12⟩ := hp
  exact ⟨m, cb, ccap, es, clock, t, fr, l, Rw, (h b (.inl rfl)) ▸ h1, h2, (h m (.inr ((h12 m).2 (.inl rfl)))) ▸ h3, h4, h5, h6, mrestP_loc (fun x hx => h x (.inr ((h12 x).2 (.inr (.inr hx))))) h7, h8, h9,
    fun hc => ⟨rowF_congr (h cb (.inr ((h12 cb).2 (.inr (.inl ⟨hc, rfl⟩))))) (h10 hc).1, (h10 hc).2⟩, h11, h12⟩

/-- The parts, opened at the key k. -/
def openH (L : Ents) (cs : List ByteArray) (k : List Int) (A : List Nat) (ccap cap : Nat) : Bs :=
  [(0, .cells [.mp 1, .nslc 2 1 cs.length ccap, .v (.int .i64 (L.length : Int))]), (1, .obj A [.nslc 3 1 (under L k).length cap] (.map 32 k (mrest (cut L k)))),
   (2, .row 1 eS (rowS cs) ccap), (3, .row 1 eS (rowS (under L k)) cap)]

theorem get_openH {L : Ents} {cs : List ByteArray} {k : List Int} {A : List Nat} {ccap cap i : Nat} {b : Blk} (h : get (openH L cs k A ccap cap) i = some b) :
    (i = 0 ∧ b = .cells [.mp 1, .nslc 2 1 cs.length ccap, .v (.int .i64 (L.length : Int))]) ∨ (i = 1 ∧ b = .obj A [.nslc 3 1 (under L k).length cap] (.map 32 k (mrest (cut L k)))) ∨
    (i = 2 ∧ b = .row 1 eS (rowS cs) ccap) ∨ (i = 3 ∧ b = .row 1 eS (rowS (under L k)) cap) := by
  rcases i with _ | _ | _ | _ | i
  · left; refine ⟨rfl, ?_⟩; cases h; rfl
  · right; left; refine ⟨rfl, ?_⟩; cases h; rfl
  · right; right; left; refine ⟨rfl, ?_⟩; cases h; rfl
  · right; right; right; refine ⟨rfl, ?_⟩; cases h; rfl
  · cases h

theorem cut_ne {L : Ents} {h k : List Int} (hk : k ≠ h) : cut L h k = under L k := by unfold cut; rw [if_neg hk]
theorem cut_eq {L : Ents} {h : List Int} : cut L h h = [] := by unfold cut; rw [if_pos rfl]

/-- The entries but one. -/
theorem mrestP_cut {L : Ents} {f : Nat → Option Obj} {Rw : List Nat} {l : List (List Int × Value)} {k : List Int} (h : mrestP (under L) f Rw l) (hc : cov (under L) l) (hd : (l.map (·.1)).Nodup) :
    ∃ A blk cap, atKey k l = nslV blk (under L k).length cap ∧ (0 < cap → rowF f blk (under L k) cap ∧ blk ∈ Rw ∧ blk ∉ A) ∧ (cap = 0 → under L k = []) ∧ mrestP (cut L k) f A (l.filter fun x => !decide (x.1 = k)) ∧ cov (cut L k) (l.filter fun x => !decide (x.1 = k)) ∧ ∀ a ∈ A, a ∈ Rw := by
  obtain ⟨r, rfl, h2, h3, h4⟩ := h
  have hcov : cov (cut L k) ((r.map (entV (under L))).filter fun x => !decide (x.1 = k)) := by
    intro q hq
    by_cases hqk : q = k
    · rw [hqk, cut_eq] at hq; exact absurd rfl hq
    · rw [cut_ne hqk] at hq
      have := hc q hq
      simp only [List.mem_map] at this ⊢
      obtain ⟨x, hx, rfl⟩ := this
      exact ⟨x, List.mem_filter.2 ⟨List.mem_map.2 hx, by simpa using hqk⟩, rfl⟩
  have hfil : (r.map (entV (under L))).filter (fun x => !decide (x.1 = k)) = (r.filter fun x => !decide (x.1 = k)).map (entV (cut L k)) := by
    rw [List.filter_map]
    refine List.map_congr_left fun x hx => ?_
    have := (List.mem_filter.1 hx).2
    simp only [Function.comp, entV, Bool.not_eq_true'] at this
    unfold entV
    rw [cut_ne (of_decide_eq_false this)]
  have hrest : mrestP (cut L k) f ((r.filter fun x => !decide (x.1 = k) && decide (0 < x.2.2)).map (·.2.1)) ((r.map (entV (under L))).filter fun x => !decide (x.1 = k)) := by
    refine ⟨r.filter fun x => !decide (x.1 = k), hfil, fun x hx => ?_, fun x hx y hy => h3 x ((List.mem_filter.1 hx).1) y ((List.mem_filter.1 hy).1), fun a => ?_⟩
    · have := (List.mem_filter.1 hx).2
      simp only [Bool.not_eq_true'] at this
      rw [cut_ne (of_decide_eq_false this)]
      exact h2 x ((List.mem_filter.1 hx).1)
    · simp only [List.mem_map, List.mem_filter, Bool.and_eq_true, decide_eq_true_eq]
      constructor
      · rintro ⟨x, ⟨h5, h6, h7⟩, rfl⟩; exact ⟨x, ⟨h5, h6⟩, h7, rfl⟩
      · rintro ⟨x, ⟨h5, h6⟩, h7, rfl⟩; exact ⟨x, ⟨h5, h6, h7⟩, rfl⟩
  have hsub : ∀ a ∈ (r.filter fun x => !decide (x.1 = k) && decide (0 < x.2.2)).map (·.2.1), a ∈ Rw := by
    intro a ha
    simp only [List.mem_map, List.mem_filter, Bool.and_eq_true, decide_eq_true_eq] at ha
    obtain ⟨x, ⟨h5, _, h7⟩, rfl⟩ := ha
    exact (h4 _).2 ⟨x, h5, h7, rfl⟩
  cases hf : (r.map (entV (under L))).find? (fun x => decide (x.1 = k)) with
  | none =>
    have hn : under L k = [] := Classical.byContradiction fun hne => by
      have := hc k hne
      simp only [List.mem_map] at this
      obtain ⟨x, ⟨y, hy, rfl⟩, hx⟩ := this
      have := List.find?_eq_none.1 hf (entV (under L) y) (List.mem_map.2 ⟨y, hy, rfl⟩)
      exact this (by simpa using hx)
    refine ⟨_, 0, 0, ?_, fun h => absurd h (Nat.lt_irrefl 0), fun _ => hn, hrest, hcov, hsub⟩
    unfold atKey
    rw [hf]
    rfl
  | some x =>
    have hx := List.mem_of_find?_eq_some hf
    have hxk := List.find?_some hf
    simp only [decide_eq_true_eq] at hxk
    obtain ⟨y, hy, rfl⟩ := List.mem_map.1 hx
    have hyk : y.1 = k := hxk
    refine ⟨_, y.2.1, y.2.2, ?_, fun hcap => ⟨hyk ▸ (h2 y hy).1 hcap, (h4 _).2 ⟨y, hy, hcap, rfl⟩, fun ha => ?_⟩, fun h0 => hyk ▸ (h2 y hy).2 h0, hrest, hcov, hsub⟩
    · unfold atKey
      rw [hf]
      simp only [entV, hyk]
    · simp only [List.mem_map, List.mem_filter, Bool.and_eq_true, Bool.not_eq_true', decide_eq_false_iff_not, decide_eq_true_eq] at ha
      obtain ⟨z, ⟨h5, h6, h7⟩, h8⟩ := ha
      exact h6 ((h3 z h5 y hy h7 hcap h8).trans hyk)

theorem atKey_mem {k : List Int} : ∀ {l : List (List Int × Value)}, (l.map (·.1)).Nodup → ∀ x ∈ l, x.1 = k → x.2 = atKey k l
  | [], _, _, h, _ => by cases h
  | y :: l, hd, x, hx, hk => by
    simp only [List.map_cons, List.nodup_cons] at hd
    unfold atKey
    rcases List.mem_cons.1 hx with rfl | hx
    · rw [List.find?_cons_of_pos (by simpa using hk)]
    · have hne : y.1 ≠ k := fun e => hd.1 (by rw [e, ← hk]; exact List.mem_map.2 ⟨x, hx, rfl⟩)
      rw [List.find?_cons_of_neg (by simpa using hne)]
      exact atKey_mem hd.2 x hx hk

theorem join_list {k : List Int} {u u' : List Int → List ByteArray} {blk cap : Nat} (hu : ∀ q, q ≠ k → u q = u' q) : ∀ (l : List (List Int × Value)) (r0 : List Ent), l.filter (fun x => !decide (x.1 = k)) = r0.map (entV u) → (∀ x ∈ l, x.1 = k → x.2 = nslV blk (u' k).length cap) →
    ∃ r : List Ent, l = r.map (entV u') ∧ ∀ x ∈ r, (x ∈ r0 ∧ x.1 ≠ k) ∨ x = (k, (blk, cap))
  | [], r0, _, _ => ⟨[], rfl, fun _ h => by cases h⟩
  | x :: l, r0, h, hk => by
    by_cases hx : x.1 = k
    · have e : (x :: l).filter (fun x => !decide (x.1 = k)) = l.filter (fun x => !decide (x.1 = k)) := List.filter_cons_of_neg (by simp [hx])
      rw [e] at h
      obtain ⟨r, h1, h2⟩ := join_list hu l r0 h fun y hy => hk y (by simp [hy])
      refine ⟨(k, (blk, cap)) :: r, ?_, fun y hy => ?_⟩
      · rw [List.map_cons, ← h1]
        congr 1
        unfold entV
        rw [← hk x (by simp) hx, ← hx]
      · rcases List.mem_cons.1 hy with rfl | hy
        · exact .inr rfl
        · exact h2 y hy
    · have e : (x :: l).filter (fun x => !decide (x.1 = k)) = x :: l.filter (fun x => !decide (x.1 = k)) := List.filter_cons_of_pos (by simp [hx])
      rw [e] at h
      cases r0 with
      | nil => cases h
      | cons y r0 =>
        simp only [List.map_cons, List.cons.injEq] at h
        obtain ⟨h0, h⟩ := h
        obtain ⟨r, h1, h2⟩ := join_list hu l r0 h fun y hy => hk y (by simp [hy])
        have hy1 : y.1 = x.1 := by rw [h0]; rfl
        refine ⟨y :: r, ?_, fun z hz => ?_⟩
        · rw [List.map_cons, ← h1, h0]
          congr 1
          unfold entV
          rw [hu y.1 (by rw [hy1]; exact hx)]
        · rcases List.mem_cons.1 hz with rfl | hz
          · exact .inl ⟨by simp, by rw [hy1]; exact hx⟩
          · rcases h2 z hz with ⟨h3, h4⟩ | h3
            · exact .inl ⟨by simp [h3], h4⟩
            · exact .inr h3

theorem mrestP_join {L : Ents} {f : Nat → Option Obj} {A1 : List Nat} {l : List (List Int × Value)} {k : List Int} {blk cap : Nat} (h : mrestP (cut L k) f A1 (l.filter fun x => !decide (x.1 = k))) (hk : atKey k l = nslV blk (under L k).length cap) (hd : (l.map (·.1)).Nodup)
    (hrow : 0 < cap → rowF f blk (under L k) cap ∧ blk ∉ A1) (h0 : cap = 0 → under L k = []) : ∃ Rw, mrestP (under L) f Rw l ∧ ∀ a ∈ Rw, a ∈ A1 ∨ (0 < cap ∧ a = blk) := by
  obtain ⟨r0, h1, h2, h3, h4⟩ := h
  obtain ⟨r, g1, g2⟩ := join_list (u' := under L) (fun q hq => cut_ne hq) l r0 h1 fun x hx hxk => (atKey_mem hd x hx hxk).trans hk
  refine ⟨(r.filter fun x => decide (0 < x.2.2)).map (·.2.1), ⟨r, g1, fun x hx => ?_, fun x hx y hy hcx hcy e => ?_, fun a => ?_⟩, fun a ha => ?_⟩
  · rcases g2 x hx with ⟨h5, h6⟩ | rfl
    · have := h2 x h5
      rw [cut_ne h6] at this
      exact this
    · exact ⟨fun hc => (hrow hc).1, h0⟩
  · rcases g2 x hx with ⟨h5, h6⟩ | rfl <;> rcases g2 y hy with ⟨h5', h6'⟩ | rfl
    · exact h3 x h5 y h5' hcx hcy e
    · exact absurd ((h4 _).2 ⟨x, h5, hcx, e.symm⟩) (hrow hcy).2
    · exact absurd ((h4 _).2 ⟨y, h5', hcy, e⟩) (hrow hcx).2
    · rfl
  · simp only [List.mem_map, List.mem_filter, decide_eq_true_eq]
    constructor
    · rintro ⟨x, ⟨h5, h6⟩, rfl⟩; exact ⟨x, h5, h6, rfl⟩
    · rintro ⟨x, h5, h6, rfl⟩; exact ⟨x, ⟨h5, h6⟩, rfl⟩
  · simp only [List.mem_map, List.mem_filter, decide_eq_true_eq] at ha
    obtain ⟨x, ⟨h5, h6⟩, rfl⟩ := ha
    rcases g2 x h5 with ⟨h7, _⟩ | rfl
    · exact .inl ((h4 _).2 ⟨x, h7, h6, rfl⟩)
    · exact .inr ⟨h6, rfl⟩

section
variable {B : Base} {σ : Nat → Nat} {w : World}

/-- Opened at a key. -/
theorem book_open {A : List Nat} {L : Ents} {cs : List ByteArray} (s : Mem B σ 1 [(0, .obj A [] (bookAbs L cs))] w) {k : List Int} (hk : k.length = 32) :
    ∃ σ1 A1 ccap cap, (∀ j, j < 1 → σ j = σ1 j) ∧ Mem B σ1 4 (openH L cs k A1 ccap cap) w ∧ (∀ b, avoids B σ1 (openH L cs k A1 ccap cap) b → avoids B σ [(0, .obj A [] (bookAbs L cs))] b) ∧ (ccap = 0 ↔ cs = []) ∧ cs.length ≤ ccap ∧ (under L k).length ≤ cap ∧ (cap = 0 → under L k = []) := by
  obtain ⟨_, _, q3, m, cb, ccap, es, clock, t, fr, l, Rw, h1, h2, h3, h4, h5, h6, h7, h8, h9, h10, h11, h12⟩ := s.holds 0 _ rfl
  obtain ⟨A1, blk, cap, g1, g2, g3, g4, g5, g6⟩ := mrestP_cut (k := k) h7 h11 h6
  let σ1 : Nat → Nat := fun j => if j = 0 then σ 0 else if j = 1 then m else if j = 2 then cb else if j = 3 then blk else 0
  have s0 : σ1 0 = σ 0 := rfl
  have s1 : σ1 1 = m := rfl
  have s2 : σ1 2 = cb := rfl
  have s3 : σ1 3 = blk := rfl
  have hcl : cs.length ≤ ccap := by
    by_cases hc : ccap = 0
    · rw [h9.1 hc]; simp
    · exact (h10 (by omega)).1.1
  have hul : (under L k).length ≤ cap := by
    by_cases hc : cap = 0
    · rw [g3 hc]; simp
    · exact (g2 (by omega)).1.1
  have hmA : m ∈ A := (h12 m).2 (.inl rfl)
  have hbA : ∀ {a}, a ∈ A → a ≠ σ 0 := fun ha e => q3 (e ▸ ha)
  have hRA : ∀ {a}, a ∈ Rw → a ∈ A := fun ha => (h12 _).2 (.inr (.inr ha))
  -- who occupies what
  have occ : ∀ i b x, get (openH L cs k A1 ccap cap) i = some b → b.occ (σ1 i) x → (i = 0 ∧ x = σ 0) ∨ (i = 1 ∧ (x = m ∨ x ∈ A1)) ∨ (i = 2 ∧ 0 < ccap ∧ x = cb) ∨ (i = 3 ∧ 0 < cap ∧ x = blk) := by
    intro i b x hi ho
    rcases get_openH hi with ⟨rfl, rfl⟩ | ⟨rfl, rfl⟩ | ⟨rfl, rfl⟩ | ⟨rfl, rfl⟩
    · exact .inl ⟨rfl, (ho.nil rfl).2.symm⟩
    · rcases ho with ⟨_, ho⟩ | ho
      · exact .inr (.inl ⟨rfl, .inl ho.symm⟩)
      · exact .inr (.inl ⟨rfl, .inr ho⟩)
    · exact .inr (.inr (.inl ⟨rfl, (ho.nil rfl).1, (ho.nil rfl).2.symm⟩))
    · exact .inr (.inr (.inr ⟨rfl, (ho.nil rfl).1, (ho.nil rfl).2.symm⟩))
  have inA : ∀ i b x, get (openH L cs k A1 ccap cap) i = some b → b.occ (σ1 i) x → x = σ 0 ∨ x ∈ A := by
    intro i b x hi ho
    rcases occ i b x hi ho with ⟨_, rfl⟩ | ⟨_, rfl | h⟩ | ⟨_, hc, rfl⟩ | ⟨_, hc, rfl⟩
    · exact .inl rfl
    · exact .inr hmA
    · exact .inr (hRA (g6 _ h))
    · exact .inr ((h12 _).2 (.inr (.inl ⟨hc, rfl⟩)))
    · exact .inr (hRA (g2 hc).2.1)
  have key : ∀ i j b b' x, get (openH L cs k A1 ccap cap) i = some b → get (openH L cs k A1 ccap cap) j = some b' → b.occ (σ1 i) x → b'.occ (σ1 j) x → i ≤ j := by
    intro i j b b' x hi hj ho ho'
    rcases occ i b x hi ho with ⟨rfl, rfl⟩ | ⟨rfl, h⟩ | ⟨rfl, hc, rfl⟩ | ⟨rfl, hc, rfl⟩ <;> rcases occ j b' _ hj ho' with ⟨rfl, e⟩ | ⟨rfl, h'⟩ | ⟨rfl, hc', e⟩ | ⟨rfl, hc', e⟩ <;> first | omega | skip
    · rcases h with rfl | h
      · exact absurd e (hbA hmA)
      · exact absurd e (hbA (hRA (g6 _ h)))
    · exact absurd e (hbA ((h12 _).2 (.inr (.inl ⟨hc, rfl⟩))))
    · rcases h' with h' | h'
      · exact absurd h' (h10 hc).2.2
      · exact absurd (g6 _ h') (h10 hc).2.1
    · exact absurd e (hbA (hRA (g2 hc).2.1))
    · rcases h' with h' | h'
      · exact absurd (h' ▸ (g2 hc).2.1) h8
      · exact absurd h' (g2 hc).2.2
    · exact absurd (e ▸ (g2 hc).2.1) (h10 hc').2.1
  obtain ⟨m1, m2⟩ := s.reform (σ' := σ1) (n' := 4) (H := openH L cs k A1 ccap cap) (by have := s.kn; omega) (fun j hj => by
      have := s.kn
      have : j = 0 := by omega
      subst this; rfl) (fun j b hj => by rcases get_openH hj with ⟨rfl, _⟩ | ⟨rfl, _⟩ | ⟨rfl, _⟩ | ⟨rfl, _⟩ <;> omega)
    (fun i j b b' x hi hj ho ho' => Nat.le_antisymm (key i j b b' x hi hj ho ho') (key j i b' b x hj hi ho' ho))
    (fun i b x hi ho => ⟨0, _, rfl, by
      rcases inA i b x hi ho with rfl | h
      · exact .mk trivial
      · exact .inr h⟩)
    (fun i b hi => by
      rcases get_openH hi with ⟨rfl, rfl⟩ | ⟨rfl, rfl⟩ | ⟨rfl, rfl⟩ | ⟨rfl, rfl⟩
      · exact ⟨t, fr, h1, h2⟩
      · refine ⟨⟨_, h3⟩, fun a ha => ?_, fun hm => h8 (g6 _ hm), es, clock, l, h3, h4, h5, h6, ?_, g4, g5⟩
        · obtain ⟨_, q2, _⟩ := s.holds 0 _ rfl
          exact q2 a (hRA (g6 a ha))
        · rw [g1]; rfl
      · exact holds_of_rowF (fun hc => (h10 hc).1) h9.1
      · exact holds_of_rowF (fun hc => (g2 hc).1) g3)
    (fun i b hi => by
      rcases get_openH hi with ⟨rfl, rfl⟩ | ⟨rfl, rfl⟩ | ⟨rfl, rfl⟩ | ⟨rfl, rfl⟩
      · intro x hx
        simp only [List.mem_cons, List.not_mem_nil, or_false] at hx
        rcases hx with rfl | rfl | rfl
        · exact .mp (by omega)
        · exact .nslc (by omega) hcl
        · exact .v rfl
      · intro x hx
        simp only [List.mem_cons, List.not_mem_nil, or_false] at hx
        subst hx
        exact .nslc (by omega) hul
      · intro x _ z hz
        simp only [eS, encRec, RK.svs, RK.sv, List.mem_cons, List.not_mem_nil, or_false] at hz
        subst hz
        exact .v rfl
      · intro x _ z hz
        simp only [eS, encRec, RK.svs, RK.sv, List.mem_cons, List.not_mem_nil, or_false] at hz
        subst hz
        exact .v rfl)
  exact ⟨σ1, A1, ccap, cap, fun j hj => by
    have : j = 0 := by omega
    subst this; rfl, m1, m2, h9, hcl, hul, g3⟩

/-- Shut again. -/
theorem book_shut {n : Nat} {h : Bs} {L : Ents} {cs : List ByteArray} {k : List Int} {A1 : List Nat} {ccap cap c r : Nat} (s : Mem B σ n h w) (hB : B.k ≤ 1) {l0 : List SV} (g0 : get h 0 = some (.cells l0)) (e0 : ∀ τ, denL τ l0 = denL τ [.mp 1, .nslc c 1 cs.length ccap, .v (.int .i64 (L.length : Int))])
    (g1 : get h 1 = some (.obj A1 [.nslc r 1 (under L k).length cap] (.map 32 k (mrest (cut L k))))) (g2 : get h c = some (.row 1 eS (rowS cs) ccap)) (g3 : get h r = some (.row 1 eS (rowS (under L k)) cap))
    (hcr : c ≠ r) (hcc : ccap = 0 ↔ cs = []) : ∃ A, Mem B σ 1 [(0, .obj A [] (bookAbs L cs))] w ∧ ∀ b, avoids B σ [(0, .obj A [] (bookAbs L cs))] b → avoids B σ h b := by
  obtain ⟨t, fr, k1, k2⟩ := s.holds 0 _ g0
  rw [e0] at k1 k2
  obtain ⟨k3, k4, k5, es, clock, l, k6, k7, k8, k9, k10, k11, k12⟩ := s.holds 1 _ g1
  have hrl := s.holds r _ g3
  have hr0 : cap = 0 → under L k = [] := fun h0 => by
    have := hrl.1
    rw [rowS_length, h0] at this
    exact List.length_eq_zero_iff.1 (by omega)
  have e10 : (denL σ [SV.nslc r 1 (under L k).length cap]) = [nslV (σ r) (under L k).length cap] := rfl
  rw [e10] at k10
  simp only [List.cons.injEq, and_true] at k10
  have hc0 : c ≠ 0 := fun e => by rw [e, g0] at g2; cases g2
  have hr00 : r ≠ 0 := fun e => by rw [e, g0] at g3; cases g3
  have hc1 : c ≠ 1 := fun e => by rw [e, g1] at g2; cases g2
  have hr1 : r ≠ 1 := fun e => by rw [e, g1] at g3; cases g3
  obtain ⟨Rw, q1, q2⟩ := mrestP_join (blk := σ r) (cap := cap) k11 k10.symm k9 (fun hc => ⟨rowF_of_holds hrl hc, fun ha => hr1 (s.injO r 1 _ _ (σ r) g3 g1 (.mk hc) (.inr ha))⟩) hr0
  have ro : ∀ a, a ∈ Rw → (Blk.obj A1 [.nslc r 1 (under L k).length cap] (.map 32 k (mrest (cut L k)))).occ (σ 1) a ∨ (Blk.row 1 eS (rowS (under L k)) cap).occ (σ r) a := fun a ha => by
    rcases q2 a ha with h1 | ⟨h1, rfl⟩
    · exact .inl (.inr h1)
    · exact .inr (.mk h1)
  have hcov : cov (under L) l := fun q hq => by
    by_cases hqk : q = k
    · subst hqk
      refine Classical.byContradiction fun hn => ?_
      have : atKey q l = .slice none 0 0 := atKey_none fun x hx e => hn (List.mem_map.2 ⟨x, hx, e⟩)
      rw [this] at k10
      unfold nslV at k10
      split at k10
      · rename_i h0; exact hq (hr0 h0)
      · cases k10
    · have := k12 q (by rw [cut_ne hqk]; exact hq)
      obtain ⟨x, hx, e⟩ := List.mem_map.1 this
      exact List.mem_map.2 ⟨x, (List.mem_filter.1 hx).1, e⟩
  have hm : σ 1 ∉ Rw := fun ha => by
    rcases q2 _ ha with h1 | ⟨h1, h2⟩
    · exact k5 h1
    · exact hr1 (s.injO r 1 _ _ (σ r) g3 g1 (.mk h1) (.inl ⟨trivial, h2⟩))
  have hcb : 0 < ccap → σ c ∉ Rw ∧ σ c ≠ σ 1 := fun hc => ⟨fun ha => by
    rcases ro _ ha with h1 | h1
    · exact hc1 (s.injO c 1 _ _ (σ c) g2 g1 (.mk hc) h1)
    · exact hcr (s.injO c r _ _ (σ c) g2 g3 (.mk hc) h1), fun e => hc1 (s.injO c 1 _ _ (σ c) g2 g1 (.mk hc) (.inl ⟨trivial, e.symm⟩))⟩
  let A : List Nat := σ 1 :: ((if 0 < ccap then [σ c] else []) ++ Rw)
  have hA : ∀ a, a ∈ A ↔ a = σ 1 ∨ (0 < ccap ∧ a = σ c) ∨ a ∈ Rw := fun a => by
    simp only [A, List.mem_cons, List.mem_append]
    split
    · rename_i hc; simp [hc]
    · rename_i hc; simp [hc]
  have occA : ∀ a, a ∈ A → ∃ i b0, get h i = some b0 ∧ b0.occ (σ i) a ∧ i ≠ 0 := fun a ha => by
    rcases (hA a).1 ha with rfl | ⟨hc, rfl⟩ | h1
    · exact ⟨1, _, g1, .mk trivial, by omega⟩
    · exact ⟨c, _, g2, .mk hc, hc0⟩
    · rcases ro a h1 with h2 | h2
      · exact ⟨1, _, g1, h2, by omega⟩
      · exact ⟨r, _, g3, h2, hr00⟩
  obtain ⟨m1, m2⟩ := s.reform (σ' := σ) (n' := 1) (H := [(0, .obj A [] (bookAbs L cs))]) hB (fun _ _ => rfl)
    (fun j b hj => by
      rcases j with _ | j
      · omega
      · cases hj)
    (fun i j b b' x hi hj _ _ => by
      rcases i with _ | i
      · rcases j with _ | j
        · rfl
        · cases hj
      · cases hi)
    (fun i b x hi ho => by
      rcases i with _ | i
      · cases hi
        rcases ho with ⟨_, rfl⟩ | ha
        · exact ⟨0, _, g0, .mk trivial⟩
        · obtain ⟨i, b0, h1, h2, _⟩ := occA x ha
          exact ⟨i, b0, h1, h2⟩
      · cases hi)
    (fun i b hi => by
      rcases i with _ | i
      · cases hi
        refine ⟨⟨_, k1⟩, fun a ha => ?_, fun ha => ?_, σ 1, σ c, ccap, es, clock, t, fr, l, Rw, k1, k2, k6, k7, k8, k9, q1, hm, hcc, fun hc => ⟨rowF_of_holds (s.holds c _ g2) hc, hcb hc⟩, hcov, hA⟩
        · obtain ⟨i, b0, h1, h2, _⟩ := occA a ha
          have := s.occ_lt h1 h2
          exact ⟨_, Array.getElem?_eq_getElem this⟩
        · obtain ⟨i, b0, h1, h2, h3⟩ := occA _ ha
          exact h3 (s.injO i 0 _ _ _ h1 g0 h2 (.mk trivial))
      · cases hi)
    (fun i b hi => by
      rcases i with _ | i
      · cases hi
        intro x hx
        cases hx
      · cases hi)
  exact ⟨A, m1, m2⟩

/-- A book that was just made. -/
theorem book_made {n : Nat} {h : Bs} (s : Mem B σ n h w) (hB : B.k = 0) (g0 : get h 0 = some (.obj [] [] newMap)) (g1 : get h 1 = some (.cells [.mp 0, .v (.slice none 0 0), .v (.int .i64 0)])) :
    ∃ σ2 A, Mem B σ2 1 [(0, .obj A [] (bookAbs [] []))] w ∧ σ2 0 = σ 1 ∧ ∀ b, avoids B σ2 [(0, .obj A [] (bookAbs [] []))] b → avoids B σ h b := by
  obtain ⟨t, fr, k1, k2⟩ := s.holds 1 _ g1
  obtain ⟨_, _, _, k3, _⟩ := s.holds 0 _ g0
  obtain ⟨m1, m2⟩ := s.reform (σ' := fun _ => σ 1) (n' := 1) (H := [(0, .obj [σ 0] [] (bookAbs [] []))]) (by omega) (fun j hj => by omega)
    (fun j b hj => by
      rcases j with _ | j
      · omega
      · cases hj)
    (fun i j b b' x hi hj _ _ => by
      rcases i with _ | i
      · rcases j with _ | j
        · rfl
        · cases hj
      · cases hi)
    (fun i b x hi ho => by
      rcases i with _ | i
      · cases hi
        rcases ho with ⟨_, rfl⟩ | ha
        · exact ⟨1, _, g1, .mk trivial⟩
        · rw [List.mem_singleton.1 ha]
          exact ⟨0, _, g0, .mk trivial⟩
      · cases hi)
    (fun i b hi => by
      rcases i with _ | i
      · cases hi
        refine ⟨⟨_, k1⟩, fun a ha => ?_, fun ha => ?_, σ 0, 0, 0, #[], 0, t, fr, [], [], k1, k2, k3, rfl, (fun x hx => by cases hx), List.nodup_nil, ⟨[], rfl, (fun x hx => by cases hx), (fun x hx => by cases hx), fun a => ⟨(fun h => by cases h), (by rintro ⟨x, hx, _⟩; cases hx)⟩⟩, List.not_mem_nil, ⟨fun _ => rfl, fun _ => rfl⟩, fun hc => absurd hc (Nat.lt_irrefl 0), fun q hq => absurd rfl hq, fun a => ?_⟩
        · rw [List.mem_singleton.1 ha]
          exact ⟨_, k3⟩
        · have := List.mem_singleton.1 ha
          have := s.injO 1 0 _ _ (σ 0) g1 g0 (.inl ⟨trivial, this⟩) (.mk trivial)
          omega
        · simp
      · cases hi)
    (fun i b hi => by
      rcases i with _ | i
      · cases hi
        intro x hx
        cases hx
      · cases hi)
  exact ⟨_, _, m1, rfl, m2⟩
end
end Go.Sx
