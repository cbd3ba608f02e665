/- Maps by keys that are rows of bytes: what a look and a store at a key come to. Holds for every program. -/
import Derived.Test.YtgbikcniediomaaSx8
import Derived.MapKept
import Derived.Carry
namespace Go.Sx
set_option linter.unusedSimpArgs false
set_option linter.unusedVariables false

theorem entsOf.nil {es : Array MapEntry} (h : es.toList = []) : entsOf es [] := by
  unfold entsOf
  rw [h]
  rfl

section
variable {P : Program} {tt : Tab} {w : World}

structure MapTy (P : Program) (tt : Tab) (t m kt el : Nat) : Prop where
  und : P.underlying t = some (.map kt el)
  zero : (zeroValue el).run P w = .ok (.slice none 0 0) w
  chk : ∀ (em : Bool) (w : World) {key : List Int}, key.length = m → (Instr.checkKey em 10000 kt (keyV key)).run P w = .ok () w
  eq : ∀ (w : World) {a b : List Int}, a.length = m → b.length = m → (Op.equal kt (keyV a) (keyV b)).run P w = .ok (decide (a = b)) w
  now : ∀ (w : World) (x : Value) (es : List MapEntry), (Instr.findKey kt x es).run P w = (Instr.findAsking kt x es 0).run P w

theorem run_check_bytes {kt e m : Nat} {ki ei : TI} (hT : TOK P tt) (hk : get tt kt = some ki) (he : get tt e = some ei) (hkk : ki.kind = .arr m e) (hek : ei.kind = .int .u8) (hs : ei.size = 1) (em : Bool) (w : World) {key : List Int} (hl : key.length = m) :
    (Instr.checkKey em 10000 kt (keyV key)).run P w = .ok () w := by
  have hu := (hT kt ki hk).arr hkk
  have re := hT e ei he
  have hue := re.int hek
  have hsz := re.run_sizeOf w
  have hag := re.run_isAgg (by rw [hek]; simp) w
  have hagf : ei.agg = false := by simp [TI.agg, hek]
  rw [show (10000 : Nat) = 9998 + 1 + 1 from rfl, Instr.checkKey]
  simp only [Sem.run_bind, run_underlying hu, Result.andThen_ok, keyV]
  simp only [Std.Legacy.Range.forIn_eq_forIn_range', Std.Legacy.Range.size, Nat.sub_zero, Nat.add_one_sub_one, Nat.div_one]
  have each : ∀ j ∈ List.range' 0 m, j < key.length := fun j hj => by
    rw [List.mem_range'] at hj
    obtain ⟨i, hi, rfl⟩ := hj
    omega
  generalize List.range' 0 m = is at each
  induction is with
  | nil => simp
  | cons j is ih =>
    have hj := each j (by simp)
    have hpart : (part e ((key.map (Value.int .u8)).toArray) (j * 1)).run P w = .ok (.int .u8 key[j]) w := by
      simp only [part, Sem.run_bind, hag, Result.andThen_ok, hagf, Bool.false_eq_true, if_false, Sem.run_pure]
      simp [hj]
    simp only [List.forIn_cons, Sem.run_bind, hsz, hs, Result.andThen_ok, hpart]
    rw [Instr.checkKey]
    simp only [Sem.run_bind, run_underlying hue, Result.andThen_ok, Sem.run_pure]
    exact ih fun y hy => each y (by simp [hy])

theorem run_eq_bytes {kt m : Nat} {ki : TI} (hT : TOK P tt) (hk : get tt kt = some ki) {z : List Int} (hz : ki.zero = [.ints .u8 m z]) (hq : ki.eqm ≠ 0) (w : World) {a b : List Int} (ha : a.length = m) (hb : b.length = m) :
    (Op.equal kt (keyV a) (keyV b)).run P w = .ok (decide (a = b)) w := by
  have hx : ∀ {l : List Int}, l.length = m → (M.agg [.ints .u8 m l]).Ok w (fun _ => False) 0 := fun h => .agg fun s hs => by
    rw [List.mem_singleton] at hs
    subst hs
    exact .ints h
  have h0 : Nat.beq ki.eqm 0 = false := beqF hq
  obtain ⟨c, h1, h2, _⟩ := eq2_sound (σ := nowhere) (K := fun c => c = decide (a = b)) hT hk (hx ha) (hx hb) (by
    simp only [eq2, h0, cond_false, hz, eqK, eq1K]
    rw [show IntKind.beq .u8 .u8 = true from rfl, beqT]
    simp only [Bool.and_self, cond_true]
    rw [Bool.eq_iff_iff]
    simp)
  rw [h1] at h2
  have e : ∀ l : List Int, (M.agg [.ints .u8 m l]).den nowhere = keyV l := fun l => by simp [M.den, denL, SV.dens, keyV]
  rw [e, e] at h2
  exact h2

theorem mapB_ty (hT : TOK P tt) {t m : Nat} (h : mapB tt t m = true) : ∃ kt el, MapTy (w := w) P tt t m kt el := by
  unfold mapB at h
  split at h <;> first | (cases h; done) | skip
  rename_i ti hti
  split at h <;> first | (cases h; done) | skip
  rename_i kt el hkd
  split at h <;> first | (cases h; done) | skip
  rename_i ki eli hki hel
  simp only [Bool.and_eq_true, Bool.not_eq_true'] at h
  obtain ⟨⟨⟨h1, h2⟩, h3⟩, h4⟩ := h
  split at h1 <;> first | (cases h1; done) | skip
  rename_i el2 hek
  split at h2 <;> first | (cases h2; done) | skip
  rename_i m2 e hkk
  simp only [Bool.and_eq_true] at h2
  obtain ⟨h2, h5⟩ := h2
  split at h5 <;> first | (cases h5; done) | skip
  rename_i ei hei
  simp only [Bool.and_eq_true] at h5
  obtain ⟨h5, h6⟩ := h5
  split at h5 <;> first | (cases h5; done) | skip
  rename_i k hk
  split at h3 <;> first | (cases h3; done) | skip
  rename_i k2 m3 z hz
  simp only [Bool.and_eq_true] at h3
  have e1 := Nat.eq_of_beq_eq_true h2
  have e2 := Nat.eq_of_beq_eq_true h3.2
  have e3 := kindB_eq h3.1
  have e4 := kindB_eq h5
  subst e1 e2 e3 e4
  have hq : ki.eqm ≠ 0 := fun h0 => by rw [h0] at h4; cases h4
  have r := hT t ti hti
  have hu : P.underlying t = some (.map kt el) := by
    obtain ⟨d, hd, hf⟩ := r.und
    rw [hkd] at hf
    cases d <;> simp only [TK.fits] at hf
    obtain ⟨rfl, rfl⟩ := hf
    exact hd
  have huk := (hT kt ki hki).arr hkk
  refine ⟨kt, el, hu, ?_, fun em w key hl => run_check_bytes hT hki hei hkk hk (Nat.eq_of_beq_eq_true h6) em w hl, fun w a b ha hb => run_eq_bytes hT hki hz hq w ha hb, fun w x es => ?_⟩
  · obtain ⟨i, hi, hz⟩ := (hT el eli hel).zsl _ hek
    simp [zeroValue, typeInfo, hi, hz]
  · cases es with
    | nil => simp [Instr.findKey, run_underlying huk, Instr.findNow, Instr.findAsking]
    | cons y es => simp [Instr.findKey, run_underlying huk, Instr.findNow, Instr.sameNow]

theorem run_find {t m kt el : Nat} (hm : MapTy (w := w) P tt t m kt el) (w : World) {key : List Int} (hk : key.length = m) : ∀ (es : List MapEntry) (l : List (List Int × Value)) (i : Nat), es.map (fun e => (e.key, e.val)) = l.map (fun x => (keyV x.1, x.2)) → (∀ x ∈ l, x.1.length = m) →
    ((Instr.findAsking kt (keyV key) es i).run P w = .ok none w ∧ ∀ x ∈ l, x.1 ≠ key) ∨
    ∃ j x, (Instr.findAsking kt (keyV key) es i).run P w = .ok (some (i + j, x.2)) w ∧ l[j]? = some x ∧ x.1 = key ∧ ∀ q, q < j → ∀ y, l[q]? = some y → y.1 ≠ key
  | [], [], i, _, _ => .inl ⟨by simp [Instr.findAsking], fun _ h => by cases h⟩
  | [], _ :: _, _, h, _ => by cases h
  | _ :: _, [], _, h, _ => by cases h
  | e :: es, x :: l, i, h, hl => by
    simp only [List.map_cons, List.cons.injEq, Prod.mk.injEq] at h
    obtain ⟨⟨h1, h2⟩, h3⟩ := h
    have hx := hl x (by simp)
    have he := hm.eq w hk hx
    by_cases hq : key = x.1
    · right
      refine ⟨0, x, ?_, rfl, hq.symm, fun q hq' => absurd hq' (Nat.not_lt_zero _)⟩
      rw [decide_eq_true hq] at he
      simp [Instr.findAsking, h1, he, h2]
    · rw [decide_eq_false hq] at he
      rcases run_find hm w hk es l (i + 1) h3 (fun y hy => hl y (by simp [hy])) with ⟨g1, g2⟩ | ⟨j, y, g1, g2, g3, g4⟩
      · left
        refine ⟨by simp [Instr.findAsking, h1, he, g1], fun y hy => ?_⟩
        rcases List.mem_cons.1 hy with rfl | hy
        · exact fun e => hq e.symm
        · exact g2 y hy
      · right
        refine ⟨j + 1, y, by simp [Instr.findAsking, h1, he, g1, Nat.add_assoc, Nat.add_comm 1 j], by simpa using g2, g3, fun q hqj z hz => ?_⟩
        cases q with
        | zero => simp at hz; subst hz; exact fun e => hq e.symm
        | succ q => exact g4 q (by omega) z (by simpa using hz)

theorem atKey_none {key : List Int} {l : List (List Int × Value)} (h : ∀ x ∈ l, x.1 ≠ key) : atKey key l = .slice none 0 0 := by
  unfold atKey
  rw [List.find?_eq_none.2 (fun x hx => by simpa using h x hx)]

theorem atKey_some {key : List Int} : ∀ {l : List (List Int × Value)} {j : Nat} {x : List Int × Value}, l[j]? = some x → x.1 = key → (∀ q, q < j → ∀ y, l[q]? = some y → y.1 ≠ key) → atKey key l = x.2
  | [], _, _, h, _, _ => by simp at h
  | y :: l, 0, x, h, hk, _ => by
    simp at h
    subst h
    unfold atKey
    rw [List.find?_cons_of_pos (by simpa using hk)]
  | y :: l, j + 1, x, h, hk, hn => by
    have hy := hn 0 (by omega) y rfl
    unfold atKey
    rw [List.find?_cons_of_neg (by simpa using hy)]
    exact atKey_some (l := l) (by simpa using h) hk fun q hq z hz => hn (q + 1) (by omega) z (by simpa using hz)

theorem run_lookup_map (hT : TOK P tt) {t m b clock : Nat} {es : Array MapEntry} {l : List (List Int × Value)} (ht : mapB tt t m = true) (hb : w.heap[b]? = some (.map es clock)) (he : entsOf es l) (hl : ∀ x ∈ l, x.1.length = m) {key : List Int} (hk : key.length = m) :
    (Instr.lookup t (.map (some b)) (keyV key) false).run P w = .ok (atKey key l) w := by
  obtain ⟨kt, el, h⟩ := mapB_ty (w := w) hT ht
  rcases run_find h w hk es.toList l 0 he hl with ⟨h1, h2⟩ | ⟨j, x, h1, h2, h3, h4⟩
  · simp [Instr.lookup, run_underlying h.und, MapKept.run_getObj_map hb, h.chk es.isEmpty w hk, h.now, h1, h.zero, atKey_none h2]
  · simp [Instr.lookup, run_underlying h.und, MapKept.run_getObj_map hb, h.chk es.isEmpty w hk, h.now, h1, atKey_some h2 h3 h4]
end

def putKey (key : List Int) (v : Value) : List (List Int × Value) → List (List Int × Value)
  | [] => [(key, v)]
  | x :: r => if x.1 = key then (key, v) :: r else x :: putKey key v r

theorem putKey_none {key : List Int} {v : Value} : ∀ {l : List (List Int × Value)}, (∀ x ∈ l, x.1 ≠ key) → putKey key v l = l ++ [(key, v)]
  | [], _ => rfl
  | x :: r, h => by
    unfold putKey
    rw [if_neg (h x (by simp)), putKey_none fun y hy => h y (by simp [hy])]
    rfl

theorem putKey_some {key : List Int} {v : Value} : ∀ {l : List (List Int × Value)} {j : Nat} {x : List Int × Value}, l[j]? = some x → x.1 = key → (∀ q, q < j → ∀ y, l[q]? = some y → y.1 ≠ key) → putKey key v l = l.modify j fun _ => (key, v)
  | [], _, _, h, _, _ => by simp at h
  | y :: l, 0, x, h, hk, _ => by
    simp at h
    subst h
    unfold putKey
    rw [if_pos hk]
    rfl
  | y :: l, j + 1, x, h, hk, hn => by
    unfold putKey
    rw [if_neg (hn 0 (by omega) y rfl), putKey_some (l := l) (by simpa using h) hk fun q hq z hz => hn (q + 1) (by omega) z (by simpa using hz)]
    rfl

theorem putKey_keys {key : List Int} {v : Value} : ∀ {l : List (List Int × Value)}, (putKey key v l).map (·.1) = l.map (·.1) ∨ (putKey key v l).map (·.1) = l.map (·.1) ++ [key] ∧ key ∉ l.map (·.1)
  | [] => .inr ⟨rfl, by simp⟩
  | x :: r => by
    unfold putKey
    split
    · rename_i h
      left
      simp [h]
    · rename_i h
      rcases putKey_keys (l := r) (key := key) (v := v) with h1 | ⟨h1, h2⟩
      · left; simp [h1]
      · right
        refine ⟨by simp [h1], ?_⟩
        simp only [List.map_cons, List.mem_cons, not_or]
        exact ⟨fun e => h e.symm, h2⟩

theorem putKey_nodup {key : List Int} {v : Value} {l : List (List Int × Value)} (h : (l.map (·.1)).Nodup) : ((putKey key v l).map (·.1)).Nodup := by
  rcases putKey_keys (l := l) (key := key) (v := v) with h1 | ⟨h1, h2⟩
  · rw [h1]; exact h
  · rw [h1, List.nodup_append]
    refine ⟨h, by simp, fun a ha b hb => ?_⟩
    simp only [List.mem_singleton] at hb
    subst hb
    exact fun e => h2 (e ▸ ha)

theorem putKey_len {key : List Int} {v : Value} {m : Nat} (hk : key.length = m) : ∀ {l : List (List Int × Value)}, (∀ x ∈ l, x.1.length = m) → ∀ x ∈ putKey key v l, x.1.length = m
  | [], _, x, hx => by
    simp [putKey] at hx
    subst hx
    exact hk
  | y :: r, h, x, hx => by
    unfold putKey at hx
    split at hx
    · rcases List.mem_cons.1 hx with rfl | hx
      · exact hk
      · exact h x (by simp [hx])
    · rcases List.mem_cons.1 hx with rfl | hx
      · exact h x (by simp)
      · exact putKey_len hk (fun z hz => h z (by simp [hz])) x hx

theorem putKey_at {key : List Int} {v : Value} : ∀ {l : List (List Int × Value)}, atKey key (putKey key v l) = v
  | [] => by simp [putKey, atKey]
  | x :: r => by
    unfold putKey
    split
    · simp [atKey]
    · rename_i h
      have ih := putKey_at (key := key) (v := v) (l := r)
      unfold atKey at ih ⊢
      rw [List.find?_cons_of_neg (by simpa using h)]
      exact ih

theorem putKey_rest {key : List Int} {v : Value} : ∀ {l : List (List Int × Value)}, (l.map (·.1)).Nodup → (putKey key v l).filter (fun x => !decide (x.1 = key)) = l.filter (fun x => !decide (x.1 = key))
  | [], _ => by simp [putKey]
  | x :: r, h => by
    simp only [List.map_cons, List.nodup_cons] at h
    unfold putKey
    split
    · rename_i h1
      simp [h1]
    · rename_i h1
      simp [h1, putKey_rest h.2]

section
variable {P : Program} {tt : Tab} {w : World}

theorem run_mapUpdate_map (hT : TOK P tt) {t m b clock : Nat} {es : Array MapEntry} {l : List (List Int × Value)} (ht : mapB tt t m = true) (hb : w.heap[b]? = some (.map es clock)) (he : entsOf es l) (hl : ∀ x ∈ l, x.1.length = m) {key : List Int} (hk : key.length = m) (v : Value) :
    ∃ es' clock', (Instr.mapUpdate t (.map (some b)) (keyV key) v).run P w = .ok () { w with heap := w.heap.setIfInBounds b (.map es' clock') } ∧ entsOf es' (putKey key v l) := by
  obtain ⟨kt, el, h⟩ := mapB_ty (w := w) hT ht
  rcases run_find h w hk es.toList l 0 he hl with ⟨h1, h2⟩ | ⟨j, x, h1, h2, h3, h4⟩
  · refine ⟨es.push { key := keyV key, val := v, born := clock }, clock + 1, ?_, ?_⟩
    · simp [Instr.mapUpdate, run_underlying h.und, MapKept.run_getObj_map hb, h.chk false w hk, h.now, h1, MapKept.run_setObj_map _ hb]
    · rw [putKey_none h2]
      unfold entsOf at he ⊢
      simp [he]
  · have hej : ∃ e, es.toList[j]? = some e ∧ e.key = keyV key := by
      have := congrArg (fun z => z[j]?) he
      simp only [List.getElem?_map, h2, Option.map_some] at this
      cases hg : es.toList[j]? with
      | none => rw [hg] at this; cases this
      | some e =>
        rw [hg] at this
        simp only [Option.map_some, Option.some.injEq, Prod.mk.injEq] at this
        exact ⟨e, rfl, by rw [this.1, h3]⟩
    obtain ⟨e, he1, he2⟩ := hej
    have hstay : (Instr.keyThatStays (keyV key) (keyV key)).run P w = .ok (keyV key) w := by
      have : Instr.sameBits 10000 (keyV key) (keyV key) = true := by
        rw [show (10000 : Nat) = 9999 + 1 from rfl]
        simp only [keyV, Instr.sameBits, beq_self_eq_true, Bool.true_and]
        rw [List.all_eq_true]
        intro p hp
        have hz : ∀ (l : List Value), ∀ p ∈ l.zip l, p.1 = p.2 ∧ p.1 ∈ l := by
          intro l
          induction l with
          | nil => intro p hp; simp at hp
          | cons a r ih =>
            intro p hp
            simp only [List.zip_cons_cons, List.mem_cons] at hp
            rcases hp with rfl | hp
            · exact ⟨rfl, by simp⟩
            · exact ⟨(ih p hp).1, by simp [(ih p hp).2]⟩
        obtain ⟨g1, g2⟩ := hz _ p hp
        simp only [List.toList_toArray, List.mem_map] at g2
        obtain ⟨c, _, g2⟩ := g2
        rw [← g1, ← g2]
        simp [Instr.sameBits]
      simp [Instr.keyThatStays, this]
    have he3 : es[j]? = some e := by rw [← Array.getElem?_toList]; exact he1
    refine ⟨es.modify j fun e => { e with key := keyV key, val := v }, clock, ?_, ?_⟩
    · simp [Instr.mapUpdate, run_underlying h.und, MapKept.run_getObj_map hb, h.chk false w hk, h.now, h1, he3, he2, hstay, MapKept.run_setObj_map _ hb]
    · rw [putKey_some h2 h3 h4]
      unfold entsOf at he ⊢
      rw [Array.toList_modify]
      refine List.ext_getElem? fun i => ?_
      have hi := congrArg (fun z => z[i]?) he
      simp only [List.getElem?_map] at hi
      simp only [List.getElem?_map, List.getElem?_modify]
      by_cases hij : j = i
      · subst hij
        rw [he1, h2]
        simp
      · simpa [hij] using hi
end
end Go.Sx
