/- 'copy' of bytes into an own array or an own row. Holds for every program. -/
import Derived.Test.YtgbikcniediomaaSxA
import Derived.Laws.IdiomCopy
namespace Go.Sx
set_option linter.unusedSimpArgs false
set_option linter.unusedVariables false

def srcB (h : Bs) (m : M) (K : List Int → Prop) : Prop :=
  match m with
  | .one (.v (.string s)) => K (sl s)
  | m => contK h m fun k l => bif kindB k .u8 then K l else False

def lay (il : List Int) (i len : Nat) (cs : List Int) : List Int := il.take i ++ (cs.take len ++ il.drop (i + min cs.length len))

def copyK (h : Bs) (xd xs : M) (K : M → Bs → Prop) : Prop :=
  srcB h xs fun cs => match xd with
  | .one (.asl j off i len _) => (match get h j with
    | some (.cells l) => chunkK l off fun k m il => bif kindB k .u8 then i + len ≤ m ∧ setK l off [.ints .u8 m (lay il i len cs)] m fun l' => K (.one (.v (.int .i64 ((min cs.length len : Nat) : Int)))) (upd h j (.cells l')) else False
    | _ => False)
  | .one (.slc j es off len cap) => (match get h j with
    | some (.row es' E l cap') => bif Nat.beq es 1 && Nat.beq es' 1 then 0 < cap' ∧ off + len ≤ l.length ∧ isBytes E.enc l ∧
        K (.one (.v (.int .i64 ((min cs.length len : Nat) : Int)))) (upd h j (.row 1 (encInt .u8) (lay (bytesOf E.enc l) off len cs) cap')) else False
    | _ => False)
  | _ => False

section
variable {P : Program} {tt : Tab} {B : Base} {nt : Nat} {σ : Nat → Nat} {n : Nat} {e : Env} {h : Bs} {a : Act} {w : World}

theorem run_storeCells_blk {b o : Nat} {c : Array Value} {t : TypeId} {f : Nat × Nat} (hb : w.heap[b]? = some (.cells c t f)) (hth : thawed f c.size) {vs : List Value} (hl : o + vs.length ≤ c.size) (h1 : ∀ v ∈ vs, v.oneCell' = true) :
    (storeCells ⟨b, o, none⟩ vs).run P w = .ok () (w.setCells b o vs) := by
  have := run_storeCells_cells (P := P) b o vs 0 w (fun j hj => by rw [cell_of_cells hb]; simp; omega) (fun j hj => by
    have hlt : o + 0 + j < c.size := by omega
    have := hth.at hlt
    simp only [World.frozen?, hb]
    simp only [Bool.and_eq_false_iff, decide_eq_false_iff_not]
    omega) h1
  simpa using this

theorem Mem.store_block (s : Mem B σ n h w) {j : Nat} {l l' : List SV} (hj : get h j = some (.cells l)) {o : Nat} {vs : List Value} (h1 : ∀ v ∈ vs, v.oneCell' = true) (hlen : o + vs.length ≤ (denL σ l).length)
    (hd : denL σ l' = (denL σ l).take o ++ vs ++ (denL σ l).drop (o + vs.length)) (_hok : ∀ x ∈ l', x.Ok w (avoids B σ h) n) :
    (storeCells ⟨σ j, o, none⟩ vs).run P w = .ok () (w.setCells (σ j) o vs) ∧ (Blk.cells l').holds σ (w.setCells (σ j) o vs) (σ j) := by
  obtain ⟨t, f, hb, hth⟩ := s.holds j _ hj
  refine ⟨run_storeCells_blk hb (by simpa using hth) (by simpa using hlen) h1, t, f, ?_, ?_⟩
  · rw [setCells_heap vs o w (σ j) _ t f hb (by simpa using hlen), hd]
  · rw [hd]
    have : ((denL σ l).take o ++ vs ++ (denL σ l).drop (o + vs.length)).length = (denL σ l).length := by simp; omega
    rw [this]; exact hth

theorem lay_length {il cs : List Int} {i len : Nat} (h : i + len ≤ il.length) : (lay il i len cs).length = il.length := by
  simp [lay]
  omega

theorem srcB_sound (s : Mem B σ n h w) {m : M} (hm : m.Ok w (avoids B σ h) n) {K : List Int → Prop} (hk : srcB h m K) :
    ∃ cs, K cs ∧ (Builtin.lenOf (m.den σ)).run P w = .ok cs.length w ∧ ∀ q, q ≤ cs.length → (Builtin.firstCells 1 q (m.den σ)).run P w = .ok ((cs.take q).map (Value.int .u8)).toArray w := by
  unfold srcB at hk
  split at hk
  · rename_i b
    refine ⟨_, hk, by simp [M.den, SV.den, Builtin.lenOf, sl], fun q hq => ?_⟩
    simp only [M.den, SV.den, Builtin.firstCells, Sem.run_pure]
    congr 1
    apply Array.ext'
    simp [sl, ByteArray.data_extract, List.extract_eq_take_drop, Function.comp_def, List.map_take]
  · obtain ⟨k, l, h1, h2⟩ := contK_sound s hm hk
    obtain ⟨h3, h4⟩ := cond_false_elim h1
    have := kindB_eq h3
    subst this
    refine ⟨l, h4, ?_, ?_⟩
    · rcases h2 with ⟨e, rfl⟩ | ⟨q, cap, e, _⟩ <;> simp [e, Builtin.lenOf]
    · intro q hq
      rcases h2 with ⟨e, rfl⟩ | ⟨ad, cap, e, hc, hn⟩
      · simp [e, Builtin.firstCells]
      · rw [e]
        cases ad with
        | none =>
          rcases hn rfl with h5 | rfl
          · exact h5.elim
          · simp [Builtin.firstCells]
        | some ad =>
          simp only [Builtin.firstCells, Nat.mul_one]
          have := run_loadCells_list (P := P) w ad ((l.take q).map (Value.int .u8)) (fun j v hj => by
            simp only [List.getElem?_map, List.getElem?_take] at hj
            split at hj
            · rename_i hjq
              have hjl : j < l.length := by omega
              rw [List.getElem?_eq_getElem hjl] at hj
              simp only [Option.map_some, Option.some.injEq] at hj
              obtain ⟨b, o, h5, h6⟩ := hc j hjl
              cases h5
              rw [← hj]
              simp only [Addr.add]
              split
              · rename_i hj0
                subst hj0
                exact h6
              · exact h6
            · cases hj)
          rw [show ((l.take q).map (Value.int .u8)).length = q by simp; omega] at this
          exact this

theorem run_copy_any {dT sT ty elem : TypeId} {b o dLen dCap : Nat} {v : Value} {cs : List Int} (hu : P.underlying dT = some (.slice elem)) (hs : (P.info? elem).map (·.size) = some 1)
    (h1 : (Builtin.lenOf v).run P w = .ok cs.length w) (h2 : ∀ q, q ≤ cs.length → (Builtin.firstCells 1 q v).run P w = .ok ((cs.take q).map (Value.int .u8)).toArray w) {w' : World}
    (h3 : (storeCells ⟨b, o, none⟩ ((cs.take dLen).map (Value.int .u8))).run P w = .ok () w') :
    (Builtin.copy_ #[dT, sT] ty #[.slice (some ⟨b, o, none⟩) dLen dCap, v]).run P w = .ok (.int .i64 ((min cs.length dLen : Nat) : Int)) w' := by
  cases hq : P.info? elem with
  | none => simp [hq] at hs
  | some i =>
    have hi : i.size = 1 := by simpa [hq] using hs
    have h4 := h2 (Nat.min cs.length dLen) (Nat.min_le_left _ _)
    have h5 : cs.take (Nat.min cs.length dLen) = cs.take dLen := by
      rw [show Nat.min cs.length dLen = min dLen cs.length from Nat.min_comm _ _, List.take_eq_take_iff]
      omega
    rw [h5] at h4
    rw [List.map_take] at h3 h4
    simp [Builtin.copy_, run_underlying hu, sizeOf, typeInfo, hq, hi, h1, h4, h3, goInt]

theorem TRow.size? {t : Nat} {ti : TI} (r : TRow P t ti) (h : ti.size = 1) : (P.info? t).map (·.size) = some 1 := by
  obtain ⟨i, h1, h2, _⟩ := r.info
  simp [h1, h2, h]

theorem copyK_sound (hT : TOK P tt) (s : Sat B nt σ n e h a w) {t el tx ty : Nat} {ti te : TI} (ht : get tt t = some ti) (hkd : ti.kind = .sl el) (hte : get tt el = some te) (hsz : te.size = 1) {xd xs : M} (hd : xd.Ok w (avoids B σ h) n)
    (hx : xs.Ok w (avoids B σ h) n) {K : M → Bs → Prop} (hk : copyK h xd xs K) :
    ∃ m h' w', K m h' ∧ (Builtin.copy_ #[t, tx] ty #[xd.den σ, xs.den σ]).run P w = .ok (m.den σ) w' ∧ Sat B nt σ n e h' a w' ∧ m.Ok w' (avoids B σ h') n := by
  have hu : P.underlying t = some (.slice el) := by
    obtain ⟨d, h1, h2⟩ := (hT _ _ ht).und
    rw [hkd] at h2
    cases d <;> simp only [TK.fits] at h2 <;> first | exact h2.elim | (subst h2; exact h1)
  have hs1 := (hT _ _ hte).size? hsz
  unfold copyK at hk
  obtain ⟨cs, hk1, hl, hf⟩ := srcB_sound (P := P) s.mem hx hk
  clear hx hd hk
  have hk := hk1
  clear hk1
  split at hk
  · rename_i j off i len cap
    split at hk
    · rename_i l hj
      obtain ⟨k, m, il, h1, h2, h3⟩ := chunkK_spec l off _ (s.mem.ok j _ hj) hk
      obtain ⟨h4, h5, h6⟩ := cond_false_elim h1
      have := kindB_eq h4
      subst this
      have hlay : (lay il i len cs).length = m := by rw [lay_length (by omega), h2]
      obtain ⟨l', g1, g2, g3, g4⟩ := setK_spec (w := w) (av := avoids B σ h) (n := n) [.ints .u8 m (lay il i len cs)] m (fun x hx => by simp at hx; subst hx; exact .ints hlay) l off _ (s.mem.ok j _ hj) h6
      have hlen := denL_length (s.mem.ok j _ hj) σ
      have hd2 : denL σ l' = (denL σ l).take (off + i) ++ (cs.take len).map (Value.int .u8) ++ (denL σ l).drop (off + i + ((cs.take len).map (Value.int .u8)).length) := by
        rw [g2 σ]
        apply List.ext_getElem?
        intro q
        simp only [denL_cons, denL_nil, SV.dens, List.append_nil, lay, List.map_append]
        have hL : ((denL σ l).take off).length = off := by simp; omega
        have hL2 : ((denL σ l).take (off + i)).length = off + i := by simp; omega
        have hA : ((il.take i).map (Value.int .u8)).length = i := by simp; omega
        have hC : ((cs.take len).map (Value.int .u8)).length = min cs.length len := by simp; omega
        have hD : ((il.drop (i + min cs.length len)).map (Value.int .u8)).length = m - (i + min cs.length len) := by simp; omega
        simp only [List.append_assoc, List.getElem?_append, hL, hL2, hA, hC, hD]
        by_cases q1 : q < off
        · rw [if_pos q1, if_pos (by omega)]
          simp only [List.getElem?_take]
          rw [if_pos q1, if_pos (by omega)]
        · rw [if_neg q1]
          by_cases q2 : q < off + i
          · rw [if_pos (by omega), if_pos q2]
            have hq := h3 σ (q - off) (by omega)
            rw [show off + (q - off) = q by omega] at hq
            simp only [List.getElem?_take, List.getElem?_map]
            rw [if_pos (by omega), if_pos (by omega), hq, List.getElem?_eq_getElem (by omega)]
            rfl
          · rw [if_neg (show ¬ (q - off < i) by omega), if_neg q2]
            by_cases q3 : q < off + i + min cs.length len
            · rw [if_pos (show q - off - i < min cs.length len by omega), if_pos (show q - (off + i) < min cs.length len by omega), show q - off - i = q - (off + i) by omega]
            · rw [if_neg (show ¬ (q - off - i < min cs.length len) by omega), if_neg (show ¬ (q - (off + i) < min cs.length len) by omega)]
              by_cases q4 : q < off + m
              · rw [if_pos (show q - off - i - min cs.length len < m - (i + min cs.length len) by omega)]
                have hq := h3 σ (q - off) (by omega)
                rw [show off + (q - off) = q by omega] at hq
                simp only [List.getElem?_map, List.getElem?_drop]
                rw [show i + min cs.length len + (q - off - i - min cs.length len) = q - off by omega, show off + i + min cs.length len + (q - (off + i) - min cs.length len) = q by omega, hq, List.getElem?_eq_getElem (by omega)]
                rfl
              · rw [if_neg (show ¬ (q - off - i - min cs.length len < m - (i + min cs.length len)) by omega)]
                simp only [List.getElem?_drop]
                rw [show off + m + (q - off - i - min cs.length len - (m - (i + min cs.length len))) = off + i + min cs.length len + (q - (off + i) - min cs.length len) by omega]
      have one : ∀ v ∈ (cs.take len).map (Value.int .u8), v.oneCell' = true := by
        intro v hv
        obtain ⟨_, _, rfl⟩ := List.mem_map.1 hv
        rfl
      obtain ⟨c1, c2⟩ := s.mem.store_block (P := P) hj (o := off + i) (vs := (cs.take len).map (Value.int .u8)) one (by rw [hlen]; simp; omega) hd2 g4
      obtain ⟨d1, d2, d3, d4, d5⟩ := setCells_rest ((cs.take len).map (Value.int .u8)) (off + i) w (σ j)
      exact ⟨_, _, _, g1, run_copy_any hu hs1 hl hf c1, s.upd hj trivial d5 d1 d2 d3 d4 c2 g4, okv rfl⟩
    · exact hk.elim
  · rename_i j es off len cap
    split at hk
    · rename_i es' α E l cap' hj
      obtain ⟨h1, hcap, h2, h3, h4⟩ := cond_false_elim hk
      simp only [Bool.and_eq_true] at h1
      have hes := Nat.eq_of_beq_eq_true h1.1
      have hes' := Nat.eq_of_beq_eq_true h1.2
      subst hes; subst hes'
      obtain ⟨g1, g2, g3⟩ := s.mem.holds j _ hj
      · obtain ⟨c, tt', f, e1, e2, e3, e4⟩ := g3 hcap
        have one : ∀ v ∈ (cs.take len).map (Value.int .u8), v.oneCell' = true := by
          intro v hv
          obtain ⟨_, _, rfl⟩ := List.mem_map.1 hv
          rfl
        have hC : ((cs.take len).map (Value.int .u8)).length = min cs.length len := by simp; omega
        have c1 := run_storeCells_blk (P := P) (o := off * 1) (vs := (cs.take len).map (Value.int .u8)) e1 e2 (by rw [hC]; omega) one
        obtain ⟨d1, d2, d3, d4, d5⟩ := setCells_rest ((cs.take len).map (Value.int .u8)) (off * 1) w (σ j)
        have hb' := setCells_heap ((cs.take len).map (Value.int .u8)) (off * 1) w (σ j) c tt' f e1 (by rw [hC]; omega)
        have hbl : (bytesOf E.enc l).length = l.length := by simp [bytesOf]
        have hll : (lay (bytesOf E.enc l) off len cs).length = l.length := by rw [lay_length (by rw [hbl]; exact h2), hbl]
        refine ⟨_, _, _, h4, run_copy_any hu hs1 hl hf c1, s.upd hj hcap d5 d1 d2 d3 d4 ?_ ?_, okv rfl⟩
        · refine ⟨by rw [hll]; exact g1, fun x _ => by simp [encInt, denL_cons, denL_nil, SV.dens], fun _ => ⟨_, tt', f, hb', ?_, ?_, fun q u hq v hv => ?_⟩⟩
          · have : ((c.toList.take (off * 1) ++ (cs.take len).map (Value.int .u8) ++ c.toList.drop (off * 1 + ((cs.take len).map (Value.int .u8)).length)).toArray).size = c.size := by simp; omega
            rw [this]; exact e2
          · simp; omega
          · have hq' : q < l.length := by omega
            simp only [encInt, denL_cons, denL_nil, SV.dens_one (s := .v _) rfl, SV.den, List.append_nil] at hv
            have hu0 : u = 0 := by
              cases u with
              | zero => rfl
              | succ u => simp at hv
            subst hu0
            simp only [List.getElem?_cons_zero, Option.some.injEq] at hv
            subst hv
            have hold : c[q]? = some (.int .u8 (num1 (E.enc l[q]))) := by
              have := e4 q 0 hq' (.int .u8 (num1 (E.enc l[q]))) (by rw [isBytes_den h3 (List.getElem_mem hq') σ]; rfl)
              simpa using this
            simp only [Nat.mul_one, Nat.add_zero, List.getElem?_toArray]
            have hcl : c.toList.length = cap' := by simp; omega
            have hL2 : (c.toList.take off).length = off := by simp; omega
            have hB : ((bytesOf E.enc l).take off).length = off := by simp; omega
            have key : ((lay (bytesOf E.enc l) off len cs).map (Value.int .u8))[q]? = (c.toList.take off ++ (cs.take len).map (Value.int .u8) ++ c.toList.drop (off + ((cs.take len).map (Value.int .u8)).length))[q]? := by
              simp only [lay, List.map_append, List.append_assoc]
              have hold' : (List.map (Value.int .u8) (bytesOf E.enc l))[q]? = c.toList[q]? := by
                rw [show c.toList[q]? = c[q]? from Array.getElem?_toList, hold]
                simp [bytesOf, List.getElem?_eq_getElem hq']
              have hC1 : ((cs.take len).map (Value.int .u8)).length = min cs.length len := hC
              have hB1 : (((bytesOf E.enc l).take off).map (Value.int .u8)).length = off := by rw [List.length_map, hB]
              simp only [List.getElem?_append, hB1, hC1, hL2]
              by_cases q1 : q < off
              · rw [if_pos q1, if_pos q1, List.map_take]
                simp only [List.getElem?_take]
                rw [if_pos q1, if_pos q1, hold']
              · rw [if_neg q1, if_neg q1]
                by_cases q2 : q < off + min cs.length len
                · rw [if_pos (by omega), if_pos (by omega)]
                · rw [if_neg (by omega), if_neg (by omega)]
                  simp only [List.map_drop, List.getElem?_drop]
                  rw [show off + min cs.length len + (q - off - min cs.length len) = q by omega, hold']
            rw [← key, List.getElem?_map, List.getElem?_eq_getElem hq]
            rfl
        · intro x _ z hz
          simp only [encInt, List.mem_singleton] at hz
          subst hz
          exact .v rfl
    · exact hk.elim
  · exact hk.elim
end
end Go.Sx
