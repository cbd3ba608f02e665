/- Operations that make or write memory, and calls: by computation. Holds for every program. -/
import Derived.Test.YtgbikcniediomaaSxP
import Derived.Test.YtgbikcniediomaaSxW
import Derived.Scope
import Derived.ScopeJumps
namespace Go.Sx
set_option linter.unusedSimpArgs false
set_option linter.unusedVariables false

def dstK (nt : Nat) (d : Option Nat) (m : M) (e : Env) (K : Env → Prop) : Prop :=
  match d with
  | some d => bif Nat.blt d nt then K (put e d m) else False
  | none => K e

def putElK (l : List SV) (k : Nat) (m : M) (sz : Nat) (K : List SV → Prop) : Prop :=
  match m with
  | .agg new => bif Nat.beq (wdL new) sz then setK l k new sz K else False
  | .one s => bif Nat.beq sz 1 then set1K l k s K else False
  | .tup _ => False

def storeK (ti : TI) (p m : M) (h : Bs) (K : Bs → Prop) : Prop :=
  match p with
  | .one (.ptr j off) => (match get h j with
    | some (.cells l) => putElK l off m ti.size fun l' => K (upd h j (.cells l'))
    | _ => False)
  | .one (.aptr j off k) => (match get h j, m with
    | some (.cells l), .one s => bif Nat.beq ti.size 1 then setIdxK l off k s fun l' => K (upd h j (.cells l')) else False
    | _, _ => False)
  | .one (.eptr j es i k) => (match get h j with
    | some (.row es' enc l cap) => bif Nat.beq es es' then
        ∃ hi : i < l.length, putElK (enc l[i]) k m ti.size fun cs => enc.dec cs fun y => K (upd h j (.row es enc (l.set i y) cap)) else False
    | _ => False)
  | .one (.v (.pointer (some ad))) => (match get h 0, m with
    | some (.obj A V (.own P)), .one (.v (.int .u8 z)) => bif Nat.beq ti.size 1 then ∃ q, ∃ hq : q < P.length, ∃ b k cap, (ad = ⟨b, k, none⟩ ∧ P[q].1 = .slice (some ⟨b, 0, none⟩) P[q].2.length cap ∧ k < P[q].2.length) ∧ K (upd h 0 (.obj A V (.own (P.set q (P[q].1, P[q].2.set k z))))) else False
    | _, _ => False)
  | _ => False

def cellsK (m : M) (K : List SV → Prop) : Prop :=
  match m with
  | .one s => K [s]
  | .agg l => K l
  | .tup _ => False

def evs (e : Env) : List Operand → (List M → Prop) → Prop
  | [], K => K []
  | x :: r, K => ev e x fun m => evs e r fun l => K (m :: l)

def capM : CV → M
  | .v x => .one (.v x)
  | .ptr j off => .one (.ptr j off)

def addCaps0 : List CV → (List M → Prop) → Prop
  | [], K => K []
  | c :: r, K => addCaps0 r fun l => K (capM c :: l)

def addCaps : List M → List CV → (List M → Prop) → Prop
  | [], cs, K => addCaps0 cs K
  | m :: r, cs, K => addCaps r cs fun l => K (m :: l)

def Called (P : Program) (f : Nat) (vs : Array Value) (w : World) (R : Ending → World → Prop) : Prop :=
  ((callFunc f vs).run P w = .ok (.enter f vs) w ∧ Calls P f vs w R) ∨ ∃ v, (callFunc f vs).run P w = .ok (.value v) w ∧ R (.returned v) w

theorem Called.mono {P : Program} {f : Nat} {vs : Array Value} {w : World} {R R' : Ending → World → Prop} (h : Called P f vs w R) (hr : ∀ e w', R e w' → R' e w') : Called P f vs w R' := by
  rcases h with ⟨h1, h2⟩ | ⟨v, h1, h2⟩
  · exact .inl ⟨h1, h2.mono hr⟩
  · exact .inr ⟨v, h1, hr _ _ h2⟩

structure SCall (P : Program) (f : Nat) (args : List M) (n : Nat) (h : Bs) (K : Nat → M → Bs → Prop) : Prop where
  out : ∀ (B : Base) (σ : Nat → Nat) (w : World), Mem B σ n h w → (∀ m ∈ args, m.Ok w (avoids B σ h) n) →
    Called P f (args.map (M.den σ)).toArray w fun e w' => ∃ σ' n' m h', e = .returned (m.den σ') ∧ K n' m h' ∧ n ≤ n' ∧ (∀ j, j < n → σ j = σ' j) ∧ Mem B σ' n' h' w' ∧ m.Ok w' (avoids B σ' h') n' ∧
      ∀ b, b < w.heap.size → ¬ avoids B σ h b → ¬ avoids B σ' h' b ∧ w'.heap[b]? = w.heap[b]?

abbrev CallT := Nat → List M → Nat → Bs → (Nat → M → Bs → Prop) → Prop

def COK (P : Program) (C : CallT) : Prop := ∀ f args n h K, C f args n h K → SCall P f args n h K

theorem COK.self (P : Program) : COK P (SCall P) := fun _ _ _ _ _ h => h

def callK (C : CallT) (nt : Nat) (d : Option Nat) (f : M) (args : List M) (n : Nat) (e : Env) (h : Bs) (K : Nat → Env → Bs → Prop) : Prop :=
  match f with
  | .one (.clo g caps) => addCaps args caps fun args => C g args n h fun n' m h' => dstK nt d m e fun e' => K n' e' h'
  | _ => False

def mputK (tt : Tab) (t : Nat) (mm mi mv : M) (h : Bs) (K : Bs → Prop) : Prop :=
  match mm with
  | .one (.mp j) => (match get h j with
    | some (.obj A [_] (.map m key R)) => (match mi with
      | .agg [.ints k m' key'] => (match mv with
        | .one v => bif mapB tt t m && Nat.beq m m' && kindB k .u8 && v.isOne then key' = key ∧ K (upd h j (.obj A [v] (.map m key R))) else False
        | _ => False)
      | _ => False)
    | _ => False)
  | _ => False
theorem mputK_mono {tt : Tab} {t : Nat} {mm mi mv : M} {h : Bs} {K K' : Bs → Prop} (hk : ∀ h, K h → K' h) (hq : mputK tt t mm mi mv h K) : mputK tt t mm mi mv h K' := by
  unfold mputK at hq ⊢
  split at hq <;> first | exact hq.elim | skip
  split at hq <;> first | exact hq.elim | skip
  split at hq <;> first | exact hq.elim | skip
  split at hq <;> first | exact hq.elim | skip
  obtain ⟨hb, e, hq⟩ := cond_false_elim hq
  rw [hb]
  exact ⟨e, hk _ hq⟩

def capK (m : M) (K : Nat → Prop) : Prop :=
  match m with
  | .one (.v (.int .i64 z)) => bif decide (0 ≤ z) && decide (z ≤ 65536) then K z.toNat else False
  | _ => False

def xop (C : CallT) (tt : Tab) (nt : Nat) (o : Oper) (n : Nat) (e : Env) (h : Bs) (K : Nat → Env → Bs → Prop) : Prop :=
  match o.op with
  | .alloc t => ty tt t fun ti => dstK nt o.dst (.one (.ptr n 0)) e fun e' => K (n + 1) e' (put h n (.cells ti.zero))
  | .box _ x => ev e x fun m => cellsK m fun l => dstK nt o.dst (.one (.ptr n 0)) e fun e' => K (n + 1) e' (put h n (.cells l))
  | .store t p x => ev e p fun mp => ev e x fun mx => ty tt t fun ti => storeK ti mp mx h fun h' => dstK nt o.dst (.tup []) e fun e' => K n e' h'
  | .call ⟨.value f, args, _⟩ => ev e f fun mf => evs e args.toList fun ms => callK C nt o.dst mf ms n e h K
  | .call ⟨.builtin .append, args, ts⟩ => (match args.toList, ts.toList with
    | [x, y], [t, tx] => ev e x fun mx => ev e y fun my => ty tt t fun ti => ty tt tx fun tix => match ti.kind with
      | .sl el => ty tt el fun te => appendK te h n tix.kind mx my fun m h' => dstK nt o.dst m e fun e' => K (n + 1) e' h'
      | _ => False
    | _, _ => False)
  | .call ⟨.builtin .copy, args, ts⟩ => (match args.toList, ts.toList with
    | [x, y], [t, _] => ev e x fun mx => ev e y fun my => ty tt t fun ti => match ti.kind with
      | .sl el => ty tt el fun te => bif Nat.beq te.size 1 then copyK h mx my fun m h' => dstK nt o.dst m e fun e' => K n e' h' else False
      | _ => False
    | _, _ => False)
  | .buildSlice t len parts => ty tt t fun ti => match ti.kind with
    | .sl el => ty tt el fun te => buildSliceK te e h n len parts.toList fun m h' => dstK nt o.dst m e fun e' => K (n + 1) e' h'
    | _ => False
  | .makeMap t none => dstK nt o.dst (.one (.mp n)) e fun e' => K (n + 1) e' (put h n (.obj [] [] newMap))
  | .mapUpdate t x i v => ev e x fun mm => ev e i fun mi => ev e v fun mv => mputK tt t mm mi mv h fun h' => dstK nt o.dst (.tup []) e fun e' => K n e' h'
  | .makeChan t x => ev e x fun mx => ty tt t fun ti => match ti.kind with
    | .chan el => ty tt el fun te => bif Nat.ble te.bytes 1000000 then capK mx fun c => dstK nt o.dst (.one (.ch n)) e fun e' => K (n + 1) e' (put h n (.chan c te.agg te.el.E [])) else False
    | _ => False
  | .makeSlice t l c => ev e l fun ml => ev e c fun mc => ty tt t fun ti => match ti.kind with
    | .sl el => ty tt el fun te => makeSliceK te h n ml mc fun m h' => dstK nt o.dst m e fun e' => K (n + 1) e' h'
    | _ => False
  | op => qop tt op e h fun m => dstK nt o.dst m e fun e' => K n e' h

section
variable {P : Program} {tt : Tab} {B : Base} {nt : Nat} {σ : Nat → Nat} {n : Nat} {e : Env} {h : Bs} {a : Act} {w : World}

theorem dstK_sound (s : Sat B nt σ n e h a w) {d : Option Nat} {m : M} {K : Env → Prop} (hm : m.Ok w (avoids B σ h) n) (hk : dstK nt d m e K) :
    ∃ e', K e' ∧ Sat B nt σ n e' h (a.put d (m.den σ)) w := by
  unfold dstK at hk
  cases d with
  | none => exact ⟨e, hk, s.none _⟩
  | some d =>
    obtain ⟨h1, h2⟩ := cond_false_elim hk
    have hd : d < nt := by
      simp only [Nat.blt] at h1
      exact Nat.le_of_ble_eq_true h1
    exact ⟨_, h2, s.put hd hm⟩

theorem putElK_spec {l : List SV} {k sz : Nat} {m : M} {av : Nat → Prop} (hl : ∀ s ∈ l, s.Ok w av n) (hm : m.Ok w av n) {K : List SV → Prop} (hk : putElK l k m sz K) :
    ∃ l', K l' ∧ (∀ s ∈ l', s.Ok w av n) ∧ (∀ σ, (m.den σ).cells.size = sz ∧ denL σ l' = (denL σ l).take k ++ (m.den σ).cells.toList ++ (denL σ l).drop (k + sz)) ∧ k + sz ≤ wdL l ∧ (∀ σ, ∀ v ∈ (m.den σ).cells.toList, v.oneCell' = true) := by
  unfold putElK at hk
  cases hm with
  | tup _ => exact hk.elim
  | agg hm =>
    rename_i new
    obtain ⟨h1, h2⟩ := cond_false_elim hk
    have hsz := Nat.eq_of_beq_eq_true h1
    obtain ⟨l', a1, a2, a3, a4⟩ := setK_spec new sz hm l k K hl h2
    refine ⟨l', a1, a4, fun σ => ⟨?_, ?_⟩, a3, fun σ => ?_⟩
    · simp [M.den, Value.cells, denL_length hm, hsz]
    · rw [a2 σ]; simp [M.den, Value.cells]
    · simp only [M.den, Value.cells]
      exact denL_one hm σ
  | one h9 hm =>
    rename_i x
    obtain ⟨h1, h2⟩ := cond_false_elim hk
    have hsz := Nat.eq_of_beq_eq_true h1
    subst hsz
    obtain ⟨l', a1, a2, a3, a4⟩ := set1K_spec x h9 hm l k K hl h2
    have hc : ∀ σ, (x.den σ).cells = #[x.den σ] := fun σ => Value.cells_one (hm.oneCell h9 σ)
    refine ⟨l', a1, a4, fun σ => ⟨by simp [M.den, hc], ?_⟩, by omega, fun σ => ?_⟩
    · rw [a2 σ, List.set_eq_take_append_cons_drop, if_pos (by rw [denL_length hl]; exact a3)]
      simp [M.den, hc]
    · simp only [M.den, hc]
      intro v hv
      simp at hv
      subst hv
      exact hm.oneCell h9 σ

theorem run_storeAt {t : Nat} {ti : TI} (r : TRow P t ti) {b o : Nat} {v : Value} (hv : v.cells.size = ti.size) {w' : World} (h1 : (storeCells ⟨b, o, none⟩ v.cells.toList).run P w = .ok () w') :
    (Instr.storeAt t (.pointer (some ⟨b, o, none⟩)) v).run P w = .ok () w' := by
  simp [Instr.storeAt, Instr.sureAddr, storeVar, r.run_sizeOf, hv, h1]

theorem storeK_sound (hT : TOK P tt) (s : Sat B nt σ n e h a w) {t : Nat} {ti : TI} (ht : get tt t = some ti) {p m : M} (hp : p.Ok w (avoids B σ h) n) (hm : m.Ok w (avoids B σ h) n) {K : Bs → Prop} (hk : storeK ti p m h K) :
    ∃ h' w', K h' ∧ (Instr.storeAt t (p.den σ) (m.den σ)).run P w = .ok () w' ∧ Sat B nt σ n e h' a w' := by
  have r := hT t ti ht
  unfold storeK at hk
  split at hk
  · rename_i j off
    split at hk
    · rename_i l hj
      obtain ⟨l', a1, a2, a3, a4, a5⟩ := putElK_spec (s.mem.ok j _ hj) hm hk
      obtain ⟨b1, b2⟩ := a3 σ
      have hlen : (m.den σ).cells.toList.length = ti.size := by simpa using b1
      obtain ⟨c1, c2⟩ := s.mem.store_block (P := P) hj (o := off) (vs := (m.den σ).cells.toList) (a5 σ) (by rw [denL_length (s.mem.ok j _ hj), hlen]; exact a4) (by rw [hlen]; exact b2) a2
      obtain ⟨d1, d2, d3, d4, d5⟩ := setCells_rest (m.den σ).cells.toList off w (σ j)
      exact ⟨_, _, a1, run_storeAt r b1 c1, s.upd hj trivial d5 d1 d2 d3 d4 c2 a2⟩
    · exact hk.elim
  · rename_i j off k
    split at hk
    · rename_i l sv hj
      obtain ⟨h1, h2⟩ := cond_false_elim hk
      have hsz := Nat.eq_of_beq_eq_true h1
      cases hm with
      | one h9 hm =>
        obtain ⟨l', a1, a2, a3, a4⟩ := setIdxK_spec (w := w) (av := avoids B σ h) (n := n) sv h9 l off k _ (s.mem.ok j _ hj) h2
        have hc : (sv.den σ).cells = #[sv.den σ] := Value.cells_one (hm.oneCell h9 σ)
        have hll := denL_length (s.mem.ok j _ hj) σ
        obtain ⟨c1, c2⟩ := s.mem.store_block (P := P) hj (o := off + k) (vs := [sv.den σ]) (by simp; exact hm.oneCell h9 σ) (by simp; omega) (by rw [a2 σ, List.set_eq_take_append_cons_drop, if_pos (by omega)]; simp) a4
        obtain ⟨d1, d2, d3, d4, d5⟩ := setCells_rest [sv.den σ] (off + k) w (σ j)
        refine ⟨_, _, a1, run_storeAt r (by simp [M.den, hc, hsz]) (by simpa [M.den, hc] using c1), s.upd hj trivial d5 d1 d2 d3 d4 c2 a4⟩
    · exact hk.elim
  · rename_i j es i k
    split at hk
    · rename_i es' α enc l cap hj
      obtain ⟨h1, hi, h2⟩ := cond_false_elim hk
      have hes : es = es' := Nat.eq_of_beq_eq_true h1
      subst hes
      have hokj := s.mem.ok j _ hj
      have hel : ∀ x ∈ enc l[i], x.Ok w (avoids B σ h) n := hokj l[i] (List.getElem_mem hi)
      obtain ⟨cs, a0, a2, a3, a4, a5⟩ := putElK_spec hel hm h2
      obtain ⟨y, hye, a1, _⟩ := enc.ok _ _ a0
      obtain ⟨b1, b2'⟩ := a3 σ
      have b2 := (hye.1 σ).trans b2'
      obtain ⟨g1, g2, g3⟩ := s.mem.holds j _ hj
      have hcap : 0 < cap := by omega
      obtain ⟨c, tt', f, e1, e2, e3, e4⟩ := g3 hcap
      have hle : (denL σ (enc l[i])).length = es := g2 _ (List.getElem_mem hi)
      have hwd : wdL (enc l[i]) = es := by rw [← denL_length hel σ]; exact hle
      have hlen : (m.den σ).cells.toList.length = ti.size := by simpa using b1
      have hcs : c.size = cap * es := e3
      have hrow : i * es + es ≤ c.size := by rw [hcs, ← Nat.succ_mul]; exact Nat.mul_le_mul_right _ (by omega)
      have hfit : i * es + k + (m.den σ).cells.toList.length ≤ c.size := by rw [hlen]; omega
      have c1 := run_storeCells_blk (P := P) (o := i * es + k) e1 e2 hfit (a5 σ)
      obtain ⟨d1, d2, d3, d4, d5⟩ := setCells_rest (m.den σ).cells.toList (i * es + k) w (σ j)
      have hb' := setCells_heap (m.den σ).cells.toList (i * es + k) w (σ j) c tt' f e1 hfit
      have hly : (denL σ (enc y)).length = es := by rw [b2]; simp [hle, hlen]; omega
      refine ⟨_, _, a1, run_storeAt r b1 c1, s.upd hj hcap d5 d1 d2 d3 d4 ?_ ?_⟩
      · refine ⟨by simpa using g1, fun x hx => ?_, fun _ => ⟨_, tt', f, hb', ?_, ?_, fun q u hq v hv => ?_⟩⟩
        · rcases List.mem_or_eq_of_mem_set hx with hx | rfl
          · exact g2 x hx
          · exact hly
        · have : ((c.toList.take (i * es + k) ++ (m.den σ).cells.toList ++ c.toList.drop (i * es + k + (m.den σ).cells.toList.length)).toArray).size = c.size := by simp; omega
          rw [this]; exact e2
        · simp; omega
        · have hul : u < es := by
            have hlq : (denL σ (enc (l.set i y)[q])).length = es := by
              rcases List.mem_or_eq_of_mem_set (List.getElem_mem hq) with hx | hx
              · exact g2 _ hx
              · rw [hx]; exact hly
            rw [← hlq]; exact (List.getElem?_eq_some_iff.1 hv).1
          simp only [List.getElem?_toArray]
          have hq' : q < l.length := by simpa using hq
          have hqc : q * es + es ≤ c.size := by rw [hcs, ← Nat.succ_mul]; exact Nat.mul_le_mul_right _ (by omega)
          by_cases hqi : i = q
          · subst hqi
            simp only [List.getElem_set_self] at hv
            rw [b2] at hv
            rw [List.append_assoc, List.getElem?_append] at hv ⊢
            simp only [List.length_take, Array.length_toList] at hv ⊢
            rw [hle] at hv
            by_cases hu1 : u < k
            · rw [if_pos (by omega)] at hv ⊢
              rw [List.getElem?_take, if_pos (by omega)] at hv ⊢
              have := e4 i u hi v hv
              simpa using this
            · rw [if_neg (by omega)] at hv ⊢
              rw [List.getElem?_append] at hv ⊢
              rw [show min k es = k by omega] at hv
              rw [show min (i * es + k) c.size = i * es + k by omega, show i * es + u - (i * es + k) = u - k by omega]
              by_cases hu2 : u - k < (m.den σ).cells.toList.length
              · rw [if_pos hu2] at hv ⊢; exact hv
              · rw [if_neg hu2] at hv ⊢
                rw [List.getElem?_drop] at hv ⊢
                rw [hlen] at hv ⊢
                have := e4 i (k + ti.size + (u - k - ti.size)) hi v hv
                have hsz' : (m.den σ).cells.toList.length = (m.den σ).cells.size := by simp
                rw [show i * es + k + (m.den σ).cells.size + (u - k - ti.size) = i * es + (k + ti.size + (u - k - ti.size)) by omega]
                simpa using this
          · simp only [List.getElem_set_ne hqi] at hv
            have hold := e4 q u hq' v hv
            rw [List.append_assoc, List.getElem?_append]
            simp only [List.length_take, Array.length_toList]
            rcases Nat.lt_or_ge q i with hlt | hge
            · have : q * es + es ≤ i * es := by rw [← Nat.succ_mul]; exact Nat.mul_le_mul_right _ hlt
              rw [if_pos (by omega), List.getElem?_take, if_pos (by omega)]
              simpa using hold
            · have : i * es + es ≤ q * es := by rw [← Nat.succ_mul]; exact Nat.mul_le_mul_right _ (by omega)
              rw [if_neg (by omega), List.getElem?_append, if_neg (by omega), List.getElem?_drop]
              have hsz' : (m.den σ).cells.toList.length = (m.den σ).cells.size := by simp
              rw [show i * es + k + (m.den σ).cells.size + (q * es + u - min (i * es + k) c.size - (m.den σ).cells.toList.length) = q * es + u by omega]
              simpa using hold
      · intro x hx z hz
        rcases List.mem_or_eq_of_mem_set hx with hx | rfl
        · exact hokj x hx z hz
        · exact hye.2 _ _ _ a2 z hz
    · exact hk.elim
  · rename_i ad
    split at hk
    · rename_i A V P0 z hj
      obtain ⟨h1, q, hq, b, k, cap, ⟨rfl, h2, h3⟩, h4⟩ := cond_false_elim hk
      have hsz := Nat.eq_of_beq_eq_true h1
      have hne : P0[q].2 ≠ [] := fun h0 => by rw [h0] at h3; cases h3
      obtain ⟨q1, q2, q3, g1, g2⟩ := s.mem.holds 0 _ hj
      obtain ⟨b', cap', e1, e2, c, tt', f, e3, e4, e5⟩ := g1 q hq hne
      rw [h2] at e1
      cases e1
      have hkc : k < c.size := (Array.getElem?_eq_some_iff.1 (e5 k h3)).1
      have hfit : k + [Value.int .u8 z].length ≤ c.size := hkc
      have c1 := run_storeCells_blk (P := P) (o := k) e3 e4 hfit (fun v hv => by rw [List.mem_singleton] at hv; subst hv; rfl)
      obtain ⟨d1, d2, d3, d4, d5⟩ := setCells_rest [Value.int .u8 z] k w b
      have hb' := setCells_heap [Value.int .u8 z] k w b c tt' f e3 hfit
      have hc : (M.one (.v (.int .u8 z))).den σ = .int .u8 z := rfl
      refine ⟨_, _, h4, ?_, s.updF (k' := .obj A V (.own (P0.set q (P0[q].1, P0[q].2.set k z)))) (c := b) hj (.inr e2) d5 d1 d2 d3 d4 ⟨fun h0 => absurd (show true = false from h0) (by decide), fun a ha => ?_, fun h0 => absurd (show true = false from h0) (by decide), ⟨fun i hi hne2 => ?_, fun i j hi hj' b1 m1 k1 m2 k2 n1 n2 s1 s2 => ?_⟩⟩ (show ∀ x ∈ V, x.Ok w (avoids B σ h) n from s.mem.ok 0 _ hj) fun x hx => hx⟩
      · exact run_storeAt r (v := .int .u8 z) (by rw [hsz]; rfl) c1
      · by_cases hab : a = b
        · subst hab
          exact ⟨_, hb'⟩
        · obtain ⟨y, hy⟩ := q2 a ha
          exact ⟨y, (d5 a hab).trans hy⟩
      · rw [List.length_set] at hi
        by_cases hiq : q = i
        · subst hiq
          rw [List.getElem_set_self] at hne2 ⊢
          dsimp only
          refine ⟨b, cap, by rw [h2, List.length_set], e2, _, tt', f, hb', ?_, fun p hp => ?_⟩
          · have : ((c.toList.take k ++ [Value.int .u8 z] ++ c.toList.drop (k + [Value.int .u8 z].length)).toArray).size = c.size := by simp; omega
            rw [this]
            exact e4
          · rw [List.length_set] at hp
            have hold := e5 p hp
            simp only [List.getElem?_toArray]
            rw [List.append_assoc, List.getElem?_append]
            simp only [List.length_take, Array.length_toList]
            by_cases hpk : p = k
            · subst hpk
              rw [if_neg (by omega), List.getElem?_append, if_pos (by simp; omega)]
              simp only [List.getElem_set_self]
              rw [show p - min p c.size = 0 by omega]
              rfl
            · rw [List.getElem_set_ne (Ne.symm hpk)]
              by_cases hlt : p < k
              · rw [if_pos (by omega), List.getElem?_take, if_pos hlt]
                simpa using hold
              · rw [if_neg (by omega), List.getElem?_append, if_neg (by simp; omega), List.getElem?_drop]
                rw [show k + [Value.int .u8 z].length + (p - min k c.size - [Value.int .u8 z].length) = p by simp; omega]
                simpa using hold
        · rw [List.getElem_set_ne hiq] at hne2 ⊢
          obtain ⟨b2, cap2, f1, f2, c2, t2, fr2, f3, f4⟩ := g1 i hi hne2
          have hbb : b2 ≠ b := fun h0 => by
            subst h0
            exact hiq (g2 q i hq hi b2 _ _ _ _ hne hne2 h2 f1)
          exact ⟨b2, cap2, f1, f2, c2, t2, fr2, (d5 b2 hbb).trans f3, f4⟩
      · rw [List.length_set] at hi hj'
        have key : ∀ p (hp : p < P0.length), ((P0.set q (P0[q].1, P0[q].2.set k z))[p]'(by rw [List.length_set]; exact hp)).1 = P0[p].1 ∧ (((P0.set q (P0[q].1, P0[q].2.set k z))[p]'(by rw [List.length_set]; exact hp)).2 ≠ [] → P0[p].2 ≠ []) := fun p hp => by
          by_cases hpq : q = p
          · subst hpq
            rw [List.getElem_set_self]
            exact ⟨rfl, fun _ => hne⟩
          · rw [List.getElem_set_ne hpq]
            exact ⟨rfl, id⟩
        rw [(key i hi).1] at s1
        rw [(key j hj').1] at s2
        exact g2 i j hi hj' b1 m1 k1 m2 k2 ((key i hi).2 n1) ((key j hj').2 n2) s1 s2
    · exact hk.elim
  · exact hk.elim

theorem cellsK_spec {m : M} {av : Nat → Prop} (hm : m.Ok w av n) {K : List SV → Prop} (hk : cellsK m K) : ∃ l, K l ∧ (∀ s ∈ l, s.Ok w av n) ∧ ∀ σ, (m.den σ).cells = (denL σ l).toArray := by
  unfold cellsK at hk
  cases hm with
  | tup _ => exact hk.elim
  | agg hm => exact ⟨_, hk, hm, fun σ => rfl⟩
  | one h9 hm =>
    refine ⟨_, hk, by simpa using hm, fun σ => ?_⟩
    simp only [M.den]
    rw [Value.cells_one (hm.oneCell h9 σ), denL_cons, SV.dens_one h9, denL_nil]
    rfl

theorem evs_sound (s : Sat B nt σ n e h a w) : ∀ (l : List Operand) (K : List M → Prop), evs e l K → ∃ ms, K ms ∧ l.map a.eval = ms.map (M.den σ) ∧ ∀ m ∈ ms, m.Ok w (avoids B σ h) n
  | [], K, hk => ⟨[], hk, rfl, by simp⟩
  | x :: r, K, hk => by
    obtain ⟨m, k1, h1, h2⟩ := ev_sound s hk
    obtain ⟨ms, k2, h3, h4⟩ := evs_sound s r _ k1
    exact ⟨m :: ms, k2, by simp [h1, h3], by simp only [List.mem_cons, forall_eq_or_imp]; exact ⟨h2, h4⟩⟩

theorem addCaps_eq : ∀ (l : List M) (cs : List CV) (K : List M → Prop), addCaps l cs K = K (l ++ cs.map capM)
  | [], [], K => by simp [addCaps, addCaps0]
  | [], c :: r, K => by
    have := addCaps_eq [] r fun l => K (capM c :: l)
    simp only [addCaps] at this ⊢
    simp only [addCaps0, this]
    rfl
  | m :: r, cs, K => by simp only [addCaps]; rw [addCaps_eq r cs]; rfl

theorem capM_den (σ : Nat → Nat) (c : CV) : (capM c).den σ = c.den σ := by cases c <;> rfl

def Behind (B : Base) (nt : Nat) (K : Nat → Env → Bs → Prop) (a : Act) (w : World) : Prop :=
  ∃ σ n e h, K n e h ∧ Sat B nt σ n e h a w

theorem Sat.newcells (s : Sat B nt σ n e h a w) {l : List SV} (hl : ∀ x ∈ l, x.Ok w (avoids B σ h) n) {t : TypeId} :
    Sat B nt (ext σ n w.heap.size) (n + 1) e (Sx.put h n (.cells l)) a (w.alloc (.cells (denL σ l).toArray t)) := by
  refine s.push (w' := w.alloc (.cells (denL σ l).toArray t)) (k := .cells l) (o := .cells (denL σ l).toArray t) rfl rfl rfl rfl ?_ (fun x hx => (hl x hx).mono (by omega) fun b _ hb => ⟨hb, rfl⟩)
  refine ⟨t, (0, 0), ?_, .inl rfl⟩
  rw [heap_alloc_new w _, denL_congr hl fun j hj => ext_lt σ n _ hj]

theorem mputK_sound (hT : TOK P tt) (s : Sat B nt σ n e h a w) {t : Nat} {mm mi mv : M} (h8 : mi.Ok w (avoids B σ h) n) (h9 : mv.Ok w (avoids B σ h) n) {K : Bs → Prop} (hk : mputK tt t mm mi mv h K) :
    ∃ h' w', K h' ∧ (Instr.mapUpdate t (mm.den σ) (mi.den σ) (mv.den σ)).run P w = .ok () w' ∧ Sat B nt σ n e h' a w' := by
  unfold mputK at hk
  split at hk <;> first | exact hk.elim | skip
  rename_i j
  split at hk <;> first | exact hk.elim | skip
  rename_i A v0 m key R hj
  split at hk <;> first | exact hk.elim | skip
  rename_i k m' key'
  split at hk <;> first | exact hk.elim | skip
  rename_i v
  replace hk := cond_false_elim hk
  obtain ⟨hb, he0, hk⟩ := hk
  subst he0
  simp only [Bool.and_eq_true] at hb
  obtain ⟨⟨⟨h1, h2⟩, h3⟩, h4⟩ := hb
  have e2 := Nat.eq_of_beq_eq_true h2
  have e3 := kindB_eq h3
  subst e2 e3
  obtain ⟨q1, q2, q3, es, clock, l, g1, g2, g3, g4, g5, g6⟩ := s.mem.holds j _ hj
  have hkl : key'.length = m := by
    cases h8 with
    | agg hx => cases hx _ (List.mem_singleton.2 rfl) with | ints h => exact h
  have he : (M.agg [.ints .u8 m key']).den σ = keyV key' := by simp [M.den, denL, SV.dens, keyV]
  have hm : (M.one (.mp j)).den σ = .map (some (σ j)) := rfl
  have hmv : (M.one v).den σ = v.den σ := rfl
  have hr : (Blk.obj A [v0] (.map m key' R)).real := rfl
  obtain ⟨es', clock', hrun, he'⟩ := run_mapUpdate_map hT h1 g1 g2 g3 hkl (v.den σ)
  have hb : σ j < w.heap.size := (Array.getElem?_eq_some_iff.1 g1).1
  have d1 : ∀ b, b ≠ σ j → ({ w with heap := w.heap.setIfInBounds (σ j) (.map es' clock') } : World).heap[b]? = w.heap[b]? := fun b hne => by
    simp [Array.getElem?_setIfInBounds_ne (Ne.symm hne)]
  have d2 : ({ w with heap := w.heap.setIfInBounds (σ j) (.map es' clock') } : World).heap[σ j]? = some (.map es' clock') := by
    simp [Array.getElem?_setIfInBounds, hb]
  have hv : (denL σ [v]) = [v.den σ] := by rw [denL_cons, denL_nil, SV.dens_one h4]; rfl
  refine ⟨_, _, hk, ?_, s.upd hj hr d1 (by simp) rfl rfl rfl ⟨fun _ => ⟨_, d2⟩, fun a ha => ?_, q3, es', clock', putKey key' (v.den σ) l, d2, he', putKey_len hkl g3, putKey_nodup g4, ?_, ?_⟩ (fun x hx => ?_) (fun b hb => hb)⟩
  · rw [he, hm, hmv]
    exact hrun
  · have : a ≠ σ j := fun e => q3 rfl (e ▸ ha)
    rw [d1 a this]
    exact q2 a ha
  · rw [hv, putKey_at]
  · rw [putKey_rest g4]
    exact R.loc _ _ _ _ (fun x hx => (d1 x (fun e => q3 rfl (e ▸ hx))).symm) g6
  · rw [List.mem_singleton] at hx
    subst hx
    cases h9 with
    | one _ h9 => exact h9

theorem xop_sound {C : CallT} (hC : COK P C) (hT : TOK P tt) (s : Sat B nt σ n e h a w) {o : Oper} {K : Nat → Env → Bs → Prop} (hk : xop C tt nt o n e h K) {next : Act → World → Prop} {Q : Exit → Act → World → Prop}
    (hn : ∀ a' w', Behind B nt K a' w' → next a' w') : o.wp P a w next Q := by
  have quiet : qop tt o.op e h (fun m => dstK nt o.dst m e fun e' => K n e' h) → o.wp P a w next Q := by
    intro hq
    obtain ⟨m, h1, h2, h3⟩ := qop_sound hT s hq
    obtain ⟨e', h4, h5⟩ := dstK_sound s h3 h1
    unfold Oper.wp
    rw [h2]
    exact hn _ _ ⟨σ, n, e', h, h4, h5⟩
  obtain ⟨dst, op, type, pos, after, guard⟩ := o
  have made : ∀ {run : Result Value} {x : Sem Next}, (execOp a.eval { dst := dst, op := op, type := type, pos := pos, after := after, guard := guard }).run P w = run.andThen (fun v w' => .ok (.value v) w') →
      Made P B σ n h w run (fun m h' => dstK nt dst m e fun e' => K (n + 1) e' h') → ({ dst := dst, op := op, type := type, pos := pos, after := after, guard := guard } : Oper).wp P a w next Q := by
    intro run x hrun hm
    obtain ⟨σ', m, h', w', k1, rfl, hσ, hmem, hok, hkeep⟩ := hm.out
    have s2 : Sat B nt σ' (n + 1) e h' a w' := ⟨hmem, s.defers, s.size, fun q m hm => by rw [s.env q m hm]; exact M.den_congr (s.ok q m hm) hσ, fun q m hm => (s.ok q m hm).mono (by omega) hkeep⟩
    obtain ⟨e', k4, s3⟩ := dstK_sound s2 hok k1
    unfold Oper.wp
    rw [hrun]
    exact hn _ _ ⟨_, _, _, _, k4, s3⟩
  unfold xop at hk
  simp only at hk
  split at hk
  · rename_i t
    obtain ⟨ti, ht, k1⟩ := ty_spec hk
    have r := hT t ti ht
    obtain ⟨it, hi, _, _, z, hz, hzc⟩ := r.info
    have hzok := r.zok w (avoids B σ h) n
    have s2 := s.newcells hzok (t := t)
    obtain ⟨e', k2, s3⟩ := dstK_sound s2 (.one rfl (.ptr (by omega))) k1
    have hzz : z.cells = (denL σ ti.zero).toArray := by rw [← denL_pure r.zpure nowhere σ, ← hzc]
    unfold Oper.wp
    have hrun : (execOp a.eval { dst := dst, op := .alloc t, type := type, pos := pos, after := after, guard := guard }).run P w =
        .ok (.value (.pointer (some ⟨w.heap.size, 0, none⟩))) (w.alloc (.cells (denL σ ti.zero).toArray t)) := by
      simp [execOp, Instr.alloc, zeroValue, typeInfo, hi, hz, newVar, newRow, hzz]
    rw [hrun]
    simp only [M.den, SV.den, ext_self] at s3
    exact hn _ _ ⟨_, _, _, _, k2, s3⟩
  · rename_i t x
    obtain ⟨m, k1, h1, h2⟩ := ev_sound s hk
    obtain ⟨l, k2, h3, h4⟩ := cellsK_spec h2 k1
    have s2 := s.newcells h3 (t := t)
    obtain ⟨e', k3, s3⟩ := dstK_sound s2 (.one rfl (.ptr (by omega))) k2
    unfold Oper.wp
    have hrun : (execOp a.eval { dst := dst, op := .box t x, type := type, pos := pos, after := after, guard := guard }).run P w =
        .ok (.value (.pointer (some ⟨w.heap.size, 0, none⟩))) (w.alloc (.cells (denL σ l).toArray t)) := by
      simp [execOp, Instr.box, newVar, newRow, h1, h4]
    rw [hrun]
    simp only [M.den, SV.den, ext_self] at s3
    exact hn _ _ ⟨_, _, _, _, k3, s3⟩
  · rename_i t p x
    obtain ⟨mp, k1, h1, h2⟩ := ev_sound s hk
    obtain ⟨mx, k2, h3, h4⟩ := ev_sound s k1
    obtain ⟨ti, ht, k3⟩ := ty_spec k2
    obtain ⟨h', w', k4, h5, s2⟩ := storeK_sound hT s ht h2 h4 k3
    obtain ⟨e', k5, s3⟩ := dstK_sound s2 (.tup (by simp)) k4
    unfold Oper.wp
    have hrun : (execOp a.eval { dst := dst, op := .store t p x, type := type, pos := pos, after := after, guard := guard }).run P w = .ok .skip w' := by
      simp [execOp, h1, h3, h5]
    rw [hrun]
    rw [M.den_tup] at s3
    exact hn _ _ ⟨_, _, _, _, k5, s3⟩
  · rename_i f args ts
    obtain ⟨mf, k1, h1, h2⟩ := ev_sound s hk
    obtain ⟨ms, k2, h3, h4⟩ := evs_sound s _ _ k1
    unfold callK at k2
    split at k2
    · rename_i g caps
      rw [addCaps_eq] at k2
      replace k2 := hC _ _ _ _ _ k2
      have hcaps : ∀ c ∈ caps, c.lt n := by
        cases h2 with | one h9 h2 => cases h2 with | clo hc => exact hc
      have hok : ∀ m ∈ ms ++ caps.map capM, m.Ok w (avoids B σ h) n := by
        intro m hm
        rcases List.mem_append.1 hm with hm | hm
        · exact h4 m hm
        · obtain ⟨c, hc, rfl⟩ := List.mem_map.1 hm
          have := hcaps c hc
          cases c with
          | v x => exact okv this
          | ptr j off => exact .one rfl (.ptr this)
      have hcall := k2.out B σ w s.mem hok
      have hargs : ((ms ++ caps.map capM).map (M.den σ)).toArray = args.map a.eval ++ (caps.map (CV.den σ)).toArray := by
        have h5 : args.map a.eval = (ms.map (M.den σ)).toArray := by rw [← h3]; exact Array.ext' (by simp)
        rw [h5]
        simp [capM_den]
      rw [hargs] at hcall
      have hex : ∀ {nx : Next}, (callFunc g (args.map a.eval ++ (caps.map (CV.den σ)).toArray)).run P w = .ok nx w →
          (execOp a.eval { dst := dst, op := .call ⟨.value f, args, ts⟩, type := type, pos := pos, after := after, guard := guard }).run P w = .ok nx w := by
        intro nx hnx
        simp only [execOp, resolve, h1, M.den, SV.den, Deferred.ofValue, Sem.run_bind, Sem.run_pure, Result.andThen_ok, invoke]
        rw [show (#[] : Array Value) ++ args.map a.eval = args.map a.eval by simp]
        exact hnx
      have fin : ∀ (e1 : Ending) (w1 : World), (∃ σ' n' m' h', e1 = .returned (m'.den σ') ∧ dstK nt dst m' e (fun e' => K n' e' h') ∧ n ≤ n' ∧ (∀ j, j < n → σ j = σ' j) ∧ Mem B σ' n' h' w1 ∧ m'.Ok w1 (avoids B σ' h') n' ∧
          ∀ b, b < w.heap.size → ¬ avoids B σ h b → ¬ avoids B σ' h' b ∧ w1.heap[b]? = w.heap[b]?) → ∃ v, e1 = .returned v ∧ next (a.put dst v) w1 := by
        rintro e1 w1 ⟨σ', n', m', h', rfl, k3, hnn, hσ, hmem, hm', hkeep⟩
        have s2 : Sat B nt σ' n' e h' a w1 := ⟨hmem, s.defers, s.size, fun q m hm => by rw [s.env q m hm]; exact M.den_congr (s.ok q m hm) hσ, fun q m hm => (s.ok q m hm).mono hnn hkeep⟩
        obtain ⟨e', k4, s3⟩ := dstK_sound s2 hm' k3
        exact ⟨_, rfl, hn _ _ ⟨_, _, _, _, k4, s3⟩⟩
      unfold Oper.wp
      rcases hcall with ⟨hent, hcall⟩ | ⟨v, hval, hr⟩
      · rw [hex hent]
        simp only [Oper.upon]
        refine hcall.mono fun e1 w1 hh => ?_
        obtain ⟨v, rfl, hv⟩ := fin e1 w1 hh
        exact hv
      · rw [hex hval]
        obtain ⟨v', hv', hv⟩ := fin _ _ hr
        cases hv'
        exact hv
    · exact k2.elim
  · rename_i args ts
    split at hk
    · rename_i x y t tx hx hts
      obtain ⟨mx, k1, h1, h2⟩ := ev_sound s hk
      obtain ⟨my, k2, h3, h4⟩ := ev_sound s k1
      obtain ⟨ti, hti, k3⟩ := ty_spec k2
      obtain ⟨tix, htx, k4⟩ := ty_spec k3
      split at k4
      · rename_i el hkd
        obtain ⟨te, hte, k5⟩ := ty_spec k4
        have hm := appendK_sound (ty := type) hT s.mem hti hkd hte htx h2 h4 k5
        refine made (x := pure .skip) ?_ hm
        have ha : args.map a.eval = #[mx.den σ, my.den σ] := by
          apply Array.ext'
          rw [Array.toList_map, hx]
          simp [h1, h3]
        have hts' : ts = #[t, tx] := Array.ext' hts
        simp [execOp, resolve, invoke, builtin, ha, hts']
      · exact k4.elim
    · exact hk.elim
  · rename_i args ts
    split at hk
    · rename_i x y t tx hx hts
      obtain ⟨mx, k1, h1, h2⟩ := ev_sound s hk
      obtain ⟨my, k2, h3, h4⟩ := ev_sound s k1
      obtain ⟨ti, hti, k3⟩ := ty_spec k2
      split at k3
      · rename_i el hkd
        obtain ⟨te, hte, k5⟩ := ty_spec k3
        obtain ⟨hb, k5⟩ := cond_false_elim k5
        obtain ⟨m, h', w', k6, k7, s2, hok⟩ := copyK_sound (tx := tx) (ty := type) hT s hti hkd hte (Nat.eq_of_beq_eq_true hb) h2 h4 k5
        obtain ⟨e', k8, s3⟩ := dstK_sound s2 hok k6
        have ha : args.map a.eval = #[mx.den σ, my.den σ] := by
          apply Array.ext'
          rw [Array.toList_map, hx]
          simp [h1, h3]
        have hts' : ts = #[t, tx] := Array.ext' hts
        unfold Oper.wp
        have hrun : (execOp a.eval { dst := dst, op := .call ⟨.builtin .copy, args, ts⟩, type := type, pos := pos, after := after, guard := guard }).run P w = .ok (.value (m.den σ)) w' := by
          simp [execOp, resolve, invoke, builtin, ha, hts', k7]
        rw [hrun]
        exact hn _ _ ⟨_, _, _, _, k8, s3⟩
      · exact k3.elim
    · exact hk.elim
  · rename_i t len parts
    obtain ⟨ti, hti, k1⟩ := ty_spec hk
    split at k1
    · rename_i el hkd
      obtain ⟨te, hte, k2⟩ := ty_spec k1
      have hm := buildSliceK_sound hT s hti hkd hte k2
      refine made (x := pure .skip) ?_ hm
      simp [execOp]
    · exact k1.elim
  · rename_i t
    have s2 := s.push (w' := w.alloc (.map #[] 0)) (k := .obj [] [] newMap) (o := .map #[] 0) rfl rfl rfl rfl ⟨fun _ => ⟨_, heap_alloc_new w _⟩, (fun a ha => by cases ha), fun _ => List.not_mem_nil, heap_alloc_new w _, rfl⟩ (fun x hx => by cases hx)
    obtain ⟨e', k2, s3⟩ := dstK_sound s2 (.one rfl (.mp (by omega))) hk
    unfold Oper.wp
    have hrun : (execOp a.eval { dst := dst, op := .makeMap t none, type := type, pos := pos, after := after, guard := guard }).run P w =
        .ok (.value (.map (some w.heap.size))) (w.alloc (.map #[] 0)) := by
      have hmk : (Instr.makeMap t none).run P w = .ok (.map (some w.heap.size)) (w.alloc (.map #[] 0)) := rfl
      simp [execOp, hmk]
    rw [hrun]
    simp only [M.den, SV.den, ext_self] at s3
    exact hn _ _ ⟨_, _, _, _, k2, s3⟩
  · rename_i t x i v
    obtain ⟨mm, k1, h1, h2⟩ := ev_sound s hk
    obtain ⟨mi, k2, h3, h4⟩ := ev_sound s k1
    obtain ⟨mv, k3, h5, h6⟩ := ev_sound s k2
    obtain ⟨h', w', k4, h7, s2⟩ := mputK_sound hT s h4 h6 k3
    obtain ⟨e', k5, s3⟩ := dstK_sound s2 (.tup (by simp)) k4
    unfold Oper.wp
    have hrun : (execOp a.eval { dst := dst, op := .mapUpdate t x i v, type := type, pos := pos, after := after, guard := guard }).run P w = .ok .skip w' := by
      simp [execOp, h1, h3, h5, h7]
    rw [hrun]
    rw [M.den_tup] at s3
    exact hn _ _ ⟨_, _, _, _, k5, s3⟩
  · rename_i t x
    obtain ⟨mx, k1, h1, h2⟩ := ev_sound s hk
    obtain ⟨ti, hti, k2⟩ := ty_spec k1
    split at k2
    · rename_i el hkd
      obtain ⟨te, hte, k3⟩ := ty_spec k2
      replace k3 := cond_false_elim k3
      obtain ⟨hby, k3⟩ := k3
      have hby := Nat.le_of_ble_eq_true hby
      unfold capK at k3
      split at k3
      · rename_i z
        obtain ⟨hz, k4⟩ := cond_false_elim k3
        simp only [Bool.and_eq_true, decide_eq_true_eq] at hz
        obtain ⟨d, hd, hfit⟩ := (hT t ti hti).und
        rw [hkd] at hfit
        have hdd : ∃ dir, d = .chan dir el := by
          cases d <;> simp only [TK.fits] at hfit
          exact ⟨_, by rw [hfit]⟩
        obtain ⟨dir, rfl⟩ := hdd
        obtain ⟨it, hi, _, hib, _⟩ := (hT el te hte).info
        have hzn : ((z.toNat : Nat) : Int) = z := Int.toNat_of_nonneg hz.1
        have hmk : (Instr.makeChan t (.int .i64 z)).run P w = .ok (.chan (some w.heap.size)) (w.alloc (.chan z.toNat #[] false 0 0 false)) := by
          have := Go.Conc.run_makeChan (P := P) (w := w) hd hi .i64 z.toNat (by omega) (by
            rw [hib]
            have h9 : te.bytes * z.toNat ≤ 1000000 * 65536 := Nat.mul_le_mul hby (by omega)
            have h8 : ((te.bytes * z.toNat : Nat) : Int) ≤ ((1000000 * 65536 : Nat) : Int) := Int.ofNat_le.2 h9
            rw [Int.natCast_mul] at h8
            omega)
          rwa [hzn] at this
        have s2 := s.push (w' := w.alloc (.chan z.toNat #[] false 0 0 false)) (k := .chan z.toNat te.agg te.el.E []) (o := .chan z.toNat #[] false 0 0 false) rfl rfl rfl rfl ⟨0, 0, heap_alloc_new w _⟩ (fun x hx => by cases hx)
        obtain ⟨e', k5, s3⟩ := dstK_sound s2 (.one rfl (.ch (by omega))) k4
        unfold Oper.wp
        have hrun : (execOp a.eval { dst := dst, op := .makeChan t x, type := type, pos := pos, after := after, guard := guard }).run P w =
            .ok (.value (.chan (some w.heap.size))) (w.alloc (.chan z.toNat #[] false 0 0 false)) := by
          have e0 : a.eval x = .int .i64 z := h1
          simp [execOp, e0, hmk]
        rw [hrun]
        simp only [M.den, SV.den, ext_self] at s3
        exact hn _ _ ⟨_, _, _, _, k5, s3⟩
      · exact k3.elim
    · exact k2.elim
  · rename_i t l c
    obtain ⟨ml, k1, h1, h2⟩ := ev_sound s hk
    obtain ⟨mc, k2, h3, h4⟩ := ev_sound s k1
    obtain ⟨ti, hti, k3⟩ := ty_spec k2
    split at k3
    · rename_i el hkd
      obtain ⟨te, hte, k4⟩ := ty_spec k3
      have hm := makeSliceK_sound hT s.mem hti hkd hte k4
      refine made (x := pure .skip) ?_ hm
      simp [execOp, h1, h3]
    · exact k3.elim
  · exact quiet hk

end
end Go.Sx
