/- A pool of slices of bytes, each in a block of its own: what is made goes in; a function that begins with an empty one. Holds for every program. -/
import Derived.Test.YtgbikcniediomaaSxZ
namespace Go.Sx
set_option linter.unusedSimpArgs false
set_option linter.unusedVariables false

abbrev rawV (x : Value) (n : Nat) : SV := .view x 0 (RK.svs []) (List.replicate n ())
abbrev pool (A : List Nat) (P : List (Value × List Int)) : Blk := .obj A [] (.own P)

def poolK (m : M) (h : Bs) (K : M → Bs → Prop) : Prop :=
  match get h 0 with
  | some (.obj A [] (.own P)) => (match m with
    | .one (.v (.slice none 0 0)) => ∀ A' x, K (.one (rawV x 0)) (upd h 0 (pool A' (P ++ [(x, [])])))
    | .one (.slc j es off len cap) => bif Nat.beq es 1 && Nat.beq off 0 && !(Nat.beq j 0) then (match get h j with
      | some (.row es' E l cap') => bif Nat.beq es' 1 then (len = l.length ∧ len ≤ cap ∧ isBytes E.enc l) ∧
          ∀ A' x, (bytesOf E.enc l ≠ [] → ∃ b c, x = .slice (some ⟨b, 0, none⟩) len c) → K (.one (rawV x len)) (upd (del h j) 0 (pool A' (P ++ [(x, bytesOf E.enc l)]))) else False
      | _ => False) else False
    | _ => False)
  | _ => False

section
variable {P : Program} {tt : Tab} {B : Base} {σ : Nat → Nat} {n : Nat} {h : Bs} {w : World}

theorem pool_occ {A : List Nat} {L : List (Value × List Int)} {a b : Nat} : (pool A L).occ a b ↔ b ∈ A := by
  constructor
  · rintro (⟨h1, _⟩ | h1)
    · exact absurd (show true = false from h1) (by decide)
    · exact h1
  · exact .inr

theorem Mem.pool_grow (s : Mem B σ n h w) {A A' : List Nat} {L L' : List (Value × List Int)} (h0 : get h 0 = some (pool A L)) {h1 : Bs} (hd : Down h h1) (h10 : get h1 0 = some (pool A L))
    (hA : ∀ b, b ∈ A' → b ∈ A ∨ ∃ j k, j ≠ 0 ∧ get h j = some k ∧ k.occ (σ j) b ∧ get h1 j = none)
    (hA2 : ∀ a ∈ A', ∃ x, w.heap[a]? = some x) (hp : ownP (fun x => w.heap[x]?) A' L') : Mem B σ n (Sx.upd h1 0 (pool A' L')) w ∧ ∀ b, avoids B σ (Sx.upd h1 0 (pool A' L')) b → avoids B σ h b := by
  have occ : ∀ i k b, get (Sx.upd h1 0 (pool A' L')) i = some k → k.occ (σ i) b → ∃ i' k', get h i' = some k' ∧ k'.occ (σ i') b ∧ ((i' = i) ∨ (i = 0 ∧ i' ≠ 0 ∧ get h1 i' = none)) := by
    intro i k b hi hb
    rw [get_upd] at hi
    split at hi
    · rename_i h2
      subst h2
      cases hi
      rcases hA b (pool_occ.1 hb) with h3 | ⟨j, k', h4, h5, h6, h7⟩
      · exact ⟨0, _, h0, pool_occ.2 h3, .inl rfl⟩
      · exact ⟨j, k', h5, h6, .inr ⟨rfl, h4, h7⟩⟩
    · exact ⟨i, k, hd i k hi, hb, .inl rfl⟩
  have at1 : ∀ i k, get (Sx.upd h1 0 (pool A' L')) i = some k → i ≠ 0 → get h1 i = some k := by
    intro i k hi hne
    rw [get_upd, if_neg (fun e => hne e.symm)] at hi
    exact hi
  have av : ∀ b, avoids B σ (Sx.upd h1 0 (pool A' L')) b → avoids B σ h b := by
    rintro b (h2 | ⟨i, k, hi, hb⟩)
    · exact .inl h2
    · obtain ⟨i', k', q1, q2, _⟩ := occ i k b hi hb
      exact .inr ⟨i', k', q1, q2⟩
  refine ⟨⟨s.frame, s.avlt, s.kn, s.anch, fun i k hi => ?_, fun i j k k' b hi hj hb hb' => ?_, fun i k b hi hb hlt => ?_, fun i k hi => ?_, fun i k hi => ?_⟩, av⟩
  · by_cases hi0 : i = 0
    · subst hi0; exact s.lt 0 _ h0
    · exact s.lt i k (hd _ _ (at1 i k hi hi0))
  · obtain ⟨i', ki, q1, q2, q3⟩ := occ i k b hi hb
    obtain ⟨j', kj, r1, r2, r3⟩ := occ j k' b hj hb'
    have e := s.injO i' j' ki kj b q1 r1 q2 r2
    rcases q3 with rfl | ⟨rfl, q4, q5⟩
    · rcases r3 with rfl | ⟨rfl, r4, r5⟩
      · exact e
      · subst e
        rw [at1 i' k hi r4] at r5
        cases r5
    · rcases r3 with rfl | ⟨rfl, r4, r5⟩
      · subst e
        rw [at1 i' k' hj q4] at q5
        cases q5
      · rfl
  · obtain ⟨i', ki, q1, q2, _⟩ := occ i k b hi hb
    exact s.ownO i' ki b q1 q2 hlt
  · by_cases hi0 : i = 0
    · subst hi0
      rw [get_upd, if_pos rfl] at hi
      cases hi
      exact ⟨fun h9 => absurd (show true = false from h9) (by decide), hA2, fun h9 => absurd (show true = false from h9) (by decide), hp⟩
    · exact s.holds i k (hd _ _ (at1 i k hi hi0))
  · by_cases hi0 : i = 0
    · subst hi0
      rw [get_upd, if_pos rfl] at hi
      cases hi
      exact fun x hx => by cases hx
    · exact (s.ok i k (hd _ _ (at1 i k hi hi0))).mono (Nat.le_refl _) fun b _ hb => ⟨fun h2 => hb (av b h2), rfl⟩

theorem ownP_snoc {f : Nat → Option Obj} {A A' : List Nat} {L : List (Value × List Int)} (hp : ownP f A L) (hs : ∀ b ∈ A, b ∈ A') {x : Value} {l : List Int}
    (hn : l ≠ [] → ∃ b cap, x = .slice (some ⟨b, 0, none⟩) l.length cap ∧ b ∈ A' ∧ b ∉ A ∧ ∃ c t fr, f b = some (.cells c t fr) ∧ thawed fr c.size ∧ ∀ q (hq : q < l.length), c[q]? = some (.int .u8 l[q])) : ownP f A' (L ++ [(x, l)]) := by
  have key : ∀ i (hi : i < (L ++ [(x, l)]).length), (∃ hi' : i < L.length, (L ++ [(x, l)])[i] = L[i]) ∨ (i = L.length ∧ (L ++ [(x, l)])[i] = (x, l)) := fun i hi => by
    by_cases h : i < L.length
    · exact .inl ⟨h, List.getElem_append_left h⟩
    · have hi2 : i = L.length := by rw [List.length_append, List.length_singleton] at hi; omega
      refine .inr ⟨hi2, ?_⟩
      subst hi2
      rw [List.getElem_append_right (Nat.le_refl _)]
      simp
  refine ⟨fun i hi hne => ?_, fun i j hi hj b n1 c1 m1 d1 h1 h2 h3 h4 => ?_⟩
  · rcases key i hi with ⟨hi', e⟩ | ⟨_, e⟩
    · rw [e] at hne ⊢
      obtain ⟨b, cap, g1, g2, g3⟩ := hp.1 i hi' hne
      exact ⟨b, cap, g1, hs b g2, g3⟩
    · rw [e] at hne ⊢
      obtain ⟨b, cap, g1, g2, _, g3⟩ := hn hne
      exact ⟨b, cap, g1, g2, g3⟩
  · rcases key i hi with ⟨hi', e⟩ | ⟨ei, e⟩
    · rcases key j hj with ⟨hj', e'⟩ | ⟨ej, e'⟩
      · rw [e] at h1 h3
        rw [e'] at h2 h4
        exact hp.2 i j hi' hj' b n1 c1 m1 d1 h1 h2 h3 h4
      · rw [e] at h1 h3
        rw [e'] at h2 h4
        obtain ⟨b1, cap1, g1, g2, _⟩ := hp.1 i hi' h1
        obtain ⟨b2, cap2, g3, _, g4, _⟩ := hn h2
        rw [h3] at g1
        injection g1 with g1 _ _
        rw [show x = _ from h4] at g3
        injection g3 with g3 _ _
        simp only [Option.some.injEq, Addr.mk.injEq] at g1 g3
        exact absurd (g3.1 ▸ g1.1 ▸ g2) g4
    · rcases key j hj with ⟨hj', e'⟩ | ⟨ej, e'⟩
      · rw [e] at h1 h3
        rw [e'] at h2 h4
        obtain ⟨b1, cap1, g1, g2, _⟩ := hp.1 j hj' h2
        obtain ⟨b2, cap2, g3, _, g4, _⟩ := hn h1
        rw [h4] at g1
        injection g1 with g1 _ _
        rw [show x = _ from h3] at g3
        injection g3 with g3 _ _
        simp only [Option.some.injEq, Addr.mk.injEq] at g1 g3
        exact absurd (g3.1 ▸ g1.1 ▸ g2) g4
      · rw [ei, ej]

theorem rawV_ok {av : Nat → Prop} {x : Value} {a : Option Addr} {len cap : Nat} (hx : x = .slice a len cap) (hc : len ≤ cap) : (rawV x len).Ok w av n := by
  subst hx
  have e : (Value.slice a len cap) = .slice a (List.replicate len ()).length cap := by rw [List.length_replicate]
  unfold rawV
  rw [e]
  refine .view (by rw [List.length_replicate]; exact hc) (fun _ _ => rfl) (fun _ _ s hs => by cases hs) (fun _ _ s hs => by cases hs) fun i k hi u hu => ?_
  cases hu

theorem poolK_sound (s : Mem B σ n h w) {m : M} (hm : m.Ok w (avoids B σ h) n) {K : M → Bs → Prop} (hk : poolK m h K) :
    ∃ m' h', K m' h' ∧ Mem B σ n h' w ∧ m'.den σ = m.den σ ∧ (∀ b, avoids B σ h' b → avoids B σ h b) ∧ m'.Ok w (avoids B σ h') n := by
  unfold poolK at hk
  split at hk <;> first | exact hk.elim | skip
  rename_i A L h0
  obtain ⟨_, q2, _, hown⟩ := s.holds 0 _ h0
  split at hk <;> first | exact hk.elim | skip
  · obtain ⟨s', hav⟩ := s.pool_grow (A' := A) (L' := L ++ [((.slice none 0 0 : Value), [])]) h0 (Down.refl h) h0 (fun b hb => .inl hb) q2 (ownP_snoc hown (fun _ h => h) fun h => absurd rfl h)
    exact ⟨_, _, hk A (.slice none 0 0), s', rfl, hav, .one rfl (rawV_ok rfl (Nat.le_refl _))⟩
  · rename_i j es off len cap
    replace hk := cond_false_elim hk
    obtain ⟨hb, hk⟩ := hk
    simp only [Bool.and_eq_true, Bool.not_eq_true'] at hb
    have e1 := Nat.eq_of_beq_eq_true hb.1.1
    have e2 := Nat.eq_of_beq_eq_true hb.1.2
    subst e1; subst e2
    have hj0 : j ≠ 0 := fun e => by subst e; have := hb.2; simp at this
    split at hk <;> first | exact hk.elim | skip
    rename_i es' α E l cap' hj
    cases hb2 : Nat.beq es' 1 with
    | false => rw [hb2] at hk; exact hk.elim
    | true =>
    rw [hb2] at hk
    obtain ⟨⟨h3, h4, h5⟩, hk⟩ := hk
    have e3 := Nat.eq_of_beq_eq_true hb2
    subst e3
    subst h3
    have hlb : (bytesOf E.enc l).length = l.length := by simp [bytesOf]
    obtain ⟨g1, g2, g3⟩ := s.holds j _ hj
    have hd : Down h (del h j) := Down.del h j
    have hd0 : get (del h j) 0 = some (pool A L) := by rw [get_del, if_neg hj0]; exact h0
    by_cases hne : bytesOf E.enc l = []
    · obtain ⟨s', hav⟩ := s.pool_grow (A' := A) (L' := L ++ [((.slice (some ⟨σ j, 0, none⟩) l.length cap : Value), bytesOf E.enc l)]) h0 hd hd0 (fun b hb => .inl hb) q2 (ownP_snoc hown (fun _ h => h) fun h => absurd hne h)
      exact ⟨_, _, hk A (.slice (some ⟨σ j, 0, none⟩) l.length cap) (fun h => absurd hne h), s', by simp [M.den, SV.den], hav, .one rfl (rawV_ok rfl h4)⟩
    · have hpos : 0 < l.length := by
        rw [← hlb]
        exact List.length_pos_iff.2 hne
      have hcap : 0 < cap' := by omega
      obtain ⟨c, t, f, c1, c2, c3, c4⟩ := g3 hcap
      have hreal : (Blk.row 1 E l cap').real := hcap
      have hnA : σ j ∉ A := fun hA => hj0 (s.injO j 0 _ _ (σ j) hj h0 (.mk hreal) (pool_occ.2 hA))
      have hcell : ∀ q (hq : q < (bytesOf E.enc l).length), c[q]? = some (.int .u8 (bytesOf E.enc l)[q]) := fun q hq => by
        have hq' : q < l.length := by rw [← hlb]; exact hq
        have hdn := isBytes_den h5 (List.getElem_mem hq') σ
        have := c4 q 0 hq' (.int .u8 (num1 (E.enc l[q]))) (by rw [hdn]; rfl)
        rw [show q * 1 + 0 = q by omega] at this
        rw [this]
        simp [bytesOf]
      obtain ⟨s', hav⟩ := s.pool_grow (A' := σ j :: A) (L' := L ++ [((.slice (some ⟨σ j, 0, none⟩) l.length cap : Value), bytesOf E.enc l)]) h0 hd hd0
        (fun b hb => by
          rcases List.mem_cons.1 hb with rfl | hb
          · exact .inr ⟨j, _, hj0, hj, .mk hreal, by rw [get_del, if_pos rfl]⟩
          · exact .inl hb)
        (fun a ha => by
          rcases List.mem_cons.1 ha with rfl | ha
          · exact ⟨_, c1⟩
          · exact q2 a ha)
        (ownP_snoc hown (fun b hb => List.mem_cons_of_mem _ hb) fun _ => ⟨σ j, cap, by rw [hlb], List.mem_cons_self, hnA, c, t, f, c1, c2, hcell⟩)
      exact ⟨_, _, hk (σ j :: A) (.slice (some ⟨σ j, 0, none⟩) l.length cap) (fun _ => ⟨_, _, rfl⟩), s', by simp [M.den, SV.den], hav, .one rfl (rawV_ok rfl h4)⟩

theorem SCall.poolOut {f n : Nat} {args : List M} {h : Bs} {K : Nat → M → Bs → Prop} (spec : SCall P f args n h fun n' m h' => poolK m h' fun m h' => K n' m h') : SCall P f args n h K := by
  refine ⟨fun B σ w s hargs => ?_⟩
  refine (spec.out B σ w s hargs).mono ?_
  rintro e w1 ⟨σ', n', m, h', g1, g2, g3, g4, g5, g6, g7⟩
  obtain ⟨m', h2, k1, k2, k3, k4, k5⟩ := poolK_sound g5 g6 g2
  exact ⟨σ', n', m', h2, by rw [k3]; exact g1, k1, g3, g4, k2, k5, fun b hb hna => ⟨fun h5 => (g7 b hb hna).1 (k4 b h5), (g7 b hb hna).2⟩⟩
theorem SMem.inp {ο : Type} {O : ο → Out} (tb : Spec) (hS : SOK P tb) (mt : MSpec) (hM : MSOK P mt) (hT : TOK P tt) (hm : P.follows .mixedOrders = true) (inl : List (Nat × Inl)) (hI : IOK P inl) (un : Bool) (inv : List (Nat × Inv)) (lab : List (Nat × (Nat × Inv))) {f n0 : Nat} {h0 : Bs} {fn : Func} {c : Code} {args : List M}
    (hentry : ∀ (vs : Array Value) (w : World), (callFunc f vs).run P w = .ok (.enter f vs) w)
    (hf : P.funcs[f]? = some fn) (hb : fn.body = some c) (hl : Nat.ble args.length fn.ntmps = true)
    (hx : xc (cm (gm tt tb mt) mt tt inl 40) (gm tt tb mt) tt fn.ntmps n0 un inv lab 1000 c (finQ tt fn.results.toList fun n m h => poolK m h fun m h => ∃ o, Imp0 n0 n [(0, m)] h (O o).n [(0, (O o).m)] (O o).h) n0 (params 0 args) h0) : SMem P f args n0 h0 O :=
  ⟨SCall.weaken (SCall.poolOut (SCall.body hT hentry hf hb (Nat.le_of_ble_eq_true hl) (xc_sound (cm_ok (gm_det hS hM) (gm_ok hS hM) hT hm hM hI 40) (gm_det hS hM) (gm_ok hS hM) hT hm 1000 _ _ _ _ _ hx)))
    fun n' m h' ⟨o, hi⟩ => ⟨_, _, _, ⟨o, rfl, rfl, rfl⟩, hi⟩⟩

theorem Mem.pool0 (s : Mem B σ 0 [] w) : Mem B σ 1 [(0, pool [] [])] w := by
  have at0 : ∀ i k, get [(0, pool [] [])] i = some k → i = 0 ∧ k = pool [] [] := fun i k hi => by
    simp only [get] at hi
    cases hb : Nat.beq 0 i with
    | true => rw [hb] at hi; cases hi; exact ⟨(Nat.eq_of_beq_eq_true hb).symm, rfl⟩
    | false => rw [hb] at hi; cases hi
  have no : ∀ {i k b}, get [(0, pool [] [])] i = some k → k.occ (σ i) b → False := fun {i k b} hi hb => by
    obtain ⟨rfl, rfl⟩ := at0 i k hi
    have := pool_occ.1 hb
    cases this
  refine ⟨s.frame, s.avlt, Nat.le_trans s.kn (Nat.zero_le _), s.anch, fun i k hi => ?_, fun i j k k' b hi hj hb hb' => (no hi hb).elim, fun i k b hi hb _ => (no hi hb).elim, fun i k hi => ?_, fun i k hi => ?_⟩
  · rw [(at0 i k hi).1]; exact Nat.zero_lt_one
  · obtain ⟨rfl, rfl⟩ := at0 i k hi
    exact ⟨fun h9 => absurd (show true = false from h9) (by decide), fun a ha => (by cases ha), fun h9 => absurd (show true = false from h9) (by decide), fun i hi => absurd hi (Nat.not_lt_zero _), fun i j hi => absurd hi (Nat.not_lt_zero _)⟩
  · obtain ⟨rfl, rfl⟩ := at0 i k hi
    exact fun x hx => by cases hx
theorem SFun.pooled {f : Nat} {args : List M} {res : M} (spec : SCall P f args 1 [(0, pool [] [])] fun _ m _ => m = res ∧ m.pure = true) : SFun P f args res := by
  refine ⟨⟨fun B σ w s hargs => ?_⟩⟩
  have s1 := s.pool0
  have hav : ∀ b, avoids B σ [(0, pool [] [])] b → avoids B σ [] b := by
    rintro b (h1 | ⟨i, k, hi, hb⟩)
    · exact .inl h1
    · simp only [get] at hi
      cases hb2 : Nat.beq 0 i with
      | true => rw [hb2] at hi; cases hi; have := pool_occ.1 hb; cases this
      | false => rw [hb2] at hi; cases hi
  refine (spec.out B σ w s1 fun m hm => (hargs m hm).mono (Nat.zero_le _) fun b _ h1 => ⟨fun h2 => h1 (hav b h2), rfl⟩).mono ?_
  rintro e w1 ⟨σ', n', m, h', g1, g2, g3, g4, g5, g6, g7⟩
  exact ⟨σ', n', m, h', g1, g2, Nat.zero_le _, fun j hj => absurd hj (Nat.not_lt_zero _), g5, g6, fun b hb hna => g7 b hb fun h1 => hna (hav b h1)⟩
end
end Go.Sx
