/- What comes back given up, cell by cell by a code. Holds for every program. -/
import Derived.Test.YtgbikcniediomaaSx24
namespace Go.Sx
set_option linter.unusedSimpArgs false
set_option linter.unusedVariables false

def nilC : List RK → List SV → List SV
  | .sl es fs :: c, s :: r => nilV es (encRec fs) s :: nilC c r
  | _ :: c, s :: r => s :: nilC c r
  | _, l => l
def nilMC (c : List RK) : M → M
  | .agg l => .agg (nilC c l)
  | m => m
theorem nilC_den (σ : Nat → Nat) : ∀ (c : List RK) (l : List SV), denL σ (nilC c l) = denL σ l
  | .sl es fs :: c, s :: r => by
    show denL σ (nilV es (encRec fs) s :: nilC c r) = _
    rw [denL_cons, denL_cons, nilV_dens, nilC_den σ c r]
  | .int _ :: c, s :: r => by show denL σ (s :: nilC c r) = _; rw [denL_cons, denL_cons, nilC_den σ c r]
  | .bool :: c, s :: r => by show denL σ (s :: nilC c r) = _; rw [denL_cons, denL_cons, nilC_den σ c r]
  | .str :: c, s :: r => by show denL σ (s :: nilC c r) = _; rw [denL_cons, denL_cons, nilC_den σ c r]
  | .ints _ _ :: c, s :: r => by show denL σ (s :: nilC c r) = _; rw [denL_cons, denL_cons, nilC_den σ c r]
  | [], _ => rfl
  | f :: _, [] => by cases f <;> rfl
theorem nilC_ok {w : World} {av : Nat → Prop} {n : Nat} : ∀ (c : List RK) (l : List SV), (∀ s ∈ l, s.Ok w av n) → ∀ s ∈ nilC c l, s.Ok w av n
  | .sl es fs :: c, s :: r, h => fun x hx => by
    rcases List.mem_cons.1 (show x ∈ nilV es (encRec fs) s :: nilC c r from hx) with rfl | hx
    · exact nilV_ok es _ (h s (by simp))
    · exact nilC_ok c r (fun y hy => h y (by simp [hy])) x hx
  | .int _ :: c, s :: r, h => fun x hx => by
    rcases List.mem_cons.1 (show x ∈ s :: nilC c r from hx) with rfl | hx
    · exact h _ (by simp)
    · exact nilC_ok c r (fun y hy => h y (by simp [hy])) x hx
  | .bool :: c, s :: r, h => fun x hx => by
    rcases List.mem_cons.1 (show x ∈ s :: nilC c r from hx) with rfl | hx
    · exact h _ (by simp)
    · exact nilC_ok c r (fun y hy => h y (by simp [hy])) x hx
  | .str :: c, s :: r, h => fun x hx => by
    rcases List.mem_cons.1 (show x ∈ s :: nilC c r from hx) with rfl | hx
    · exact h _ (by simp)
    · exact nilC_ok c r (fun y hy => h y (by simp [hy])) x hx
  | .ints _ _ :: c, s :: r, h => fun x hx => by
    rcases List.mem_cons.1 (show x ∈ s :: nilC c r from hx) with rfl | hx
    · exact h _ (by simp)
    · exact nilC_ok c r (fun y hy => h y (by simp [hy])) x hx
  | [], l, h => h
  | f :: _, [], h => fun x hx => by cases f <;> cases hx
theorem nilMC_den (c : List RK) (σ : Nat → Nat) (m : M) : (nilMC c m).den σ = m.den σ := by
  cases m with
  | agg l => simp only [nilMC, M.den, nilC_den]
  | _ => rfl
theorem nilMC_ok {w : World} {av : Nat → Prop} {n : Nat} (c : List RK) {m : M} (hm : m.Ok w av n) : (nilMC c m).Ok w av n := by
  cases hm with
  | agg hl => exact .agg (nilC_ok c _ hl)
  | one h1 h => exact .one h1 h
  | tup hl => exact .tup hl

def frzC (c : List RK) (m : M) (h : Bs) (K : M → Bs → Prop) : Prop :=
  match m with
  | .tup l => frzA l h fun l h => K (.tup (l.map (nilMC c))) h
  | m => frzM m h fun m h => K (nilMC c m) h

section
variable {P : Program} {tt : Tab}
theorem SCall.frzOutC {f n : Nat} {args : List M} {h : Bs} {c : List RK} {K : Nat → M → Bs → Prop} (spec : SCall P f args n h fun n' m h' => frzC c m h' fun m h' => K n' m h') : SCall P f args n h K := by
  refine ⟨fun B σ w s hargs => ?_⟩
  refine (spec.out B σ w s hargs).mono ?_
  rintro e w1 ⟨σ', n', m, h', g1, g2, g3, g4, g5, g6, g7⟩
  unfold frzC at g2
  split at g2
  · obtain ⟨l', h2, k1, d1, e1, o1⟩ := frzA_sound g5 (by cases g6 with | tup hl => exact hl) g2
    refine ⟨σ', n', _, h2, ?_, k1, g3, g4, g5.sub d1, .tup fun m hm => ?_, fun b hb hna => ⟨fun h3 => (g7 b hb hna).1 (d1.av h3), (g7 b hb hna).2⟩⟩
    · rw [g1, M.den_tup, M.den_tup, List.map_map, ← e1]
      congr 3
      exact List.map_congr_left fun m _ => (nilMC_den c σ' m).symm
    · obtain ⟨x, hx, rfl⟩ := List.mem_map.1 hm
      exact nilMC_ok c (o1 x hx)
  · obtain ⟨m', h2, k1, d1, e1, o1⟩ := frzM_sound g5 g6 g2
    exact ⟨σ', n', _, h2, by rw [g1, nilMC_den, e1], k1, g3, g4, g5.sub d1, nilMC_ok c o1, fun b hb hna => ⟨fun h3 => (g7 b hb hna).1 (d1.av h3), (g7 b hb hna).2⟩⟩

theorem SMem.inc {ο : Type} {O : ο → Out} (cd : List RK) (tb : Spec) (hS : SOK P tb) (mt : MSpec) (hM : MSOK P mt) (hT : TOK P tt) (hm : P.follows .mixedOrders = true) (inl : List (Nat × Inl)) (hI : IOK P inl) (un : Bool) (inv : List (Nat × Inv)) (lab : List (Nat × (Nat × Inv))) {f n0 : Nat} {h0 : Bs} {fn : Func} {c : Code} {args : List M}
    (hentry : ∀ (vs : Array Value) (w : World), (callFunc f vs).run P w = .ok (.enter f vs) w)
    (hf : P.funcs[f]? = some fn) (hb : fn.body = some c) (hl : Nat.ble args.length fn.ntmps = true)
    (hx : xc (cm (gm tt tb mt) mt tt inl 40) (gm tt tb mt) tt fn.ntmps n0 un inv lab 1000 c (finQ tt fn.results.toList fun n m h => frzC cd m h fun m h => ∃ o, Imp0 n0 n [(0, m)] h (O o).n [(0, (O o).m)] (O o).h) n0 (params 0 args) h0) : SMem P f args n0 h0 O :=
  ⟨SCall.weaken (SCall.frzOutC (SCall.body hT hentry hf hb (Nat.le_of_ble_eq_true hl) (xc_sound (cm_ok (gm_det hS hM) (gm_ok hS hM) hT hm hM hI 40) (gm_det hS hM) (gm_ok hS hM) hT hm 1000 _ _ _ _ _ hx)))
    fun n' m h' ⟨o, hi⟩ => ⟨_, _, _, ⟨o, rfl, rfl, rfl⟩, hi⟩⟩
def ownO (m : M) (K : M → Prop) : Prop :=
  match m with
  | .one (.slc j es off len cap) => (off = 0 ∧ 0 < cap ∧ len ≤ cap) ∧ K (.one (.nslc j es len cap))
  | m => K m
theorem SCall.ownOut {f n : Nat} {args : List M} {h : Bs} {K : Nat → M → Bs → Prop} (spec : SCall P f args n h fun n' m h' => ownO m fun m => K n' m h') : SCall P f args n h K := by
  refine ⟨fun B σ w s hargs => ?_⟩
  refine (spec.out B σ w s hargs).mono ?_
  rintro e w1 ⟨σ', n', m, h', g1, g2, g3, g4, g5, g6, g7⟩
  unfold ownO at g2
  split at g2
  · rename_i j es off len cap
    obtain ⟨⟨rfl, hc, hl⟩, g2⟩ := g2
    refine ⟨σ', n', _, h', ?_, g2, g3, g4, g5, ?_, g7⟩
    · rw [g1]
      simp only [M.den, SV.den, Nat.zero_mul]
      rw [if_neg (by omega)]
    · cases g6 with
      | one h1 h2 =>
        cases h2 with
        | slc hj => exact .one rfl (.nslc hj hl)
  · exact ⟨σ', n', m, h', g1, g2, g3, g4, g5, g6, g7⟩
theorem SMem.ino {ο : Type} {O : ο → Out} (tb : Spec) (hS : SOK P tb) (mt : MSpec) (hM : MSOK P mt) (hT : TOK P tt) (hm : P.follows .mixedOrders = true) (inl : List (Nat × Inl)) (hI : IOK P inl) (un : Bool) (inv : List (Nat × Inv)) (lab : List (Nat × (Nat × Inv))) {f n0 : Nat} {h0 : Bs} {fn : Func} {c : Code} {args : List M}
    (hentry : ∀ (vs : Array Value) (w : World), (callFunc f vs).run P w = .ok (.enter f vs) w)
    (hf : P.funcs[f]? = some fn) (hb : fn.body = some c) (hl : Nat.ble args.length fn.ntmps = true)
    (hx : xc (cm (gm tt tb mt) mt tt inl 40) (gm tt tb mt) tt fn.ntmps n0 un inv lab 1000 c (finQ tt fn.results.toList fun n m h => ownO m fun m => ∃ o, Imp0 n0 n [(0, m)] h (O o).n [(0, (O o).m)] (O o).h) n0 (params 0 args) h0) : SMem P f args n0 h0 O :=
  ⟨SCall.weaken (SCall.ownOut (SCall.body hT hentry hf hb (Nat.le_of_ble_eq_true hl) (xc_sound (cm_ok (gm_det hS hM) (gm_ok hS hM) hT hm hM hI 40) (gm_det hS hM) (gm_ok hS hM) hT hm 1000 _ _ _ _ _ hx)))
    fun n' m h' ⟨o, hi⟩ => ⟨_, _, _, ⟨o, rfl, rfl, rfl⟩, hi⟩⟩
end
end Go.Sx
