/- Code, by computation; loops; functions. Holds for every program. -/
import Derived.Test.YtgbikcniediomaaSxE
import Derived.Test.YtgbikcniediomaaSxV
namespace Go.Sx
set_option linter.unusedSimpArgs false
set_option linter.unusedVariables false

def thenQ (K : Nat → Env → Bs → Prop) (Q : Exit → Nat → Env → Bs → Prop) : Exit → Nat → Env → Bs → Prop
  | .normal, n, e, h => K n e h
  | ex, n, e, h => Q ex n e h

def blockQ (id : Nat) (Q : Exit → Nat → Env → Bs → Prop) : Exit → Nat → Env → Bs → Prop
  | .exit id', n, e, h => bif Nat.beq id' id then Q .normal n e h else Q (.exit id') n e h
  | ex, n, e, h => Q ex n e h

def xopG (C : CallT) (tt : Tab) (nt : Nat) (o : Oper) (n : Nat) (e : Env) (h : Bs) (K : Nat → Env → Bs → Prop) : Prop :=
  bif commB o.op then commK tt nt o n e h K else xopF C tt nt o n e h K

def skipK (nt : Nat) (o : Oper) (e : Env) (K : Env → Prop) : Prop := dstK nt o.dst (.tup []) e K

def xops (C : CallT) (tt : Tab) (nt : Nat) (all : List Oper) : List Oper → (Nat → Env → Bs → Prop) → Nat → Env → Bs → Prop
  | [], K, n, e, h => K n e h
  | o :: r, K, n, e, h =>
    match o.guard with
    | none => xopG C tt nt o n e h fun n e h => xops C tt nt all r K n e h
    | some (j, want) =>
      match all[j]? with
      | none => False
      | some g =>
        match g.dst with
        | none => False
        | some d =>
          match get e d with
          | some (.one (.v (.bool t))) =>
            bif t then
              (bif want then xopG C tt nt o n (put e d (.one (.v (.bool true)))) h fun n e h => xops C tt nt all r K n e h
               else skipK nt o (put e d (.one (.v (.bool true)))) fun e => xops C tt nt all r K n e h)
            else
              (bif want then skipK nt o (put e d (.one (.v (.bool false)))) fun e => xops C tt nt all r K n e h
               else xopG C tt nt o n (put e d (.one (.v (.bool false)))) h fun n e h => xops C tt nt all r K n e h)
          | some (.tup []) => skipK nt o e fun e => xops C tt nt all r K n e h
          | _ => False

def Post (B : Base) (nt : Nat) (Q : Exit → Nat → Env → Bs → Prop) (ex : Exit) (a : Act) (w : World) : Prop :=
  ∃ σ n e h, Q ex n e h ∧ Sat B nt σ n e h a w

structure SWp (P : Program) (nt k : Nat) (c : Code) (Q : Exit → Nat → Env → Bs → Prop) (n : Nat) (e : Env) (h : Bs) : Prop where
  out : ∀ (B : Base) (σ : Nat → Nat) (a : Act) (w : World), B.k = k → Sat B nt σ n e h a w → wpN P c (Post B nt Q) a w

def xcode (P : Program) (tt : Tab) (nt k : Nat) : Code → (Exit → Nat → Env → Bs → Prop) → Nat → Env → Bs → Prop
  | .skip, Q, n, e, h => Q .normal n e h
  | .region id ops draw, Q, n, e, h => bif draw then SWp P nt k (.region id ops draw) Q n e h else xops (SCall P) tt nt ops.toList ops.toList (Q .normal) n e h
  | .seq a b, Q, n, e, h => xcode P tt nt k a (thenQ (xcode P tt nt k b Q) Q) n e h
  | .cond c x y, Q, n, e, h => ev e c fun m => match m with
    | .one (.v (.bool t)) => bif t then xcode P tt nt k x Q n e h else xcode P tt nt k y Q n e h
    | _ => False
  | .block id c, Q, n, e, h => xcode P tt nt k c (blockQ id Q) n e h
  | .exit id, Q, n, e, h => Q (.exit id) n e h
  | .goto l, Q, n, e, h => Q (.goto l) n e h
  | .label _, Q, n, e, h => Q .normal n e h
  | .ret, Q, n, e, h => Q .ret n e h
  | c, Q, n, e, h => SWp P nt k c Q n e h

section
variable {P : Program} {tt : Tab} {B : Base} {nt : Nat} {σ : Nat → Nat} {n : Nat} {e : Env} {h : Bs} {a : Act} {w : World}

theorem yielded_of (s : Sat B nt σ n e h a w) {ops : Array Oper} {j d : Nat} {g : Oper} {t : Bool} (hg : ops[j]? = some g) (hd : g.dst = some d) (he : get e d = some (.one (.v (.bool t)))) :
    yielded ops a.tmps j = some t := by
  have h1 := s.env d _ he
  simp only [M.den, SV.den] at h1
  rw [Array.getD_eq_getD_getElem?] at h1
  unfold yielded
  simp only [hg, Option.bind_some, hd]
  cases h2 : a.tmps[d]? with
  | none => rw [h2] at h1; simp [undef] at h1
  | some v => rw [h2] at h1; simp at h1; subst h1; rfl

theorem yielded_none (s : Sat B nt σ n e h a w) {ops : Array Oper} {j d : Nat} {g : Oper} (hg : ops[j]? = some g) (hd : g.dst = some d) (he : get e d = some (.tup [])) :
    yielded ops a.tmps j = none := by
  have h1 := s.env d _ he
  rw [M.den_tup] at h1
  rw [Array.getD_eq_getD_getElem?] at h1
  unfold yielded
  simp only [hg, Option.bind_some, hd]
  cases h2 : a.tmps[d]? with
  | none => rfl
  | some v => rw [h2] at h1; simp at h1; subst h1; rfl

theorem xopG_sound {C : CallT} (hC : COK P C) (hT : TOK P tt) (s : Sat B nt σ n e h a w) {o : Oper} {K : Nat → Env → Bs → Prop} (hk : xopG C tt nt o n e h K) {next : Act → World → Prop}
    (hn : ∀ a' w', Behind B nt K a' w' → next a' w') {ops : Array Oper} {i : Nat} (ho : ops[i]? = some o) (hw : Region.wanted o (yielded ops a.tmps) = true) : opN P ops i next a w := by
  unfold xopG at hk
  cases hb : commB o.op with
  | true => rw [hb] at hk; exact commK_sound hT s hk hn ho hw
  | false => rw [hb] at hk; exact .of_wp ho hw (xopF_sound hC hT s hk hn)

theorem xops_sound {C : CallT} (hC : COK P C) (hT : TOK P tt) {ops : Array Oper} {R : Act → World → Prop} : ∀ (l : List Oper) (k : Nat) (K : Nat → Env → Bs → Prop) (σ : Nat → Nat) (n : Nat) (e : Env) (h : Bs) (a : Act) (w : World),
    (∀ i, l[i]? = ops[k + i]?) → Sat B nt σ n e h a w → xops C tt nt ops.toList l K n e h → (∀ a' w', Behind B nt K a' w' → R a' w') → opsN P ops R (List.range' k l.length) a w
  | [], k, K, σ, n, e, h, a, w, _, s, hk, hQ => hQ a w ⟨σ, n, e, h, hk, s⟩
  | o :: r, k, K, σ, n, e, h, a, w, hl, s, hk, hQ => by
    have ho : ops[k]? = some o := by simpa using (hl 0).symm
    have hr : ∀ i, r[i]? = ops[k + 1 + i]? := fun i => by have := hl (i + 1); simpa [Nat.add_assoc, Nat.add_comm 1 i] using this
    simp only [List.length_cons, List.range'_succ, opsN]
    simp only [xops] at hk
    have rest : ∀ a' w', Behind B nt (fun n e h => xops C tt nt ops.toList r K n e h) a' w' → opsN P ops R (List.range' (k + 1) r.length) a' w' := by
      rintro a' w' ⟨σ', n', e', h', h1, s'⟩
      exact xops_sound hC hT r (k + 1) K σ' n' e' h' a' w' hr s' h1 hQ
    split at hk
    · rename_i hg
      exact xopG_sound hC hT s hk rest ho (by simp [Region.wanted, hg])
    · rename_i j want hg
      split at hk
      · exact hk.elim
      · rename_i g hgj
        split at hk
        · exact hk.elim
        · rename_i d hd
          split at hk
          · rename_i t he
            have hy := yielded_of s (ops := ops) (by simpa using hgj) hd he
            have sT : ∀ b, b = t → Sat B nt σ n (put e d (.one (.v (.bool b)))) h a w := fun b hb => s.reput he (by rw [hb]) (okv rfl)
            have skip : ∀ e', Sat B nt σ n e' h a w → skipK nt o e' (fun e => xops C tt nt ops.toList r K n e h) → opsN P ops R (List.range' (k + 1) r.length) (a.put o.dst undef) w := by
              intro e' se hs
              obtain ⟨e2, h1, s2⟩ := dstK_sound se (.tup (by simp)) hs
              rw [M.den_tup] at s2
              exact rest _ _ ⟨σ, n, e2, h, h1, s2⟩
            cases t <;> cases want <;> simp only [cond_true, cond_false] at hk
            · exact xopG_sound hC hT (sT false rfl) hk rest ho (by simp [Region.wanted, hg, hy])
            · exact .skip (by simp [ho, Region.wanted, hg, hy]) (by rw [ho]; exact skip _ (sT false rfl) hk)
            · exact .skip (by simp [ho, Region.wanted, hg, hy]) (by rw [ho]; exact skip _ (sT true rfl) hk)
            · exact xopG_sound hC hT (sT true rfl) hk rest ho (by simp [Region.wanted, hg, hy])
          · rename_i he
            have hy := yielded_none s (ops := ops) (by simpa using hgj) hd he
            refine .skip (by simp [ho, Region.wanted, hg, hy]) ?_
            rw [ho]
            obtain ⟨e2, h1, s2⟩ := dstK_sound s (.tup (by simp)) hk
            rw [M.den_tup] at s2
            exact rest _ _ ⟨σ, n, e2, h, h1, s2⟩
          · exact hk.elim

theorem Post.then {K : Nat → Env → Bs → Prop} {Q : Exit → Nat → Env → Bs → Prop} {R : Act → World → Prop} {ex : Exit} (hp : Post B nt (thenQ K Q) ex a w) (hR : Behind B nt K a w → R a w) : Exit.then R (Post B nt Q) ex a w := by
  obtain ⟨σ, n, e, h, h1, s⟩ := hp
  cases ex <;> first | exact hR ⟨σ, n, e, h, h1, s⟩ | exact ⟨σ, n, e, h, h1, s⟩

theorem xcode_sound (hT : TOK P tt) {k : Nat} : ∀ (c : Code) (Q : Exit → Nat → Env → Bs → Prop) (n : Nat) (e : Env) (h : Bs), xcode P tt nt k c Q n e h → SWp P nt k c Q n e h
  | .skip, Q, n, e, h, hk => ⟨fun B σ a w _ s => wp_skip ⟨σ, n, e, h, hk, s⟩⟩
  | .region id ops draw, Q, n, e, h, hk => by
    simp only [xcode] at hk
    cases draw with
    | true => exact hk
    | false =>
      refine ⟨fun B σ a w _ s => wp_region ?_⟩
      have := xops_sound (COK.self P) hT (ops := ops) (R := Post B nt Q .normal) ops.toList 0 (Q .normal) σ n e h a w (by simp) s hk (fun a' w' hb => hb)
      rwa [← List.range_eq_range', Array.length_toList] at this
  | .seq x y, Q, n, e, h, hk => by
    refine ⟨fun B σ a w hb s => wp_seq ?_⟩
    refine wp_mono ((xcode_sound hT x _ n e h hk).out B σ a w hb s) fun ex a' w' hp => hp.then ?_
    rintro ⟨σ', n', e', h', h1, s'⟩
    exact (xcode_sound hT y _ _ _ _ h1).out B σ' a' w' hb s'
  | .cond c x y, Q, n, e, h, hk => by
    refine ⟨fun B σ a w hb s => ?_⟩
    simp only [xcode] at hk
    obtain ⟨m, k1, h1, h2⟩ := ev_sound s hk
    split at k1
    · rename_i t
      refine wp_cond (t := t) (by rw [h1]; rfl) ?_
      cases t with
      | true => exact (xcode_sound hT x _ _ _ _ k1).out B σ a w hb s
      | false => exact (xcode_sound hT y _ _ _ _ k1).out B σ a w hb s
    · exact k1.elim
  | .block id c, Q, n, e, h, hk => by
    refine ⟨fun B σ a w hbk s => wp_block ?_⟩
    refine wp_mono ((xcode_sound hT c _ n e h hk).out B σ a w hbk s) ?_
    rintro ex a' w' ⟨σ', n', e', h', h1, s'⟩
    cases ex <;> first | exact ⟨σ', n', e', h', h1, s'⟩ | skip
    rename_i id'
    simp only [blockQ] at h1
    simp only [Exit.inBlock]
    cases hb : Nat.beq id' id with
    | true =>
      rw [hb] at h1
      rw [if_pos (Nat.eq_of_beq_eq_true hb)]
      exact ⟨σ', n', e', h', h1, s'⟩
    | false =>
      rw [hb] at h1
      rw [if_neg (fun h0 => by rw [h0, beqT] at hb; cases hb)]
      exact ⟨σ', n', e', h', h1, s'⟩
  | .exit id, Q, n, e, h, hk => ⟨fun B σ a w _ s => wp_exit ⟨σ, n, e, h, hk, s⟩⟩
  | .goto l, Q, n, e, h, hk => ⟨fun B σ a w _ s => wp_goto ⟨σ, n, e, h, hk, s⟩⟩
  | .label l, Q, n, e, h, hk => ⟨fun B σ a w _ s => wp_label ⟨σ, n, e, h, hk, s⟩⟩
  | .ret, Q, n, e, h, hk => ⟨fun B σ a w _ s => wp_ret ⟨σ, n, e, h, hk, s⟩⟩
  | .loop c, Q, n, e, h, hk => hk
  | .rangeFunc .., Q, n, e, h, hk => hk
  | .scope c, Q, n, e, h, hk => hk
  | .refuse _, Q, n, e, h, hk => hk

end

/-! ### A state that is another one, seen with other eyes -/

def SV.idB (n : Nat) : SV → Bool
  | .ptr j _ => Nat.blt j n
  | .aptr j _ _ => Nat.blt j n
  | .eptr j _ _ _ => Nat.blt j n
  | .slc j _ _ _ _ => Nat.blt j n
  | .nslc j _ _ _ => Nat.blt j n
  | .asl j _ _ _ _ => Nat.blt j n
  | .mp j => Nat.blt j n
  | .ch j => Nat.blt j n
  | .clo _ cap => cap.all fun c => match c with
    | .ptr j _ => Nat.blt j n
    | .v _ => true
  | _ => true

def M.idB (n : Nat) : M → Bool
  | .one s => s.idB n
  | .agg l => l.all (SV.idB n)
  | .tup l => idT n l
where idT (n : Nat) : List M → Bool
  | [] => true
  | m :: r => m.idB n && idT n r

def Blk.imp (τ : Nat → Nat) (n : Nat) : Blk → Blk → Prop
  | .cells l, .cells l0 => l.map (SV.ren τ) = l0 ∧ l.all (SV.idB n) = true
  | .row es enc l cap, .row es' enc' l' cap' => es = es' ∧ cap = cap' ∧ l.map enc.enc = l'.map enc'.enc ∧ ∀ x ∈ l, ∀ s ∈ enc x, s.isPure = true
  | .chan cap ag enc l, .chan cap' ag' enc' l' => cap = cap' ∧ ag = ag' ∧ l.map enc.enc = l'.map enc'.enc
  | .obj A V o, .obj A' V' o' => A = A' ∧ ((V.map (SV.ren τ) = V' ∧ V.all (SV.idB n) = true) ∨ (V = V' ∧ ∀ s ∈ V, s.isPure = true)) ∧ o = o'
  | _, _ => False

def impE (τ : Nat → Nat) (n : Nat) (e : Env) : Env → Prop
  | [] => True
  | (s, m) :: r => (match get e s with
    | some m0 => m.ren τ = m0 ∧ m.idB n = true
    | none => False) ∧ impE τ n e r

def impH (τ : Nat → Nat) (n : Nat) (h : Bs) : Bs → Prop
  | [] => True
  | (j, b) :: r => (match get h (τ j) with
    | some b0 => b.imp τ n b0
    | none => False) ∧ Nat.blt j n = true ∧ impH τ n h r

def noDup : List Nat → Bool
  | [] => true
  | x :: r => (r.all fun y => !(Nat.beq x y)) && noDup r

def Imp (k : Nat) (_n : Nat) (e : Env) (h : Bs) (n' : Nat) (e' : Env) (h' : Bs) : Prop :=
  ∃ τ : Nat → Nat, impE τ n' e e' ∧ impH τ n' h h' ∧ noDup (h'.map fun p => τ p.1) = true ∧ k ≤ n' ∧ ∀ j, j < k → τ j = j

section
variable {P : Program} {tt : Tab} {B : Base} {nt : Nat} {σ : Nat → Nat} {n : Nat} {e : Env} {h : Bs} {a : Act} {w : World}

theorem blt_lt {i j : Nat} (h : Nat.blt i j = true) : i < j := by
  simp only [Nat.blt] at h
  exact Nat.le_of_ble_eq_true h

theorem SV.Ok.pure_mono {av av' : Nat → Prop} {n' : Nat} {s : SV} (h : s.Ok w av n) (hp : s.isPure = true) (hav : ∀ b, av' b → av b) : s.Ok w av' n' := by
  induction h with
  | v h => exact .v h
  | ints h => exact .ints h
  | view hcap hes hpp hok hcell ih =>
    refine .view hcap hes hpp (fun x hx s hs => ih x hx s hs (hpp x hx s hs)) fun i k hi u hu => ?_
    obtain ⟨b, o, h1, h2, h3⟩ := hcell i k hi u hu
    exact ⟨b, o, h1, fun h4 => h2 (hav b h4), h3⟩
  | rptr hpp hok hcell ih =>
    exact .rptr hpp (fun s hs => ih s hs (hpp s hs)) fun k u hu => ⟨fun h4 => (hcell k u hu).1 (hav _ h4), (hcell k u hu).2⟩
  | _ => cases hp

theorem SV.Ok.unren {av av' : Nat → Prop} {n' : Nat} {τ : Nat → Nat} {s : SV} (h : (s.ren τ).Ok w av n) (hid : s.idB n' = true) (hav : ∀ b, av' b → av b) : s.Ok w av' n' := by
  cases s with
  | v x => cases h with | v h => exact .v h
  | ints k m l => cases h with | ints h => exact .ints h
  | view x es enc l => exact h.pure_mono rfl hav
  | rptr a l => exact h.pure_mono rfl hav
  | ptr j off => exact .ptr (blt_lt hid)
  | aptr j off k => exact .aptr (blt_lt hid)
  | eptr j es i k => exact .eptr (blt_lt hid)
  | slc j es off len cap => exact .slc (blt_lt hid)
  | nslc j es len cap => cases h with | nslc _ hl => exact .nslc (blt_lt hid) hl
  | asl j off i len cap => exact .asl (blt_lt hid)
  | mp j => exact .mp (blt_lt hid)
  | ch j => exact .ch (blt_lt hid)
  | clo f cap =>
    refine .clo fun c hc => ?_
    cases h with
    | clo h =>
      have h1 := h (c.ren τ) (List.mem_map.2 ⟨c, hc, rfl⟩)
      have h2 := List.all_eq_true.1 hid c hc
      cases c with
      | v x => exact h1
      | ptr j off => exact blt_lt h2

theorem M.Ok.unren {av av' : Nat → Prop} {n' : Nat} {τ : Nat → Nat} : ∀ {m : M}, (m.ren τ).Ok w av n → m.idB n' = true → (∀ b, av' b → av b) → m.Ok w av' n'
  | .one s, h, hid, hav => by
    cases h with
    | one h9 h => exact .one (by cases s <;> first | rfl | exact h9) (h.unren hid hav)
  | .agg l, h, hid, hav => by
    cases h with
    | agg h => exact .agg fun s hs => (h _ (List.mem_map.2 ⟨s, hs, rfl⟩)).unren (List.all_eq_true.1 hid s hs) hav
  | .tup l, h, hid, hav => by
    simp only [M.ren, M.renT_eq] at h
    cases h with
    | tup h =>
      have hidl : ∀ (l : List M), M.idB.idT n' l = true → ∀ m ∈ l, m.idB n' = true := by
        intro l
        induction l with
        | nil => intro _ m hm; cases hm
        | cons x r ih =>
          intro h1 m hm
          simp only [M.idB.idT, Bool.and_eq_true] at h1
          rcases List.mem_cons.1 hm with rfl | hm
          · exact h1.1
          · exact ih h1.2 m hm
      exact .tup fun m hm => M.Ok.unren (h (m.ren τ) (List.mem_map.2 ⟨m, hm, rfl⟩)) (hidl l hid m hm) hav

theorem M.den_ren (τ σ : Nat → Nat) : ∀ (m : M), (m.ren τ).den σ = m.den (fun j => σ (τ j))
  | .one s => SV.den_ren τ σ s
  | .agg l => by simp only [M.ren, M.den, denL_ren]
  | .tup l => by
    simp only [M.ren, M.renT_eq]
    rw [M.den_tup, M.den_tup, List.map_map]
    congr 2
    exact List.map_congr_left fun m hm => M.den_ren τ σ m

theorem impE_spec {τ : Nat → Nat} {n' : Nat} : ∀ {e' : Env}, impE τ n' e e' → ∀ q m, get e' q = some m → ∃ m0, get e q = some m0 ∧ m.ren τ = m0 ∧ m.idB n' = true
  | [], _, q, m, hm => by cases hm
  | (s, m') :: r, hk, q, m, hm => by
    simp only [impE] at hk
    simp only [get] at hm
    cases hb : Nat.beq s q with
    | true =>
      rw [hb] at hm
      cases hm
      have := Nat.eq_of_beq_eq_true hb
      subst this
      have h1 := hk.1
      split at h1
      · rename_i m0 h2; exact ⟨m0, h2, h1.1, h1.2⟩
      · exact h1.elim
    | false => rw [hb] at hm; exact impE_spec hk.2 q m hm

theorem impH_spec {τ : Nat → Nat} {n' : Nat} : ∀ {h' : Bs}, impH τ n' h h' → ∀ j b, get h' j = some b → ∃ b0, get h (τ j) = some b0 ∧ b.imp τ n' b0 ∧ j < n'
  | [], _, q, m, hm => by cases hm
  | (s, m') :: r, hk, q, m, hm => by
    simp only [impH] at hk
    simp only [get] at hm
    cases hb : Nat.beq s q with
    | true =>
      rw [hb] at hm
      cases hm
      have := Nat.eq_of_beq_eq_true hb
      subst this
      have h1 := hk.1
      split at h1
      · rename_i b0 h2; exact ⟨b0, h2, h1, blt_lt hk.2.1⟩
      · exact h1.elim
    | false => rw [hb] at hm; exact impH_spec hk.2.2 q m hm

theorem get_mem {α : Type 1} : ∀ {l : List (Nat × α)} {j : Nat} {x : α}, get l j = some x → (j, x) ∈ l
  | [], _, _, h => by cases h
  | (k, y) :: r, j, x, h => by
    simp only [get] at h
    cases hb : Nat.beq k j with
    | true =>
      rw [hb] at h
      cases h
      have := Nat.eq_of_beq_eq_true hb
      subst this
      simp
    | false => rw [hb] at h; exact List.mem_cons_of_mem _ (get_mem h)

theorem noDup_inj : ∀ {h' : Bs} {τ : Nat → Nat}, noDup (h'.map fun p => τ p.1) = true → ∀ i j k k', get h' i = some k → get h' j = some k' → τ i = τ j → i = j
  | [], _, _, i, j, k, k', hi, _, _ => by cases hi
  | (s, m) :: r, τ, hd, i, j, k, k', hi, hj, hij => by
    simp only [List.map_cons, noDup, Bool.and_eq_true] at hd
    simp only [get] at hi hj
    have notin : ∀ j k', get r j = some k' → τ s ≠ τ j := by
      intro j k' hj he
      have := List.all_eq_true.1 hd.1 (τ j) (List.mem_map.2 ⟨(j, k'), get_mem hj, rfl⟩)
      rw [he, beqT] at this
      cases this
    cases h1 : Nat.beq s i with
    | true =>
      have e1 := Nat.eq_of_beq_eq_true h1
      cases h2 : Nat.beq s j with
      | true => exact e1.symm.trans (Nat.eq_of_beq_eq_true h2)
      | false =>
        rw [h2] at hj
        subst e1
        exact absurd hij (notin j k' hj)
    | false =>
      rw [h1] at hi
      cases h2 : Nat.beq s j with
      | true =>
        have e2 := Nat.eq_of_beq_eq_true h2
        subst e2
        exact absurd hij.symm (notin i k hi)
      | false => rw [h2] at hj; exact noDup_inj hd.2 i j k k' hi hj hij

theorem Blk.imp_foot {τ : Nat → Nat} {n' : Nat} {b b0 : Blk} (hb : b.imp τ n' b0) : b.foot = b0.foot := by
  cases b <;> cases b0 <;> simp only [Blk.imp] at hb <;> simp only [Blk.foot]
  exact hb.1
theorem Blk.imp_real {τ : Nat → Nat} {n' : Nat} {b b0 : Blk} (hb : b.imp τ n' b0) : b.real ↔ b0.real := by
  cases b <;> cases b0 <;> simp only [Blk.imp] at hb <;> simp only [Blk.real]
  · obtain ⟨rfl, rfl, _⟩ := hb
    exact Iff.rfl
  · rw [hb.2.2]

theorem Blk.imp_holds {τ : Nat → Nat} {n' : Nat} {b b0 : Blk} {q : Nat} (hb : b.imp τ n' b0) (hh : b0.holds σ w q) : b.holds (fun j => σ (τ j)) w q := by
  cases b <;> cases b0 <;> simp only [Blk.imp] at hb
  · rename_i l l0
    obtain ⟨rfl, _⟩ := hb
    simp only [Blk.holds, denL_ren] at hh ⊢
    exact hh
  · rename_i es α enc l cap es' α' enc' l' cap'
    obtain ⟨rfl, rfl, hl, hp⟩ := hb
    simp only [Blk.holds] at hh ⊢
    have hlen : l.length = l'.length := by simpa using congrArg List.length hl
    have hel : ∀ i (hi : i < l.length) (hi' : i < l'.length), enc l[i] = enc' l'[i] := fun i hi hi' => by
      have := congrArg (fun x => x[i]?) hl
      simpa [List.getElem?_eq_getElem hi, List.getElem?_eq_getElem hi'] using this
    have hden : ∀ i (hi : i < l.length) (hi' : i < l'.length), denL (fun j => σ (τ j)) (enc l[i]) = denL σ (enc' l'[i]) := fun i hi hi' => by
      rw [← hel i hi hi']; exact denL_pure (hp _ (List.getElem_mem hi)) _ _
    refine ⟨by omega, fun x hx => ?_, fun hc => ?_⟩
    · obtain ⟨i, hi, rfl⟩ := List.getElem_of_mem hx
      rw [hden i hi (by omega)]
      exact hh.2.1 _ (List.getElem_mem (by omega))
    · obtain ⟨c, t, f, h1, h2, h3, h4⟩ := hh.2.2 hc
      exact ⟨c, t, f, h1, h2, h3, fun i k hi u hu => h4 i k (by omega) u (by rw [← hden i hi (by omega)]; exact hu)⟩
  · obtain ⟨rfl, hv, rfl⟩ := hb
    simp only [Blk.holds] at hh ⊢
    rcases hv with ⟨rfl, _⟩ | ⟨rfl, hp⟩
    · rw [denL_ren] at hh
      exact hh
    · rw [denL_pure hp _ σ]
      exact hh
  · rename_i cap ag α enc l cap' ag' α' enc' l'
    obtain ⟨rfl, rfl, hl⟩ := hb
    simp only [Blk.holds] at hh ⊢
    obtain ⟨s, r, h1⟩ := hh
    refine ⟨s, r, ?_⟩
    rw [h1]
    have e2 := congrArg (List.map fun x => (elM ag x).den nowhere) hl
    rw [List.map_map, List.map_map] at e2
    exact congrArg (fun l : List Value => some (Obj.chan _ l.toArray false s r false)) e2.symm

theorem Blk.imp_ok {τ : Nat → Nat} {n' : Nat} {av av' : Nat → Prop} {b b0 : Blk} (hb : b.imp τ n' b0) (hh : b0.Ok w av n) (hav : ∀ b, av' b → av b) : b.Ok w av' n' := by
  cases b <;> cases b0 <;> simp only [Blk.imp] at hb
  · rename_i l l0
    obtain ⟨rfl, hid⟩ := hb
    simp only [Blk.Ok] at hh ⊢
    exact fun s hs => (hh _ (List.mem_map.2 ⟨s, hs, rfl⟩)).unren (List.all_eq_true.1 hid s hs) hav
  · rename_i es α enc l cap es' α' enc' l' cap'
    obtain ⟨rfl, rfl, hl, hp⟩ := hb
    simp only [Blk.Ok] at hh ⊢
    intro x hx s hs
    have : enc x ∈ l'.map enc' := by rw [← hl]; exact List.mem_map.2 ⟨x, hx, rfl⟩
    obtain ⟨y, hy, hxy⟩ := List.mem_map.1 this
    exact (hh y hy s (hxy ▸ hs)).pure_mono (hp x hx s hs) hav
  · obtain ⟨rfl, hv, rfl⟩ := hb
    simp only [Blk.Ok] at hh ⊢
    rcases hv with ⟨rfl, hid⟩ | ⟨rfl, hp⟩
    · exact fun s hs => (hh _ (List.mem_map.2 ⟨s, hs, rfl⟩)).unren (List.all_eq_true.1 hid s hs) hav
    · exact fun s hs => (hh s hs).pure_mono (hp s hs) hav
  · rename_i cap ag α enc l cap' ag' α' enc' l'
    obtain ⟨rfl, rfl, hl⟩ := hb
    simp only [Blk.Ok] at hh ⊢
    intro x hx s hs
    have : enc.enc x ∈ l'.map enc'.enc := by rw [← hl]; exact List.mem_map.2 ⟨x, hx, rfl⟩
    obtain ⟨y, hy, hxy⟩ := List.mem_map.1 this
    exact (hh y hy s (hxy ▸ hs)).pure_mono (Enc.pures enc x s hs) hav

theorem Blk.imp_occ {τ : Nat → Nat} {n' : Nat} {b b0 : Blk} (hb : b.imp τ n' b0) {x y : Nat} (h : b.occ x y) : b0.occ x y :=
  h.imp (fun h => ⟨(Blk.imp_real hb).1 h.1, h.2⟩) (fun h => Blk.imp_foot hb ▸ h)
theorem Mem.imp {τ : Nat → Nat} {n' : Nat} {h' : Bs} (s : Mem B σ n h w) (hh : impH τ n' h h') (hd : noDup (h'.map fun p => τ p.1) = true) (hkn : B.k ≤ n') (hfix : ∀ j, j < B.k → τ j = j) :
    Mem B (fun j => σ (τ j)) n' h' w ∧ ∀ b, avoids B (fun j => σ (τ j)) h' b → avoids B σ h b := by
  have hav : ∀ b, avoids B (fun j => σ (τ j)) h' b → avoids B σ h b := by
    rintro b (h1 | ⟨j, k, hj, hr⟩)
    · exact .inl h1
    · obtain ⟨b0, g1, g2, _⟩ := impH_spec hh j k hj
      exact .inr ⟨τ j, b0, g1, Blk.imp_occ g2 hr⟩
  refine ⟨⟨s.frame, s.avlt, hkn, fun j hj => by rw [hfix j hj]; exact s.anch j hj, ?_, ?_, ?_, ?_, ?_⟩, hav⟩
  · intro j k hj
    obtain ⟨_, _, _, g3⟩ := impH_spec hh j k hj
    exact g3
  · intro i j k k' b hi hj hr hr'
    obtain ⟨b1, g1, g2, _⟩ := impH_spec hh i k hi
    obtain ⟨b2, g3, g4, _⟩ := impH_spec hh j k' hj
    exact noDup_inj hd i j k k' hi hj (s.injO _ _ _ _ b g1 g3 (Blk.imp_occ g2 hr) (Blk.imp_occ g4 hr'))
  · intro j k b hj hr hb
    obtain ⟨b0, g1, g2, _⟩ := impH_spec hh j k hj
    exact s.ownO _ _ _ g1 (Blk.imp_occ g2 hr) hb
  · intro j k hj
    obtain ⟨b0, g1, g2, _⟩ := impH_spec hh j k hj
    exact Blk.imp_holds g2 (s.holds _ _ g1)
  · intro j k hj
    obtain ⟨b0, g1, g2, _⟩ := impH_spec hh j k hj
    exact Blk.imp_ok g2 (s.ok _ _ g1) hav

theorem Sat.imp {n' : Nat} {e' : Env} {h' : Bs} (s : Sat B nt σ n e h a w) (hi : Imp B.k n e h n' e' h') : ∃ σ', Sat B nt σ' n' e' h' a w := by
  obtain ⟨τ, he, hh, hd, hkn, hfix⟩ := hi
  obtain ⟨hm, hav⟩ := s.mem.imp hh hd hkn hfix
  refine ⟨_, hm, s.defers, s.size, fun q m hq => ?_, fun q m hq => ?_⟩
  · obtain ⟨m0, g1, g2, _⟩ := impE_spec he q m hq
    rw [s.env q m0 g1, ← g2, M.den_ren]
  · obtain ⟨m0, g1, g2, g3⟩ := impE_spec he q m hq
    exact (g2 ▸ s.ok q m0 g1 : (m.ren τ).Ok w _ n).unren g3 hav

end
end Go.Sx
