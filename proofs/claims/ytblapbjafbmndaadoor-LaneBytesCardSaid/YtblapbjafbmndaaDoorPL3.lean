/- How many sides a proof must have. -/
import Derived.Test.YtblapbjafbmndaaDoorPL2
import Derived.Test.YtblapbjafbmndaaDoorSx24
namespace Go.Proofs.YtblapbjafbmndaaDoor
open Go Go.Sx Go.Sha
set_option linter.unusedVariables false
set_option linter.unusedSimpArgs false
set_option maxRecDepth 100000
set_option maxHeartbeats 4000000

theorem halfc (c : Nat) (h : c < 100000000) : IntKind.i64.wrap (Int.tdiv (IntKind.i64.wrap ((c : Int) + 1)) 2) = (((c + 1) / 2 : Nat) : Int) := by
  rw [show IntKind.i64.wrap ((c : Int) + 1) = ((c + 1 : Nat) : Int) from inext (Nat.lt_trans h (by decide))]
  exact half_i (c + 1) (by omega)
theorem subc (c : Nat) (h : c < 1000000000) : IntKind.i64.wrap ((c : Int) - IntKind.i64.wrap (Int.tdiv (c : Int) 2)) = (((c + 1) / 2 : Nat) : Int) := by
  rw [half_i c h, wrap64 (by omega) (by omega)]
  omega
theorem odd_i (a : Nat) : (Int.tmod (a : Int) 2 == 1) = Nat.beq (a % 2) 1 := by
  rw [Int.tmod_eq_emod_of_nonneg (Int.natCast_nonneg a)]
  by_cases h : a % 2 = 1
  · rw [h, show ((a : Int) % 2) = 1 by omega]; rfl
  · rw [show a % 2 = 0 by omega, show ((a : Int) % 2) = 0 by omega]; rfl
theorem side_lt {a c : Nat} (h : a < c) : Nat.blt (sideN a) c = (Nat.beq (a % 2) 1 || decide ((a : Int) + 1 < c)) := by
  unfold sideN
  by_cases h1 : a % 2 = 1
  · rw [h1]
    show Nat.ble (a - 1 + 1) c = (true || _)
    rw [Bool.true_or]
    exact Nat.ble_eq_true_of_le (by omega)
  · rw [show a % 2 = 0 by omega]
    show Nat.ble (a + 1 + 1) c = (false || _)
    rw [Bool.false_or]
    by_cases h2 : (a : Int) + 1 < c
    · rw [decide_eq_true h2]; exact Nat.ble_eq_true_of_le (by omega)
    · rw [decide_eq_false h2]; exact bleF (by omega)
structure ClT (N : Nat) where
  a : Nat
  c : Nat
  f : Nat
  n : Nat
  hc : c ≤ 65536
  ha : a < c
  hf : c ≤ f
  hs : n + (climbF f a c).length = N
  hN : N ≤ 100
abbrev climbN (a c : Nat) : Nat := (climbF c a c).length
theorem climbN_le {a c : Nat} (h : c ≤ 65536) : climbN a c ≤ 16 := climbF_len _ _ _ 16 (by omega)
abbrev rgI (N : Nat) (box : List SV) : List (Nat × Inv) := [(0, ⟨ClT N, fun p => ⟨2, [(0, int p.a), (1, int p.c), (2, .one (.clo 106 [.ptr 1 0]))], [(0, .cells box), (1, .cells [.v (.int .i64 p.n)])]⟩, fun p => p.c, fun _ _ => True⟩)]
abbrev pbx (x : Value) (p : Int × Int) (s : List (List Int)) : List SV := [.v (.int .i64 p.1), .v (.int .i64 p.2), .view x 32 H32.enc s]
theorem right_spec (x : Value) (p : Int × Int) (s : List (List Int)) (hs : s.length < 9223372036854775808) : SFun Tryd.prog 68 [pfM x p s] (bool (rightP p.1 p.2 s.length)) := by
  refine SFun.inm [] SOK.nil [] MSOK.nil tok mixed [(90, ⟨Tryd.f90, false, (rgI (climbN p.1.toNat p.2.toNat) (pbx x p s)), []⟩), (106, ⟨Tryd.f106, false, [], []⟩)] (IOK.cons Tryd.func90 Tryd.call90 (IOK.cons Tryd.func106 Tryd.call106 IOK.nil)) false [] [] Tryd.call68 Tryd.func68 rfl (by rfl) ?_
  refine Eq.mp (α := (@Bool.rec (fun _ => Prop) (@Bool.rec (fun _ => Prop) (@Bool.rec (fun _ => Prop) (∃ i0 : ClT (climbN (Int.toNat (Prod.fst p)) (Int.toNat (Prod.snd p))), (And (And True (And (And ((↑(ClT.a i0) : Int) = Prod.fst p) (And ((↑(ClT.c i0) : Int) = Prod.snd p) (And (And ((106 : Nat) = (106 : Nat)) (And ((true : Bool) = true) True)) True))) (And (And (And (Prod.fst p = Prod.fst p) (And (Prod.snd p = Prod.snd p) (And (SV.view x (32 : Nat) (Enc.enc H32) s = SV.view x (32 : Nat) (Enc.enc H32) s) True))) (And ((true : Bool) = true) (And (And ((↑(ClT.n i0) : Int) = (0 : Int)) True) (And ((true : Bool) = true) True)))) ((true : Bool) = true)))) (∀ i : ClT (climbN (Int.toNat (Prod.fst p)) (Int.toNat (Prod.snd p))), (∀ a : True, (@Bool.rec (fun _ => Prop) (And (M.one (SV.v (Value.bool ((↑(ClT.n i) : Int) == (↑(List.length s) : Int)))) = M.one (SV.v (Value.bool (rightP (Prod.fst p) (Prod.snd p) (List.length s))))) ((true : Bool) = true)) (@Bool.rec (fun _ => Prop) (And ((2 : Int) ≠ (0 : Int)) (And ((2 : Int) ≠ (0 : Int)) (∃ i' : ClT (climbN (Int.toNat (Prod.fst p)) (Int.toNat (Prod.snd p))), (And (And (ClT.c i' < ClT.c i) True) (And (And ((↑(ClT.a i') : Int) = IntKind.wrap IntKind.i64 (Int.tdiv (↑(ClT.a i) : Int) (2 : Int))) (And ((↑(ClT.c i') : Int) = IntKind.wrap IntKind.i64 (Int.tdiv (IntKind.wrap IntKind.i64 ((↑(ClT.c i) : Int) + (1 : Int))) (2 : Int))) (And (And ((106 : Nat) = (106 : Nat)) (And ((true : Bool) = true) True)) True))) (And (And (And (Prod.fst p = Prod.fst p) (And (Prod.snd p = Prod.snd p) (And (SV.view x (32 : Nat) (Enc.enc H32) s = SV.view x (32 : Nat) (Enc.enc H32) s) True))) (And ((true : Bool) = true) (And (And ((↑(ClT.n i') : Int) = (↑(ClT.n i) : Int)) True) (And ((true : Bool) = true) True)))) ((true : Bool) = true))))))) (And ((2 : Int) ≠ (0 : Int)) (And ((2 : Int) ≠ (0 : Int)) (And ((2 : Int) ≠ (0 : Int)) (∃ i' : ClT (climbN (Int.toNat (Prod.fst p)) (Int.toNat (Prod.snd p))), (And (And (ClT.c i' < ClT.c i) True) (And (And ((↑(ClT.a i') : Int) = IntKind.wrap IntKind.i64 (Int.tdiv (↑(ClT.a i) : Int) (2 : Int))) (And ((↑(ClT.c i') : Int) = IntKind.wrap IntKind.i64 (Int.tdiv (IntKind.wrap IntKind.i64 ((↑(ClT.c i) : Int) + (1 : Int))) (2 : Int))) (And (And ((106 : Nat) = (106 : Nat)) (And ((true : Bool) = true) True)) True))) (And (And (And (Prod.fst p = Prod.fst p) (And (Prod.snd p = Prod.snd p) (And (SV.view x (32 : Nat) (Enc.enc H32) s = SV.view x (32 : Nat) (Enc.enc H32) s) True))) (And ((true : Bool) = true) (And (And ((↑(ClT.n i') : Int) = IntKind.wrap IntKind.i64 ((↑(ClT.n i) : Int) + (1 : Int))) True) (And ((true : Bool) = true) True)))) ((true : Bool) = true)))))))) (decide (Sx.bits BinOp.xor IntKind.i64 (↑(ClT.a i) : Int) (1 : Int) < (↑(ClT.c i) : Int)))) (decide ((1 : Int) < (↑(ClT.c i) : Int)))))))) (And (M.one (SV.v (Value.bool false)) = M.one (SV.v (Value.bool (rightP (Prod.fst p) (Prod.snd p) (List.length s))))) ((true : Bool) = true)) (decide (Prod.snd p ≤ Prod.fst p))) (And (M.one (SV.v (Value.bool false)) = M.one (SV.v (Value.bool (rightP (Prod.fst p) (Prod.snd p) (List.length s))))) ((true : Bool) = true)) (decide (Prod.fst p < (0 : Int)))) (And (M.one (SV.v (Value.bool false)) = M.one (SV.v (Value.bool (rightP (Prod.fst p) (Prod.snd p) (List.length s))))) ((true : Bool) = true)) (decide ((65536 : Int) < Prod.snd p)))) (by kernel_rfl) ?_
  unfold rightP
  refine bif_dec (fun h1 => ?_) (fun h1 => ?_)
  · rw [decide_eq_false (by omega)]
    exact ⟨rfl, rfl⟩
  refine bif_dec (fun h2 => ?_) (fun h2 => ?_)
  · rw [decide_eq_false (p := 0 ≤ p.1) (by omega), Bool.and_comm]
    exact ⟨rfl, rfl⟩
  refine bif_dec (fun h3 => ?_) (fun h3 => ?_)
  · rw [decide_eq_false (p := p.1 < p.2) (by omega), Bool.false_and, Bool.and_false, Bool.and_false]
    exact ⟨rfl, rfl⟩
  rw [decide_eq_true (p := p.2 ≤ 65536) (by omega), decide_eq_true (p := 0 ≤ p.1) (by omega), decide_eq_true (p := p.1 < p.2) (by omega), Bool.true_and, Bool.true_and, Bool.true_and]
  have hN := climbN_le (a := p.1.toNat) (c := p.2.toNat) (by omega)
  refine ⟨⟨p.1.toNat, p.2.toNat, p.2.toNat, 0, by omega, by omega, Nat.le_refl _, Nat.zero_add _, by omega⟩, ?_, ?_⟩
  · dsimp only
    repeat' first | exact trivial | refine And.intro ?_ ?_ | with_reducible refine bif_dt (by assumption) ?_ | with_reducible refine bif_df (by assumption) ?_ | with_reducible refine bif_dec (fun _ => ?_) (fun _ => ?_) | with_reducible refine bif_not ?_ | with_reducible refine bif_and ?_ | with_reducible refine bif_or ?_ | with_reducible refine bif_t (by assumption) ?_ | with_reducible refine bif_f (by assumption) ?_ | with_reducible refine bif_t (beq_self_eq_true _) ?_ | with_reducible refine bif_b (fun _ => ?_) (fun _ => ?_) | with_reducible refine ⟨_, Eq.refl (List.map _ _), ?_⟩ | (with_reducible refine Exists.intro (by omega) ?_) | rfl | (intro h0; omega) | omega
  rintro ⟨a, c, f, n, hc, ha, hf, hs1, hN1⟩ -
  dsimp only
  refine bif_dec (fun h4 => ?_) (fun h4 => ?_)
  rotate_left
  · have hn : n = climbN p.1.toNat p.2.toNat := by
      rw [climbF_end (by omega)] at hs1
      simpa using hs1
    rw [show (climbF p.2.toNat p.1.toNat p.2.toNat).length = n from hn.symm]
    have : ((n : Int) == (s.length : Int)) = Nat.beq n s.length := by
      by_cases e : n = s.length
      · rw [e, Nat.beq_refl]; exact beq_self_eq_true _
      · rw [beqF e]
        exact beq_eq_false_iff_ne.2 (fun h => e (by omega))
    rw [this]
    exact ⟨rfl, rfl⟩
  obtain ⟨g, rfl, hg, hstep⟩ := climbF_step (a := a) (show 1 < c by omega) hf
  have hx : Sx.bits .xor .i64 (a : Int) 1 = ((sideN a : Nat) : Int) := xor1 (by omega) (by omega)
  have w3 : IntKind.i64.wrap ((n : Int) + 1) = ((n + 1 : Nat) : Int) := inext (by omega)
  rw [hstep, List.length_append] at hs1
  simp only [hx, half_i a (by omega), halfc c (by omega), w3]
  refine bif_dec (fun h5 => ?_) (fun h5 => ?_)
  · have hb : Nat.blt (sideN a) c = true := Nat.ble_eq_true_of_le (show sideN a + 1 ≤ c by omega)
    rw [hb] at hs1
    have hs1 : n + (1 + (climbF g (a / 2) ((c + 1) / 2)).length) = climbN p.1.toNat p.2.toNat := hs1
    refine ⟨by decide, by decide, by decide, ⟨a / 2, (c + 1) / 2, g, n + 1, by omega, by omega, hg, by omega, hN1⟩, ⟨show (c + 1) / 2 < c by omega, trivial⟩, ?_⟩
    repeat' first | exact trivial | refine And.intro ?_ ?_ | with_reducible refine bif_dt (by assumption) ?_ | with_reducible refine bif_df (by assumption) ?_ | with_reducible refine bif_dec (fun _ => ?_) (fun _ => ?_) | with_reducible refine bif_not ?_ | with_reducible refine bif_and ?_ | with_reducible refine bif_or ?_ | with_reducible refine bif_t (by assumption) ?_ | with_reducible refine bif_f (by assumption) ?_ | with_reducible refine bif_t (beq_self_eq_true _) ?_ | with_reducible refine bif_b (fun _ => ?_) (fun _ => ?_) | with_reducible refine ⟨_, Eq.refl (List.map _ _), ?_⟩ | (with_reducible refine Exists.intro (by omega) ?_) | rfl | (intro h0; omega) | omega
  · have hb : Nat.blt (sideN a) c = false := bleF (show ¬ sideN a + 1 ≤ c by omega)
    rw [hb] at hs1
    have hs1 : n + (0 + (climbF g (a / 2) ((c + 1) / 2)).length) = climbN p.1.toNat p.2.toNat := hs1
    refine ⟨by decide, by decide, ⟨a / 2, (c + 1) / 2, g, n, by omega, by omega, hg, by omega, hN1⟩, ⟨show (c + 1) / 2 < c by omega, trivial⟩, ?_⟩
    repeat' first | exact trivial | refine And.intro ?_ ?_ | with_reducible refine bif_dt (by assumption) ?_ | with_reducible refine bif_df (by assumption) ?_ | with_reducible refine bif_dec (fun _ => ?_) (fun _ => ?_) | with_reducible refine bif_not ?_ | with_reducible refine bif_and ?_ | with_reducible refine bif_or ?_ | with_reducible refine bif_t (by assumption) ?_ | with_reducible refine bif_f (by assumption) ?_ | with_reducible refine bif_t (beq_self_eq_true _) ?_ | with_reducible refine bif_b (fun _ => ?_) (fun _ => ?_) | with_reducible refine ⟨_, Eq.refl (List.map _ _), ?_⟩ | (with_reducible refine Exists.intro (by omega) ?_) | rfl | (intro h0; omega) | omega
def rightT : MT := fun ms n h K => match ms with
  | [.agg [.v (.int .i64 p1), .v (.int .i64 p2), .view vx0 ve0 en0 vl0]] => bif Nat.beq ve0 32 && noDup [] then ∃ s : List (List Int), vl0.map en0 = s.map eH ∧ (s.length < 9223372036854775808) ∧ (∀ o : Unit, K (n + 0) (bool (rightP p1 p2 s.length)) ([] ++ delL [] h)) else False
  | _ => False
theorem right_mono : MMono rightT := by
  intro ms n h K K' hkk hk
  unfold rightT at hk ⊢
  split at hk
  · rename_i p1 p2 vx0 ve0 va0 en0 vl0
    obtain ⟨hb, y0, z0, h1, h2⟩ := cond_false_elim hk
    rw [hb]
    exact ⟨y0, z0, h1, fun o => hkk _ _ _ (h2 o)⟩
  · exact hk.elim
theorem right_ok : MOK Tryd.prog 68 rightT := by
  refine ⟨?_, right_mono⟩
  intro ms n hB K hk
  unfold rightT at hk
  split at hk
  · rename_i p1 p2 vx0 ve0 va0 en0 vl0
    obtain ⟨hb, s, he0, h, hk2⟩ := cond_false_elim hk
    clear hk
    simp only [Bool.and_eq_true] at hb
    obtain ⟨hc0, hnd⟩ := hb
    have hs0 := Nat.eq_of_beq_eq_true hc0
    subst hs0
    refine SCall.seen ?_ (.cons (.agg (.refl (.refl (.view he0 .nil)))) .nil)
    exact ((right_spec _ (p1, p2) s h).mem rfl).use (fun _ => 0) rfl rfl trivial hnd (fun j hj => absurd hj (Nat.not_lt_zero j)) (fun o => hk2 o)
  · exact hk.elim

theorem sides_spec {a c : Nat} (h : a < c) (h2 : c ≤ 65536) : SFun Tryd.prog 110 [int a, int c] (int (climbN a c)) := by
  refine SFun.inm [] SOK.nil [] MSOK.nil tok mixed [] IOK.nil false [(2, ⟨ClT (climbN a c), fun p => ⟨0, [(0, int p.a), (1, int p.c), (5, int p.n)], []⟩, fun p => p.c, fun _ _ => True⟩)] [] Tryd.call110 Tryd.func110 rfl (by rfl) ?_
  refine Eq.mp (α := (∃ i0 : ClT (climbN a c), (And (And True (And (And ((↑(ClT.a i0) : Int) = (↑a : Int)) (And ((↑(ClT.c i0) : Int) = (↑c : Int)) (And ((↑(ClT.n i0) : Int) = (0 : Int)) True))) (And True ((true : Bool) = true)))) (∀ i : ClT (climbN a c), (∀ a_1 : True, (@Bool.rec (fun _ => Prop) (And (M.one (SV.v (Value.int IntKind.i64 (↑(ClT.n i) : Int))) = M.one (SV.v (Value.int IntKind.i64 (↑(climbN a c) : Int)))) ((true : Bool) = true)) (And ((2 : Int) ≠ (0 : Int)) (@Bool.rec (fun _ => Prop) (@Bool.rec (fun _ => Prop) (And ((2 : Int) ≠ (0 : Int)) (And ((2 : Int) ≠ (0 : Int)) (∃ i' : ClT (climbN a c), (And (And (ClT.c i' < ClT.c i) True) (And (And ((↑(ClT.a i') : Int) = IntKind.wrap IntKind.i64 (Int.tdiv (↑(ClT.a i) : Int) (2 : Int))) (And ((↑(ClT.c i') : Int) = IntKind.wrap IntKind.i64 ((↑(ClT.c i) : Int) - IntKind.wrap IntKind.i64 (Int.tdiv (↑(ClT.c i) : Int) (2 : Int)))) (And ((↑(ClT.n i') : Int) = (↑(ClT.n i) : Int)) True))) (And True ((true : Bool) = true))))))) (And ((2 : Int) ≠ (0 : Int)) (And ((2 : Int) ≠ (0 : Int)) (∃ i' : ClT (climbN a c), (And (And (ClT.c i' < ClT.c i) True) (And (And ((↑(ClT.a i') : Int) = IntKind.wrap IntKind.i64 (Int.tdiv (↑(ClT.a i) : Int) (2 : Int))) (And ((↑(ClT.c i') : Int) = IntKind.wrap IntKind.i64 ((↑(ClT.c i) : Int) - IntKind.wrap IntKind.i64 (Int.tdiv (↑(ClT.c i) : Int) (2 : Int)))) (And ((↑(ClT.n i') : Int) = IntKind.wrap IntKind.i64 ((↑(ClT.n i) : Int) + (1 : Int))) True))) (And True ((true : Bool) = true))))))) (decide (IntKind.wrap IntKind.i64 ((↑(ClT.a i) : Int) + (1 : Int)) < (↑(ClT.c i) : Int)))) (And ((2 : Int) ≠ (0 : Int)) (And ((2 : Int) ≠ (0 : Int)) (∃ i' : ClT (climbN a c), (And (And (ClT.c i' < ClT.c i) True) (And (And ((↑(ClT.a i') : Int) = IntKind.wrap IntKind.i64 (Int.tdiv (↑(ClT.a i) : Int) (2 : Int))) (And ((↑(ClT.c i') : Int) = IntKind.wrap IntKind.i64 ((↑(ClT.c i) : Int) - IntKind.wrap IntKind.i64 (Int.tdiv (↑(ClT.c i) : Int) (2 : Int)))) (And ((↑(ClT.n i') : Int) = IntKind.wrap IntKind.i64 ((↑(ClT.n i) : Int) + (1 : Int))) True))) (And True ((true : Bool) = true))))))) (Int.tmod (↑(ClT.a i) : Int) (2 : Int) == (1 : Int)))) (decide ((1 : Int) < (↑(ClT.c i) : Int))))))))) (by kernel_rfl) ?_
  have hN := climbN_le (a := a) (c := c) h2
  refine ⟨⟨a, c, c, 0, h2, h, Nat.le_refl _, Nat.zero_add _, by omega⟩, ?_, ?_⟩
  ·
    repeat' first | exact trivial | refine And.intro ?_ ?_ | with_reducible refine bif_dt (by assumption) ?_ | with_reducible refine bif_df (by assumption) ?_ | with_reducible refine bif_dec (fun _ => ?_) (fun _ => ?_) | with_reducible refine bif_not ?_ | with_reducible refine bif_and ?_ | with_reducible refine bif_or ?_ | with_reducible refine bif_t (by assumption) ?_ | with_reducible refine bif_f (by assumption) ?_ | with_reducible refine bif_t (beq_self_eq_true _) ?_ | with_reducible refine bif_b (fun _ => ?_) (fun _ => ?_) | with_reducible refine ⟨_, Eq.refl (List.map _ _), ?_⟩ | (with_reducible refine Exists.intro (by omega) ?_) | rfl | (intro h0; omega) | omega
  rintro ⟨a1, c1, f, n, hc, ha, hf, hs1, hN1⟩ -
  dsimp only
  refine bif_dec (fun h4 => ?_) (fun h4 => ?_)
  rotate_left
  · have hn : n = climbN a c := by
      rw [climbF_end (by omega)] at hs1
      simpa using hs1
    rw [← hn]
    exact ⟨rfl, rfl⟩
  obtain ⟨g, rfl, hg, hstep⟩ := climbF_step (a := a1) (show 1 < c1 by omega) hf
  have w3 : IntKind.i64.wrap ((n : Int) + 1) = ((n + 1 : Nat) : Int) := inext (by omega)
  have w4 : IntKind.i64.wrap ((a1 : Int) + 1) = ((a1 + 1 : Nat) : Int) := inext (by omega)
  have hsl := side_lt ha
  rw [hstep, List.length_append] at hs1
  simp only [odd_i, half_i a1 (by omega), subc c1 (by omega), w3, w4]
  refine ⟨by decide, ?_⟩
  refine bif_b (fun h5 => ?_) (fun h5 => ?_)
  · rw [hsl, h5] at hs1
    have hs1 : n + (1 + (climbF g (a1 / 2) ((c1 + 1) / 2)).length) = climbN a c := hs1
    refine ⟨by decide, by decide, ⟨a1 / 2, (c1 + 1) / 2, g, n + 1, by omega, by omega, hg, by omega, hN1⟩, ⟨show (c1 + 1) / 2 < c1 by omega, trivial⟩, ?_⟩
    repeat' first | exact trivial | refine And.intro ?_ ?_ | with_reducible refine bif_dt (by assumption) ?_ | with_reducible refine bif_df (by assumption) ?_ | with_reducible refine bif_dec (fun _ => ?_) (fun _ => ?_) | with_reducible refine bif_not ?_ | with_reducible refine bif_and ?_ | with_reducible refine bif_or ?_ | with_reducible refine bif_t (by assumption) ?_ | with_reducible refine bif_f (by assumption) ?_ | with_reducible refine bif_t (beq_self_eq_true _) ?_ | with_reducible refine bif_b (fun _ => ?_) (fun _ => ?_) | with_reducible refine ⟨_, Eq.refl (List.map _ _), ?_⟩ | (with_reducible refine Exists.intro (by omega) ?_) | rfl | (intro h0; omega) | omega
  refine bif_dec (fun h6 => ?_) (fun h6 => ?_)
  · rw [hsl, h5, decide_eq_true (by omega)] at hs1
    have hs1 : n + (1 + (climbF g (a1 / 2) ((c1 + 1) / 2)).length) = climbN a c := hs1
    refine ⟨by decide, by decide, ⟨a1 / 2, (c1 + 1) / 2, g, n + 1, by omega, by omega, hg, by omega, hN1⟩, ⟨show (c1 + 1) / 2 < c1 by omega, trivial⟩, ?_⟩
    repeat' first | exact trivial | refine And.intro ?_ ?_ | with_reducible refine bif_dt (by assumption) ?_ | with_reducible refine bif_df (by assumption) ?_ | with_reducible refine bif_dec (fun _ => ?_) (fun _ => ?_) | with_reducible refine bif_not ?_ | with_reducible refine bif_and ?_ | with_reducible refine bif_or ?_ | with_reducible refine bif_t (by assumption) ?_ | with_reducible refine bif_f (by assumption) ?_ | with_reducible refine bif_t (beq_self_eq_true _) ?_ | with_reducible refine bif_b (fun _ => ?_) (fun _ => ?_) | with_reducible refine ⟨_, Eq.refl (List.map _ _), ?_⟩ | (with_reducible refine Exists.intro (by omega) ?_) | rfl | (intro h0; omega) | omega
  · rw [hsl, h5, decide_eq_false (by omega)] at hs1
    have hs1 : n + (0 + (climbF g (a1 / 2) ((c1 + 1) / 2)).length) = climbN a c := hs1
    refine ⟨by decide, by decide, ⟨a1 / 2, (c1 + 1) / 2, g, n, by omega, by omega, hg, by omega, hN1⟩, ⟨show (c1 + 1) / 2 < c1 by omega, trivial⟩, ?_⟩
    repeat' first | exact trivial | refine And.intro ?_ ?_ | with_reducible refine bif_dt (by assumption) ?_ | with_reducible refine bif_df (by assumption) ?_ | with_reducible refine bif_dec (fun _ => ?_) (fun _ => ?_) | with_reducible refine bif_not ?_ | with_reducible refine bif_and ?_ | with_reducible refine bif_or ?_ | with_reducible refine bif_t (by assumption) ?_ | with_reducible refine bif_f (by assumption) ?_ | with_reducible refine bif_t (beq_self_eq_true _) ?_ | with_reducible refine bif_b (fun _ => ?_) (fun _ => ?_) | with_reducible refine ⟨_, Eq.refl (List.map _ _), ?_⟩ | (with_reducible refine Exists.intro (by omega) ?_) | rfl | (intro h0; omega) | omega
theorem sides_spec' {a c : Int} (h : 0 ≤ a ∧ a < c ∧ c ≤ 65536) : SFun Tryd.prog 110 [int a, int c] (int (climbN a.toNat c.toNat : Nat)) := by
  have := sides_spec (a := a.toNat) (c := c.toNat) (by omega) (by omega)
  rwa [show ((a.toNat : Nat) : Int) = a by omega, show ((c.toNat : Nat) : Int) = c by omega] at this
def sidesT : List M → (M → Prop) → Prop
  | [.one (.v (.int .i64 a)), .one (.v (.int .i64 c))], K => (0 ≤ a ∧ a < c ∧ c ≤ 65536) ∧ K (int (climbN a.toNat c.toNat : Nat))
  | _, _ => False
theorem sides_ok : POK Tryd.prog 110 sidesT := by
  intro ms K h
  unfold sidesT at h ⊢
  split at h
  · exact ⟨_, h.2, (sides_spec' h.1), rfl, fun _ hk => ⟨h.1, hk⟩⟩
  · exact h.elim

theorem rright_spec (x : Value) (p : Int × Int) (s : List (List Int)) (hs : s.length < 9223372036854775808) : SFun Tryd.prog 73 [pfM x p s] (bool (rightP p.1 p.2 s.length)) := by
  refine SFun.inm [(110, sidesT)] (SOK.cons sides_ok SOK.nil) [] MSOK.nil tok mixed [] IOK.nil true [] [] Tryd.call73 Tryd.func73 rfl (by rfl) ?_
  refine Eq.mp (α := (@Bool.rec (fun _ => Prop) (And (M.one (SV.v (Value.bool false)) = M.one (SV.v (Value.bool (rightP (Prod.fst p) (Prod.snd p) (List.length s))))) ((true : Bool) = true)) (@Bool.rec (fun _ => Prop) (And (M.one (SV.v (Value.bool false)) = M.one (SV.v (Value.bool (rightP (Prod.fst p) (Prod.snd p) (List.length s))))) ((true : Bool) = true)) (@Bool.rec (fun _ => Prop) (And (M.one (SV.v (Value.bool false)) = M.one (SV.v (Value.bool (rightP (Prod.fst p) (Prod.snd p) (List.length s))))) ((true : Bool) = true)) (And (And ((0 : Int) ≤ Prod.fst p) (And (Prod.fst p < Prod.snd p) (Prod.snd p ≤ (65536 : Int)))) (And (M.one (SV.v (Value.bool ((↑(List.length s) : Int) == (↑(climbN (Int.toNat (Prod.fst p)) (Int.toNat (Prod.snd p))) : Int)))) = M.one (SV.v (Value.bool (rightP (Prod.fst p) (Prod.snd p) (List.length s))))) ((true : Bool) = true))) (decide (Prod.fst p < Prod.snd p))) (decide ((0 : Int) ≤ Prod.fst p))) (decide (Prod.snd p ≤ (65536 : Int))))) (by kernel_rfl) ?_
  unfold rightP
  refine bif_dec (fun h1 => ?_) (fun h1 => ?_)
  rotate_left
  · rw [decide_eq_false h1]
    exact ⟨rfl, rfl⟩
  refine bif_dec (fun h2 => ?_) (fun h2 => ?_)
  rotate_left
  · rw [decide_eq_false h2, Bool.and_comm]
    exact ⟨rfl, rfl⟩
  refine bif_dec (fun h3 => ?_) (fun h3 => ?_)
  rotate_left
  · rw [decide_eq_false h3, Bool.false_and, Bool.and_false, Bool.and_false]
    exact ⟨rfl, rfl⟩
  rw [decide_eq_true h1, decide_eq_true h2, decide_eq_true h3, Bool.true_and, Bool.true_and, Bool.true_and]
  have e : ∀ n m : Nat, ((m : Int) == (n : Int)) = Nat.beq n m := by
    intro n m
    by_cases e : n = m
    · rw [e, Nat.beq_refl]; exact beq_self_eq_true _
    · rw [beqF e]
      exact beq_eq_false_iff_ne.2 (fun h => e (by omega))
  rw [e]
  exact ⟨⟨h2, h3, h1⟩, rfl, rfl⟩
def rrightT : MT := fun ms n h K => match ms with
  | [.agg [.v (.int .i64 p1), .v (.int .i64 p2), .view vx0 ve0 en0 vl0]] => bif Nat.beq ve0 32 && noDup [] then ∃ s : List (List Int), vl0.map en0 = s.map eH ∧ (s.length < 9223372036854775808) ∧ (∀ o : Unit, K (n + 0) (bool (rightP p1 p2 s.length)) ([] ++ delL [] h)) else False
  | _ => False
theorem rright_mono : MMono rrightT := by
  intro ms n h K K' hkk hk
  unfold rrightT at hk ⊢
  split at hk
  · rename_i p1 p2 vx0 ve0 va0 en0 vl0
    obtain ⟨hb, y0, z0, h1, h2⟩ := cond_false_elim hk
    rw [hb]
    exact ⟨y0, z0, h1, fun o => hkk _ _ _ (h2 o)⟩
  · exact hk.elim
theorem rright_ok : MOK Tryd.prog 73 rrightT := by
  refine ⟨?_, rright_mono⟩
  intro ms n hB K hk
  unfold rrightT at hk
  split at hk
  · rename_i p1 p2 vx0 ve0 va0 en0 vl0
    obtain ⟨hb, s, he0, h, hk2⟩ := cond_false_elim hk
    clear hk
    simp only [Bool.and_eq_true] at hb
    obtain ⟨hc0, hnd⟩ := hb
    have hs0 := Nat.eq_of_beq_eq_true hc0
    subst hs0
    refine SCall.seen ?_ (.cons (.agg (.refl (.refl (.view he0 .nil)))) .nil)
    exact ((rright_spec _ (p1, p2) s h).mem rfl).use (fun _ => 0) rfl rfl trivial hnd (fun j hj => absurd hj (Nat.not_lt_zero j)) (fun o => hk2 o)
  · exact hk.elim

end Go.Proofs.YtblapbjafbmndaaDoor

namespace Go.Proofs.YtblapbjafbmndaaDoor
open Go Go.Sx Go.Sha
set_option linter.unusedVariables false
set_option linter.unusedSimpArgs false
set_option maxRecDepth 100000
set_option maxHeartbeats 4000000

noncomputable def upF (p : Int × Int) (b : List Int) (s : List (List Int)) : List Int := foldS prF (itF p.1 b) s (climbF p.2.toNat p.1.toNat p.2.toNat)
noncomputable def checkF (root b : List Int) (p : Int × Int) (s : List (List Int)) : Int := bif rightP p.1 p.2 s.length then (bif topF p.2 (upF p b s) != root then 22 else 0) else 21
structure FoT (F : List Int) where
  a : Nat
  c : Nat
  f : Nat
  h : List Int
  s : List (List Int)
  y : Value
  hc : c ≤ 65536
  ha : a < c
  hf : c ≤ f
  hs : foldS prF h s (climbF f a c) = F
  hl : s.length = (climbF f a c).length
  ok : Ok32 s
  h1 : h.length = 32
  h2 : By h
noncomputable abbrev ckI (F root : List Int) (box : List SV) : List (Nat × Inv) := [(0, ⟨FoT F, fun p => ⟨4, [(0, int p.a), (1, int p.c), (2, .one (.clo 91 [.ptr 3 0, .ptr 2 0]))], [(0, .cells [.ints .u8 32 root]), (1, .cells box), (2, .cells [.ints .u8 32 p.h]), (3, .cells [.view p.y 32 H32.enc p.s])]⟩, fun p => p.c, fun _ _ => True⟩)]
theorem rightP_true {a c : Int} {n : Nat} (h : rightP a c n = true) : 0 ≤ a ∧ a < c ∧ c ≤ 65536 ∧ climbN a.toNat c.toNat = n := by
  unfold rightP at h
  simp only [Bool.and_eq_true, decide_eq_true_eq] at h
  exact ⟨h.2.1, h.2.2.1, h.1, Nat.eq_of_beq_eq_true h.2.2.2⟩
theorem check_spec (x y : Value) {root b : List Int} (p : Int × Int) {s : List (List Int)} (hr : root.length = 32) (hb : By b) (hbl : b.length ≤ 1000000000) (hs : s.length < 9223372036854775808) (ok : Ok32 s) :
    SFun Tryd.prog 46 [h32 root, byV x b, pfM y p s] (int (checkF root b p s)) := by
  refine SFun.inm [(89, itemT), (26, pairT), (86, topT)] (SOK.cons item_ok (SOK.cons pair_ok (SOK.cons top_ok SOK.nil))) [(68, rightT)] (MSOK.cons right_ok MSOK.nil) tok mixed [(90, ⟨Tryd.f90, false, (ckI (upF p b s) root (pbx y p s)), []⟩), (91, ⟨Tryd.f91, false, [], []⟩)] (IOK.cons Tryd.func90 Tryd.call90 (IOK.cons Tryd.func91 Tryd.call91 IOK.nil)) false [(100004, ⟨Unit, fun _ => ⟨4, [(3, .one (.ptr 0 0)), (5, .one (.ptr 1 0)), (7, .one (.ptr 2 0)), (8, .one (.ptr 3 0))], [(0, .cells [.ints .u8 32 root]), (1, .cells (pbx y p s)), (2, .cells [.ints .u8 32 (itF p.1 b)]), (3, .cells [.view y 32 H32.enc s])]⟩, fun _ => 0, fun _ _ => True⟩)] [] Tryd.call46 Tryd.func46 rfl (by rfl) ?_
  refine Eq.mp (α := (∃ s_1 : List (List Int), (And (List.map (Enc.enc H32) s = List.map eH s_1) (And (List.length s_1 < (9223372036854775808 : Nat)) (∀ o : Unit, (@Bool.rec (fun _ => Prop) (And (∃ b_1 : List Int, (And (List.map (Enc.enc (encInt IntKind.u8)) b = List.map eB b_1) (And (And ((0 : Int) ≤ Prod.fst p) (And (Prod.fst p < (9223372036854775808 : Int)) (And (∀ x_1 : Int, (∀ a : x_1 ∈ b_1, (And ((0 : Int) ≤ x_1) (x_1 < (256 : Int))))) (List.length b_1 ≤ (1000000000 : Nat))))) (And (And (And (And (And (∃ i : Unit, (And (And (And ((true : Bool) = true) ((0 : Nat) = (0 : Nat))) (And (And ((true : Bool) = true) ((0 : Nat) = (0 : Nat))) (And (And ((true : Bool) = true) ((0 : Nat) = (0 : Nat))) (And (And ((true : Bool) = true) ((0 : Nat) = (0 : Nat))) True)))) (And (And (And (root = root) True) (And ((true : Bool) = true) (And (And (Prod.fst p = Prod.fst p) (And (Prod.snd p = Prod.snd p) (And (SV.view y (32 : Nat) (Enc.enc H32) s = SV.view y (32 : Nat) (Enc.enc H32) s) True))) (And ((true : Bool) = true) (And (And (itF (Prod.fst p) b = itF (Prod.fst p) b_1) True) (And ((true : Bool) = true) (And (And (SV.view y (32 : Nat) (Enc.enc H32) s = SV.view y (32 : Nat) (Enc.enc H32) s) True) (And ((true : Bool) = true) True)))))))) ((true : Bool) = true)))) True) True) True) (And (And (And (And (∃ i : Unit, (And (And (And ((true : Bool) = true) ((0 : Nat) = (0 : Nat))) (And (And ((true : Bool) = true) ((0 : Nat) = (0 : Nat))) (And (And ((true : Bool) = true) ((0 : Nat) = (0 : Nat))) (And (And ((true : Bool) = true) ((0 : Nat) = (0 : Nat))) True)))) (And (And (And (root = root) True) (And ((true : Bool) = true) (And (And (Prod.fst p = Prod.fst p) (And (Prod.snd p = Prod.snd p) (And (SV.view y (32 : Nat) (Enc.enc H32) s = SV.view y (32 : Nat) (Enc.enc H32) s) True))) (And ((true : Bool) = true) (And (And (itF (Prod.fst p) b = itF (Prod.fst p) b_1) True) (And ((true : Bool) = true) (And (And (SV.view y (32 : Nat) (Enc.enc H32) s = SV.view y (32 : Nat) (Enc.enc H32) s) True) (And ((true : Bool) = true) True)))))))) ((true : Bool) = true)))) True) True) True) True)) (And (And (And (And (And (∃ i : Unit, (And (And (And ((true : Bool) = true) ((0 : Nat) = (0 : Nat))) (And (And ((true : Bool) = true) ((0 : Nat) = (0 : Nat))) (And (And ((true : Bool) = true) ((0 : Nat) = (0 : Nat))) (And (And ((true : Bool) = true) ((0 : Nat) = (0 : Nat))) True)))) (And (And (And (root = root) True) (And ((true : Bool) = true) (And (And (Prod.fst p = Prod.fst p) (And (Prod.snd p = Prod.snd p) (And (SV.view y (32 : Nat) (Enc.enc H32) s = SV.view y (32 : Nat) (Enc.enc H32) s) True))) (And ((true : Bool) = true) (And (And (itF (Prod.fst p) b = itF (Prod.fst p) b_1) True) (And ((true : Bool) = true) (And (And (SV.view y (32 : Nat) (Enc.enc H32) s = SV.view y (32 : Nat) (Enc.enc H32) s) True) (And ((true : Bool) = true) True)))))))) ((true : Bool) = true)))) True) True) True) (And (And (And (And (∃ i : Unit, (And (And (And ((true : Bool) = true) ((0 : Nat) = (0 : Nat))) (And (And ((true : Bool) = true) ((0 : Nat) = (0 : Nat))) (And (And ((true : Bool) = true) ((0 : Nat) = (0 : Nat))) (And (And ((true : Bool) = true) ((0 : Nat) = (0 : Nat))) True)))) (And (And (And (root = root) True) (And ((true : Bool) = true) (And (And (Prod.fst p = Prod.fst p) (And (Prod.snd p = Prod.snd p) (And (SV.view y (32 : Nat) (Enc.enc H32) s = SV.view y (32 : Nat) (Enc.enc H32) s) True))) (And ((true : Bool) = true) (And (And (itF (Prod.fst p) b = itF (Prod.fst p) b_1) True) (And ((true : Bool) = true) (And (And (SV.view y (32 : Nat) (Enc.enc H32) s = SV.view y (32 : Nat) (Enc.enc H32) s) True) (And ((true : Bool) = true) True)))))))) ((true : Bool) = true)))) True) True) (And (And (∃ i : Unit, (And (And (And ((true : Bool) = true) ((0 : Nat) = (0 : Nat))) (And (And ((true : Bool) = true) ((0 : Nat) = (0 : Nat))) (And (And ((true : Bool) = true) ((0 : Nat) = (0 : Nat))) (And (And ((true : Bool) = true) ((0 : Nat) = (0 : Nat))) True)))) (And (And (And (root = root) True) (And ((true : Bool) = true) (And (And (Prod.fst p = Prod.fst p) (And (Prod.snd p = Prod.snd p) (And (SV.view y (32 : Nat) (Enc.enc H32) s = SV.view y (32 : Nat) (Enc.enc H32) s) True))) (And ((true : Bool) = true) (And (And (itF (Prod.fst p) b = itF (Prod.fst p) b_1) True) (And ((true : Bool) = true) (And (And (SV.view y (32 : Nat) (Enc.enc H32) s = SV.view y (32 : Nat) (Enc.enc H32) s) True) (And ((true : Bool) = true) True)))))))) ((true : Bool) = true)))) True) True)) True)) (And (And (And (And (And (∃ i : Unit, (And (And (And ((true : Bool) = true) ((0 : Nat) = (0 : Nat))) (And (And ((true : Bool) = true) ((0 : Nat) = (0 : Nat))) (And (And ((true : Bool) = true) ((0 : Nat) = (0 : Nat))) (And (And ((true : Bool) = true) ((0 : Nat) = (0 : Nat))) True)))) (And (And (And (root = root) True) (And ((true : Bool) = true) (And (And (Prod.fst p = Prod.fst p) (And (Prod.snd p = Prod.snd p) (And (SV.view y (32 : Nat) (Enc.enc H32) s = SV.view y (32 : Nat) (Enc.enc H32) s) True))) (And ((true : Bool) = true) (And (And (itF (Prod.fst p) b = itF (Prod.fst p) b_1) True) (And ((true : Bool) = true) (And (And (SV.view y (32 : Nat) (Enc.enc H32) s = SV.view y (32 : Nat) (Enc.enc H32) s) True) (And ((true : Bool) = true) True)))))))) ((true : Bool) = true)))) True) True) True) (And (And (And (And (∃ i : Unit, (And (And (And ((true : Bool) = true) ((0 : Nat) = (0 : Nat))) (And (And ((true : Bool) = true) ((0 : Nat) = (0 : Nat))) (And (And ((true : Bool) = true) ((0 : Nat) = (0 : Nat))) (And (And ((true : Bool) = true) ((0 : Nat) = (0 : Nat))) True)))) (And (And (And (root = root) True) (And ((true : Bool) = true) (And (And (Prod.fst p = Prod.fst p) (And (Prod.snd p = Prod.snd p) (And (SV.view y (32 : Nat) (Enc.enc H32) s = SV.view y (32 : Nat) (Enc.enc H32) s) True))) (And ((true : Bool) = true) (And (And (itF (Prod.fst p) b = itF (Prod.fst p) b_1) True) (And ((true : Bool) = true) (And (And (SV.view y (32 : Nat) (Enc.enc H32) s = SV.view y (32 : Nat) (Enc.enc H32) s) True) (And ((true : Bool) = true) True)))))))) ((true : Bool) = true)))) True) True) (And (And (∃ i : Unit, (And (And (And ((true : Bool) = true) ((0 : Nat) = (0 : Nat))) (And (And ((true : Bool) = true) ((0 : Nat) = (0 : Nat))) (And (And ((true : Bool) = true) ((0 : Nat) = (0 : Nat))) (And (And ((true : Bool) = true) ((0 : Nat) = (0 : Nat))) True)))) (And (And (And (root = root) True) (And ((true : Bool) = true) (And (And (Prod.fst p = Prod.fst p) (And (Prod.snd p = Prod.snd p) (And (SV.view y (32 : Nat) (Enc.enc H32) s = SV.view y (32 : Nat) (Enc.enc H32) s) True))) (And ((true : Bool) = true) (And (And (itF (Prod.fst p) b = itF (Prod.fst p) b_1) True) (And ((true : Bool) = true) (And (And (SV.view y (32 : Nat) (Enc.enc H32) s = SV.view y (32 : Nat) (Enc.enc H32) s) True) (And ((true : Bool) = true) True)))))))) ((true : Bool) = true)))) True) True)) True)) True)))))) (∀ i : Unit, (∃ i0 : FoT (upF p b s), (And (And True (And (And ((↑(FoT.a i0) : Int) = Prod.fst p) (And ((↑(FoT.c i0) : Int) = Prod.snd p) (And (And ((91 : Nat) = (91 : Nat)) (And ((true : Bool) = true) (And ((true : Bool) = true) True))) True))) (And (And (And (root = root) True) (And ((true : Bool) = true) (And (And (Prod.fst p = Prod.fst p) (And (Prod.snd p = Prod.snd p) (And (SV.view y (32 : Nat) (Enc.enc H32) s = SV.view y (32 : Nat) (Enc.enc H32) s) True))) (And ((true : Bool) = true) (And (And (FoT.h i0 = itF (Prod.fst p) b) True) (And ((true : Bool) = true) (And (And (SV.view (FoT.y i0) (32 : Nat) (Enc.enc H32) (FoT.s i0) = SV.view y (32 : Nat) (Enc.enc H32) s) True) (And ((true : Bool) = true) True)))))))) ((true : Bool) = true)))) (∀ i_1 : FoT (upF p b s), (∀ a : True, (@Bool.rec (fun _ => Prop) (And (And ((0 : Int) ≤ Prod.snd p) (And (Prod.snd p < (9223372036854775808 : Int)) (And (∀ x_1 : Int, (∀ a_1 : x_1 ∈ FoT.h i_1, (And ((0 : Int) ≤ x_1) (x_1 < (256 : Int))))) (List.length (FoT.h i_1) = (32 : Nat))))) (@Bool.rec (fun _ => Prop) (And (M.one (SV.v (Value.int IntKind.i64 (0 : Int))) = M.one (SV.v (Value.int IntKind.i64 (checkF root b p s)))) ((true : Bool) = true)) (And (M.one (SV.v (Value.int IntKind.i64 (22 : Int))) = M.one (SV.v (Value.int IntKind.i64 (checkF root b p s)))) ((true : Bool) = true)) (!topF (Prod.snd p) (FoT.h i_1) == root))) (@Bool.rec (fun _ => Prop) (And ((2 : Int) ≠ (0 : Int)) (And ((2 : Int) ≠ (0 : Int)) (∃ i' : FoT (upF p b s), (And (And (FoT.c i' < FoT.c i_1) True) (And (And ((↑(FoT.a i') : Int) = IntKind.wrap IntKind.i64 (Int.tdiv (↑(FoT.a i_1) : Int) (2 : Int))) (And ((↑(FoT.c i') : Int) = IntKind.wrap IntKind.i64 (Int.tdiv (IntKind.wrap IntKind.i64 ((↑(FoT.c i_1) : Int) + (1 : Int))) (2 : Int))) (And (And ((91 : Nat) = (91 : Nat)) (And ((true : Bool) = true) (And ((true : Bool) = true) True))) True))) (And (And (And (root = root) True) (And ((true : Bool) = true) (And (And (Prod.fst p = Prod.fst p) (And (Prod.snd p = Prod.snd p) (And (SV.view y (32 : Nat) (Enc.enc H32) s = SV.view y (32 : Nat) (Enc.enc H32) s) True))) (And ((true : Bool) = true) (And (And (FoT.h i' = FoT.h i_1) True) (And ((true : Bool) = true) (And (And (SV.view (FoT.y i') (32 : Nat) (Enc.enc H32) (FoT.s i') = SV.view (FoT.y i_1) (32 : Nat) (Enc.enc H32) (FoT.s i_1)) True) (And ((true : Bool) = true) True)))))))) ((true : Bool) = true))))))) (And ((2 : Int) ≠ (0 : Int)) (@Bool.rec (fun _ => Prop) (And ((0 : Int) ≤ (0 : Int)) (∃ hk : Int.toNat (0 : Int) < List.length (FoT.s i_1), (And (And (List.length (FoT.h i_1) = (32 : Nat)) (And (List.length (FoT.s i_1)[Int.toNat (0 : Int)] = (32 : Nat)) (And (∀ x_1 : Int, (∀ a_1 : x_1 ∈ FoT.h i_1, (And ((0 : Int) ≤ x_1) (x_1 < (256 : Int))))) (∀ x_1 : Int, (∀ a_1 : x_1 ∈ (FoT.s i_1)[Int.toNat (0 : Int)], (And ((0 : Int) ≤ x_1) (x_1 < (256 : Int)))))))) (And ((0 : Int) ≤ (1 : Int)) (And (Int.toNat (1 : Int) ≤ List.length (FoT.s i_1)) (And (List.length (FoT.s i_1) ≤ List.length (FoT.s i_1)) (And ((2 : Int) ≠ (0 : Int)) (And ((2 : Int) ≠ (0 : Int)) (∃ i' : FoT (upF p b s), (And (And (FoT.c i' < FoT.c i_1) True) (And (And ((↑(FoT.a i') : Int) = IntKind.wrap IntKind.i64 (Int.tdiv (↑(FoT.a i_1) : Int) (2 : Int))) (And ((↑(FoT.c i') : Int) = IntKind.wrap IntKind.i64 (Int.tdiv (IntKind.wrap IntKind.i64 ((↑(FoT.c i_1) : Int) + (1 : Int))) (2 : Int))) (And (And ((91 : Nat) = (91 : Nat)) (And ((true : Bool) = true) (And ((true : Bool) = true) True))) True))) (And (And (And (root = root) True) (And ((true : Bool) = true) (And (And (Prod.fst p = Prod.fst p) (And (Prod.snd p = Prod.snd p) (And (SV.view y (32 : Nat) (Enc.enc H32) s = SV.view y (32 : Nat) (Enc.enc H32) s) True))) (And ((true : Bool) = true) (And (And (FoT.h i' = shaF (pairF (FoT.h i_1) (FoT.s i_1)[Int.toNat (0 : Int)])) True) (And ((true : Bool) = true) (And (And (SV.view (FoT.y i') (32 : Nat) (Enc.enc H32) (FoT.s i') = SV.view (vslice (FoT.y i_1) (32 : Nat) (Int.toNat (1 : Int)) (List.length (FoT.s i_1)) (vcap (FoT.y i_1))) (32 : Nat) (Enc.enc H32) (List.take (List.length (FoT.s i_1) - Int.toNat (1 : Int)) (List.drop (Int.toNat (1 : Int)) (FoT.s i_1)))) True) (And ((true : Bool) = true) True)))))))) ((true : Bool) = true))))))))))))) (And ((0 : Int) ≤ (0 : Int)) (∃ hk : Int.toNat (0 : Int) < List.length (FoT.s i_1), (And (And (List.length (FoT.s i_1)[Int.toNat (0 : Int)] = (32 : Nat)) (And (List.length (FoT.h i_1) = (32 : Nat)) (And (∀ x_1 : Int, (∀ a_1 : x_1 ∈ (FoT.s i_1)[Int.toNat (0 : Int)], (And ((0 : Int) ≤ x_1) (x_1 < (256 : Int))))) (∀ x_1 : Int, (∀ a_1 : x_1 ∈ FoT.h i_1, (And ((0 : Int) ≤ x_1) (x_1 < (256 : Int)))))))) (And ((0 : Int) ≤ (1 : Int)) (And (Int.toNat (1 : Int) ≤ List.length (FoT.s i_1)) (And (List.length (FoT.s i_1) ≤ List.length (FoT.s i_1)) (And ((2 : Int) ≠ (0 : Int)) (And ((2 : Int) ≠ (0 : Int)) (∃ i' : FoT (upF p b s), (And (And (FoT.c i' < FoT.c i_1) True) (And (And ((↑(FoT.a i') : Int) = IntKind.wrap IntKind.i64 (Int.tdiv (↑(FoT.a i_1) : Int) (2 : Int))) (And ((↑(FoT.c i') : Int) = IntKind.wrap IntKind.i64 (Int.tdiv (IntKind.wrap IntKind.i64 ((↑(FoT.c i_1) : Int) + (1 : Int))) (2 : Int))) (And (And ((91 : Nat) = (91 : Nat)) (And ((true : Bool) = true) (And ((true : Bool) = true) True))) True))) (And (And (And (root = root) True) (And ((true : Bool) = true) (And (And (Prod.fst p = Prod.fst p) (And (Prod.snd p = Prod.snd p) (And (SV.view y (32 : Nat) (Enc.enc H32) s = SV.view y (32 : Nat) (Enc.enc H32) s) True))) (And ((true : Bool) = true) (And (And (FoT.h i' = shaF (pairF (FoT.s i_1)[Int.toNat (0 : Int)] (FoT.h i_1))) True) (And ((true : Bool) = true) (And (And (SV.view (FoT.y i') (32 : Nat) (Enc.enc H32) (FoT.s i') = SV.view (vslice (FoT.y i_1) (32 : Nat) (Int.toNat (1 : Int)) (List.length (FoT.s i_1)) (vcap (FoT.y i_1))) (32 : Nat) (Enc.enc H32) (List.take (List.length (FoT.s i_1) - Int.toNat (1 : Int)) (List.drop (Int.toNat (1 : Int)) (FoT.s i_1)))) True) (And ((true : Bool) = true) True)))))))) ((true : Bool) = true))))))))))))) (Int.tmod (↑(FoT.a i_1) : Int) (2 : Int) == (1 : Int)))) (decide (Sx.bits BinOp.xor IntKind.i64 (↑(FoT.a i_1) : Int) (1 : Int) < (↑(FoT.c i_1) : Int)))) (decide ((1 : Int) < (↑(FoT.c i_1) : Int)))))))))) (And (M.one (SV.v (Value.int IntKind.i64 (21 : Int))) = M.one (SV.v (Value.int IntKind.i64 (checkF root b p s)))) ((true : Bool) = true)) (!rightP (Prod.fst p) (Prod.snd p) (List.length s_1)))))))) (by kernel_rfl) ?_
  refine ⟨s, rfl, hs, fun _ => ?_⟩
  unfold checkF
  cases hrt : rightP p.1 p.2 s.length with
  | false =>
    exact ⟨rfl, rfl⟩
  | true =>
  obtain ⟨r1, r2, r3, r4⟩ := rightP_true hrt
  have leaf : ∀ z : Unit, True := fun _ => trivial
  refine ⟨?_, ?_⟩
  · refine ⟨b, rfl, ⟨r1, by omega, hb, hbl⟩, ?_⟩
    repeat' first
      | exact trivial
      | exact ()
      | with_reducible refine And.intro ?_ ?_
      | rfl
      | (refine ⟨(), ?_⟩)
  intro _
  refine ⟨⟨p.1.toNat, p.2.toNat, p.2.toNat, itF p.1 b, s, y, by omega, by omega, Nat.le_refl _, rfl, r4.symm, ok, itF_length _ _, itF_By _ _⟩, ?_, ?_⟩
  · dsimp only
    repeat' first | exact trivial | refine And.intro ?_ ?_ | with_reducible refine bif_dt (by assumption) ?_ | with_reducible refine bif_df (by assumption) ?_ | with_reducible refine bif_dec (fun _ => ?_) (fun _ => ?_) | with_reducible refine bif_not ?_ | with_reducible refine bif_and ?_ | with_reducible refine bif_or ?_ | with_reducible refine bif_t (by assumption) ?_ | with_reducible refine bif_f (by assumption) ?_ | with_reducible refine bif_t (beq_self_eq_true _) ?_ | with_reducible refine bif_b (fun _ => ?_) (fun _ => ?_) | with_reducible refine ⟨_, Eq.refl (List.map _ _), ?_⟩ | (with_reducible refine Exists.intro (by omega) ?_) | rfl | (intro h0; omega) | omega
  rintro ⟨a, c, f, h, s', y', hc, ha, hf, hs1, hl, ok', h1, h2⟩ -
  dsimp only
  refine bif_dec (fun h4 => ?_) (fun h4 => ?_)
  rotate_left
  · have hh : h = upF p b s := by
      rw [climbF_end (by omega)] at hs1
      rw [← hs1]
      cases s' <;> rfl
    subst hh
    refine ⟨⟨by omega, by omega, h2, h1⟩, ?_⟩
    have hb : (topF p.2 (upF p b s) != root) = !(topF p.2 (upF p b s) == root) := rfl
    rw [cond_true, hb]
    cases topF p.2 (upF p b s) == root <;> exact ⟨rfl, rfl⟩
  obtain ⟨g, rfl, hg, hstep⟩ := climbF_step (a := a) (show 1 < c by omega) hf
  have hx : Sx.bits .xor .i64 (a : Int) 1 = ((sideN a : Nat) : Int) := xor1 (by omega) (by omega)
  rw [hstep] at hs1 hl
  simp only [hx, odd_i, half_i a (by omega), halfc c (by omega)]
  refine bif_dec (fun h5 => ?_) (fun h5 => ?_)
  · have hb : Nat.blt (sideN a) c = true := Nat.ble_eq_true_of_le (show sideN a + 1 ≤ c by omega)
    rw [hb] at hs1 hl
    have hl : s'.length = 1 + (climbF g (a / 2) ((c + 1) / 2)).length := hl.trans (List.length_append ..)
    obtain ⟨z, r, rfl⟩ : ∃ z r, s' = z :: r := by
      cases s' with
      | nil => simp at hl; omega
      | cons z r => exact ⟨z, r, rfl⟩
    have hl : r.length = (climbF g (a / 2) ((c + 1) / 2)).length := by simp at hl; omega
    have oz := ok' z (by simp)
    have et : List.take ((z :: r).length - Int.toNat 1) (List.drop (Int.toNat 1) (z :: r)) = r := by
      show List.take ((z :: r).length - 1) r = r
      exact List.take_of_length_le (by simp)
    rw [et]
    refine ⟨by decide, ?_⟩
    refine bif_b (fun h6 => ?_) (fun h6 => ?_)
    · rw [h6] at hs1
      refine ⟨by omega, by simp, ⟨oz.1, h1, oz.2, h2⟩, by omega, by simp, Nat.le_refl _, by decide, by decide, ⟨a / 2, (c + 1) / 2, g, prF z h, r, vslice y' 32 (Int.toNat 1) (z :: r).length (vcap y'), by omega, by omega, hg, hs1, hl, fun x hx => ok' x (by simp [hx]), shaF_length _, shaF_By _⟩, ⟨show (c + 1) / 2 < c by omega, trivial⟩, ?_⟩
      dsimp only
      repeat' first | exact trivial | refine And.intro ?_ ?_ | with_reducible refine bif_dt (by assumption) ?_ | with_reducible refine bif_df (by assumption) ?_ | with_reducible refine bif_dec (fun _ => ?_) (fun _ => ?_) | with_reducible refine bif_not ?_ | with_reducible refine bif_and ?_ | with_reducible refine bif_or ?_ | with_reducible refine bif_t (by assumption) ?_ | with_reducible refine bif_f (by assumption) ?_ | with_reducible refine bif_t (beq_self_eq_true _) ?_ | with_reducible refine bif_b (fun _ => ?_) (fun _ => ?_) | with_reducible refine ⟨_, Eq.refl (List.map _ _), ?_⟩ | (with_reducible refine Exists.intro (by omega) ?_) | rfl | (intro h0; omega) | omega
    · rw [h6] at hs1
      refine ⟨by omega, by simp, ⟨h1, oz.1, h2, oz.2⟩, by omega, by simp, Nat.le_refl _, by decide, by decide, ⟨a / 2, (c + 1) / 2, g, prF h z, r, vslice y' 32 (Int.toNat 1) (z :: r).length (vcap y'), by omega, by omega, hg, hs1, hl, fun x hx => ok' x (by simp [hx]), shaF_length _, shaF_By _⟩, ⟨show (c + 1) / 2 < c by omega, trivial⟩, ?_⟩
      dsimp only
      repeat' first | exact trivial | refine And.intro ?_ ?_ | with_reducible refine bif_dt (by assumption) ?_ | with_reducible refine bif_df (by assumption) ?_ | with_reducible refine bif_dec (fun _ => ?_) (fun _ => ?_) | with_reducible refine bif_not ?_ | with_reducible refine bif_and ?_ | with_reducible refine bif_or ?_ | with_reducible refine bif_t (by assumption) ?_ | with_reducible refine bif_f (by assumption) ?_ | with_reducible refine bif_t (beq_self_eq_true _) ?_ | with_reducible refine bif_b (fun _ => ?_) (fun _ => ?_) | with_reducible refine ⟨_, Eq.refl (List.map _ _), ?_⟩ | (with_reducible refine Exists.intro (by omega) ?_) | rfl | (intro h0; omega) | omega
  · have hb : Nat.blt (sideN a) c = false := bleF (show ¬ sideN a + 1 ≤ c by omega)
    rw [hb] at hs1 hl
    refine ⟨by decide, by decide, ⟨a / 2, (c + 1) / 2, g, h, s', y', by omega, by omega, hg, hs1, hl, ok', h1, h2⟩, ⟨show (c + 1) / 2 < c by omega, trivial⟩, ?_⟩
    dsimp only
    repeat' first | exact trivial | refine And.intro ?_ ?_ | with_reducible refine bif_dt (by assumption) ?_ | with_reducible refine bif_df (by assumption) ?_ | with_reducible refine bif_dec (fun _ => ?_) (fun _ => ?_) | with_reducible refine bif_not ?_ | with_reducible refine bif_and ?_ | with_reducible refine bif_or ?_ | with_reducible refine bif_t (by assumption) ?_ | with_reducible refine bif_f (by assumption) ?_ | with_reducible refine bif_t (beq_self_eq_true _) ?_ | with_reducible refine bif_b (fun _ => ?_) (fun _ => ?_) | with_reducible refine ⟨_, Eq.refl (List.map _ _), ?_⟩ | (with_reducible refine Exists.intro (by omega) ?_) | rfl | (intro h0; omega) | omega
def checkT : MT := fun ms n h K => match ms with
  | [.agg [.ints .u8 32 root], .one (.view vx0 ve0 en0 vl0), .agg [.v (.int .i64 p1), .v (.int .i64 p2), .view vx1 ve1 en1 vl1]] => bif Nat.beq ve0 1 && Nat.beq ve1 32 && noDup [] then ∃ b : List (Int), vl0.map en0 = b.map eB ∧ ∃ s : List (List Int), vl1.map en1 = s.map eH ∧ ((root.length = 32 ∧ By b ∧ b.length ≤ 1000000000 ∧ s.length < 9223372036854775808 ∧ Ok32 s)) ∧ (∀ o : Unit, K (n + 0) (int (checkF root b (p1, p2) s)) ([] ++ delL [] h)) else False
  | _ => False
theorem check_mono : MMono checkT := by
  intro ms n h K K' hkk hk
  unfold checkT at hk ⊢
  split at hk
  · rename_i root vx0 ve0 va0 en0 vl0 p1 p2 vx1 ve1 va1 en1 vl1
    obtain ⟨hb, y0, z0, y1, z1, h1, h2⟩ := cond_false_elim hk
    rw [hb]
    exact ⟨y0, z0, y1, z1, h1, fun o => hkk _ _ _ (h2 o)⟩
  · exact hk.elim
theorem check_ok : MOK Tryd.prog 46 checkT := by
  refine ⟨?_, check_mono⟩
  intro ms n hB K hk
  unfold checkT at hk
  split at hk
  · rename_i root vx0 ve0 va0 en0 vl0 p1 p2 vx1 ve1 va1 en1 vl1
    obtain ⟨hb, b, he0, s, he1, h, hk2⟩ := cond_false_elim hk
    clear hk
    simp only [Bool.and_eq_true] at hb
    obtain ⟨⟨hc0, hc1⟩, hnd⟩ := hb
    have hs0 := Nat.eq_of_beq_eq_true hc0
    subst hs0
    have hs1 := Nat.eq_of_beq_eq_true hc1
    subst hs1
    refine SCall.seen ?_ (.cons (.refl _) (.cons (.view he0) (.cons (.agg (.refl (.refl (.view he1 .nil)))) .nil)))
    exact ((check_spec _ _ (p1, p2) h.1 h.2.1 h.2.2.1 h.2.2.2.1 h.2.2.2.2).mem rfl).use (fun _ => 0) rfl rfl trivial hnd (fun j hj => absurd hj (Nat.not_lt_zero j)) (fun o => hk2 o)
  · exact hk.elim

end Go.Proofs.YtblapbjafbmndaaDoor

namespace Go.Proofs.YtblapbjafbmndaaDoor
open Go Go.Sx Go.Sha
set_option linter.unusedVariables false
set_option linter.unusedSimpArgs false
set_option maxRecDepth 100000
set_option maxHeartbeats 4000000

theorem lnum_spec (n : Int) : SFun Tryd.prog 38 [int n] (int n) := by
  refine SFun.inl [] SOK.nil tok mixed [] IOK.nil true [] [] Tryd.call38 Tryd.func38 rfl (by rfl) ?_
  refine Eq.mp (α := (And (M.one (SV.v (Value.int IntKind.i64 n)) = M.one (SV.v (Value.int IntKind.i64 n))) ((true : Bool) = true))) (by kernel_rfl) ?_
  repeat' first | exact trivial | refine And.intro ?_ ?_ | with_reducible refine bif_dt (by assumption) ?_ | with_reducible refine bif_df (by assumption) ?_ | with_reducible refine bif_dec (fun _ => ?_) (fun _ => ?_) | with_reducible refine bif_not ?_ | with_reducible refine bif_and ?_ | with_reducible refine bif_or ?_ | with_reducible refine bif_t (by assumption) ?_ | with_reducible refine bif_f (by assumption) ?_ | with_reducible refine bif_t (beq_self_eq_true _) ?_ | with_reducible refine bif_b (fun _ => ?_) (fun _ => ?_) | with_reducible refine ⟨_, Eq.refl (List.map _ _), ?_⟩ | (with_reducible refine Exists.intro (by omega) ?_) | rfl | (intro h0; omega) | omega
def lnumT : List M → (M → Prop) → Prop
  | [.one (.v (.int .i64 n))], K => K (int n)
  | _, _ => False
theorem lnum_ok : POK Tryd.prog 38 lnumT := by
  intro ms K h
  unfold lnumT at h ⊢
  split at h
  · exact ⟨_, h, (lnum_spec _), rfl, fun _ hk => hk⟩
  · exact h.elim

theorem lown_spec (x : Value) (p : Int × Int) (s : List (List Int)) (h : s.length * 32 ≤ 140737488351232) : SMem Tryd.prog 34 [pfM x p s] 0 [] (fun y : Value => ⟨0, pfM y p s, []⟩) := by
  refine SMem.inf 32 H32 [] SOK.nil [] MSOK.nil tok mixed [] IOK.nil true [] [] Tryd.call34 Tryd.func34 rfl (by rfl) ?_
  refine Eq.mp (α := (And (And (And (And (And ((0 : Nat) = (0 : Nat)) (And ((0 : Nat) = (0 : Nat)) (∃ ys : List (List Int), (And (List.map (Enc.enc (encInts IntKind.u8 (32 : Nat))) ys = List.map (Enc.enc H32) s) (And (((0 : Nat) + List.length ys) * (32 : Nat) ≤ (150000000000000 : Nat)) (∀ cap2 : Nat, (∀ a : (0 : Nat) + List.length ys ≤ cap2, (And (And ((0 : Nat) + List.length ([] ++ ys) ≤ List.length ([] ++ ys)) (And (List.length ([] ++ ys) ≤ cap2) (And (∀ y : List Int, ((true : Bool) = true)) (∀ x_1 : Value, (∃ o : Value, (And (And (And (Prod.fst p = Prod.fst p) (And (Prod.snd p = Prod.snd p) (And (SV.view o (32 : Nat) (Enc.enc H32) s = nilV (32 : Nat) H32 (SV.view x_1 (32 : Nat) (Enc.enc (encInts IntKind.u8 (32 : Nat))) (List.take (List.length ([] ++ ys)) (List.drop (0 : Nat) ([] ++ ys))))) True))) True) (And True ((true : Bool) = true)))))))) True)))))))) True) True) (And (And (And (And ((0 : Nat) = (0 : Nat)) (And ((0 : Nat) = (0 : Nat)) (∃ ys : List (List Int), (And (List.map (Enc.enc (encInts IntKind.u8 (32 : Nat))) ys = List.map (Enc.enc H32) s) (And (((0 : Nat) + List.length ys) * (32 : Nat) ≤ (150000000000000 : Nat)) (∀ cap2 : Nat, (∀ a : (0 : Nat) + List.length ys ≤ cap2, (And (And ((0 : Nat) + List.length ([] ++ ys) ≤ List.length ([] ++ ys)) (And (List.length ([] ++ ys) ≤ cap2) (And (∀ y : List Int, ((true : Bool) = true)) (∀ x_1 : Value, (∃ o : Value, (And (And (And (Prod.fst p = Prod.fst p) (And (Prod.snd p = Prod.snd p) (And (SV.view o (32 : Nat) (Enc.enc H32) s = nilV (32 : Nat) H32 (SV.view x_1 (32 : Nat) (Enc.enc (encInts IntKind.u8 (32 : Nat))) (List.take (List.length ([] ++ ys)) (List.drop (0 : Nat) ([] ++ ys))))) True))) True) (And True ((true : Bool) = true)))))))) True)))))))) True) (And (And ((0 : Nat) = (0 : Nat)) (And ((0 : Nat) = (0 : Nat)) (∃ ys : List (List Int), (And (List.map (Enc.enc (encInts IntKind.u8 (32 : Nat))) ys = List.map (Enc.enc H32) s) (And (((0 : Nat) + List.length ys) * (32 : Nat) ≤ (150000000000000 : Nat)) (∀ cap2 : Nat, (∀ a : (0 : Nat) + List.length ys ≤ cap2, (And (And ((0 : Nat) + List.length ([] ++ ys) ≤ List.length ([] ++ ys)) (And (List.length ([] ++ ys) ≤ cap2) (And (∀ y : List Int, ((true : Bool) = true)) (∀ x_1 : Value, (∃ o : Value, (And (And (And (Prod.fst p = Prod.fst p) (And (Prod.snd p = Prod.snd p) (And (SV.view o (32 : Nat) (Enc.enc H32) s = nilV (32 : Nat) H32 (SV.view x_1 (32 : Nat) (Enc.enc (encInts IntKind.u8 (32 : Nat))) (List.take (List.length ([] ++ ys)) (List.drop (0 : Nat) ([] ++ ys))))) True))) True) (And True ((true : Bool) = true)))))))) True)))))))) True)) True)) (And (And (And (And (And ((0 : Nat) = (0 : Nat)) (And ((0 : Nat) = (0 : Nat)) (∃ ys : List (List Int), (And (List.map (Enc.enc (encInts IntKind.u8 (32 : Nat))) ys = List.map (Enc.enc H32) s) (And (((0 : Nat) + List.length ys) * (32 : Nat) ≤ (150000000000000 : Nat)) (∀ cap2 : Nat, (∀ a : (0 : Nat) + List.length ys ≤ cap2, (And (And ((0 : Nat) + List.length ([] ++ ys) ≤ List.length ([] ++ ys)) (And (List.length ([] ++ ys) ≤ cap2) (And (∀ y : List Int, ((true : Bool) = true)) (∀ x_1 : Value, (∃ o : Value, (And (And (And (Prod.fst p = Prod.fst p) (And (Prod.snd p = Prod.snd p) (And (SV.view o (32 : Nat) (Enc.enc H32) s = nilV (32 : Nat) H32 (SV.view x_1 (32 : Nat) (Enc.enc (encInts IntKind.u8 (32 : Nat))) (List.take (List.length ([] ++ ys)) (List.drop (0 : Nat) ([] ++ ys))))) True))) True) (And True ((true : Bool) = true)))))))) True)))))))) True) True) (And (And (And (And ((0 : Nat) = (0 : Nat)) (And ((0 : Nat) = (0 : Nat)) (∃ ys : List (List Int), (And (List.map (Enc.enc (encInts IntKind.u8 (32 : Nat))) ys = List.map (Enc.enc H32) s) (And (((0 : Nat) + List.length ys) * (32 : Nat) ≤ (150000000000000 : Nat)) (∀ cap2 : Nat, (∀ a : (0 : Nat) + List.length ys ≤ cap2, (And (And ((0 : Nat) + List.length ([] ++ ys) ≤ List.length ([] ++ ys)) (And (List.length ([] ++ ys) ≤ cap2) (And (∀ y : List Int, ((true : Bool) = true)) (∀ x_1 : Value, (∃ o : Value, (And (And (And (Prod.fst p = Prod.fst p) (And (Prod.snd p = Prod.snd p) (And (SV.view o (32 : Nat) (Enc.enc H32) s = nilV (32 : Nat) H32 (SV.view x_1 (32 : Nat) (Enc.enc (encInts IntKind.u8 (32 : Nat))) (List.take (List.length ([] ++ ys)) (List.drop (0 : Nat) ([] ++ ys))))) True))) True) (And True ((true : Bool) = true)))))))) True)))))))) True) (And (And ((0 : Nat) = (0 : Nat)) (And ((0 : Nat) = (0 : Nat)) (∃ ys : List (List Int), (And (List.map (Enc.enc (encInts IntKind.u8 (32 : Nat))) ys = List.map (Enc.enc H32) s) (And (((0 : Nat) + List.length ys) * (32 : Nat) ≤ (150000000000000 : Nat)) (∀ cap2 : Nat, (∀ a : (0 : Nat) + List.length ys ≤ cap2, (And (And ((0 : Nat) + List.length ([] ++ ys) ≤ List.length ([] ++ ys)) (And (List.length ([] ++ ys) ≤ cap2) (And (∀ y : List Int, ((true : Bool) = true)) (∀ x_1 : Value, (∃ o : Value, (And (And (And (Prod.fst p = Prod.fst p) (And (Prod.snd p = Prod.snd p) (And (SV.view o (32 : Nat) (Enc.enc H32) s = nilV (32 : Nat) H32 (SV.view x_1 (32 : Nat) (Enc.enc (encInts IntKind.u8 (32 : Nat))) (List.take (List.length ([] ++ ys)) (List.drop (0 : Nat) ([] ++ ys))))) True))) True) (And True ((true : Bool) = true)))))))) True)))))))) True)) True)) (And (And (And (And (And ((0 : Nat) = (0 : Nat)) (And ((0 : Nat) = (0 : Nat)) (∃ ys : List (List Int), (And (List.map (Enc.enc (encInts IntKind.u8 (32 : Nat))) ys = List.map (Enc.enc H32) s) (And (((0 : Nat) + List.length ys) * (32 : Nat) ≤ (150000000000000 : Nat)) (∀ cap2 : Nat, (∀ a : (0 : Nat) + List.length ys ≤ cap2, (And (And ((0 : Nat) + List.length ([] ++ ys) ≤ List.length ([] ++ ys)) (And (List.length ([] ++ ys) ≤ cap2) (And (∀ y : List Int, ((true : Bool) = true)) (∀ x_1 : Value, (∃ o : Value, (And (And (And (Prod.fst p = Prod.fst p) (And (Prod.snd p = Prod.snd p) (And (SV.view o (32 : Nat) (Enc.enc H32) s = nilV (32 : Nat) H32 (SV.view x_1 (32 : Nat) (Enc.enc (encInts IntKind.u8 (32 : Nat))) (List.take (List.length ([] ++ ys)) (List.drop (0 : Nat) ([] ++ ys))))) True))) True) (And True ((true : Bool) = true)))))))) True)))))))) True) (And (And ((0 : Nat) = (0 : Nat)) (And ((0 : Nat) = (0 : Nat)) (∃ ys : List (List Int), (And (List.map (Enc.enc (encInts IntKind.u8 (32 : Nat))) ys = List.map (Enc.enc H32) s) (And (((0 : Nat) + List.length ys) * (32 : Nat) ≤ (150000000000000 : Nat)) (∀ cap2 : Nat, (∀ a : (0 : Nat) + List.length ys ≤ cap2, (And (And ((0 : Nat) + List.length ([] ++ ys) ≤ List.length ([] ++ ys)) (And (List.length ([] ++ ys) ≤ cap2) (And (∀ y : List Int, ((true : Bool) = true)) (∀ x_1 : Value, (∃ o : Value, (And (And (And (Prod.fst p = Prod.fst p) (And (Prod.snd p = Prod.snd p) (And (SV.view o (32 : Nat) (Enc.enc H32) s = nilV (32 : Nat) H32 (SV.view x_1 (32 : Nat) (Enc.enc (encInts IntKind.u8 (32 : Nat))) (List.take (List.length ([] ++ ys)) (List.drop (0 : Nat) ([] ++ ys))))) True))) True) (And True ((true : Bool) = true)))))))) True)))))))) True)) (And (And (And (And ((0 : Nat) = (0 : Nat)) (And ((0 : Nat) = (0 : Nat)) (∃ ys : List (List Int), (And (List.map (Enc.enc (encInts IntKind.u8 (32 : Nat))) ys = List.map (Enc.enc H32) s) (And (((0 : Nat) + List.length ys) * (32 : Nat) ≤ (150000000000000 : Nat)) (∀ cap2 : Nat, (∀ a : (0 : Nat) + List.length ys ≤ cap2, (And (And ((0 : Nat) + List.length ([] ++ ys) ≤ List.length ([] ++ ys)) (And (List.length ([] ++ ys) ≤ cap2) (And (∀ y : List Int, ((true : Bool) = true)) (∀ x_1 : Value, (∃ o : Value, (And (And (And (Prod.fst p = Prod.fst p) (And (Prod.snd p = Prod.snd p) (And (SV.view o (32 : Nat) (Enc.enc H32) s = nilV (32 : Nat) H32 (SV.view x_1 (32 : Nat) (Enc.enc (encInts IntKind.u8 (32 : Nat))) (List.take (List.length ([] ++ ys)) (List.drop (0 : Nat) ([] ++ ys))))) True))) True) (And True ((true : Bool) = true)))))))) True)))))))) True) (And (And ((0 : Nat) = (0 : Nat)) (And ((0 : Nat) = (0 : Nat)) (∃ ys : List (List Int), (And (List.map (Enc.enc (encInts IntKind.u8 (32 : Nat))) ys = List.map (Enc.enc H32) s) (And (((0 : Nat) + List.length ys) * (32 : Nat) ≤ (150000000000000 : Nat)) (∀ cap2 : Nat, (∀ a : (0 : Nat) + List.length ys ≤ cap2, (And (And ((0 : Nat) + List.length ([] ++ ys) ≤ List.length ([] ++ ys)) (And (List.length ([] ++ ys) ≤ cap2) (And (∀ y : List Int, ((true : Bool) = true)) (∀ x_1 : Value, (∃ o : Value, (And (And (And (Prod.fst p = Prod.fst p) (And (Prod.snd p = Prod.snd p) (And (SV.view o (32 : Nat) (Enc.enc H32) s = nilV (32 : Nat) H32 (SV.view x_1 (32 : Nat) (Enc.enc (encInts IntKind.u8 (32 : Nat))) (List.take (List.length ([] ++ ys)) (List.drop (0 : Nat) ([] ++ ys))))) True))) True) (And True ((true : Bool) = true)))))))) True)))))))) True)) (And (And ((0 : Nat) = (0 : Nat)) (And ((0 : Nat) = (0 : Nat)) (∃ ys : List (List Int), (And (List.map (Enc.enc (encInts IntKind.u8 (32 : Nat))) ys = List.map (Enc.enc H32) s) (And (((0 : Nat) + List.length ys) * (32 : Nat) ≤ (150000000000000 : Nat)) (∀ cap2 : Nat, (∀ a : (0 : Nat) + List.length ys ≤ cap2, (And (And ((0 : Nat) + List.length ([] ++ ys) ≤ List.length ([] ++ ys)) (And (List.length ([] ++ ys) ≤ cap2) (And (∀ y : List Int, ((true : Bool) = true)) (∀ x_1 : Value, (∃ o : Value, (And (And (And (Prod.fst p = Prod.fst p) (And (Prod.snd p = Prod.snd p) (And (SV.view o (32 : Nat) (Enc.enc H32) s = nilV (32 : Nat) H32 (SV.view x_1 (32 : Nat) (Enc.enc (encInts IntKind.u8 (32 : Nat))) (List.take (List.length ([] ++ ys)) (List.drop (0 : Nat) ([] ++ ys))))) True))) True) (And True ((true : Bool) = true)))))))) True)))))))) True))) True)))) (by kernel_rfl) ?_
  have hv : ∀ x1 : Value, SV.view x1 32 H32.enc s = nilV 32 H32 (SV.view x1 32 (encInts IntKind.u8 32).enc (List.take ([] ++ s).length (List.drop 0 ([] ++ s)))) := fun x1 => by
    rw [List.nil_append, List.drop_zero, List.take_length]
    rfl
  repeat' first
    | exact trivial
    | exact hv _
    | refine ⟨s, rfl, ?_⟩
    | with_reducible refine And.intro ?_ ?_
    | (intro z)
    | omega
    | rfl
    | (simp only [List.nil_append]; omega)
    | refine ⟨(by assumption : Value), ?_⟩
def lownT : MT := fun ms n h K => match ms with
  | [.agg [.v (.int .i64 p1), .v (.int .i64 p2), .view vx0 ve0 en0 vl0]] => bif Nat.beq ve0 32 && noDup [] then ∃ s : List (List Int), vl0.map en0 = s.map eH ∧ (s.length * 32 ≤ 140737488351232) ∧ (∀ y : Value, K (n + 0) (pfM y (p1, p2) s) ([] ++ delL [] h)) else False
  | _ => False
theorem lown_mono : MMono lownT := by
  intro ms n h K K' hkk hk
  unfold lownT at hk ⊢
  split at hk
  · rename_i p1 p2 vx0 ve0 va0 en0 vl0
    obtain ⟨hb, y0, z0, h1, h2⟩ := cond_false_elim hk
    rw [hb]
    exact ⟨y0, z0, h1, fun o => hkk _ _ _ (h2 o)⟩
  · exact hk.elim
theorem lown_ok : MOK Tryd.prog 34 lownT := by
  refine ⟨?_, lown_mono⟩
  intro ms n hB K hk
  unfold lownT at hk
  split at hk
  · rename_i p1 p2 vx0 ve0 va0 en0 vl0
    obtain ⟨hb, s, he0, h, hk2⟩ := cond_false_elim hk
    clear hk
    simp only [Bool.and_eq_true] at hb
    obtain ⟨hc0, hnd⟩ := hb
    have hs0 := Nat.eq_of_beq_eq_true hc0
    subst hs0
    refine SCall.seen ?_ (.cons (.agg (.refl (.refl (.view he0 .nil)))) .nil)
    exact (lown_spec _ (p1, p2) s h).use (fun _ => 0) rfl rfl trivial hnd (fun j hj => absurd hj (Nat.not_lt_zero j)) (fun o => hk2 o)
  · exact hk.elim

structure SmT (p q : Int × Int) (s t : List (List Int)) where
  i : Nat
  hi : i ≤ s.length
  he : p = q
  hl : s.length = t.length
  h : s.take i = t.take i
def sameF (p q : Int × Int) (s t : List (List Int)) : Bool := p.1 == q.1 && (p.2 == q.2 && decide (s = t))
theorem same_spec (x y : Value) (p q : Int × Int) (s t : List (List Int)) (h1 : s.length ≤ 1000000000000000) (h2 : t.length ≤ 1000000000000000) : SFun Tryd.prog 39 [pfM x p s, pfM y q t] (bool (sameF p q s t)) := by
  refine SFun.inm [] SOK.nil [] MSOK.nil tok mixed [] IOK.nil false [(4, ⟨SmT p q s t, fun r => ⟨2, [(2, .one (.ptr 0 0)), (3, .one (.ptr 1 0)), (5, int r.i)], [(0, .cells (pbx x p s)), (1, .cells (pbx y q t))]⟩, fun r => s.length - r.i, fun _ _ => True⟩)] [] Tryd.call39 Tryd.func39 rfl (by rfl) ?_
  refine Eq.mp (α := (@Bool.rec (fun _ => Prop) (@Bool.rec (fun _ => Prop) (@Bool.rec (fun _ => Prop) (∃ i0 : SmT p q s t, (And (And True (And (And (And ((true : Bool) = true) ((0 : Nat) = (0 : Nat))) (And (And ((true : Bool) = true) ((0 : Nat) = (0 : Nat))) (And ((↑(SmT.i i0) : Int) = (0 : Int)) True))) (And (And (And (Prod.fst p = Prod.fst p) (And (Prod.snd p = Prod.snd p) (And (SV.view x (32 : Nat) (Enc.enc H32) s = SV.view x (32 : Nat) (Enc.enc H32) s) True))) (And ((true : Bool) = true) (And (And (Prod.fst q = Prod.fst q) (And (Prod.snd q = Prod.snd q) (And (SV.view y (32 : Nat) (Enc.enc H32) t = SV.view y (32 : Nat) (Enc.enc H32) t) True))) (And ((true : Bool) = true) True)))) ((true : Bool) = true)))) (∀ i : SmT p q s t, (∀ a : True, (@Bool.rec (fun _ => Prop) (And (M.one (SV.v (Value.bool true)) = M.one (SV.v (Value.bool (sameF p q s t)))) ((true : Bool) = true)) (And ((0 : Int) ≤ (↑(SmT.i i) : Int)) (∃ hk : Int.toNat (↑(SmT.i i) : Int) < List.length s, (And ((0 : Int) ≤ (↑(SmT.i i) : Int)) (∃ hk_1 : Int.toNat (↑(SmT.i i) : Int) < List.length t, (@Bool.rec (fun _ => Prop) (∃ i' : SmT p q s t, (And (And (List.length s - SmT.i i' < List.length s - SmT.i i) True) (And (And (And ((true : Bool) = true) ((0 : Nat) = (0 : Nat))) (And (And ((true : Bool) = true) ((0 : Nat) = (0 : Nat))) (And ((↑(SmT.i i') : Int) = IntKind.wrap IntKind.i64 ((↑(SmT.i i) : Int) + (1 : Int))) True))) (And (And (And (Prod.fst p = Prod.fst p) (And (Prod.snd p = Prod.snd p) (And (SV.view x (32 : Nat) (Enc.enc H32) s = SV.view x (32 : Nat) (Enc.enc H32) s) True))) (And ((true : Bool) = true) (And (And (Prod.fst q = Prod.fst q) (And (Prod.snd q = Prod.snd q) (And (SV.view y (32 : Nat) (Enc.enc H32) t = SV.view y (32 : Nat) (Enc.enc H32) t) True))) (And ((true : Bool) = true) True)))) ((true : Bool) = true))))) (And (M.one (SV.v (Value.bool false)) = M.one (SV.v (Value.bool (sameF p q s t)))) ((true : Bool) = true)) (!s[Int.toNat (↑(SmT.i i) : Int)] == t[Int.toNat (↑(SmT.i i) : Int)])))))) (decide ((↑(SmT.i i) : Int) < (↑(List.length s) : Int)))))))) (And (M.one (SV.v (Value.bool false)) = M.one (SV.v (Value.bool (sameF p q s t)))) ((true : Bool) = true)) ((↑(List.length s) : Int) != (↑(List.length t) : Int))) (And (M.one (SV.v (Value.bool false)) = M.one (SV.v (Value.bool (sameF p q s t)))) ((true : Bool) = true)) (Prod.snd p != Prod.snd q)) (And (M.one (SV.v (Value.bool false)) = M.one (SV.v (Value.bool (sameF p q s t)))) ((true : Bool) = true)) (Prod.fst p != Prod.fst q))) (by kernel_rfl) ?_
  have bneI : ∀ {a b : Int}, (a != b) = true → (a == b) = false := fun {a b} h => by
    cases e : (a == b) with
    | false => rfl
    | true => rw [bne, e] at h; cases h
  have bneF : ∀ {a b : Int}, (a != b) = false → a = b := fun {a b} h => by
    cases e : (a == b) with
    | true => exact eq_of_beq e
    | false => rw [bne, e] at h; cases h
  unfold sameF
  refine bif_b (fun h => ?_) (fun h => ?_)
  · rw [bneI h]
    exact ⟨rfl, rfl⟩
  refine bif_b (fun h' => ?_) (fun h' => ?_)
  · rw [bneI h', Bool.false_and, Bool.and_false]
    exact ⟨rfl, rfl⟩
  have e : p = q := Prod.ext (bneF h) (bneF h')
  subst e
  rw [beq_self_eq_true, beq_self_eq_true, Bool.true_and, Bool.true_and]
  refine bif_b (fun h3 => ?_) (fun h3 => ?_)
  · rw [decide_eq_false (fun e => by rw [e] at h3; simp at h3)]
    exact ⟨rfl, rfl⟩
  have hl : s.length = t.length := by have := bneF h3; omega
  refine ⟨⟨0, Nat.zero_le _, rfl, hl, rfl⟩, ?_, ?_⟩
  ·
    repeat' first | exact trivial | refine And.intro ?_ ?_ | with_reducible refine bif_dt (by assumption) ?_ | with_reducible refine bif_df (by assumption) ?_ | with_reducible refine bif_dec (fun _ => ?_) (fun _ => ?_) | with_reducible refine bif_not ?_ | with_reducible refine bif_and ?_ | with_reducible refine bif_or ?_ | with_reducible refine bif_t (by assumption) ?_ | with_reducible refine bif_f (by assumption) ?_ | with_reducible refine bif_t (beq_self_eq_true _) ?_ | with_reducible refine bif_b (fun _ => ?_) (fun _ => ?_) | with_reducible refine ⟨_, Eq.refl (List.map _ _), ?_⟩ | (with_reducible refine Exists.intro (by omega) ?_) | rfl | (intro h0; omega) | omega
  rintro ⟨i, hi, _, _, he⟩ -
  dsimp only
  refine bif_dec (fun h4 => ?_) (fun h4 => ?_)
  rotate_left
  · have hil : i = s.length := by omega
    subst hil
    rw [List.take_length, hl, List.take_length] at he
    rw [decide_eq_true he]
    exact ⟨rfl, rfl⟩
  have hi' : i < s.length := by omega
  have hit : i < t.length := by omega
  have hw : IntKind.i64.wrap ((i : Int) + 1) = ((i + 1 : Nat) : Int) := inext (by omega)
  refine ⟨by omega, hi', by omega, hit, ?_⟩
  simp only [Int.toNat_natCast, hw]
  cases e : (s[i] == t[i]) with
  | true =>
    refine ⟨⟨i + 1, hi', rfl, hl, by rw [List.take_add_one, List.take_add_one, he, List.getElem?_eq_getElem hi', List.getElem?_eq_getElem hit, eq_of_beq e]⟩, ⟨show s.length - (i + 1) < s.length - i by omega, trivial⟩, ?_⟩
    repeat' first | exact trivial | refine And.intro ?_ ?_ | with_reducible refine bif_dt (by assumption) ?_ | with_reducible refine bif_df (by assumption) ?_ | with_reducible refine bif_dec (fun _ => ?_) (fun _ => ?_) | with_reducible refine bif_not ?_ | with_reducible refine bif_and ?_ | with_reducible refine bif_or ?_ | with_reducible refine bif_t (by assumption) ?_ | with_reducible refine bif_f (by assumption) ?_ | with_reducible refine bif_t (beq_self_eq_true _) ?_ | with_reducible refine bif_b (fun _ => ?_) (fun _ => ?_) | with_reducible refine ⟨_, Eq.refl (List.map _ _), ?_⟩ | (with_reducible refine Exists.intro (by omega) ?_) | rfl | (intro h0; omega) | omega
  | false =>
    rw [decide_eq_false (fun e' => by subst e'; rw [beq_self_eq_true] at e; cases e)]
    repeat' first | exact trivial | refine And.intro ?_ ?_ | with_reducible refine bif_dt (by assumption) ?_ | with_reducible refine bif_df (by assumption) ?_ | with_reducible refine bif_dec (fun _ => ?_) (fun _ => ?_) | with_reducible refine bif_not ?_ | with_reducible refine bif_and ?_ | with_reducible refine bif_or ?_ | with_reducible refine bif_t (by assumption) ?_ | with_reducible refine bif_f (by assumption) ?_ | with_reducible refine bif_t (beq_self_eq_true _) ?_ | with_reducible refine bif_b (fun _ => ?_) (fun _ => ?_) | with_reducible refine ⟨_, Eq.refl (List.map _ _), ?_⟩ | (with_reducible refine Exists.intro (by omega) ?_) | rfl | (intro h0; omega) | omega
theorem SFun.nil1 {P : Program} {f es : Nat} {α : Type} {enc : α → List SV} {res : M} (h : SFun P f [.one (.view (.slice none 0 0) es enc [])] res) : SFun P f [.one (.v (.slice none 0 0))] res := by
  refine ⟨⟨fun B σ w sm hargs => ?_⟩⟩
  exact h.spec.out B σ w sm fun m hm => by
    rw [List.mem_singleton] at hm
    subst hm
    exact .one rfl (nil_view_ok es enc)
def lrootNT : List M → (M → Prop) → Prop
  | [.one (.v (.slice none 0 0))], K => K (h32 (topF ((([] : List BTy).length : Nat) : Int) (rootL [])))
  | ms, K => lrootT ms K
theorem lrootN_ok : POK Tryd.prog 44 lrootNT := by
  intro ms K h
  unfold lrootNT at h ⊢
  split at h
  · exact ⟨_, h, SFun.nil1 (root_spec (.slice none 0 0) (l := []) (by decide) (fun y hy => by cases hy) (fun y hy => by cases hy)), rfl, fun _ hk => hk⟩
  · rename_i hne
    obtain ⟨m, h1, h2, h3, h4⟩ := lroot_ok _ _ h
    exact ⟨m, h1, h2, h3, h4⟩
abbrev abL (x y : Value) : List BTy := [mkB x [97], mkB y [98]]
theorem lev_ab (x y : Value) : lev0 (abL x y) = [itF 0 [97], itF 1 [98]] := by
  unfold lev0
  rw [List.mapIdx_cons, List.mapIdx_cons, List.mapIdx_nil, bl_mk, bl_mk]
  rfl
theorem prove_ab (x y : Value) : proveF 1 (abL x y) = ((1, 2), ([itF 0 [97]], 0)) := by
  unfold proveF inP sidesL
  rw [lev_ab]
  rfl
theorem root_ab (x y : Value) : rootL (abL x y) = prF (itF 0 [97]) (itF 1 [98]) := by
  unfold rootL
  rw [lev_ab]
  rfl
theorem ab_len (x y : Value) : (∀ z ∈ abL x y, (bl z).length ≤ 1000000000) ∧ ∀ z ∈ abL x y, By (bl z) := by
  refine ⟨fun z hz => ?_, fun z hz => ?_⟩ <;> rcases List.mem_cons.1 hz with rfl | hz
  · rw [bl_mk]; decide
  · rw [List.mem_singleton] at hz; subst hz; rw [bl_mk]; decide
  · rw [bl_mk]; unfold By; decide
  · rw [List.mem_singleton] at hz; subst hz; rw [bl_mk]; unfold By; decide
theorem apart1 : (topF 2 (prF (itF 0 [97]) (itF 1 [97])) == topF 2 (prF (itF 0 [97]) (itF 1 [98]))) = false := by
  unfold topF prF itF
  simp only [shaF_eq]
  decide +kernel
theorem apart2 : (topF 2 (prF (itF 0 [97]) (itF 1 [98])) == topF 0 z32) = false := by
  unfold topF prF itF
  simp only [shaF_eq]
  decide +kernel
theorem check1 : checkF (topF 2 (prF (itF 0 [97]) (itF 1 [98]))) [98] (1, 2) [itF 0 [97]] = 0 := by
  unfold checkF
  have h : topF 2 (upF (1, 2) [98] [itF 0 [97]]) = topF 2 (prF (itF 0 [97]) (itF 1 [98])) := rfl
  have h2 : rightP 1 2 1 = true := rfl
  show (bif rightP 1 2 1 then (bif topF 2 (upF (1, 2) [98] [itF 0 [97]]) != _ then 22 else 0) else 21) = 0
  rw [h2, h, bne_self_eq_false]
  rfl
theorem check2 : checkF (topF 2 (prF (itF 0 [97]) (itF 1 [98]))) [97] (1, 2) [itF 0 [97]] = 22 := by
  unfold checkF
  have h : topF 2 (upF (1, 2) [97] [itF 0 [97]]) = topF 2 (prF (itF 0 [97]) (itF 1 [97])) := rfl
  have h2 : rightP 1 2 1 = true := rfl
  show (bif rightP 1 2 1 then (bif topF 2 (upF (1, 2) [97] [itF 0 [97]]) != _ then 22 else 0) else 21) = 22
  rw [h2, h, bne, apart1]
  rfl
theorem lknows_spec : SFun Tryd.prog 40 [] (bool true) := by
  refine SFun.inm [(38, lnumT), (44, lrootNT)] (SOK.cons lnum_ok (SOK.cons lrootN_ok SOK.nil)) [(42, proveT), (46, checkT)] (MSOK.cons prove_ok (MSOK.cons check_ok MSOK.nil)) tok mixed [] IOK.nil true [] [] Tryd.call40 Tryd.func40 rfl (by rfl) ?_
  refine Eq.mp (α := (And ((0 : Nat) < (1 : Nat)) (And ((0 : Nat) < (1 : Nat)) (And ((0 : Nat) + (1 : Nat) ≤ (1 : Nat)) (And ((1 : Nat) ≤ (1 : Nat)) (And (∀ y : Int, ((true : Bool) = true)) (∀ x : Value, (And ((0 : Nat) + (1 : Nat) ≤ (1 : Nat)) (And ((1 : Nat) ≤ (1 : Nat)) (And (∀ y : Int, ((true : Bool) = true)) (∀ x_1 : Value, (∃ l' : List (RK.TL [RK.int IntKind.u8]), (And (List.map (Enc.enc (encInt IntKind.u8)) (List.take (1 : Nat) (List.drop (0 : Nat) [Enc.of (encInt IntKind.u8) ((97 : Int), ())])) = List.map (RK.svs [RK.int IntKind.u8]) l') (∃ l'_1 : List (RK.TL [RK.int IntKind.u8]), (And (List.map (Enc.enc (encInt IntKind.u8)) (List.take (1 : Nat) (List.drop (0 : Nat) [Enc.of (encInt IntKind.u8) ((98 : Int), ())])) = List.map (RK.svs [RK.int IntKind.u8]) l'_1) (And ((0 : Nat) + (2 : Nat) ≤ (2 : Nat)) (And ((2 : Nat) ≤ (2 : Nat)) (And (∀ y : RK.TL [RK.sl (1 : Nat) [RK.int IntKind.u8]], ((true : Bool) = true)) (∀ x_2 : Value, (∃ l : List BTy, (And (List.map (Enc.enc (encRec [RK.sl (1 : Nat) [RK.int IntKind.u8]])) (List.take (2 : Nat) (List.drop (0 : Nat) [Enc.of (encRec [RK.sl (1 : Nat) [RK.int IntKind.u8]]) ((x, l'), ()), Enc.of (encRec [RK.sl (1 : Nat) [RK.int IntKind.u8]]) ((x_1, l'_1), ())])) = List.map eBl l) (And (And (List.length l ≤ (1000 : Nat)) (And (∀ y : BTy, (∀ a : y ∈ l, (List.length (bl y) ≤ (1000000000 : Nat)))) (∀ y : BTy, (∀ a : y ∈ l, (∀ x_3 : Int, (∀ a_1 : x_3 ∈ bl y, (And ((0 : Int) ≤ x_3) (x_3 < (256 : Int))))))))) (And ((0 : Nat) < (1 : Nat)) (And ((0 : Nat) < (1 : Nat)) (And ((0 : Nat) + (1 : Nat) ≤ (1 : Nat)) (And ((1 : Nat) ≤ (1 : Nat)) (And (∀ y : Int, ((true : Bool) = true)) (∀ x_3 : Value, (And ((0 : Nat) + (1 : Nat) ≤ (1 : Nat)) (And ((1 : Nat) ≤ (1 : Nat)) (And (∀ y : Int, ((true : Bool) = true)) (∀ x_4 : Value, (∃ l'_2 : List (RK.TL [RK.int IntKind.u8]), (And (List.map (Enc.enc (encInt IntKind.u8)) (List.take (1 : Nat) (List.drop (0 : Nat) [Enc.of (encInt IntKind.u8) ((97 : Int), ())])) = List.map (RK.svs [RK.int IntKind.u8]) l'_2) (∃ l'_3 : List (RK.TL [RK.int IntKind.u8]), (And (List.map (Enc.enc (encInt IntKind.u8)) (List.take (1 : Nat) (List.drop (0 : Nat) [Enc.of (encInt IntKind.u8) ((98 : Int), ())])) = List.map (RK.svs [RK.int IntKind.u8]) l'_3) (And ((0 : Nat) + (2 : Nat) ≤ (2 : Nat)) (And ((2 : Nat) ≤ (2 : Nat)) (And (∀ y : RK.TL [RK.sl (1 : Nat) [RK.int IntKind.u8]], ((true : Bool) = true)) (∀ x_5 : Value, (∃ l_1 : List BTy, (And (List.map (Enc.enc (encRec [RK.sl (1 : Nat) [RK.int IntKind.u8]])) (List.take (2 : Nat) (List.drop (0 : Nat) [Enc.of (encRec [RK.sl (1 : Nat) [RK.int IntKind.u8]]) ((x_3, l'_2), ()), Enc.of (encRec [RK.sl (1 : Nat) [RK.int IntKind.u8]]) ((x_4, l'_3), ())])) = List.map eBl l_1) (And (And (List.length l_1 ≤ (1000 : Nat)) (And (∀ y : BTy, (∀ a : y ∈ l_1, (List.length (bl y) ≤ (1000000000 : Nat)))) (∀ y : BTy, (∀ a : y ∈ l_1, (∀ x_6 : Int, (∀ a_1 : x_6 ∈ bl y, (And ((0 : Int) ≤ x_6) (x_6 < (256 : Int))))))))) (∀ y : Value, (@Bool.rec (fun _ => Prop) (And (And (And (And (And (And (And (M.one (SV.v (Value.bool false)) = M.one (SV.v (Value.bool true))) ((true : Bool) = true)) True) True) True) True) True) True) (@Bool.rec (fun _ => Prop) (And (And (And (And (And (And (And (M.one (SV.v (Value.bool false)) = M.one (SV.v (Value.bool true))) ((true : Bool) = true)) True) True) True) True) True) True) (And (And (And ((0 : Nat) < (1 : Nat)) (And (And ((0 : Nat) + (1 : Nat) ≤ (1 : Nat)) (And ((1 : Nat) ≤ (1 : Nat)) (And (∀ y_1 : Int, ((true : Bool) = true)) (∀ x_6 : Value, (∃ b : List Int, (And (List.map (Enc.enc (encInt IntKind.u8)) (List.take (1 : Nat) (List.drop (0 : Nat) [Enc.of (encInt IntKind.u8) ((98 : Int), ())])) = List.map eB b) (∃ s : List (List Int), (And (List.map (Enc.enc H32) (Prod.fst (Prod.snd (proveF (1 : Int) l_1))) = List.map eH s) (And (And (List.length (topF (↑(List.length l) : Int) (rootL l)) = (32 : Nat)) (And (∀ x_7 : Int, (∀ a : x_7 ∈ b, (And ((0 : Int) ≤ x_7) (x_7 < (256 : Int))))) (And (List.length b ≤ (1000000000 : Nat)) (And (List.length s < (9223372036854775808 : Nat)) (∀ a : List Int, (∀ a_1 : a ∈ s, (And (List.length a = (32 : Nat)) (∀ x_7 : Int, (∀ a_2 : x_7 ∈ a, (And ((0 : Int) ≤ x_7) (x_7 < (256 : Int)))))))))))) (∀ o : Unit, (@Bool.rec (fun _ => Prop) (And (And (And (And (M.one (SV.v (Value.bool false)) = M.one (SV.v (Value.bool true))) ((true : Bool) = true)) True) True) True) (And (And (And ((0 : Nat) < (1 : Nat)) (And (And ((0 : Nat) + (1 : Nat) ≤ (1 : Nat)) (And ((1 : Nat) ≤ (1 : Nat)) (And (∀ y_1 : Int, ((true : Bool) = true)) (∀ x_7 : Value, (∃ b_1 : List Int, (And (List.map (Enc.enc (encInt IntKind.u8)) (List.take (1 : Nat) (List.drop (0 : Nat) [Enc.of (encInt IntKind.u8) ((97 : Int), ())])) = List.map eB b_1) (∃ s_1 : List (List Int), (And (List.map (Enc.enc H32) (Prod.fst (Prod.snd (proveF (1 : Int) l_1))) = List.map eH s_1) (And (And (List.length (topF (↑(List.length l) : Int) (rootL l)) = (32 : Nat)) (And (∀ x_8 : Int, (∀ a : x_8 ∈ b_1, (And ((0 : Int) ≤ x_8) (x_8 < (256 : Int))))) (And (List.length b_1 ≤ (1000000000 : Nat)) (And (List.length s_1 < (9223372036854775808 : Nat)) (∀ a : List Int, (∀ a_1 : a ∈ s_1, (And (List.length a = (32 : Nat)) (∀ x_8 : Int, (∀ a_2 : x_8 ∈ a, (And ((0 : Int) ≤ x_8) (x_8 < (256 : Int)))))))))))) (∀ o_1 : Unit, (@Bool.rec (fun _ => Prop) (And (M.one (SV.v (Value.bool false)) = M.one (SV.v (Value.bool true))) ((true : Bool) = true)) (And (M.one (SV.v (Value.bool !topF (↑(List.length l) : Int) (rootL l) == topF (↑(0 : Nat) : Int) (rootL []))) = M.one (SV.v (Value.bool true))) ((true : Bool) = true)) (checkF (topF (↑(List.length l) : Int) (rootL l)) b_1 (Prod.fst (Prod.fst (proveF (1 : Int) l_1)), Prod.snd (Prod.fst (proveF (1 : Int) l_1))) s_1 == (22 : Int))))))))))))) True)) True) True) (checkF (topF (↑(List.length l) : Int) (rootL l)) b (Prod.fst (Prod.fst (proveF (1 : Int) l_1)), Prod.snd (Prod.fst (proveF (1 : Int) l_1))) s == (0 : Int))))))))))))) True)) True) True) ((↑(List.length (Prod.fst (Prod.snd (proveF (1 : Int) l_1)))) : Int) == (1 : Int))) (Prod.snd (Prod.snd (proveF (1 : Int) l_1)) == (0 : Int))))))))))))))))))))))))))))))))))))))))))))))) (by kernel_rfl) ?_
  refine ⟨by decide, by decide, by decide, by decide, fun _ => rfl, fun x => ⟨by decide, by decide, fun _ => rfl, fun x1 => ⟨mkL [97], rfl, mkL [98], rfl, by decide, by decide, fun _ => rfl, fun x2 => ⟨abL x x1, rfl, ⟨Nat.le_of_ble_eq_true rfl, (ab_len x x1).1, (ab_len x x1).2⟩, by decide, by decide, by decide, by decide, fun _ => rfl, fun x3 => ⟨by decide, by decide, fun _ => rfl, fun x4 => ⟨mkL [97], rfl, mkL [98], rfl, by decide, by decide, fun _ => rfl, fun x5 => ⟨abL x3 x4, rfl, ⟨Nat.le_of_ble_eq_true rfl, (ab_len x3 x4).1, (ab_len x3 x4).2⟩, fun y => ?_⟩⟩⟩⟩⟩⟩⟩
  rw [prove_ab, root_ab]
  have hl : (((abL x x1).length : Nat) : Int) = 2 := rfl
  have hz : rootL [] = z32 := rfl
  rw [hl, hz]
  have ok1 : Ok32 [itF 0 [97]] := fun a ha => by
    rw [List.mem_singleton] at ha
    subst ha
    exact ⟨itF_length _ _, itF_By _ _⟩
  refine ⟨⟨⟨by decide, ⟨by decide, by decide, fun _ => rfl, fun x6 => ⟨[98], rfl, [itF 0 [97]], rfl, ⟨topF_length _ _, by decide, by decide, by decide, ok1⟩, fun _ => ?_⟩⟩, trivial⟩, trivial⟩, trivial⟩
  show @Bool.rec (fun _ => Prop) _ _ (checkF (topF 2 (prF (itF 0 [97]) (itF 1 [98]))) [98] (1, 2) [itF 0 [97]] == 0)
  rw [check1]
  refine ⟨⟨⟨by decide, ⟨by decide, by decide, fun _ => rfl, fun x7 => ⟨[97], rfl, [itF 0 [97]], rfl, ⟨topF_length _ _, by decide, by decide, by decide, ok1⟩, fun _ => ?_⟩⟩, trivial⟩, trivial⟩, trivial⟩
  show @Bool.rec (fun _ => Prop) _ _ (checkF (topF 2 (prF (itF 0 [97]) (itF 1 [98]))) [97] (1, 2) [itF 0 [97]] == 22)
  rw [check2]
  show M.one (SV.v (Value.bool (!(topF 2 (prF (itF 0 [97]) (itF 1 [98])) == topF 0 z32)))) = _ ∧ true = true
  rw [apart2]
  exact ⟨rfl, rfl⟩
def lknowsT : List M → (M → Prop) → Prop
  | [], K => K (bool true)
  | _, _ => False
theorem lknows_ok : POK Tryd.prog 40 lknowsT := by
  intro ms K h
  unfold lknowsT at h ⊢
  split at h
  · exact ⟨_, h, (lknows_spec), rfl, fun _ hk => hk⟩
  · exact h.elim

end Go.Proofs.YtblapbjafbmndaaDoor

namespace Go.Proofs.YtblapbjafbmndaaDoor
open Go Go.Sx Go.Sha
set_option linter.unusedVariables false
set_option linter.unusedSimpArgs false
set_option maxRecDepth 100000
set_option maxHeartbeats 4000000

def samePT : List M → (M → Prop) → Prop
  | [.agg [.v (.int .i64 p1), .v (.int .i64 p2), .view x0 es0 en0 l0], .agg [.v (.int .i64 q1), .v (.int .i64 q2), .view x1 es1 en1 l1]], K => bif Nat.beq es0 32 then ∃ s : List (List Int), l0.map en0 = s.map eH ∧ (bif Nat.beq es1 32 then ∃ t : List (List Int), l1.map en1 = t.map eH ∧ ((s.length ≤ 1000000000000000 ∧ t.length ≤ 1000000000000000) ∧ K (bool (sameF (p1, p2) (q1, q2) s t))) else False) else False
  | _, _ => False
theorem sameP_ok : POK Tryd.prog 39 samePT := by
  intro ms K h
  unfold samePT at h ⊢
  split at h
  · obtain ⟨hb0, s, he0, h0⟩ := cond_false_elim (b := Nat.beq _ _) h
    have hs0 := Nat.eq_of_beq_eq_true hb0
    subst hs0
    obtain ⟨hb1, t, he1, h1⟩ := cond_false_elim (b := Nat.beq _ _) h0
    have hs1 := Nat.eq_of_beq_eq_true hb1
    subst hs1
    exact ⟨_, h1.2, (same_spec _ _ (_, _) (_, _) s t h1.1.1 h1.1.2).seen (.cons (.agg (.refl (.refl (.view he0 .nil)))) (.cons (.agg (.refl (.refl (.view he1 .nil)))) .nil)), rfl, fun _ hk => by show cond _ _ _; refine (show cond true _ _ from ⟨_, he0, ?_⟩); show cond _ _ _; refine (show cond true _ _ from ⟨_, he1, ?_⟩); exact ⟨h1.1, hk⟩⟩
  · exact h.elim

theorem staysM_spec (y : Value) {l : List Int} {cap : Nat} (hc : l.length + 2 ≤ cap) (hl : l.length ≤ 140737488351232) : SMem Tryd.prog 19 [.one (.slc 0 1 0 l.length cap), byV y l] 1 [(0, .row 1 (encInt .u8) (l ++ [55, 56]) cap)]
    (fun _ : Unit => ⟨1, bool true, [(0, .row 1 (encInt .u8) (l ++ [55, 56]) cap)]⟩) := by
  refine SMem.inm [] SOK.nil [] MSOK.nil tok mixed [] IOK.nil true [] [] Tryd.call19 Tryd.func19 rfl (by rfl) ?_
  refine Eq.mp (α := (And ((0 : Int) ≤ IntKind.wrap IntKind.i64 ((↑(List.length l) : Int) + (2 : Int))) (And ((0 : Nat) ≤ Int.toNat (IntKind.wrap IntKind.i64 ((↑(List.length l) : Int) + (2 : Int)))) (And (Int.toNat (IntKind.wrap IntKind.i64 ((↑(List.length l) : Int) + (2 : Int))) ≤ cap) (And (cap ≤ cap) (And ((0 : Int) ≤ (↑(List.length l) : Int)) (And ((0 : Nat) ≤ Int.toNat (↑(List.length l) : Int)) (And (Int.toNat (↑(List.length l) : Int) ≤ cap - (0 : Nat)) (And (cap - (0 : Nat) ≤ cap - (0 : Nat)) (And ((if cap - (0 : Nat) = (0 : Nat) then if cap = (0 : Nat) then (0 : Nat) else (0 : Nat) + (0 : Nat) else (if cap = (0 : Nat) then (0 : Nat) else (0 : Nat) + (0 : Nat)) + (0 : Nat)) + (Int.toNat (↑(List.length l) : Int) - (0 : Nat)) ≤ List.length (l ++ [(55 : Int), (56 : Int)])) (And (∀ x : Int, (∀ a : x ∈ l ++ [(55 : Int), (56 : Int)], (∃ b : Int, (Enc.enc (encInt IntKind.u8) x = [SV.v (Value.int IntKind.u8 b)])))) (And (∀ x : Int, (∀ a : x ∈ l, (∃ b : Int, (Enc.enc (encInt IntKind.u8) x = [SV.v (Value.int IntKind.u8 b)])))) (@Bool.rec (fun _ => Prop) (∃ o : Unit, (And (And ((true : Bool) = (false)) True) (And (And (And ((true : Bool) = true) (And (cap = cap) (And (List.map (Enc.enc (encInt IntKind.u8)) (l ++ [(55 : Int), (56 : Int)]) = List.map (Enc.enc (encInt IntKind.u8)) (l ++ [(55 : Int), (56 : Int)])) (∀ x : Int, (∀ a : x ∈ l ++ [(55 : Int), (56 : Int)], (∀ s : SV, (∀ a_1 : s ∈ Enc.enc (encInt IntKind.u8) x, ((SV.isPure s : Bool) = (true))))))))) (And ((true : Bool) = true) True)) ((true : Bool) = true)))) (And ((0 : Int) ≤ (↑(List.length l) : Int)) (And (Int.toNat (↑(List.length l) : Int) < Int.toNat (IntKind.wrap IntKind.i64 ((↑(List.length l) : Int) + (2 : Int))) - (0 : Nat)) (∃ hi : (if cap = (0 : Nat) then (0 : Nat) else (0 : Nat) + (0 : Nat)) + Int.toNat (↑(List.length l) : Int) < List.length (l ++ [(55 : Int), (56 : Int)]), (@Bool.rec (fun _ => Prop) (∃ o : Unit, (And (And ((true : Bool) = (false)) True) (And (And (And ((true : Bool) = true) (And (cap = cap) (And (List.map (Enc.enc (encInt IntKind.u8)) (l ++ [(55 : Int), (56 : Int)]) = List.map (Enc.enc (encInt IntKind.u8)) (l ++ [(55 : Int), (56 : Int)])) (∀ x : Int, (∀ a : x ∈ l ++ [(55 : Int), (56 : Int)], (∀ s : SV, (∀ a_1 : s ∈ Enc.enc (encInt IntKind.u8) x, ((SV.isPure s : Bool) = (true))))))))) (And ((true : Bool) = true) True)) ((true : Bool) = true)))) (And ((0 : Int) ≤ IntKind.wrap IntKind.i64 ((↑(List.length l) : Int) + (1 : Int))) (And (Int.toNat (IntKind.wrap IntKind.i64 ((↑(List.length l) : Int) + (1 : Int))) < Int.toNat (IntKind.wrap IntKind.i64 ((↑(List.length l) : Int) + (2 : Int))) - (0 : Nat)) (∃ hi_1 : (if cap = (0 : Nat) then (0 : Nat) else (0 : Nat) + (0 : Nat)) + Int.toNat (IntKind.wrap IntKind.i64 ((↑(List.length l) : Int) + (1 : Int))) < List.length (l ++ [(55 : Int), (56 : Int)]), (∃ o : Unit, (And (And ((true : Bool) = ((l ++ [(55 : Int), (56 : Int)])[(if cap = (0 : Nat) then (0 : Nat) else (0 : Nat) + (0 : Nat)) + Int.toNat (IntKind.wrap IntKind.i64 ((↑(List.length l) : Int) + (1 : Int)))] == (56 : Int))) True) (And (And (And ((true : Bool) = true) (And (cap = cap) (And (List.map (Enc.enc (encInt IntKind.u8)) (l ++ [(55 : Int), (56 : Int)]) = List.map (Enc.enc (encInt IntKind.u8)) (l ++ [(55 : Int), (56 : Int)])) (∀ x : Int, (∀ a : x ∈ l ++ [(55 : Int), (56 : Int)], (∀ s : SV, (∀ a_1 : s ∈ Enc.enc (encInt IntKind.u8) x, ((SV.isPure s : Bool) = (true))))))))) (And ((true : Bool) = true) True)) ((true : Bool) = true))))))) ((l ++ [(55 : Int), (56 : Int)])[(if cap = (0 : Nat) then (0 : Nat) else (0 : Nat) + (0 : Nat)) + Int.toNat (↑(List.length l) : Int)] == (55 : Int)))))) (ByteArray.toList (strOfNums (bytesOf (Enc.enc (encInt IntKind.u8)) (List.take (Int.toNat (↑(List.length l) : Int) - (0 : Nat)) (List.drop (if cap - (0 : Nat) = (0 : Nat) then if cap = (0 : Nat) then (0 : Nat) else (0 : Nat) + (0 : Nat) else (if cap = (0 : Nat) then (0 : Nat) else (0 : Nat) + (0 : Nat)) + (0 : Nat)) (l ++ [(55 : Int), (56 : Int)]))))) == ByteArray.toList (strOfNums (bytesOf (Enc.enc (encInt IntKind.u8)) l)))))))))))))))) (by kernel_rfl) ?_
  have hw1 : IntKind.i64.wrap ((l.length : Int) + 1) = ((l.length + 1 : Nat) : Int) := by rw [wrap64 (by omega) (by omega)]; omega
  have hw2 : IntKind.i64.wrap ((l.length : Int) + 2) = ((l.length + 2 : Nat) : Int) := by rw [wrap64 (by omega) (by omega)]; omega
  have t1 : List.take l.length (l ++ [55, 56]) = l := by rw [List.take_append_of_le_length (Nat.le_refl _), List.take_length]
  have i1 : (l ++ [55, 56])[l.length]? = some (55 : Int) := by rw [List.getElem?_append_right (Nat.le_refl _), Nat.sub_self]; rfl
  have i2 : (l ++ [55, 56])[l.length + 1]? = some (56 : Int) := by rw [List.getElem?_append_right (by omega), show l.length + 1 - l.length = 1 by omega]; rfl
  have hL : (l ++ [55, 56]).length = l.length + 2 := by simp
  simp only [List.drop_zero, castB, ofB, bytesB, Int.toNat_natCast, Nat.sub_zero, Nat.add_zero, Nat.zero_add, ite_self, hw1, hw2, t1, hL]
  refine ⟨by omega, by omega, by omega, by omega, by omega, by omega, by omega, by omega, by omega, isB _, isB _, ?_⟩
  refine bif_t (beq_self_eq_true _) ?_
  refine ⟨by omega, by omega, by omega, ?_⟩
  refine bif_t ?_ ?_
  · rw [beq_iff_eq, ← Option.some.injEq, ← List.getElem?_eq_getElem]; exact i1
  refine ⟨by omega, by omega, by omega, (), ?_⟩
  refine ⟨⟨?_, trivial⟩, ?_⟩
  · have e : (l ++ [55, 56])[l.length + 1]'(by omega) = 56 := by
      rw [List.getElem?_eq_getElem (by omega)] at i2
      exact Option.some.inj i2
    simp only [e]
    first | rfl | decide
  ·
    repeat' first | exact encB_pure _ | exact trivial | refine And.intro ?_ ?_ | with_reducible refine bif_dt (by assumption) ?_ | with_reducible refine bif_df (by assumption) ?_ | with_reducible refine bif_dec (fun _ => ?_) (fun _ => ?_) | with_reducible refine bif_not ?_ | with_reducible refine bif_and ?_ | with_reducible refine bif_or ?_ | with_reducible refine bif_t (by assumption) ?_ | with_reducible refine bif_f (by assumption) ?_ | with_reducible refine bif_t (beq_self_eq_true _) ?_ | with_reducible refine bif_b (fun _ => ?_) (fun _ => ?_) | with_reducible refine ⟨_, Eq.refl (List.map _ _), ?_⟩ | (with_reducible refine Exists.intro (by omega) ?_) | rfl | (intro h0; omega) | omega
theorem staysM_row {y : Value} {l b : List Int} {len cap cp : Nat} (h : b = l ++ [55, 56] ∧ len = l.length ∧ cap = cp ∧ l.length + 2 ≤ cp ∧ l.length ≤ 140737488351232) : SMem Tryd.prog 19 [.one (.slc 0 1 0 len cap), byV y l] 1 [(0, .row 1 (encInt .u8) b cp)]
    (fun _ : Unit => ⟨1, bool true, [(0, .row 1 (encInt .u8) (l ++ [55, 56]) cp)]⟩) := by
  obtain ⟨rfl, rfl, rfl, h1, h2⟩ := h
  exact staysM_spec y h1 h2
def staysMT : MT := fun ms n h K => match ms with
  | [.one (.slc P0 1 0 len cap), .one (.view vx0 ve0 en0 vl0)] => (match get h P0 with
    | some (.row we0 wn0 wl0 cp) => bif Nat.beq ve0 1 && Nat.beq we0 1 && noDup [P0] then ∃ l : List (Int), vl0.map en0 = l.map eB ∧ ∃ b : List (Int), wl0.map wn0.enc = b.map ((encInt .u8)).enc ∧ ((b = l ++ [55, 56] ∧ len = l.length ∧ cap = cp ∧ l.length + 2 ≤ cp ∧ l.length ≤ 140737488351232)) ∧ (∀ o : Unit, K (n + 0) (bool true) ([(P0, .row 1 (encInt .u8) (l ++ [55, 56]) cp)] ++ delL [P0] h)) else False
    | _ => False)
  | _ => False
theorem staysM_mono : MMono staysMT := by
  intro ms n h K K' hkk hk
  unfold staysMT at hk ⊢
  split at hk
  · rename_i P0 len cap vx0 ve0 va0 en0 vl0
    split at hk
    · rename_i we0 wa0 wn0 wl0 cp hg0
      try simp only [hg0]
      obtain ⟨hb, y0, z0, y1, z1, h1, h2⟩ := cond_false_elim hk
      rw [hb]
      exact ⟨y0, z0, y1, z1, h1, fun o => hkk _ _ _ (h2 o)⟩
    · exact hk.elim
  · exact hk.elim
theorem staysM_ok : MOK Tryd.prog 19 staysMT := by
  refine ⟨?_, staysM_mono⟩
  intro ms n hB K hk
  unfold staysMT at hk
  split at hk
  · rename_i P0 len cap vx0 ve0 va0 en0 vl0
    split at hk
    · rename_i we0 wa0 wn0 wl0 cp hg0
      obtain ⟨hb, l, he0, b, hl0, h, hk2⟩ := cond_false_elim hk
      clear hk
      simp only [Bool.and_eq_true] at hb
      obtain ⟨⟨hc0, hc1⟩, hnd⟩ := hb
      have hs0 := Nat.eq_of_beq_eq_true hc0
      subst hs0
      have hs1 := Nat.eq_of_beq_eq_true hc1
      subst hs1
      refine SCall.seen ?_ (.cons (.refl _) (.cons (.view he0) .nil))
      exact (staysM_row h).use (fun j => match j with | 0 => P0 | _ => 0) rfl rfl ⟨by show (match get hB P0 with | some b0 => Blk.imp _ _ _ b0 | none => False); rw [hg0]; exact ⟨rfl, rfl, hl0.symm, fun y _ => Enc.pures _ y⟩, rfl, trivial⟩ hnd (fun j hj => by cases j with
          | zero => exact ⟨_, rfl⟩
          | succ j => omega) (fun o => hk2 o)
    · exact hk.elim
  · exact hk.elim

end Go.Proofs.YtblapbjafbmndaaDoor
