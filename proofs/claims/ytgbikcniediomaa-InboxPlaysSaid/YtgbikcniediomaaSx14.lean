/- Stepping: a tactic that reduces the goal, splits at bools and takes what is decided. Holds for every program. -/
import Derived.Test.YtgbikcniediomaaSx13
namespace Go.Sx
set_option linter.unusedSimpArgs false
set_option linter.unusedVariables false

structure SFun (P : Program) (f : Nat) (args : List M) (res : M) : Prop where
  spec : SCall P f args 0 [] fun _ m _ => m = res ∧ m.pure = true

theorem SFun.use {P : Program} {f n : Nat} {h : Bs} {args : List M} {res : M} {K : Nat → M → Bs → Prop} (s : SFun P f args res) (ha : args.all M.pure = true) (hK : K n res h) : SCall P f args n h K :=
  SCall.pure s.spec ha fun _ hm => hm ▸ hK

theorem SFun.body {P : Program} {tt : Tab} (hT : TOK P tt) {f : Nat} {fn : Func} {c : Code} {args : List M} {res : M} (hentry : ∀ (vs : Array Value) (w : World), (callFunc f vs).run P w = .ok (.enter f vs) w)
    (hf : P.funcs[f]? = some fn) (hb : fn.body = some c) (hl : Nat.ble args.length fn.ntmps = true) (hx : xcode P tt fn.ntmps 0 c (finQ tt fn.results.toList fun _ m _ => m = res ∧ m.pure = true) 0 (params 0 args) []) : SFun P f args res :=
  ⟨SCall.body hT hentry hf hb (Nat.le_of_ble_eq_true hl) (xcode_sound hT _ _ _ _ _ hx)⟩

theorem SFun.ext {P : Program} {f : Nat} {args : List M} {res : M} (h : ∀ (σ : Nat → Nat) (w : World), (callFunc f (args.map (M.den σ)).toArray).run P w = .ok (.value (res.den σ)) w) (hp : res.pure = true) (hok : ∀ (w : World) (av : Nat → Prop) (n : Nat), res.Ok w av n) : SFun P f args res :=
  ⟨⟨fun B σ w s _ => .inr ⟨_, h σ w, σ, 0, res, [], rfl, ⟨rfl, hp⟩, Nat.le_refl _, fun _ _ => rfl, s, hok _ _ _, fun b _ hb => ⟨hb, rfl⟩⟩⟩⟩

theorem bif_t {b : Bool} {p q : Prop} (h : b = true) (hp : p) : @Bool.rec (fun _ => Prop) q p b := by rw [h]; exact hp
theorem bif_f {b : Bool} {p q : Prop} (h : b = false) (hq : q) : @Bool.rec (fun _ => Prop) q p b := by rw [h]; exact hq
theorem bif_b {b : Bool} {p q : Prop} (h1 : b = true → p) (h2 : b = false → q) : @Bool.rec (fun _ => Prop) q p b := by
  cases b
  · exact h2 rfl
  · exact h1 rfl
theorem bif_dt {r : Prop} {i : Decidable r} {p q : Prop} (h : r) (hp : p) : @Bool.rec (fun _ => Prop) q p (@decide r i) := bif_t (decide_eq_true h) hp
theorem bif_df {r : Prop} {i : Decidable r} {p q : Prop} (h : ¬ r) (hq : q) : @Bool.rec (fun _ => Prop) q p (@decide r i) := bif_f (decide_eq_false h) hq
theorem bif_dec {r : Prop} {i : Decidable r} {p q : Prop} (h1 : r → p) (h2 : ¬ r → q) : @Bool.rec (fun _ => Prop) q p (@decide r i) :=
  bif_b (fun h => h1 (of_decide_eq_true h)) (fun h => h2 (of_decide_eq_false h))
theorem bif_not {b : Bool} {p q : Prop} (h : @Bool.rec (fun _ => Prop) p q b) : @Bool.rec (fun _ => Prop) q p (!b) := by cases b <;> exact h
theorem bif_and {a b : Bool} {p q : Prop} (h : @Bool.rec (fun _ => Prop) q (@Bool.rec (fun _ => Prop) q p b) a) : @Bool.rec (fun _ => Prop) q p (a && b) := by cases a <;> exact h
theorem bif_or {a b : Bool} {p q : Prop} (h : @Bool.rec (fun _ => Prop) (@Bool.rec (fun _ => Prop) q p b) p a) : @Bool.rec (fun _ => Prop) q p (a || b) := by cases a <;> exact h

end Go.Sx
