/- Books that nobody made: none, and a zero one. -/
import Derived.Test.YtblapbjafbmndaaDoorP48
import Derived.Test.YtblapbjafbmndaaDoorSx24
namespace Go.Proofs.YtblapbjafbmndaaDoor
open Go Go.Sx Go.Sha
set_option linter.unusedVariables false
set_option linter.unusedSimpArgs false
set_option maxRecDepth 100000
set_option maxHeartbeats 4000000

abbrev nilP : M := .one (.v (.pointer none))
abbrev zB : Blk := .cells [.v (.map none), .v (.slice none 0 0), .v (.int .i64 0)]
theorem noneN_spec : SFun Tryd.prog 98 [nilP] (bool true) := by
  refine SFun.inm [] SOK.nil [] MSOK.nil tok mixed [] IOK.nil true [] [] Tryd.call98 Tryd.func98 rfl (by rfl) ?_
  refine Eq.mp (α := (And (M.one (SV.v (Value.bool true)) = M.one (SV.v (Value.bool true))) ((true : Bool) = true))) (by kernel_rfl) ?_
  repeat' first | exact trivial | refine And.intro ?_ ?_ | with_reducible refine bif_dt (by assumption) ?_ | with_reducible refine bif_df (by assumption) ?_ | with_reducible refine bif_dec (fun _ => ?_) (fun _ => ?_) | with_reducible refine bif_not ?_ | with_reducible refine bif_and ?_ | with_reducible refine bif_or ?_ | with_reducible refine bif_t (by assumption) ?_ | with_reducible refine bif_f (by assumption) ?_ | with_reducible refine bif_t (beq_self_eq_true _) ?_ | with_reducible refine bif_b (fun _ => ?_) (fun _ => ?_) | with_reducible refine ⟨_, Eq.refl (List.map _ _), ?_⟩ | (with_reducible refine Exists.intro (by omega) ?_) | rfl | (intro h0; omega) | omega
def noneNT : List M → (M → Prop) → Prop
  | [.one (.v (.pointer none))], K => K (bool true)
  | _, _ => False
theorem noneN_ok : POK Tryd.prog 98 noneNT := by
  intro ms K h
  unfold noneNT at h ⊢
  split at h
  · exact ⟨_, h, (noneN_spec), rfl, fun _ hk => hk⟩
  · exact h.elim

theorem noneZ_spec : SMem Tryd.prog 98 [.one (.ptr 0 0)] 1 [(0, zB)] (fun _ : Unit => ⟨1, bool true, [(0, zB)]⟩) := by
  refine SMem.inm [] SOK.nil [] MSOK.nil tok mixed [] IOK.nil true [] [] Tryd.call98 Tryd.func98 rfl (by rfl) ?_
  refine Eq.mp (α := (∃ o : Unit, (And (And ((true : Bool) = true) True) (And (And (And (Value.map none = Value.map none) (And (Value.slice none (0 : Nat) (0 : Nat) = Value.slice none (0 : Nat) (0 : Nat)) (And ((0 : Int) = (0 : Int)) True))) (And ((true : Bool) = true) True)) ((true : Bool) = true))))) (by kernel_rfl) ?_
  refine ⟨(), ?_⟩
  repeat' first | exact trivial | refine And.intro ?_ ?_ | with_reducible refine bif_dt (by assumption) ?_ | with_reducible refine bif_df (by assumption) ?_ | with_reducible refine bif_dec (fun _ => ?_) (fun _ => ?_) | with_reducible refine bif_not ?_ | with_reducible refine bif_and ?_ | with_reducible refine bif_or ?_ | with_reducible refine bif_t (by assumption) ?_ | with_reducible refine bif_f (by assumption) ?_ | with_reducible refine bif_t (beq_self_eq_true _) ?_ | with_reducible refine bif_b (fun _ => ?_) (fun _ => ?_) | with_reducible refine ⟨_, Eq.refl (List.map _ _), ?_⟩ | (with_reducible refine Exists.intro (by omega) ?_) | rfl | (intro h0; omega) | omega
theorem noneZ_row {z : Int} (h : z = 0) : SMem Tryd.prog 98 [.one (.ptr 0 0)] 1 [(0, .cells [.v (.map none), .v (.slice none 0 0), .v (.int .i64 z)])] (fun _ : Unit => ⟨1, bool true, [(0, zB)]⟩) := by
  subst h
  exact noneZ_spec
def noneZT : MT := fun ms n h K => match ms with
  | [.one (.ptr P0 0)] => (match get h P0 with
    | some (.cells [.v (.map none), .v (.slice none 0 0), .v (.int .i64 z)]) => bif noDup [P0] then (z = 0) ∧ (∀ o : Unit, K (n + 0) (bool true) ([(P0, .cells [.v (.map none), .v (.slice none 0 0), .v (.int .i64 0)])] ++ delL [P0] h)) else False
    | _ => False)
  | _ => False
theorem noneZ_mono : MMono noneZT := by
  intro ms n h K K' hkk hk
  unfold noneZT at hk ⊢
  split at hk
  · rename_i P0
    split at hk
    · rename_i z hg0
      try simp only [hg0]
      obtain ⟨hb, h1, h2⟩ := cond_false_elim hk
      rw [hb]
      exact ⟨h1, fun o => hkk _ _ _ (h2 o)⟩
    · exact hk.elim
  · exact hk.elim
theorem noneZ_ok : MOK Tryd.prog 98 noneZT := by
  refine ⟨?_, noneZ_mono⟩
  intro ms n hB K hk
  unfold noneZT at hk
  split at hk
  · rename_i P0
    split at hk
    · rename_i z hg0
      obtain ⟨hb, h, hk2⟩ := cond_false_elim hk
      clear hk
      have hnd := hb
      refine SCall.seen ?_ (.cons (.refl _) .nil)
      exact (noneZ_row h).use (fun j => match j with | 0 => P0 | _ => 0) rfl rfl ⟨by show (match get hB P0 with | some b0 => Blk.imp _ _ _ b0 | none => False); rw [hg0]; exact ⟨rfl, rfl⟩, rfl, trivial⟩ (by exact hnd) (fun j hj => by cases j with
          | zero => exact ⟨_, rfl⟩
          | succ j => omega) (fun o => hk2 o)
    · exact hk.elim
  · exact hk.elim

theorem seekN_spec {H : List Int} : SFun Tryd.prog 54 [nilP, h32 H] (.tup [.one (.v (.slice none 0 0)), bool false]) := by
  refine SFun.inm [(98, noneNT)] (SOK.cons noneN_ok SOK.nil) [] MSOK.nil tok mixed [] IOK.nil true [] [] Tryd.call54 Tryd.func54 rfl (by rfl) ?_
  refine Eq.mp (α := (And (M.tup [M.one (SV.v (Value.slice none (0 : Nat) (0 : Nat))), M.one (SV.v (Value.bool false))] = M.tup [M.one (SV.v (Value.slice none (0 : Nat) (0 : Nat))), M.one (SV.v (Value.bool false))]) ((true : Bool) = true))) (by kernel_rfl) ?_
  repeat' first | exact trivial | refine And.intro ?_ ?_ | with_reducible refine bif_dt (by assumption) ?_ | with_reducible refine bif_df (by assumption) ?_ | with_reducible refine bif_dec (fun _ => ?_) (fun _ => ?_) | with_reducible refine bif_not ?_ | with_reducible refine bif_and ?_ | with_reducible refine bif_or ?_ | with_reducible refine bif_t (by assumption) ?_ | with_reducible refine bif_f (by assumption) ?_ | with_reducible refine bif_t (beq_self_eq_true _) ?_ | with_reducible refine bif_b (fun _ => ?_) (fun _ => ?_) | with_reducible refine ⟨_, Eq.refl (List.map _ _), ?_⟩ | (with_reducible refine Exists.intro (by omega) ?_) | rfl | (intro h0; omega) | omega
theorem seekZ_spec {H : List Int} : SMem Tryd.prog 54 [.one (.ptr 0 0), h32 H] 1 [(0, zB)] (fun _ : Unit => ⟨1, .tup [.one (.v (.slice none 0 0)), bool false], [(0, zB)]⟩) := by
  refine SMem.inm [] SOK.nil [(2000098, noT), (98, noneZT)] (MSOK.cons noT_ok (MSOK.cons noneZ_ok MSOK.nil)) tok mixed [] IOK.nil true [] [] Tryd.call54 Tryd.func54 rfl (by rfl) ?_
  refine Eq.mp (α := (And ((0 : Int) = (0 : Int)) (∀ o : Unit, (∃ o_1 : Unit, (And (And (And (Value.slice none (0 : Nat) (0 : Nat) = Value.slice none (0 : Nat) (0 : Nat)) (And ((false : Bool) = false) True)) True) (And (And (And (Value.map none = Value.map none) (And (Value.slice none (0 : Nat) (0 : Nat) = Value.slice none (0 : Nat) (0 : Nat)) (And ((0 : Int) = (0 : Int)) True))) (And ((true : Bool) = true) True)) ((true : Bool) = true))))))) (by kernel_rfl) ?_
  exact ⟨rfl, fun o => ⟨(), ⟨⟨rfl, rfl, trivial⟩, trivial⟩, ⟨⟨rfl, rfl, rfl, trivial⟩, rfl, trivial⟩, rfl⟩⟩
theorem clashN_spec : SFun Tryd.prog 55 [nilP] (.tup [.one (.v (.slice none 0 0)), .one (.v (.slice none 0 0)), bool false]) := by
  refine SFun.inm [] SOK.nil [] MSOK.nil tok mixed [(98, ⟨Tryd.f98, true, [], []⟩)] (IOK.cons Tryd.func98 Tryd.call98 IOK.nil) true [] [] Tryd.call55 Tryd.func55 rfl (by rfl) ?_
  refine Eq.mp (α := (And (M.tup [M.one (SV.v (Value.slice none (0 : Nat) (0 : Nat))), M.one (SV.v (Value.slice none (0 : Nat) (0 : Nat))), M.one (SV.v (Value.bool false))] = M.tup [M.one (SV.v (Value.slice none (0 : Nat) (0 : Nat))), M.one (SV.v (Value.slice none (0 : Nat) (0 : Nat))), M.one (SV.v (Value.bool false))]) ((true : Bool) = true))) (by kernel_rfl) ?_
  repeat' first | exact trivial | refine And.intro ?_ ?_ | with_reducible refine bif_dt (by assumption) ?_ | with_reducible refine bif_df (by assumption) ?_ | with_reducible refine bif_dec (fun _ => ?_) (fun _ => ?_) | with_reducible refine bif_not ?_ | with_reducible refine bif_and ?_ | with_reducible refine bif_or ?_ | with_reducible refine bif_t (by assumption) ?_ | with_reducible refine bif_f (by assumption) ?_ | with_reducible refine bif_t (beq_self_eq_true _) ?_ | with_reducible refine bif_b (fun _ => ?_) (fun _ => ?_) | with_reducible refine ⟨_, Eq.refl (List.map _ _), ?_⟩ | (with_reducible refine Exists.intro (by omega) ?_) | rfl | (intro h0; omega) | omega
theorem clashZ_spec : SMem Tryd.prog 55 [.one (.ptr 0 0)] 1 [(0, zB)] (fun _ : Unit => ⟨1, .tup [.one (.v (.slice none 0 0)), .one (.v (.slice none 0 0)), bool false], [(0, zB)]⟩) := by
  refine SMem.inm [] SOK.nil [] MSOK.nil tok mixed [(98, ⟨Tryd.f98, true, [], []⟩)] (IOK.cons Tryd.func98 Tryd.call98 IOK.nil) true [] [] Tryd.call55 Tryd.func55 rfl (by rfl) ?_
  refine Eq.mp (α := (∃ o : Unit, (And (And (And (Value.slice none (0 : Nat) (0 : Nat) = Value.slice none (0 : Nat) (0 : Nat)) (And (Value.slice none (0 : Nat) (0 : Nat) = Value.slice none (0 : Nat) (0 : Nat)) (And ((false : Bool) = false) True))) True) (And (And (And (Value.map none = Value.map none) (And (Value.slice none (0 : Nat) (0 : Nat) = Value.slice none (0 : Nat) (0 : Nat)) (And ((0 : Int) = (0 : Int)) True))) (And ((true : Bool) = true) True)) ((true : Bool) = true))))) (by kernel_rfl) ?_
  refine ⟨(), ?_⟩
  repeat' first | exact trivial | refine And.intro ?_ ?_ | with_reducible refine bif_dt (by assumption) ?_ | with_reducible refine bif_df (by assumption) ?_ | with_reducible refine bif_dec (fun _ => ?_) (fun _ => ?_) | with_reducible refine bif_not ?_ | with_reducible refine bif_and ?_ | with_reducible refine bif_or ?_ | with_reducible refine bif_t (by assumption) ?_ | with_reducible refine bif_f (by assumption) ?_ | with_reducible refine bif_t (beq_self_eq_true _) ?_ | with_reducible refine bif_b (fun _ => ?_) (fun _ => ?_) | with_reducible refine ⟨_, Eq.refl (List.map _ _), ?_⟩ | (with_reducible refine Exists.intro (by omega) ?_) | rfl | (intro h0; omega) | omega
theorem lenN_spec : SFun Tryd.prog 61 [nilP] (int 0) := by
  refine SFun.inm [] SOK.nil [] MSOK.nil tok mixed [(98, ⟨Tryd.f98, true, [], []⟩)] (IOK.cons Tryd.func98 Tryd.call98 IOK.nil) true [] [] Tryd.call61 Tryd.func61 rfl (by rfl) ?_
  refine Eq.mp (α := (And (M.one (SV.v (Value.int IntKind.i64 (0 : Int))) = M.one (SV.v (Value.int IntKind.i64 (0 : Int)))) ((true : Bool) = true))) (by kernel_rfl) ?_
  repeat' first | exact trivial | refine And.intro ?_ ?_ | with_reducible refine bif_dt (by assumption) ?_ | with_reducible refine bif_df (by assumption) ?_ | with_reducible refine bif_dec (fun _ => ?_) (fun _ => ?_) | with_reducible refine bif_not ?_ | with_reducible refine bif_and ?_ | with_reducible refine bif_or ?_ | with_reducible refine bif_t (by assumption) ?_ | with_reducible refine bif_f (by assumption) ?_ | with_reducible refine bif_t (beq_self_eq_true _) ?_ | with_reducible refine bif_b (fun _ => ?_) (fun _ => ?_) | with_reducible refine ⟨_, Eq.refl (List.map _ _), ?_⟩ | (with_reducible refine Exists.intro (by omega) ?_) | rfl | (intro h0; omega) | omega
theorem lenZ_spec : SMem Tryd.prog 61 [.one (.ptr 0 0)] 1 [(0, zB)] (fun _ : Unit => ⟨1, int 0, [(0, zB)]⟩) := by
  refine SMem.inm [] SOK.nil [] MSOK.nil tok mixed [(98, ⟨Tryd.f98, true, [], []⟩)] (IOK.cons Tryd.func98 Tryd.call98 IOK.nil) true [] [] Tryd.call61 Tryd.func61 rfl (by rfl) ?_
  refine Eq.mp (α := (∃ o : Unit, (And (And ((0 : Int) = (0 : Int)) True) (And (And (And (Value.map none = Value.map none) (And (Value.slice none (0 : Nat) (0 : Nat) = Value.slice none (0 : Nat) (0 : Nat)) (And ((0 : Int) = (0 : Int)) True))) (And ((true : Bool) = true) True)) ((true : Bool) = true))))) (by kernel_rfl) ?_
  refine ⟨(), ?_⟩
  repeat' first | exact trivial | refine And.intro ?_ ?_ | with_reducible refine bif_dt (by assumption) ?_ | with_reducible refine bif_df (by assumption) ?_ | with_reducible refine bif_dec (fun _ => ?_) (fun _ => ?_) | with_reducible refine bif_not ?_ | with_reducible refine bif_and ?_ | with_reducible refine bif_or ?_ | with_reducible refine bif_t (by assumption) ?_ | with_reducible refine bif_f (by assumption) ?_ | with_reducible refine bif_t (beq_self_eq_true _) ?_ | with_reducible refine bif_b (fun _ => ?_) (fun _ => ?_) | with_reducible refine ⟨_, Eq.refl (List.map _ _), ?_⟩ | (with_reducible refine Exists.intro (by omega) ?_) | rfl | (intro h0; omega) | omega
theorem putN_spec {H : List Int} (y : M) (hy : y = .one (.v (.slice none 0 0))) : SFun Tryd.prog 60 [nilP, h32 H, y] (int 1) := by
  subst hy
  refine SFun.inm [] SOK.nil [] MSOK.nil tok mixed [(98, ⟨Tryd.f98, true, [], []⟩)] (IOK.cons Tryd.func98 Tryd.call98 IOK.nil) true [] [] Tryd.call60 Tryd.func60 rfl (by rfl) ?_
  refine Eq.mp (α := (And (M.one (SV.v (Value.int IntKind.i64 (1 : Int))) = M.one (SV.v (Value.int IntKind.i64 (1 : Int)))) ((true : Bool) = true))) (by kernel_rfl) ?_
  repeat' first | exact trivial | refine And.intro ?_ ?_ | with_reducible refine bif_dt (by assumption) ?_ | with_reducible refine bif_df (by assumption) ?_ | with_reducible refine bif_dec (fun _ => ?_) (fun _ => ?_) | with_reducible refine bif_not ?_ | with_reducible refine bif_and ?_ | with_reducible refine bif_or ?_ | with_reducible refine bif_t (by assumption) ?_ | with_reducible refine bif_f (by assumption) ?_ | with_reducible refine bif_t (beq_self_eq_true _) ?_ | with_reducible refine bif_b (fun _ => ?_) (fun _ => ?_) | with_reducible refine ⟨_, Eq.refl (List.map _ _), ?_⟩ | (with_reducible refine Exists.intro (by omega) ?_) | rfl | (intro h0; omega) | omega
theorem putZ_spec {H : List Int} (y : M) (hy : y = .one (.v (.slice none 0 0))) : SMem Tryd.prog 60 [.one (.ptr 0 0), h32 H, y] 1 [(0, zB)] (fun _ : Unit => ⟨1, int 1, [(0, zB)]⟩) := by
  subst hy
  refine SMem.inm [] SOK.nil [] MSOK.nil tok mixed [(98, ⟨Tryd.f98, true, [], []⟩)] (IOK.cons Tryd.func98 Tryd.call98 IOK.nil) true [] [] Tryd.call60 Tryd.func60 rfl (by rfl) ?_
  refine Eq.mp (α := (∃ o : Unit, (And (And ((1 : Int) = (1 : Int)) True) (And (And (And (Value.map none = Value.map none) (And (Value.slice none (0 : Nat) (0 : Nat) = Value.slice none (0 : Nat) (0 : Nat)) (And ((0 : Int) = (0 : Int)) True))) (And ((true : Bool) = true) True)) ((true : Bool) = true))))) (by kernel_rfl) ?_
  refine ⟨(), ?_⟩
  repeat' first | exact trivial | refine And.intro ?_ ?_ | with_reducible refine bif_dt (by assumption) ?_ | with_reducible refine bif_df (by assumption) ?_ | with_reducible refine bif_dec (fun _ => ?_) (fun _ => ?_) | with_reducible refine bif_not ?_ | with_reducible refine bif_and ?_ | with_reducible refine bif_or ?_ | with_reducible refine bif_t (by assumption) ?_ | with_reducible refine bif_f (by assumption) ?_ | with_reducible refine bif_t (beq_self_eq_true _) ?_ | with_reducible refine bif_b (fun _ => ?_) (fun _ => ?_) | with_reducible refine ⟨_, Eq.refl (List.map _ _), ?_⟩ | (with_reducible refine Exists.intro (by omega) ?_) | rfl | (intro h0; omega) | omega
theorem sumN_spec (y : Value) {b : List Int} (hb : By b) (hl : b.length ≤ 140737488351232) : SFun Tryd.prog 56 [nilP, byV y b] (h32 (shaF b)) := by
  refine SFun.inm [(17, sumT)] (SOK.cons sum_ok SOK.nil) [] MSOK.nil tok mixed [(60, ⟨Tryd.f60, true, [], []⟩), (98, ⟨Tryd.f98, true, [], []⟩)] (IOK.cons Tryd.func60 Tryd.call60 (IOK.cons Tryd.func98 Tryd.call98 IOK.nil)) true [] [] Tryd.call56 Tryd.func56 rfl (by rfl) ?_
  refine Eq.mp (α := (∃ b_1 : List Int, (And (List.map (Enc.enc (encInt IntKind.u8)) b = List.map eB b_1) (And (And (∀ x : Int, (∀ a : x ∈ b_1, (And ((0 : Int) ≤ x) (x < (256 : Int))))) (List.length b_1 ≤ (140737488351232 : Nat))) (And (M.agg [SV.ints IntKind.u8 (32 : Nat) (shaF b_1)] = M.agg [SV.ints IntKind.u8 (32 : Nat) (shaF b)]) ((true : Bool) = true)))))) (by kernel_rfl) ?_
  exact ⟨b, rfl, ⟨hb, hl⟩, rfl, rfl⟩
theorem sumZ_spec (y : Value) {b : List Int} (hb : By b) (hl : b.length ≤ 140737488351232) : SMem Tryd.prog 56 [.one (.ptr 0 0), byV y b] 1 [(0, zB)] (fun _ : Unit => ⟨1, h32 (shaF b), [(0, zB)]⟩) := by
  refine SMem.inm [(17, sumT)] (SOK.cons sum_ok SOK.nil) [] MSOK.nil tok mixed [(60, ⟨Tryd.f60, true, [], []⟩), (98, ⟨Tryd.f98, true, [], []⟩)] (IOK.cons Tryd.func60 Tryd.call60 (IOK.cons Tryd.func98 Tryd.call98 IOK.nil)) true [] [] Tryd.call56 Tryd.func56 rfl (by rfl) ?_
  refine Eq.mp (α := (∃ b_1 : List Int, (And (List.map (Enc.enc (encInt IntKind.u8)) b = List.map eB b_1) (And (And (∀ x : Int, (∀ a : x ∈ b_1, (And ((0 : Int) ≤ x) (x < (256 : Int))))) (List.length b_1 ≤ (140737488351232 : Nat))) (∃ o : Unit, (And (And (And (shaF b = shaF b_1) True) True) (And (And (And (Value.map none = Value.map none) (And (Value.slice none (0 : Nat) (0 : Nat) = Value.slice none (0 : Nat) (0 : Nat)) (And ((0 : Int) = (0 : Int)) True))) (And ((true : Bool) = true) True)) ((true : Bool) = true)))))))) (by kernel_rfl) ?_
  exact ⟨b, rfl, ⟨hb, hl⟩, (), ⟨⟨rfl, trivial⟩, trivial⟩, ⟨⟨rfl, rfl, rfl, trivial⟩, rfl, trivial⟩, rfl⟩
theorem taggedN_spec (x : Value) (t : ByteArray) {l : List BTy} (h1 : (l.flatMap fB).length ≤ 140000000000000) (h2 : t.size ≤ 140737488351232) (h3 : ∀ y ∈ l, By (bl y)) : SFun Tryd.prog 58 [nilP, str t, bV x l] (h32 (shaF (frm t l))) := by
  refine SFun.inm [(17, sumT)] (SOK.cons sum_ok SOK.nil) [(21, frameT)] (MSOK.cons frame_ok MSOK.nil) tok mixed [(56, ⟨Tryd.f56, true, [], []⟩), (60, ⟨Tryd.f60, true, [], []⟩), (98, ⟨Tryd.f98, true, [], []⟩)] (IOK.cons Tryd.func56 Tryd.call56 (IOK.cons Tryd.func60 Tryd.call60 (IOK.cons Tryd.func98 Tryd.call98 IOK.nil))) true [] [] Tryd.call58 Tryd.func58 rfl (by rfl) ?_
  refine Eq.mp (α := (∃ l_1 : List BTy, (And (List.map (Enc.enc BE) l = List.map eBl l_1) (And (And (List.length (List.flatMap fB l_1) ≤ (140000000000000 : Nat)) (ByteArray.size t ≤ (140737488351232 : Nat))) (∀ y : Value, (∃ b : List Int, (And (List.map (Enc.enc (encInt IntKind.u8)) (frm t l_1) = List.map eB b) (And (And (∀ x_1 : Int, (∀ a : x_1 ∈ b, (And ((0 : Int) ≤ x_1) (x_1 < (256 : Int))))) (List.length b ≤ (140737488351232 : Nat))) (And (M.agg [SV.ints IntKind.u8 (32 : Nat) (shaF b)] = M.agg [SV.ints IntKind.u8 (32 : Nat) (shaF (frm t l))]) ((true : Bool) = true)))))))))) (by kernel_rfl) ?_
  have := frm_len t l
  exact ⟨l, rfl, ⟨h1, h2⟩, fun y => ⟨frm t l, rfl, ⟨frm_By h3, by omega⟩, rfl, rfl⟩⟩
theorem taggedZ_spec (x : Value) (t : ByteArray) {l : List BTy} (h1 : (l.flatMap fB).length ≤ 140000000000000) (h2 : t.size ≤ 140737488351232) (h3 : ∀ y ∈ l, By (bl y)) : SMem Tryd.prog 58 [.one (.ptr 0 0), str t, bV x l] 1 [(0, zB)] (fun _ : Unit => ⟨1, h32 (shaF (frm t l)), [(0, zB)]⟩) := by
  refine SMem.inm [(17, sumT)] (SOK.cons sum_ok SOK.nil) [(21, frameT)] (MSOK.cons frame_ok MSOK.nil) tok mixed [(56, ⟨Tryd.f56, true, [], []⟩), (60, ⟨Tryd.f60, true, [], []⟩), (98, ⟨Tryd.f98, true, [], []⟩)] (IOK.cons Tryd.func56 Tryd.call56 (IOK.cons Tryd.func60 Tryd.call60 (IOK.cons Tryd.func98 Tryd.call98 IOK.nil))) true [] [] Tryd.call58 Tryd.func58 rfl (by rfl) ?_
  refine Eq.mp (α := (∃ l_1 : List BTy, (And (List.map (Enc.enc BE) l = List.map eBl l_1) (And (And (List.length (List.flatMap fB l_1) ≤ (140000000000000 : Nat)) (ByteArray.size t ≤ (140737488351232 : Nat))) (∀ y : Value, (∃ b : List Int, (And (List.map (Enc.enc (encInt IntKind.u8)) (frm t l_1) = List.map eB b) (And (And (∀ x_1 : Int, (∀ a : x_1 ∈ b, (And ((0 : Int) ≤ x_1) (x_1 < (256 : Int))))) (List.length b ≤ (140737488351232 : Nat))) (∃ o : Unit, (And (And (And (shaF (frm t l) = shaF b) True) True) (And (And (And (Value.map none = Value.map none) (And (Value.slice none (0 : Nat) (0 : Nat) = Value.slice none (0 : Nat) (0 : Nat)) (And ((0 : Int) = (0 : Int)) True))) (And ((true : Bool) = true) True)) ((true : Bool) = true)))))))))))) (by kernel_rfl) ?_
  have := frm_len t l
  exact ⟨l, rfl, ⟨h1, h2⟩, fun y => ⟨frm t l, rfl, ⟨frm_By h3, by omega⟩, (), ⟨⟨rfl, trivial⟩, trivial⟩, ⟨⟨rfl, rfl, rfl, trivial⟩, rfl, trivial⟩, rfl⟩⟩
def seekNT : MT := fun ms n h K => match ms with
  | [.one (.v (.pointer none)), .agg [.ints .u8 32 k]] => bif true then (True) ∧ (∀ o : Unit, K (n + 0) (.tup [.one (.v (.slice none 0 0)), bool false]) ([] ++ delL [] h)) else False
  | _ => False
theorem seekN_mono : MMono seekNT := by
  intro ms n h K K' hkk hk
  unfold seekNT at hk ⊢
  split at hk
  · rename_i k
    obtain ⟨hb, h1, h2⟩ := cond_false_elim hk
    rw [hb]
    exact ⟨h1, fun o => hkk _ _ _ (h2 o)⟩
  · exact hk.elim
theorem seekN_ok : MOK Tryd.prog 54 seekNT := by
  refine ⟨?_, seekN_mono⟩
  intro ms n hB K hk
  unfold seekNT at hk
  split at hk
  · rename_i k
    obtain ⟨hb, h, hk2⟩ := cond_false_elim hk
    clear hk
    have hnd : noDup [] = true := rfl
    refine SCall.seen ?_ (.cons (.refl _) (.cons (.refl _) .nil))
    exact ((seekN_spec (H := k)).mem rfl).use (fun _ => 0) rfl rfl trivial (by exact hnd) (fun j hj => absurd hj (Nat.not_lt_zero j)) (fun o => hk2 o)
  · exact hk.elim

theorem seekZ_row {k : List Int} {z : Int} (hz : z = 0) : SMem Tryd.prog 54 [.one (.ptr 0 0), h32 k] 1 [(0, .cells [.v (.map none), .v (.slice none 0 0), .v (.int .i64 z)])] (fun _ : Unit => ⟨1, .tup [.one (.v (.slice none 0 0)), bool false], [(0, zB)]⟩) := by
  subst hz
  exact seekZ_spec (H := k)
def seekZT : MT := fun ms n h K => match ms with
  | [.one (.ptr P0 0), .agg [.ints .u8 32 k]] => (match get h P0 with
    | some (.cells [.v (.map none), .v (.slice none 0 0), .v (.int .i64 z)]) => bif noDup [P0] then (z = 0) ∧ (∀ o : Unit, K (n + 0) (.tup [.one (.v (.slice none 0 0)), bool false]) ([(P0, .cells [.v (.map none), .v (.slice none 0 0), .v (.int .i64 0)])] ++ delL [P0] h)) else False
    | _ => False)
  | _ => False
theorem seekZ_mono : MMono seekZT := by
  intro ms n h K K' hkk hk
  unfold seekZT at hk ⊢
  split at hk
  · rename_i P0 k
    split at hk
    · rename_i z hg0
      try simp only [hg0]
      obtain ⟨hb, h1, h2⟩ := cond_false_elim hk
      rw [hb]
      exact ⟨h1, fun o => hkk _ _ _ (h2 o)⟩
    · exact hk.elim
  · exact hk.elim
theorem seekZ_ok : MOK Tryd.prog 54 seekZT := by
  refine ⟨?_, seekZ_mono⟩
  intro ms n hB K hk
  unfold seekZT at hk
  split at hk
  · rename_i P0 k
    split at hk
    · rename_i z hg0
      obtain ⟨hb, h, hk2⟩ := cond_false_elim hk
      clear hk
      have hnd := hb
      refine SCall.seen ?_ (.cons (.refl _) (.cons (.refl _) .nil))
      exact (seekZ_row (k := k) h).use (fun j => match j with | 0 => P0 | _ => 0) rfl rfl ⟨by show (match get hB P0 with | some b0 => Blk.imp _ _ _ b0 | none => False); rw [hg0]; exact ⟨rfl, rfl⟩, rfl, trivial⟩ (by exact hnd) (fun j hj => by cases j with
          | zero => exact ⟨_, rfl⟩
          | succ j => omega) (fun o => hk2 o)
    · exact hk.elim
  · exact hk.elim

def seek2T : MT := fun ms n h K => match ms with
  | .one (.v (.pointer none)) :: r => seekNT (.one (.v (.pointer none)) :: r) n h K
  | ms => seekZT ms n h K
theorem seek2_ok : MOK Tryd.prog 54 seek2T := by
  refine ⟨fun args n h K hk => ?_, fun args n h K K' hkk hk => ?_⟩
  · unfold seek2T at hk
    split at hk
    · exact seekN_ok.ok _ _ _ _ hk
    · exact seekZ_ok.ok _ _ _ _ hk
  · unfold seek2T at hk ⊢
    split at hk
    · exact seekN_ok.mono _ _ _ _ _ hkk hk
    · exact seekZ_ok.mono _ _ _ _ _ hkk hk
def clashNT : MT := fun ms n h K => match ms with
  | [.one (.v (.pointer none))] => bif true then (True) ∧ (∀ o : Unit, K (n + 0) (.tup [.one (.v (.slice none 0 0)), .one (.v (.slice none 0 0)), bool false]) ([] ++ delL [] h)) else False
  | _ => False
theorem clashN_mono : MMono clashNT := by
  intro ms n h K K' hkk hk
  unfold clashNT at hk ⊢
  split at hk
  · obtain ⟨hb, h1, h2⟩ := cond_false_elim hk
    rw [hb]
    exact ⟨h1, fun o => hkk _ _ _ (h2 o)⟩
  · exact hk.elim
theorem clashN_ok : MOK Tryd.prog 55 clashNT := by
  refine ⟨?_, clashN_mono⟩
  intro ms n hB K hk
  unfold clashNT at hk
  split at hk
  · obtain ⟨hb, h, hk2⟩ := cond_false_elim hk
    clear hk
    have hnd : noDup [] = true := rfl
    refine SCall.seen ?_ (.cons (.refl _) .nil)
    exact ((clashN_spec ).mem rfl).use (fun _ => 0) rfl rfl trivial (by exact hnd) (fun j hj => absurd hj (Nat.not_lt_zero j)) (fun o => hk2 o)
  · exact hk.elim

theorem clashZ_row  {z : Int} (hz : z = 0) : SMem Tryd.prog 55 [.one (.ptr 0 0)] 1 [(0, .cells [.v (.map none), .v (.slice none 0 0), .v (.int .i64 z)])] (fun _ : Unit => ⟨1, .tup [.one (.v (.slice none 0 0)), .one (.v (.slice none 0 0)), bool false], [(0, zB)]⟩) := by
  subst hz
  exact clashZ_spec 
def clashZT : MT := fun ms n h K => match ms with
  | [.one (.ptr P0 0)] => (match get h P0 with
    | some (.cells [.v (.map none), .v (.slice none 0 0), .v (.int .i64 z)]) => bif noDup [P0] then (z = 0) ∧ (∀ o : Unit, K (n + 0) (.tup [.one (.v (.slice none 0 0)), .one (.v (.slice none 0 0)), bool false]) ([(P0, .cells [.v (.map none), .v (.slice none 0 0), .v (.int .i64 0)])] ++ delL [P0] h)) else False
    | _ => False)
  | _ => False
theorem clashZ_mono : MMono clashZT := by
  intro ms n h K K' hkk hk
  unfold clashZT at hk ⊢
  split at hk
  · rename_i P0
    split at hk
    · rename_i z hg0
      try simp only [hg0]
      obtain ⟨hb, h1, h2⟩ := cond_false_elim hk
      rw [hb]
      exact ⟨h1, fun o => hkk _ _ _ (h2 o)⟩
    · exact hk.elim
  · exact hk.elim
theorem clashZ_ok : MOK Tryd.prog 55 clashZT := by
  refine ⟨?_, clashZ_mono⟩
  intro ms n hB K hk
  unfold clashZT at hk
  split at hk
  · rename_i P0
    split at hk
    · rename_i z hg0
      obtain ⟨hb, h, hk2⟩ := cond_false_elim hk
      clear hk
      have hnd := hb
      refine SCall.seen ?_ (.cons (.refl _) .nil)
      exact (clashZ_row h).use (fun j => match j with | 0 => P0 | _ => 0) rfl rfl ⟨by show (match get hB P0 with | some b0 => Blk.imp _ _ _ b0 | none => False); rw [hg0]; exact ⟨rfl, rfl⟩, rfl, trivial⟩ (by exact hnd) (fun j hj => by cases j with
          | zero => exact ⟨_, rfl⟩
          | succ j => omega) (fun o => hk2 o)
    · exact hk.elim
  · exact hk.elim

def clash2T : MT := fun ms n h K => match ms with
  | .one (.v (.pointer none)) :: r => clashNT (.one (.v (.pointer none)) :: r) n h K
  | ms => clashZT ms n h K
theorem clash2_ok : MOK Tryd.prog 55 clash2T := by
  refine ⟨fun args n h K hk => ?_, fun args n h K K' hkk hk => ?_⟩
  · unfold clash2T at hk
    split at hk
    · exact clashN_ok.ok _ _ _ _ hk
    · exact clashZ_ok.ok _ _ _ _ hk
  · unfold clash2T at hk ⊢
    split at hk
    · exact clashN_ok.mono _ _ _ _ _ hkk hk
    · exact clashZ_ok.mono _ _ _ _ _ hkk hk
def lenNT : MT := fun ms n h K => match ms with
  | [.one (.v (.pointer none))] => bif true then (True) ∧ (∀ o : Unit, K (n + 0) (int 0) ([] ++ delL [] h)) else False
  | _ => False
theorem lenN_mono : MMono lenNT := by
  intro ms n h K K' hkk hk
  unfold lenNT at hk ⊢
  split at hk
  · obtain ⟨hb, h1, h2⟩ := cond_false_elim hk
    rw [hb]
    exact ⟨h1, fun o => hkk _ _ _ (h2 o)⟩
  · exact hk.elim
theorem lenN_ok : MOK Tryd.prog 61 lenNT := by
  refine ⟨?_, lenN_mono⟩
  intro ms n hB K hk
  unfold lenNT at hk
  split at hk
  · obtain ⟨hb, h, hk2⟩ := cond_false_elim hk
    clear hk
    have hnd : noDup [] = true := rfl
    refine SCall.seen ?_ (.cons (.refl _) .nil)
    exact ((lenN_spec ).mem rfl).use (fun _ => 0) rfl rfl trivial (by exact hnd) (fun j hj => absurd hj (Nat.not_lt_zero j)) (fun o => hk2 o)
  · exact hk.elim

theorem lenZ_row  {z : Int} (hz : z = 0) : SMem Tryd.prog 61 [.one (.ptr 0 0)] 1 [(0, .cells [.v (.map none), .v (.slice none 0 0), .v (.int .i64 z)])] (fun _ : Unit => ⟨1, int 0, [(0, zB)]⟩) := by
  subst hz
  exact lenZ_spec 
def lenZT : MT := fun ms n h K => match ms with
  | [.one (.ptr P0 0)] => (match get h P0 with
    | some (.cells [.v (.map none), .v (.slice none 0 0), .v (.int .i64 z)]) => bif noDup [P0] then (z = 0) ∧ (∀ o : Unit, K (n + 0) (int 0) ([(P0, .cells [.v (.map none), .v (.slice none 0 0), .v (.int .i64 0)])] ++ delL [P0] h)) else False
    | _ => False)
  | _ => False
theorem lenZ_mono : MMono lenZT := by
  intro ms n h K K' hkk hk
  unfold lenZT at hk ⊢
  split at hk
  · rename_i P0
    split at hk
    · rename_i z hg0
      try simp only [hg0]
      obtain ⟨hb, h1, h2⟩ := cond_false_elim hk
      rw [hb]
      exact ⟨h1, fun o => hkk _ _ _ (h2 o)⟩
    · exact hk.elim
  · exact hk.elim
theorem lenZ_ok : MOK Tryd.prog 61 lenZT := by
  refine ⟨?_, lenZ_mono⟩
  intro ms n hB K hk
  unfold lenZT at hk
  split at hk
  · rename_i P0
    split at hk
    · rename_i z hg0
      obtain ⟨hb, h, hk2⟩ := cond_false_elim hk
      clear hk
      have hnd := hb
      refine SCall.seen ?_ (.cons (.refl _) .nil)
      exact (lenZ_row h).use (fun j => match j with | 0 => P0 | _ => 0) rfl rfl ⟨by show (match get hB P0 with | some b0 => Blk.imp _ _ _ b0 | none => False); rw [hg0]; exact ⟨rfl, rfl⟩, rfl, trivial⟩ (by exact hnd) (fun j hj => by cases j with
          | zero => exact ⟨_, rfl⟩
          | succ j => omega) (fun o => hk2 o)
    · exact hk.elim
  · exact hk.elim

def len2T : MT := fun ms n h K => match ms with
  | .one (.v (.pointer none)) :: r => lenNT (.one (.v (.pointer none)) :: r) n h K
  | ms => lenZT ms n h K
theorem len2_ok : MOK Tryd.prog 61 len2T := by
  refine ⟨fun args n h K hk => ?_, fun args n h K K' hkk hk => ?_⟩
  · unfold len2T at hk
    split at hk
    · exact lenN_ok.ok _ _ _ _ hk
    · exact lenZ_ok.ok _ _ _ _ hk
  · unfold len2T at hk ⊢
    split at hk
    · exact lenN_ok.mono _ _ _ _ _ hkk hk
    · exact lenZ_ok.mono _ _ _ _ _ hkk hk
def putNT : MT := fun ms n h K => match ms with
  | [.one (.v (.pointer none)), .agg [.ints .u8 32 k], .one (.v (.slice none 0 0))] => bif true then (True) ∧ (∀ o : Unit, K (n + 0) (int 1) ([] ++ delL [] h)) else False
  | _ => False
theorem putN_mono : MMono putNT := by
  intro ms n h K K' hkk hk
  unfold putNT at hk ⊢
  split at hk
  · rename_i k
    obtain ⟨hb, h1, h2⟩ := cond_false_elim hk
    rw [hb]
    exact ⟨h1, fun o => hkk _ _ _ (h2 o)⟩
  · exact hk.elim
theorem putN_ok : MOK Tryd.prog 60 putNT := by
  refine ⟨?_, putN_mono⟩
  intro ms n hB K hk
  unfold putNT at hk
  split at hk
  · rename_i k
    obtain ⟨hb, h, hk2⟩ := cond_false_elim hk
    clear hk
    have hnd : noDup [] = true := rfl
    refine SCall.seen ?_ (.cons (.refl _) (.cons (.refl _) (.cons (.refl _) .nil)))
    exact ((putN_spec (H := k) _ rfl).mem rfl).use (fun _ => 0) rfl rfl trivial (by exact hnd) (fun j hj => absurd hj (Nat.not_lt_zero j)) (fun o => hk2 o)
  · exact hk.elim

theorem putZ_row {k : List Int} {z : Int} (hz : z = 0) : SMem Tryd.prog 60 [.one (.ptr 0 0), h32 k, .one (.v (.slice none 0 0))] 1 [(0, .cells [.v (.map none), .v (.slice none 0 0), .v (.int .i64 z)])] (fun _ : Unit => ⟨1, int 1, [(0, zB)]⟩) := by
  subst hz
  exact putZ_spec (H := k) _ rfl
def putZT : MT := fun ms n h K => match ms with
  | [.one (.ptr P0 0), .agg [.ints .u8 32 k], .one (.v (.slice none 0 0))] => (match get h P0 with
    | some (.cells [.v (.map none), .v (.slice none 0 0), .v (.int .i64 z)]) => bif noDup [P0] then (z = 0) ∧ (∀ o : Unit, K (n + 0) (int 1) ([(P0, .cells [.v (.map none), .v (.slice none 0 0), .v (.int .i64 0)])] ++ delL [P0] h)) else False
    | _ => False)
  | _ => False
theorem putZ_mono : MMono putZT := by
  intro ms n h K K' hkk hk
  unfold putZT at hk ⊢
  split at hk
  · rename_i P0 k
    split at hk
    · rename_i z hg0
      try simp only [hg0]
      obtain ⟨hb, h1, h2⟩ := cond_false_elim hk
      rw [hb]
      exact ⟨h1, fun o => hkk _ _ _ (h2 o)⟩
    · exact hk.elim
  · exact hk.elim
theorem putZ_ok : MOK Tryd.prog 60 putZT := by
  refine ⟨?_, putZ_mono⟩
  intro ms n hB K hk
  unfold putZT at hk
  split at hk
  · rename_i P0 k
    split at hk
    · rename_i z hg0
      obtain ⟨hb, h, hk2⟩ := cond_false_elim hk
      clear hk
      have hnd := hb
      refine SCall.seen ?_ (.cons (.refl _) (.cons (.refl _) (.cons (.refl _) .nil)))
      exact (putZ_row (k := k) h).use (fun j => match j with | 0 => P0 | _ => 0) rfl rfl ⟨by show (match get hB P0 with | some b0 => Blk.imp _ _ _ b0 | none => False); rw [hg0]; exact ⟨rfl, rfl⟩, rfl, trivial⟩ (by exact hnd) (fun j hj => by cases j with
          | zero => exact ⟨_, rfl⟩
          | succ j => omega) (fun o => hk2 o)
    · exact hk.elim
  · exact hk.elim

def put2T : MT := fun ms n h K => match ms with
  | .one (.v (.pointer none)) :: r => putNT (.one (.v (.pointer none)) :: r) n h K
  | ms => putZT ms n h K
theorem put2_ok : MOK Tryd.prog 60 put2T := by
  refine ⟨fun args n h K hk => ?_, fun args n h K K' hkk hk => ?_⟩
  · unfold put2T at hk
    split at hk
    · exact putN_ok.ok _ _ _ _ hk
    · exact putZ_ok.ok _ _ _ _ hk
  · unfold put2T at hk ⊢
    split at hk
    · exact putN_ok.mono _ _ _ _ _ hkk hk
    · exact putZ_ok.mono _ _ _ _ _ hkk hk
def sumNT : MT := fun ms n h K => match ms with
  | [.one (.v (.pointer none)), .one (.view vx0 ve0 en0 vl0)] => bif Nat.beq ve0 1 && noDup [] then ∃ b : List (Int), vl0.map en0 = b.map eB ∧ ((By b ∧ b.length ≤ 140737488351232)) ∧ (∀ o : Unit, K (n + 0) (h32 (shaF b)) ([] ++ delL [] h)) else False
  | _ => False
theorem sumN_mono : MMono sumNT := by
  intro ms n h K K' hkk hk
  unfold sumNT at hk ⊢
  split at hk
  · rename_i vx0 ve0 va0 en0 vl0
    obtain ⟨hb, y0, z0, h1, h2⟩ := cond_false_elim hk
    rw [hb]
    exact ⟨y0, z0, h1, fun o => hkk _ _ _ (h2 o)⟩
  · exact hk.elim
theorem sumN_ok : MOK Tryd.prog 56 sumNT := by
  refine ⟨?_, sumN_mono⟩
  intro ms n hB K hk
  unfold sumNT at hk
  split at hk
  · rename_i vx0 ve0 va0 en0 vl0
    obtain ⟨hb, b, he0, h, hk2⟩ := cond_false_elim hk
    clear hk
    simp only [Bool.and_eq_true] at hb
    obtain ⟨hc0, hnd⟩ := hb
    have hs0 := Nat.eq_of_beq_eq_true hc0
    subst hs0
    refine SCall.seen ?_ (.cons (.refl _) (.cons (.view he0) .nil))
    exact ((sumN_spec _ h.1 h.2).mem rfl).use (fun _ => 0) rfl rfl trivial (by exact hnd) (fun j hj => absurd hj (Nat.not_lt_zero j)) (fun o => hk2 o)
  · exact hk.elim

theorem sumZ_row (y : Value) {b : List Int} {z : Int} (hp : (By b ∧ b.length ≤ 140737488351232)) (hz : z = 0) : SMem Tryd.prog 56 [.one (.ptr 0 0), byV y b] 1 [(0, .cells [.v (.map none), .v (.slice none 0 0), .v (.int .i64 z)])] (fun _ : Unit => ⟨1, h32 (shaF b), [(0, zB)]⟩) := by
  subst hz
  exact sumZ_spec y hp.1 hp.2
def sumZT : MT := fun ms n h K => match ms with
  | [.one (.ptr P0 0), .one (.view vx0 ve0 en0 vl0)] => (match get h P0 with
    | some (.cells [.v (.map none), .v (.slice none 0 0), .v (.int .i64 z)]) => bif Nat.beq ve0 1 && noDup [P0] then ∃ b : List (Int), vl0.map en0 = b.map eB ∧ ((By b ∧ b.length ≤ 140737488351232) ∧ z = 0) ∧ (∀ o : Unit, K (n + 0) (h32 (shaF b)) ([(P0, .cells [.v (.map none), .v (.slice none 0 0), .v (.int .i64 0)])] ++ delL [P0] h)) else False
    | _ => False)
  | _ => False
theorem sumZ_mono : MMono sumZT := by
  intro ms n h K K' hkk hk
  unfold sumZT at hk ⊢
  split at hk
  · rename_i P0 vx0 ve0 va0 en0 vl0
    split at hk
    · rename_i z hg0
      try simp only [hg0]
      obtain ⟨hb, y0, z0, h1, h2⟩ := cond_false_elim hk
      rw [hb]
      exact ⟨y0, z0, h1, fun o => hkk _ _ _ (h2 o)⟩
    · exact hk.elim
  · exact hk.elim
theorem sumZ_ok : MOK Tryd.prog 56 sumZT := by
  refine ⟨?_, sumZ_mono⟩
  intro ms n hB K hk
  unfold sumZT at hk
  split at hk
  · rename_i P0 vx0 ve0 va0 en0 vl0
    split at hk
    · rename_i z hg0
      obtain ⟨hb, b, he0, h, hk2⟩ := cond_false_elim hk
      clear hk
      simp only [Bool.and_eq_true] at hb
      obtain ⟨hc0, hnd⟩ := hb
      have hs0 := Nat.eq_of_beq_eq_true hc0
      subst hs0
      refine SCall.seen ?_ (.cons (.refl _) (.cons (.view he0) .nil))
      exact (sumZ_row _ h.1 h.2).use (fun j => match j with | 0 => P0 | _ => 0) rfl rfl ⟨by show (match get hB P0 with | some b0 => Blk.imp _ _ _ b0 | none => False); rw [hg0]; exact ⟨rfl, rfl⟩, rfl, trivial⟩ (by exact hnd) (fun j hj => by cases j with
          | zero => exact ⟨_, rfl⟩
          | succ j => omega) (fun o => hk2 o)
    · exact hk.elim
  · exact hk.elim

def sum2T : MT := fun ms n h K => match ms with
  | .one (.v (.pointer none)) :: r => sumNT (.one (.v (.pointer none)) :: r) n h K
  | ms => sumZT ms n h K
theorem sum2_ok : MOK Tryd.prog 56 sum2T := by
  refine ⟨fun args n h K hk => ?_, fun args n h K K' hkk hk => ?_⟩
  · unfold sum2T at hk
    split at hk
    · exact sumN_ok.ok _ _ _ _ hk
    · exact sumZ_ok.ok _ _ _ _ hk
  · unfold sum2T at hk ⊢
    split at hk
    · exact sumN_ok.mono _ _ _ _ _ hkk hk
    · exact sumZ_ok.mono _ _ _ _ _ hkk hk
def taggedNT : MT := fun ms n h K => match ms with
  | [.one (.v (.pointer none)), .one (.v (.string t)), .one (.view vx0 ve0 en0 vl0)] => bif Nat.beq ve0 1 && noDup [] then ∃ l : List (BTy), vl0.map en0 = l.map eBl ∧ (((l.flatMap fB).length ≤ 140000000000000 ∧ t.size ≤ 140737488351232 ∧ ∀ y ∈ l, By (bl y))) ∧ (∀ o : Unit, K (n + 0) (h32 (shaF (frm t l))) ([] ++ delL [] h)) else False
  | _ => False
theorem taggedN_mono : MMono taggedNT := by
  intro ms n h K K' hkk hk
  unfold taggedNT at hk ⊢
  split at hk
  · rename_i t vx0 ve0 va0 en0 vl0
    obtain ⟨hb, y0, z0, h1, h2⟩ := cond_false_elim hk
    rw [hb]
    exact ⟨y0, z0, h1, fun o => hkk _ _ _ (h2 o)⟩
  · exact hk.elim
theorem taggedN_ok : MOK Tryd.prog 58 taggedNT := by
  refine ⟨?_, taggedN_mono⟩
  intro ms n hB K hk
  unfold taggedNT at hk
  split at hk
  · rename_i t vx0 ve0 va0 en0 vl0
    obtain ⟨hb, l, he0, h, hk2⟩ := cond_false_elim hk
    clear hk
    simp only [Bool.and_eq_true] at hb
    obtain ⟨hc0, hnd⟩ := hb
    have hs0 := Nat.eq_of_beq_eq_true hc0
    subst hs0
    refine SCall.seen ?_ (.cons (.refl _) (.cons (.refl _) (.cons (.view he0) .nil)))
    exact ((taggedN_spec _ t h.1 h.2.1 h.2.2).mem rfl).use (fun _ => 0) rfl rfl trivial (by exact hnd) (fun j hj => absurd hj (Nat.not_lt_zero j)) (fun o => hk2 o)
  · exact hk.elim

theorem taggedZ_row (x : Value) (t : ByteArray) {l : List BTy} {z : Int} (hp : ((l.flatMap fB).length ≤ 140000000000000 ∧ t.size ≤ 140737488351232 ∧ ∀ y ∈ l, By (bl y))) (hz : z = 0) : SMem Tryd.prog 58 [.one (.ptr 0 0), str t, bV x l] 1 [(0, .cells [.v (.map none), .v (.slice none 0 0), .v (.int .i64 z)])] (fun _ : Unit => ⟨1, h32 (shaF (frm t l)), [(0, zB)]⟩) := by
  subst hz
  exact taggedZ_spec x t hp.1 hp.2.1 hp.2.2
def taggedZT : MT := fun ms n h K => match ms with
  | [.one (.ptr P0 0), .one (.v (.string t)), .one (.view vx0 ve0 en0 vl0)] => (match get h P0 with
    | some (.cells [.v (.map none), .v (.slice none 0 0), .v (.int .i64 z)]) => bif Nat.beq ve0 1 && noDup [P0] then ∃ l : List (BTy), vl0.map en0 = l.map eBl ∧ (((l.flatMap fB).length ≤ 140000000000000 ∧ t.size ≤ 140737488351232 ∧ ∀ y ∈ l, By (bl y)) ∧ z = 0) ∧ (∀ o : Unit, K (n + 0) (h32 (shaF (frm t l))) ([(P0, .cells [.v (.map none), .v (.slice none 0 0), .v (.int .i64 0)])] ++ delL [P0] h)) else False
    | _ => False)
  | _ => False
theorem taggedZ_mono : MMono taggedZT := by
  intro ms n h K K' hkk hk
  unfold taggedZT at hk ⊢
  split at hk
  · rename_i P0 t vx0 ve0 va0 en0 vl0
    split at hk
    · rename_i z hg0
      try simp only [hg0]
      obtain ⟨hb, y0, z0, h1, h2⟩ := cond_false_elim hk
      rw [hb]
      exact ⟨y0, z0, h1, fun o => hkk _ _ _ (h2 o)⟩
    · exact hk.elim
  · exact hk.elim
theorem taggedZ_ok : MOK Tryd.prog 58 taggedZT := by
  refine ⟨?_, taggedZ_mono⟩
  intro ms n hB K hk
  unfold taggedZT at hk
  split at hk
  · rename_i P0 t vx0 ve0 va0 en0 vl0
    split at hk
    · rename_i z hg0
      obtain ⟨hb, l, he0, h, hk2⟩ := cond_false_elim hk
      clear hk
      simp only [Bool.and_eq_true] at hb
      obtain ⟨hc0, hnd⟩ := hb
      have hs0 := Nat.eq_of_beq_eq_true hc0
      subst hs0
      refine SCall.seen ?_ (.cons (.refl _) (.cons (.refl _) (.cons (.view he0) .nil)))
      exact (taggedZ_row _ t h.1 h.2).use (fun j => match j with | 0 => P0 | _ => 0) rfl rfl ⟨by show (match get hB P0 with | some b0 => Blk.imp _ _ _ b0 | none => False); rw [hg0]; exact ⟨rfl, rfl⟩, rfl, trivial⟩ (by exact hnd) (fun j hj => by cases j with
          | zero => exact ⟨_, rfl⟩
          | succ j => omega) (fun o => hk2 o)
    · exact hk.elim
  · exact hk.elim

def tagged2T : MT := fun ms n h K => match ms with
  | .one (.v (.pointer none)) :: r => taggedNT (.one (.v (.pointer none)) :: r) n h K
  | ms => taggedZT ms n h K
theorem tagged2_ok : MOK Tryd.prog 58 tagged2T := by
  refine ⟨fun args n h K hk => ?_, fun args n h K K' hkk hk => ?_⟩
  · unfold tagged2T at hk
    split at hk
    · exact taggedN_ok.ok _ _ _ _ hk
    · exact taggedZ_ok.ok _ _ _ _ hk
  · unfold tagged2T at hk ⊢
    split at hk
    · exact taggedN_ok.mono _ _ _ _ _ hkk hk
    · exact taggedZ_ok.mono _ _ _ _ _ hkk hk
end Go.Proofs.YtblapbjafbmndaaDoor
