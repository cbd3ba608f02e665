/- Strings that are looked for in a row of strings; copies of such a row. -/
import Derived.Test.YtblapbjafbmndaaDoorPB
import Derived.Test.YtblapbjafbmndaaDoorD9
import Derived.Test.YtblapbjafbmndaaDoorSxN
import Derived.Test.YtblapbjafbmndaaDoorSx24
namespace Go.Proofs.YtblapbjafbmndaaDoor
open Go Go.Sx Go.Sha
set_option linter.unusedVariables false
set_option linter.unusedSimpArgs false
set_option maxRecDepth 100000
set_option maxHeartbeats 4000000

abbrev sV (x : Value) (l : List STy) : M := .one (.view x 1 eS.enc l)
abbrev eSl : STy → List SV := eS.enc
/-- Where a string stands. -/
def idxS (s : ByteArray) : List STy → Nat → Int
  | [], _ => -1
  | x :: r, i => bif s.toList == x.1.toList then (i : Int) else idxS s r (i + 1)
theorem idxS_at {s : ByteArray} {l : List STy} {i : Nat} (h : i < l.length) : idxS s (l.drop i) i = bif s.toList == (l[i]).1.toList then (i : Int) else idxS s (l.drop (i + 1)) (i + 1) := by
  rw [List.drop_eq_getElem_cons h]
  rfl
structure IsT (s : ByteArray) (l : List STy) where
  i : Nat
  hi : i ≤ l.length
  he : idxS s l 0 = idxS s (l.drop i) i
theorem index_spec (x : Value) {l : List STy} (s : ByteArray) (hl : l.length ≤ 9223372036854775807) : SFun Tryd.prog 118 [sV x l, str s] (int (idxS s l 0)) := by
  refine SFun.inm [] SOK.nil [] MSOK.nil tok mixed [] IOK.nil false [(2, ⟨IsT s l, fun p => ⟨0, [(0, sV x l), (1, str s), (7, int l.length), (8, int p.i)], []⟩, fun p => l.length - p.i, fun _ _ => True⟩)] [] Tryd.call118 Tryd.func118 rfl (by rfl) ?_
  refine Eq.mp (α := (∃ i0 : IsT s l, (And (And True (And (And (SV.view x (1 : Nat) (Enc.enc eS) l = SV.view x (1 : Nat) (Enc.enc eS) l) (And (s = s) (And ((↑(List.length l) : Int) = (↑(List.length l) : Int)) (And ((↑(IsT.i i0) : Int) = (0 : Int)) True)))) (And True ((true : Bool) = true)))) (∀ i : IsT s l, (∀ a : True, (@Bool.rec (fun _ => Prop) (And (M.one (SV.v (Value.int IntKind.i64 (-1 : Int))) = M.one (SV.v (Value.int IntKind.i64 (idxS s l (0 : Nat))))) ((true : Bool) = true)) (And ((0 : Int) ≤ (↑(IsT.i i) : Int)) (∃ hk : Int.toNat (↑(IsT.i i) : Int) < List.length l, (@Bool.rec (fun _ => Prop) (∃ i' : IsT s l, (And (And (List.length l - IsT.i i' < List.length l - IsT.i i) True) (And (And (SV.view x (1 : Nat) (Enc.enc eS) l = SV.view x (1 : Nat) (Enc.enc eS) l) (And (s = s) (And ((↑(List.length l) : Int) = (↑(List.length l) : Int)) (And ((↑(IsT.i i') : Int) = IntKind.wrap IntKind.i64 ((↑(IsT.i i) : Int) + (1 : Int))) True)))) (And True ((true : Bool) = true))))) (And (M.one (SV.v (Value.int IntKind.i64 (↑(IsT.i i) : Int))) = M.one (SV.v (Value.int IntKind.i64 (idxS s l (0 : Nat))))) ((true : Bool) = true)) (ByteArray.toList s == ByteArray.toList (Prod.fst l[Int.toNat (↑(IsT.i i) : Int)]))))) (decide ((↑(IsT.i i) : Int) < (↑(List.length l) : Int))))))))) (by kernel_rfl) ?_
  refine ⟨⟨0, Nat.zero_le _, by rw [List.drop_zero]⟩, ?_, ?_⟩
  ·
    repeat' first | exact trivial | refine And.intro ?_ ?_ | with_reducible refine bif_dt (by assumption) ?_ | with_reducible refine bif_df (by assumption) ?_ | with_reducible refine bif_dec (fun _ => ?_) (fun _ => ?_) | with_reducible refine bif_not ?_ | with_reducible refine bif_and ?_ | with_reducible refine bif_or ?_ | with_reducible refine bif_t (by assumption) ?_ | with_reducible refine bif_f (by assumption) ?_ | with_reducible refine bif_t (beq_self_eq_true _) ?_ | with_reducible refine bif_b (fun _ => ?_) (fun _ => ?_) | with_reducible refine ⟨_, Eq.refl (List.map _ _), ?_⟩ | (with_reducible refine Exists.intro (by omega) ?_) | rfl | (intro h0; omega) | omega
  rintro ⟨i, hi, he⟩ -
  dsimp only
  refine bif_dec (fun h => ?_) (fun h => ?_)
  · have hi' : i < l.length := by omega
    rw [idxS_at hi'] at he
    simp only [Int.toNat_natCast, inext (show i < 9223372036854775807 by omega)]
    refine ⟨by omega, hi', bif_b (fun h2 => ?_) (fun h2 => ?_)⟩
    · rw [h2] at he
      rw [he]
      repeat' first | exact trivial | refine And.intro ?_ ?_ | with_reducible refine bif_dt (by assumption) ?_ | with_reducible refine bif_df (by assumption) ?_ | with_reducible refine bif_dec (fun _ => ?_) (fun _ => ?_) | with_reducible refine bif_not ?_ | with_reducible refine bif_and ?_ | with_reducible refine bif_or ?_ | with_reducible refine bif_t (by assumption) ?_ | with_reducible refine bif_f (by assumption) ?_ | with_reducible refine bif_t (beq_self_eq_true _) ?_ | with_reducible refine bif_b (fun _ => ?_) (fun _ => ?_) | with_reducible refine ⟨_, Eq.refl (List.map _ _), ?_⟩ | (with_reducible refine Exists.intro (by omega) ?_) | rfl | (intro h0; omega) | omega
    · rw [h2] at he
      refine ⟨⟨i + 1, hi', he⟩, ⟨show l.length - (i + 1) < l.length - i by omega, trivial⟩, ?_⟩
      repeat' first | exact trivial | refine And.intro ?_ ?_ | with_reducible refine bif_dt (by assumption) ?_ | with_reducible refine bif_df (by assumption) ?_ | with_reducible refine bif_dec (fun _ => ?_) (fun _ => ?_) | with_reducible refine bif_not ?_ | with_reducible refine bif_and ?_ | with_reducible refine bif_or ?_ | with_reducible refine bif_t (by assumption) ?_ | with_reducible refine bif_f (by assumption) ?_ | with_reducible refine bif_t (beq_self_eq_true _) ?_ | with_reducible refine bif_b (fun _ => ?_) (fun _ => ?_) | with_reducible refine ⟨_, Eq.refl (List.map _ _), ?_⟩ | (with_reducible refine Exists.intro (by omega) ?_) | rfl | (intro h0; omega) | omega
  · have hil : i = l.length := by omega
    subst hil
    rw [List.drop_length] at he
    rw [he]
    repeat' first | exact trivial | refine And.intro ?_ ?_ | with_reducible refine bif_dt (by assumption) ?_ | with_reducible refine bif_df (by assumption) ?_ | with_reducible refine bif_dec (fun _ => ?_) (fun _ => ?_) | with_reducible refine bif_not ?_ | with_reducible refine bif_and ?_ | with_reducible refine bif_or ?_ | with_reducible refine bif_t (by assumption) ?_ | with_reducible refine bif_f (by assumption) ?_ | with_reducible refine bif_t (beq_self_eq_true _) ?_ | with_reducible refine bif_b (fun _ => ?_) (fun _ => ?_) | with_reducible refine ⟨_, Eq.refl (List.map _ _), ?_⟩ | (with_reducible refine Exists.intro (by omega) ?_) | rfl | (intro h0; omega) | omega
def indexT : List M → (M → Prop) → Prop
  | [.one (.view x0 es0 en0 l0), .one (.v (.string s))], K => bif Nat.beq es0 1 then ∃ l : List (STy), l0.map en0 = l.map eSl ∧ (l.length ≤ 9223372036854775807 ∧ K (int (idxS s l 0))) else False
  | _, _ => False
theorem index_ok : POK Tryd.prog 118 indexT := by
  intro ms K h
  unfold indexT at h ⊢
  split at h
  · obtain ⟨hb0, l, he0, h0⟩ := cond_false_elim (b := Nat.beq _ _) h
    have hs0 := Nat.eq_of_beq_eq_true hb0
    subst hs0
    exact ⟨_, h0.2, (index_spec _ _ h0.1).seen (.cons (.view he0) (.cons (.refl _) .nil)), rfl, fun _ hk => by show cond _ _ _; refine (show cond true _ _ from ⟨_, he0, ?_⟩); exact ⟨h0.1, hk⟩⟩
  · exact h.elim

theorem beq_ba (s t : ByteArray) : (s.toList == t.toList) = decide (s = t) := by
  rw [beq_sl]
  exact decide_eq_decide.2 ⟨sl_ext, fun h => by rw [h]⟩
theorem idxS_ge (s : ByteArray) : ∀ (l : List STy) (i : Nat), (0 ≤ idxS s l i) ↔ s ∈ namesS l
  | [], i => by simp [idxS, namesS]
  | x :: r, i => by
    have e : namesS (x :: r) = nam x :: namesS r := rfl
    have e2 : (s.toList == x.1.toList) = decide (s = nam x) := beq_ba s (nam x)
    unfold idxS
    rw [e, List.mem_cons, e2]
    by_cases h : s = nam x
    · simp [h]
    · simp only [h, decide_false, cond_false, idxS_ge s r (i + 1), false_or]
def hasS (s : ByteArray) : List ByteArray → Bool
  | [] => false
  | x :: r => decide (s = x) || hasS s r
theorem hasS_iff {s : ByteArray} : ∀ {l : List ByteArray}, hasS s l = true ↔ s ∈ l
  | [] => by simp [hasS]
  | x :: r => by simp [hasS, hasS_iff (l := r)]
theorem contains_spec (x : Value) {l : List STy} (s : ByteArray) (hl : l.length ≤ 9223372036854775807) : SFun Tryd.prog 99 [sV x l, str s] (bool (hasS s (namesS l))) := by
  refine SFun.inm [(118, indexT)] (SOK.cons index_ok SOK.nil) [] MSOK.nil tok mixed [] IOK.nil true [] [] Tryd.call99 Tryd.func99 rfl (by rfl) ?_
  refine Eq.mp (α := (∃ l_1 : List STy, (And (List.map (Enc.enc eS) l = List.map eSl l_1) (And (List.length l_1 ≤ (9223372036854775807 : Nat)) (And (M.one (SV.v (Value.bool (decide ((0 : Int) ≤ idxS s l_1 (0 : Nat))))) = M.one (SV.v (Value.bool (hasS s (namesS l))))) ((true : Bool) = true)))))) (by kernel_rfl) ?_
  refine ⟨l, rfl, hl, ?_⟩
  rw [show decide ((0 : Int) ≤ idxS s l 0) = hasS s (namesS l) from Bool.eq_iff_iff.2 (by rw [decide_eq_true_iff, idxS_ge, hasS_iff])]
  repeat' first | exact trivial | refine And.intro ?_ ?_ | with_reducible refine bif_dt (by assumption) ?_ | with_reducible refine bif_df (by assumption) ?_ | with_reducible refine bif_dec (fun _ => ?_) (fun _ => ?_) | with_reducible refine bif_not ?_ | with_reducible refine bif_and ?_ | with_reducible refine bif_or ?_ | with_reducible refine bif_t (by assumption) ?_ | with_reducible refine bif_f (by assumption) ?_ | with_reducible refine bif_t (beq_self_eq_true _) ?_ | with_reducible refine bif_b (fun _ => ?_) (fun _ => ?_) | with_reducible refine ⟨_, Eq.refl (List.map _ _), ?_⟩ | (with_reducible refine Exists.intro (by omega) ?_) | rfl | (intro h0; omega) | omega
def containsT : List M → (M → Prop) → Prop
  | [.one (.view x0 es0 en0 l0), .one (.v (.string s))], K => bif Nat.beq es0 1 then ∃ l : List (STy), l0.map en0 = l.map eSl ∧ (l.length ≤ 9223372036854775807 ∧ K (bool (hasS s (namesS l)))) else False
  | _, _ => False
theorem contains_ok : POK Tryd.prog 99 containsT := by
  intro ms K h
  unfold containsT at h ⊢
  split at h
  · obtain ⟨hb0, l, he0, h0⟩ := cond_false_elim (b := Nat.beq _ _) h
    have hs0 := Nat.eq_of_beq_eq_true hb0
    subst hs0
    exact ⟨_, h0.2, (contains_spec _ _ h0.1).seen (.cons (.view he0) (.cons (.refl _) .nil)), rfl, fun _ hk => by show cond _ _ _; refine (show cond true _ _ from ⟨_, he0, ?_⟩); exact ⟨h0.1, hk⟩⟩
  · exact h.elim

theorem cloneS_spec {l : List STy} {cap : Nat} (hc : l.length ≤ cap) (h0 : 0 < cap) (hl : l.length ≤ 1000000000) : SMem Tryd.prog 100 [.one (.nslc 0 1 l.length cap)] 1 [(0, .row 1 eS l cap)]
    (fun o : CapT l.length => ⟨2,   .one (.slc 1 1 0 l.length o.cap), [(0, .row 1 eS l cap), (1, .row 1 eS l o.cap)]⟩) := by
  refine SMem.inm [] SOK.nil [] MSOK.nil tok mixed [] IOK.nil true [] [] Tryd.call100 Tryd.func100 rfl (by rfl) ?_
  refine Eq.mp (α := (@Bool.rec (fun _ => Prop) (And ((0 : Nat) = (0 : Nat)) (And ((0 : Nat) = (0 : Nat)) (And (List.length l ≤ List.length l) (And (cap = cap) (And (((0 : Nat) + List.length (castL eS (encRec [RK.str]) (List.take (List.length l) l))) * (16 : Nat) ≤ (150000000000000 : Nat)) (∀ cap2 : Nat, (∀ a : (0 : Nat) + List.length (castL eS (encRec [RK.str]) (List.take (List.length l) l)) ≤ cap2, (∃ o : CapT (List.length l), (And (And (And ((true : Bool) = true) (And ((0 : Nat) = (0 : Nat)) (And (List.length l = List.length ([] ++ castL eS (encRec [RK.str]) (List.take (List.length l) l))) (CapT.cap o = cap2)))) True) (And (And (And ((true : Bool) = true) (And (cap = cap) (And (List.map (Enc.enc eS) l = List.map (Enc.enc eS) l) (∀ x : STy, (∀ a_1 : x ∈ l, (∀ s : SV, (∀ a_2 : s ∈ Enc.enc eS x, ((SV.isPure s : Bool) = (true))))))))) (And ((true : Bool) = true) (And (And ((true : Bool) = true) (And (CapT.cap o = cap2) (And (List.map (Enc.enc eS) l = List.map (Enc.enc (encRec [RK.str])) ([] ++ castL eS (encRec [RK.str]) (List.take (List.length l) l))) (∀ x : STy, (∀ a_1 : x ∈ l, (∀ s : SV, (∀ a_2 : s ∈ Enc.enc eS x, ((SV.isPure s : Bool) = (true))))))))) (And ((true : Bool) = true) True)))) ((true : Bool) = true))))))))))) (∃ o : CapT (List.length l), (And (And False True) (And (And (And ((true : Bool) = true) (And (cap = cap) (And (List.map (Enc.enc eS) l = List.map (Enc.enc eS) l) (∀ x : STy, (∀ a : x ∈ l, (∀ s : SV, (∀ a_1 : s ∈ Enc.enc eS x, ((SV.isPure s : Bool) = (true))))))))) (And ((true : Bool) = true) (And False (And ((true : Bool) = true) True)))) ((true : Bool) = true)))) (Nat.beq cap (0 : Nat)))) (by kernel_rfl) ?_
  refine bif_b (fun h => absurd (Nat.eq_of_beq_eq_true h) (by omega)) (fun _ => ?_)
  have hcl : castL eS (encRec [RK.str]) (List.take l.length l) = l := by rw [List.take_length]; exact castL_self _ _ rfl
  rw [hcl]
  refine ⟨rfl, rfl, Nat.le_refl _, rfl, by omega, fun cap2 k2 => ⟨⟨cap2, by omega⟩, ?_⟩⟩
  repeat' first | exact fun x _ => Enc.pures eS x | exact trivial | refine And.intro ?_ ?_ | with_reducible refine bif_dt (by assumption) ?_ | with_reducible refine bif_df (by assumption) ?_ | with_reducible refine bif_dec (fun _ => ?_) (fun _ => ?_) | with_reducible refine bif_not ?_ | with_reducible refine bif_and ?_ | with_reducible refine bif_or ?_ | with_reducible refine bif_t (by assumption) ?_ | with_reducible refine bif_f (by assumption) ?_ | with_reducible refine bif_t (beq_self_eq_true _) ?_ | with_reducible refine bif_b (fun _ => ?_) (fun _ => ?_) | with_reducible refine ⟨_, Eq.refl (List.map _ _), ?_⟩ | (with_reducible refine Exists.intro (by omega) ?_) | rfl | (intro h0; omega) | omega
theorem cloneS_row {l : List STy} {len cap cp : Nat} (h : len = l.length ∧ cap = cp ∧ l.length ≤ cp ∧ 0 < cp ∧ l.length ≤ 1000000000) : SMem Tryd.prog 100 [.one (.nslc 0 1 len cap)] 1 [(0, .row 1 eS l cp)]
    (fun o : CapT l.length => ⟨2, .one (.slc 1 1 0 l.length o.cap), [(0, .row 1 eS l cp), (1, .row 1 eS l o.cap)]⟩) := by
  obtain ⟨rfl, rfl, h1, h2, h3⟩ := h
  exact cloneS_spec h1 h2 h3
def cloneST : MT := fun ms n h K => match ms with
  | [.one (.nslc P0 1 len cap)] => (match get h P0 with
    | some (.row we0 wn0 wl0 cp) => bif Nat.beq we0 1 && noDup [P0] then ∃ l : List (STy), wl0.map wn0.enc = l.map (eS).enc ∧ ((len = l.length ∧ cap = cp ∧ l.length ≤ cp ∧ 0 < cp ∧ l.length ≤ 1000000000)) ∧ (∀ o : CapT l.length, K (n + 1) (.one (.slc n 1 0 l.length o.cap)) ([(P0, .row 1 eS l cp), (n, .row 1 eS l o.cap)] ++ delL [P0] h)) else False
    | _ => False)
  | _ => False
theorem cloneS_mono : MMono cloneST := by
  intro ms n h K K' hkk hk
  unfold cloneST at hk ⊢
  split at hk
  · rename_i P0 len cap
    split at hk
    · rename_i we0 wa0 wn0 wl0 cp hg0
      try simp only [hg0]
      obtain ⟨hb, y0, z0, h1, h2⟩ := cond_false_elim hk
      rw [hb]
      exact ⟨y0, z0, h1, fun o => hkk _ _ _ (h2 o)⟩
    · exact hk.elim
  · exact hk.elim
theorem cloneS_ok : MOK Tryd.prog 100 cloneST := by
  refine ⟨?_, cloneS_mono⟩
  intro ms n hB K hk
  unfold cloneST at hk
  split at hk
  · rename_i P0 len cap
    split at hk
    · rename_i we0 wa0 wn0 wl0 cp hg0
      obtain ⟨hb, l, hl0, h, hk2⟩ := cond_false_elim hk
      clear hk
      simp only [Bool.and_eq_true] at hb
      obtain ⟨hc0, hnd⟩ := hb
      have hs0 := Nat.eq_of_beq_eq_true hc0
      subst hs0
      refine SCall.seen ?_ (.cons (.refl _) .nil)
      exact (cloneS_row h).use (fun j => match j with | 0 => P0 | _ => 0) rfl rfl ⟨by show (match get hB P0 with | some b0 => Blk.imp _ _ _ b0 | none => False); rw [hg0]; exact ⟨rfl, rfl, hl0.symm, fun y _ => Enc.pures _ y⟩, rfl, trivial⟩ hnd (fun j hj => by cases j with
          | zero => exact ⟨_, rfl⟩
          | succ j => omega) (fun o => hk2 o)
    · exact hk.elim
  · exact hk.elim

end Go.Proofs.YtblapbjafbmndaaDoor

namespace Go.Proofs.YtblapbjafbmndaaDoor
open Go Go.Sx Go.Sha
set_option linter.unusedVariables false
set_option linter.unusedSimpArgs false
set_option maxRecDepth 100000
set_option maxHeartbeats 4000000

/-- What Put answers. -/
def putE (L : Ents) (h : List Int) (s : ByteArray) : Int := bif hasS s (under L h) then 4 else if 65536 ≤ L.length then 6 else 0
structure PutA (L : Ents) (h : List Int) (s : ByteArray) : Type where
  he : putE L h s ≠ 0
structure PutB (L : Ents) (cs : List ByteArray) (h : List Int) (s : ByteArray) where
  cap : Nat
  he : putE L h s = 0
  hn : ¬ ((under L h).length = 1 ∧ cs = [])
structure PutC (L : Ents) (cs : List ByteArray) (h : List Int) (s : ByteArray) where
  cap : Nat
  ccap : Nat
  he : putE L h s = 0
  hy : (under L h).length = 1
  hc : cs = []
  h2 : 2 ≤ ccap
theorem under_le (L : Ents) (h : List Int) : (under L h).length ≤ L.length := by
  unfold under
  rw [List.length_map]
  exact List.length_filter_le _ _
theorem put_open (y : Value) {L : Ents} {cs : List ByteArray} {h : List Int} {b : List Int} {A : List Nat} {ccap cap : Nat} (hh : h.length = 32) (hL : L.length ≤ 100000) (hcc : ccap = 0 ↔ cs = []) (hc1 : cs.length ≤ ccap) (hc2 : (under L h).length ≤ cap) (hc3 : cap = 0 → under L h = []) :
    SMem Tryd.prog 60 [.one (.ptr 0 0), h32 h, byV y b] 4 (openH L cs h A ccap cap) (Sum.elim
      (fun _ : PutA L h (strOfNums b) => (⟨4, int (putE L h (strOfNums b)), openH L cs h A ccap cap⟩ : Out)) (Sum.elim
      (fun o : PutB L cs h (strOfNums b) => (⟨5, int 0, [(0, .cells [.mp 1, .nslc 2 1 cs.length ccap, .v (.int .i64 ((L.length + 1 : Nat) : Int))]), (1, .obj A [.nslc 4 1 ((under L h).length + 1) o.cap] (.map 32 h (mrest (cut L h)))),
         (2, .row 1 eS (rowS cs) ccap), (4, .row 1 eS (rowS (under L h ++ [strOfNums b])) o.cap)]⟩ : Out))
      (fun o : PutC L cs h (strOfNums b) => (⟨6, int 0, [(0, .cells [.mp 1, .slc 5 1 0 2 o.ccap, .v (.int .i64 ((L.length + 1 : Nat) : Int))]), (1, .obj A [.nslc 4 1 ((under L h).length + 1) o.cap] (.map 32 h (mrest (cut L h)))),
         (5, .row 1 eS (rowS (under L h ++ [strOfNums b])) o.ccap), (4, .row 1 eS (rowS (under L h ++ [strOfNums b])) o.cap)]⟩ : Out)))) := by
  refine SMem.or3 [] SOK.nil [(2000099, noT), (99, (lookT containsT)), (2000100, noT), (100, cloneST)] (MSOK.cons noT_ok (MSOK.cons (lookT_ok contains_ok) (MSOK.cons noT_ok (MSOK.cons cloneS_ok MSOK.nil)))) tok mixed [(98, ⟨Tryd.f98, true, [], []⟩)] (IOK.cons Tryd.func98 Tryd.call98 IOK.nil) true [] [] Tryd.call60 Tryd.func60 rfl (by rfl) ?_
  refine Eq.mp (α := (And (h = h) (And (∀ x : Int, (∀ a : x ∈ b, (∃ b_1 : Int, (Enc.enc (encInt IntKind.u8) x = [SV.v (Value.int IntKind.u8 b_1)])))) (And (List.length (under L h) ≤ List.length (rowS (under L h))) (And (List.length (under L h) ≤ cap) (And (cap = cap) (And (∀ y_1 : STy, ((true : Bool) = true)) (∀ x : Value, (∃ l : List STy, (And (List.map (Enc.enc eS) (List.take (List.length (under L h)) (rowS (under L h))) = List.map eSl l) (And (List.length l ≤ (9223372036854775807 : Nat)) (@Bool.rec (fun _ => Prop) (@Bool.rec (fun _ => Prop) (And (h = h) (And (∀ x_1 : Int, (∀ a : x_1 ∈ b, (∃ b_1 : Int, (Enc.enc (encInt IntKind.u8) x_1 = [SV.v (Value.int IntKind.u8 b_1)])))) (And (List.length (under L h) = List.length (rowS (under L h))) (And (cap = cap) (And ((0 : Nat) + (1 : Nat) ≤ (1 : Nat)) (And ((List.length (rowS (under L h)) + (1 : Nat)) * (16 : Nat) ≤ (150000000000000 : Nat)) (∀ cap2 : Nat, (∀ a : List.length (rowS (under L h)) + (1 : Nat) ≤ cap2, (And (h = h) (@Bool.rec (fun _ => Prop) (Or (∃ o : PutA L h (strOfNums b), (And (And (putE L h (strOfNums b) = (0 : Int)) True) (And (And (And ((true : Bool) = true) (And (And ((true : Bool) = true) (And (List.length cs = List.length cs) (ccap = ccap))) (And ((↑(List.length L) : Int) = IntKind.wrap IntKind.i64 ((↑(List.length L) : Int) + (1 : Int))) True))) (And ((true : Bool) = true) (And (And (A = A) (And (And ((true : Bool) = true) (And (List.length (under L h) = List.length (rowS (under L h) ++ castL (encRec [RK.str]) eS (List.take (1 : Nat) (List.drop (0 : Nat) [Enc.of (encRec [RK.str]) (strOfNums (bytesOf (Enc.enc (encInt IntKind.u8)) b), ())])))) (cap = cap2))) (Abs.map (32 : Nat) h (mrest (cut L h)) = Abs.map (32 : Nat) h (mrest (cut L h))))) (And ((true : Bool) = true) (And (And ((true : Bool) = true) (And (ccap = ccap) (And (List.map (Enc.enc eS) (rowS cs) = List.map (Enc.enc eS) (rowS cs)) (∀ x_1 : STy, (∀ a_1 : x_1 ∈ rowS cs, (∀ s : SV, (∀ a_2 : s ∈ Enc.enc eS x_1, ((SV.isPure s : Bool) = (true))))))))) (And ((true : Bool) = true) (And (And ((true : Bool) = true) (And (cap = cap2) (And (List.map (Enc.enc eS) (rowS (under L h)) = List.map (Enc.enc eS) (rowS (under L h) ++ castL (encRec [RK.str]) eS (List.take (1 : Nat) (List.drop (0 : Nat) [Enc.of (encRec [RK.str]) (strOfNums (bytesOf (Enc.enc (encInt IntKind.u8)) b), ())])))) (∀ x_1 : STy, (∀ a_1 : x_1 ∈ rowS (under L h), (∀ s : SV, (∀ a_2 : s ∈ Enc.enc eS x_1, ((SV.isPure s : Bool) = (true))))))))) (And ((true : Bool) = true) True)))))))) ((noDup (List.map (fun p => lookP (uni [((0 : Nat), int (putE L h (strOfNums b)))] (openH L cs h A ccap cap) [((0 : Nat), M.one (SV.v (Value.int IntKind.i64 (0 : Int))))] (upd (upd (upd (put (del (put (put (openH L cs h A ccap cap) (4 : Nat) (Blk.cells [SV.ints IntKind.u8 (32 : Nat) h])) ((4 : Nat) + (1 : Nat)) (Blk.row (1 : Nat) (encRec [RK.str]) [Enc.of (encRec [RK.str]) (strOfNums (bytesOf (Enc.enc (encInt IntKind.u8)) b), ())] (1 : Nat))) (3 : Nat)) ((4 : Nat) + (1 : Nat) + (1 : Nat)) (Blk.row (1 : Nat) eS (rowS (under L h) ++ castL (encRec [RK.str]) eS (List.take (1 : Nat) (List.drop (0 : Nat) [Enc.of (encRec [RK.str]) (strOfNums (bytesOf (Enc.enc (encInt IntKind.u8)) b), ())]))) cap2)) (1 : Nat) (Blk.obj A [SV.nslc ((4 : Nat) + (1 : Nat) + (1 : Nat)) (1 : Nat) (List.length (rowS (under L h) ++ castL (encRec [RK.str]) eS (List.take (1 : Nat) (List.drop (0 : Nat) [Enc.of (encRec [RK.str]) (strOfNums (bytesOf (Enc.enc (encInt IntKind.u8)) b), ())])))) cap2] (Abs.map (32 : Nat) h (mrest (cut L h))))) (0 : Nat) (Blk.cells [SV.mp (1 : Nat), SV.nslc (2 : Nat) (1 : Nat) (List.length cs) ccap, SV.v (Value.int IntKind.i64 (IntKind.wrap IntKind.i64 ((↑(List.length L) : Int) + (1 : Int))))])) (lookP (uni [((0 : Nat), int (putE L h (strOfNums b)))] (openH L cs h A ccap cap) [((0 : Nat), M.one (SV.v (Value.int IntKind.i64 (0 : Int))))] (upd (upd (put (del (put (put (openH L cs h A ccap cap) (4 : Nat) (Blk.cells [SV.ints IntKind.u8 (32 : Nat) h])) ((4 : Nat) + (1 : Nat)) (Blk.row (1 : Nat) (encRec [RK.str]) [Enc.of (encRec [RK.str]) (strOfNums (bytesOf (Enc.enc (encInt IntKind.u8)) b), ())] (1 : Nat))) (3 : Nat)) ((4 : Nat) + (1 : Nat) + (1 : Nat)) (Blk.row (1 : Nat) eS (rowS (under L h) ++ castL (encRec [RK.str]) eS (List.take (1 : Nat) (List.drop (0 : Nat) [Enc.of (encRec [RK.str]) (strOfNums (bytesOf (Enc.enc (encInt IntKind.u8)) b), ())]))) cap2)) (1 : Nat) (Blk.obj A [SV.nslc ((4 : Nat) + (1 : Nat) + (1 : Nat)) (1 : Nat) (List.length (rowS (under L h) ++ castL (encRec [RK.str]) eS (List.take (1 : Nat) (List.drop (0 : Nat) [Enc.of (encRec [RK.str]) (strOfNums (bytesOf (Enc.enc (encInt IntKind.u8)) b), ())])))) cap2] (Abs.map (32 : Nat) h (mrest (cut L h))))) (0 : Nat) (Blk.cells [SV.mp (1 : Nat), SV.nslc (2 : Nat) (1 : Nat) (List.length cs) ccap, SV.v (Value.int IntKind.i64 (IntKind.wrap IntKind.i64 ((↑(List.length L) : Int) + (1 : Int))))]))) (0 : Nat)) (Blk.cells [SV.mp (1 : Nat), SV.nslc (2 : Nat) (1 : Nat) (List.length cs) ccap, SV.v (Value.int IntKind.i64 (IntKind.wrap IntKind.i64 ((↑(List.length L) : Int) + (1 : Int))))]))) (Prod.fst p)) (openH L cs h A ccap cap)) && Nat.ble (4 : Nat) (4 : Nat) && fixB (uni [((0 : Nat), int (putE L h (strOfNums b)))] (openH L cs h A ccap cap) [((0 : Nat), M.one (SV.v (Value.int IntKind.i64 (0 : Int))))] (upd (upd (upd (put (del (put (put (openH L cs h A ccap cap) (4 : Nat) (Blk.cells [SV.ints IntKind.u8 (32 : Nat) h])) ((4 : Nat) + (1 : Nat)) (Blk.row (1 : Nat) (encRec [RK.str]) [Enc.of (encRec [RK.str]) (strOfNums (bytesOf (Enc.enc (encInt IntKind.u8)) b), ())] (1 : Nat))) (3 : Nat)) ((4 : Nat) + (1 : Nat) + (1 : Nat)) (Blk.row (1 : Nat) eS (rowS (under L h) ++ castL (encRec [RK.str]) eS (List.take (1 : Nat) (List.drop (0 : Nat) [Enc.of (encRec [RK.str]) (strOfNums (bytesOf (Enc.enc (encInt IntKind.u8)) b), ())]))) cap2)) (1 : Nat) (Blk.obj A [SV.nslc ((4 : Nat) + (1 : Nat) + (1 : Nat)) (1 : Nat) (List.length (rowS (under L h) ++ castL (encRec [RK.str]) eS (List.take (1 : Nat) (List.drop (0 : Nat) [Enc.of (encRec [RK.str]) (strOfNums (bytesOf (Enc.enc (encInt IntKind.u8)) b), ())])))) cap2] (Abs.map (32 : Nat) h (mrest (cut L h))))) (0 : Nat) (Blk.cells [SV.mp (1 : Nat), SV.nslc (2 : Nat) (1 : Nat) (List.length cs) ccap, SV.v (Value.int IntKind.i64 (IntKind.wrap IntKind.i64 ((↑(List.length L) : Int) + (1 : Int))))])) (lookP (uni [((0 : Nat), int (putE L h (strOfNums b)))] (openH L cs h A ccap cap) [((0 : Nat), M.one (SV.v (Value.int IntKind.i64 (0 : Int))))] (upd (upd (put (del (put (put (openH L cs h A ccap cap) (4 : Nat) (Blk.cells [SV.ints IntKind.u8 (32 : Nat) h])) ((4 : Nat) + (1 : Nat)) (Blk.row (1 : Nat) (encRec [RK.str]) [Enc.of (encRec [RK.str]) (strOfNums (bytesOf (Enc.enc (encInt IntKind.u8)) b), ())] (1 : Nat))) (3 : Nat)) ((4 : Nat) + (1 : Nat) + (1 : Nat)) (Blk.row (1 : Nat) eS (rowS (under L h) ++ castL (encRec [RK.str]) eS (List.take (1 : Nat) (List.drop (0 : Nat) [Enc.of (encRec [RK.str]) (strOfNums (bytesOf (Enc.enc (encInt IntKind.u8)) b), ())]))) cap2)) (1 : Nat) (Blk.obj A [SV.nslc ((4 : Nat) + (1 : Nat) + (1 : Nat)) (1 : Nat) (List.length (rowS (under L h) ++ castL (encRec [RK.str]) eS (List.take (1 : Nat) (List.drop (0 : Nat) [Enc.of (encRec [RK.str]) (strOfNums (bytesOf (Enc.enc (encInt IntKind.u8)) b), ())])))) cap2] (Abs.map (32 : Nat) h (mrest (cut L h))))) (0 : Nat) (Blk.cells [SV.mp (1 : Nat), SV.nslc (2 : Nat) (1 : Nat) (List.length cs) ccap, SV.v (Value.int IntKind.i64 (IntKind.wrap IntKind.i64 ((↑(List.length L) : Int) + (1 : Int))))]))) (0 : Nat)) (Blk.cells [SV.mp (1 : Nat), SV.nslc (2 : Nat) (1 : Nat) (List.length cs) ccap, SV.v (Value.int IntKind.i64 (IntKind.wrap IntKind.i64 ((↑(List.length L) : Int) + (1 : Int))))]))) (4 : Nat) : Bool) = (true))))) (Or (∃ o : PutB L cs h (strOfNums b), (And (And ((0 : Int) = (0 : Int)) True) (And (And (And ((true : Bool) = true) (And (And ((true : Bool) = true) (And (List.length cs = List.length cs) (ccap = ccap))) (And ((↑(List.length L + (1 : Nat)) : Int) = IntKind.wrap IntKind.i64 ((↑(List.length L) : Int) + (1 : Int))) True))) (And ((true : Bool) = true) (And (And (A = A) (And (And ((true : Bool) = true) (And (List.length (under L h) + (1 : Nat) = List.length (rowS (under L h) ++ castL (encRec [RK.str]) eS (List.take (1 : Nat) (List.drop (0 : Nat) [Enc.of (encRec [RK.str]) (strOfNums (bytesOf (Enc.enc (encInt IntKind.u8)) b), ())])))) (PutB.cap o = cap2))) (Abs.map (32 : Nat) h (mrest (cut L h)) = Abs.map (32 : Nat) h (mrest (cut L h))))) (And ((true : Bool) = true) (And (And ((true : Bool) = true) (And (ccap = ccap) (And (List.map (Enc.enc eS) (rowS cs) = List.map (Enc.enc eS) (rowS cs)) (∀ x_1 : STy, (∀ a_1 : x_1 ∈ rowS cs, (∀ s : SV, (∀ a_2 : s ∈ Enc.enc eS x_1, ((SV.isPure s : Bool) = (true))))))))) (And ((true : Bool) = true) (And (And ((true : Bool) = true) (And (PutB.cap o = cap2) (And (List.map (Enc.enc eS) (rowS (under L h ++ [strOfNums b])) = List.map (Enc.enc eS) (rowS (under L h) ++ castL (encRec [RK.str]) eS (List.take (1 : Nat) (List.drop (0 : Nat) [Enc.of (encRec [RK.str]) (strOfNums (bytesOf (Enc.enc (encInt IntKind.u8)) b), ())])))) (∀ x_1 : STy, (∀ a_1 : x_1 ∈ rowS (under L h ++ [strOfNums b]), (∀ s : SV, (∀ a_2 : s ∈ Enc.enc eS x_1, ((SV.isPure s : Bool) = (true))))))))) (And ((true : Bool) = true) True)))))))) ((true : Bool) = true)))) (∃ o : PutC L cs h (strOfNums b), (And (And ((0 : Int) = (0 : Int)) True) (And (And (And ((true : Bool) = true) (And False (And ((↑(List.length L + (1 : Nat)) : Int) = IntKind.wrap IntKind.i64 ((↑(List.length L) : Int) + (1 : Int))) True))) (And ((true : Bool) = true) (And (And (A = A) (And (And ((true : Bool) = true) (And (List.length (under L h) + (1 : Nat) = List.length (rowS (under L h) ++ castL (encRec [RK.str]) eS (List.take (1 : Nat) (List.drop (0 : Nat) [Enc.of (encRec [RK.str]) (strOfNums (bytesOf (Enc.enc (encInt IntKind.u8)) b), ())])))) (PutC.cap o = cap2))) (Abs.map (32 : Nat) h (mrest (cut L h)) = Abs.map (32 : Nat) h (mrest (cut L h))))) (And ((true : Bool) = true) (And (And ((true : Bool) = true) (And (PutC.ccap o = (1 : Nat)) (And (List.map (Enc.enc eS) (rowS (under L h ++ [strOfNums b])) = List.map (Enc.enc (encRec [RK.str])) [Enc.of (encRec [RK.str]) (strOfNums (bytesOf (Enc.enc (encInt IntKind.u8)) b), ())]) (∀ x_1 : STy, (∀ a_1 : x_1 ∈ rowS (under L h ++ [strOfNums b]), (∀ s : SV, (∀ a_2 : s ∈ Enc.enc eS x_1, ((SV.isPure s : Bool) = (true))))))))) (And ((true : Bool) = true) (And (And ((true : Bool) = true) (And (PutC.cap o = cap2) (And (List.map (Enc.enc eS) (rowS (under L h ++ [strOfNums b])) = List.map (Enc.enc eS) (rowS (under L h) ++ castL (encRec [RK.str]) eS (List.take (1 : Nat) (List.drop (0 : Nat) [Enc.of (encRec [RK.str]) (strOfNums (bytesOf (Enc.enc (encInt IntKind.u8)) b), ())])))) (∀ x_1 : STy, (∀ a_1 : x_1 ∈ rowS (under L h ++ [strOfNums b]), (∀ s : SV, (∀ a_2 : s ∈ Enc.enc eS x_1, ((SV.isPure s : Bool) = (true))))))))) (And ((true : Bool) = true) True)))))))) ((true : Bool) = true)))))) (@Bool.rec (fun _ => Prop) (Or (∃ o : PutA L h (strOfNums b), (And (And (putE L h (strOfNums b) = (0 : Int)) True) (And (And (And ((true : Bool) = true) (And (And ((true : Bool) = true) (And (List.length cs = List.length cs) (ccap = ccap))) (And ((↑(List.length L) : Int) = IntKind.wrap IntKind.i64 ((↑(List.length L) : Int) + (1 : Int))) True))) (And ((true : Bool) = true) (And (And (A = A) (And (And ((true : Bool) = true) (And (List.length (under L h) = List.length (rowS (under L h) ++ castL (encRec [RK.str]) eS (List.take (1 : Nat) (List.drop (0 : Nat) [Enc.of (encRec [RK.str]) (strOfNums (bytesOf (Enc.enc (encInt IntKind.u8)) b), ())])))) (cap = cap2))) (Abs.map (32 : Nat) h (mrest (cut L h)) = Abs.map (32 : Nat) h (mrest (cut L h))))) (And ((true : Bool) = true) (And (And ((true : Bool) = true) (And (ccap = ccap) (And (List.map (Enc.enc eS) (rowS cs) = List.map (Enc.enc eS) (rowS cs)) (∀ x_1 : STy, (∀ a_1 : x_1 ∈ rowS cs, (∀ s : SV, (∀ a_2 : s ∈ Enc.enc eS x_1, ((SV.isPure s : Bool) = (true))))))))) (And ((true : Bool) = true) (And (And ((true : Bool) = true) (And (cap = cap2) (And (List.map (Enc.enc eS) (rowS (under L h)) = List.map (Enc.enc eS) (rowS (under L h) ++ castL (encRec [RK.str]) eS (List.take (1 : Nat) (List.drop (0 : Nat) [Enc.of (encRec [RK.str]) (strOfNums (bytesOf (Enc.enc (encInt IntKind.u8)) b), ())])))) (∀ x_1 : STy, (∀ a_1 : x_1 ∈ rowS (under L h), (∀ s : SV, (∀ a_2 : s ∈ Enc.enc eS x_1, ((SV.isPure s : Bool) = (true))))))))) (And ((true : Bool) = true) True)))))))) ((noDup (List.map (fun p => lookP (uni [((0 : Nat), int (putE L h (strOfNums b)))] (openH L cs h A ccap cap) [((0 : Nat), M.one (SV.v (Value.int IntKind.i64 (0 : Int))))] (upd (upd (upd (put (del (put (put (openH L cs h A ccap cap) (4 : Nat) (Blk.cells [SV.ints IntKind.u8 (32 : Nat) h])) ((4 : Nat) + (1 : Nat)) (Blk.row (1 : Nat) (encRec [RK.str]) [Enc.of (encRec [RK.str]) (strOfNums (bytesOf (Enc.enc (encInt IntKind.u8)) b), ())] (1 : Nat))) (3 : Nat)) ((4 : Nat) + (1 : Nat) + (1 : Nat)) (Blk.row (1 : Nat) eS (rowS (under L h) ++ castL (encRec [RK.str]) eS (List.take (1 : Nat) (List.drop (0 : Nat) [Enc.of (encRec [RK.str]) (strOfNums (bytesOf (Enc.enc (encInt IntKind.u8)) b), ())]))) cap2)) (1 : Nat) (Blk.obj A [SV.nslc ((4 : Nat) + (1 : Nat) + (1 : Nat)) (1 : Nat) (List.length (rowS (under L h) ++ castL (encRec [RK.str]) eS (List.take (1 : Nat) (List.drop (0 : Nat) [Enc.of (encRec [RK.str]) (strOfNums (bytesOf (Enc.enc (encInt IntKind.u8)) b), ())])))) cap2] (Abs.map (32 : Nat) h (mrest (cut L h))))) (0 : Nat) (Blk.cells [SV.mp (1 : Nat), SV.nslc (2 : Nat) (1 : Nat) (List.length cs) ccap, SV.v (Value.int IntKind.i64 (IntKind.wrap IntKind.i64 ((↑(List.length L) : Int) + (1 : Int))))])) (lookP (uni [((0 : Nat), int (putE L h (strOfNums b)))] (openH L cs h A ccap cap) [((0 : Nat), M.one (SV.v (Value.int IntKind.i64 (0 : Int))))] (upd (upd (put (del (put (put (openH L cs h A ccap cap) (4 : Nat) (Blk.cells [SV.ints IntKind.u8 (32 : Nat) h])) ((4 : Nat) + (1 : Nat)) (Blk.row (1 : Nat) (encRec [RK.str]) [Enc.of (encRec [RK.str]) (strOfNums (bytesOf (Enc.enc (encInt IntKind.u8)) b), ())] (1 : Nat))) (3 : Nat)) ((4 : Nat) + (1 : Nat) + (1 : Nat)) (Blk.row (1 : Nat) eS (rowS (under L h) ++ castL (encRec [RK.str]) eS (List.take (1 : Nat) (List.drop (0 : Nat) [Enc.of (encRec [RK.str]) (strOfNums (bytesOf (Enc.enc (encInt IntKind.u8)) b), ())]))) cap2)) (1 : Nat) (Blk.obj A [SV.nslc ((4 : Nat) + (1 : Nat) + (1 : Nat)) (1 : Nat) (List.length (rowS (under L h) ++ castL (encRec [RK.str]) eS (List.take (1 : Nat) (List.drop (0 : Nat) [Enc.of (encRec [RK.str]) (strOfNums (bytesOf (Enc.enc (encInt IntKind.u8)) b), ())])))) cap2] (Abs.map (32 : Nat) h (mrest (cut L h))))) (0 : Nat) (Blk.cells [SV.mp (1 : Nat), SV.nslc (2 : Nat) (1 : Nat) (List.length cs) ccap, SV.v (Value.int IntKind.i64 (IntKind.wrap IntKind.i64 ((↑(List.length L) : Int) + (1 : Int))))]))) (0 : Nat)) (Blk.cells [SV.mp (1 : Nat), SV.nslc (2 : Nat) (1 : Nat) (List.length cs) ccap, SV.v (Value.int IntKind.i64 (IntKind.wrap IntKind.i64 ((↑(List.length L) : Int) + (1 : Int))))]))) (Prod.fst p)) (openH L cs h A ccap cap)) && Nat.ble (4 : Nat) (4 : Nat) && fixB (uni [((0 : Nat), int (putE L h (strOfNums b)))] (openH L cs h A ccap cap) [((0 : Nat), M.one (SV.v (Value.int IntKind.i64 (0 : Int))))] (upd (upd (upd (put (del (put (put (openH L cs h A ccap cap) (4 : Nat) (Blk.cells [SV.ints IntKind.u8 (32 : Nat) h])) ((4 : Nat) + (1 : Nat)) (Blk.row (1 : Nat) (encRec [RK.str]) [Enc.of (encRec [RK.str]) (strOfNums (bytesOf (Enc.enc (encInt IntKind.u8)) b), ())] (1 : Nat))) (3 : Nat)) ((4 : Nat) + (1 : Nat) + (1 : Nat)) (Blk.row (1 : Nat) eS (rowS (under L h) ++ castL (encRec [RK.str]) eS (List.take (1 : Nat) (List.drop (0 : Nat) [Enc.of (encRec [RK.str]) (strOfNums (bytesOf (Enc.enc (encInt IntKind.u8)) b), ())]))) cap2)) (1 : Nat) (Blk.obj A [SV.nslc ((4 : Nat) + (1 : Nat) + (1 : Nat)) (1 : Nat) (List.length (rowS (under L h) ++ castL (encRec [RK.str]) eS (List.take (1 : Nat) (List.drop (0 : Nat) [Enc.of (encRec [RK.str]) (strOfNums (bytesOf (Enc.enc (encInt IntKind.u8)) b), ())])))) cap2] (Abs.map (32 : Nat) h (mrest (cut L h))))) (0 : Nat) (Blk.cells [SV.mp (1 : Nat), SV.nslc (2 : Nat) (1 : Nat) (List.length cs) ccap, SV.v (Value.int IntKind.i64 (IntKind.wrap IntKind.i64 ((↑(List.length L) : Int) + (1 : Int))))])) (lookP (uni [((0 : Nat), int (putE L h (strOfNums b)))] (openH L cs h A ccap cap) [((0 : Nat), M.one (SV.v (Value.int IntKind.i64 (0 : Int))))] (upd (upd (put (del (put (put (openH L cs h A ccap cap) (4 : Nat) (Blk.cells [SV.ints IntKind.u8 (32 : Nat) h])) ((4 : Nat) + (1 : Nat)) (Blk.row (1 : Nat) (encRec [RK.str]) [Enc.of (encRec [RK.str]) (strOfNums (bytesOf (Enc.enc (encInt IntKind.u8)) b), ())] (1 : Nat))) (3 : Nat)) ((4 : Nat) + (1 : Nat) + (1 : Nat)) (Blk.row (1 : Nat) eS (rowS (under L h) ++ castL (encRec [RK.str]) eS (List.take (1 : Nat) (List.drop (0 : Nat) [Enc.of (encRec [RK.str]) (strOfNums (bytesOf (Enc.enc (encInt IntKind.u8)) b), ())]))) cap2)) (1 : Nat) (Blk.obj A [SV.nslc ((4 : Nat) + (1 : Nat) + (1 : Nat)) (1 : Nat) (List.length (rowS (under L h) ++ castL (encRec [RK.str]) eS (List.take (1 : Nat) (List.drop (0 : Nat) [Enc.of (encRec [RK.str]) (strOfNums (bytesOf (Enc.enc (encInt IntKind.u8)) b), ())])))) cap2] (Abs.map (32 : Nat) h (mrest (cut L h))))) (0 : Nat) (Blk.cells [SV.mp (1 : Nat), SV.nslc (2 : Nat) (1 : Nat) (List.length cs) ccap, SV.v (Value.int IntKind.i64 (IntKind.wrap IntKind.i64 ((↑(List.length L) : Int) + (1 : Int))))]))) (0 : Nat)) (Blk.cells [SV.mp (1 : Nat), SV.nslc (2 : Nat) (1 : Nat) (List.length cs) ccap, SV.v (Value.int IntKind.i64 (IntKind.wrap IntKind.i64 ((↑(List.length L) : Int) + (1 : Int))))]))) (4 : Nat) : Bool) = (true))))) (Or (∃ o : PutB L cs h (strOfNums b), (And (And ((0 : Int) = (0 : Int)) True) (And (And (And ((true : Bool) = true) (And (And ((true : Bool) = true) (And (List.length cs = List.length cs) (ccap = ccap))) (And ((↑(List.length L + (1 : Nat)) : Int) = IntKind.wrap IntKind.i64 ((↑(List.length L) : Int) + (1 : Int))) True))) (And ((true : Bool) = true) (And (And (A = A) (And (And ((true : Bool) = true) (And (List.length (under L h) + (1 : Nat) = List.length (rowS (under L h) ++ castL (encRec [RK.str]) eS (List.take (1 : Nat) (List.drop (0 : Nat) [Enc.of (encRec [RK.str]) (strOfNums (bytesOf (Enc.enc (encInt IntKind.u8)) b), ())])))) (PutB.cap o = cap2))) (Abs.map (32 : Nat) h (mrest (cut L h)) = Abs.map (32 : Nat) h (mrest (cut L h))))) (And ((true : Bool) = true) (And (And ((true : Bool) = true) (And (ccap = ccap) (And (List.map (Enc.enc eS) (rowS cs) = List.map (Enc.enc eS) (rowS cs)) (∀ x_1 : STy, (∀ a_1 : x_1 ∈ rowS cs, (∀ s : SV, (∀ a_2 : s ∈ Enc.enc eS x_1, ((SV.isPure s : Bool) = (true))))))))) (And ((true : Bool) = true) (And (And ((true : Bool) = true) (And (PutB.cap o = cap2) (And (List.map (Enc.enc eS) (rowS (under L h ++ [strOfNums b])) = List.map (Enc.enc eS) (rowS (under L h) ++ castL (encRec [RK.str]) eS (List.take (1 : Nat) (List.drop (0 : Nat) [Enc.of (encRec [RK.str]) (strOfNums (bytesOf (Enc.enc (encInt IntKind.u8)) b), ())])))) (∀ x_1 : STy, (∀ a_1 : x_1 ∈ rowS (under L h ++ [strOfNums b]), (∀ s : SV, (∀ a_2 : s ∈ Enc.enc eS x_1, ((SV.isPure s : Bool) = (true))))))))) (And ((true : Bool) = true) True)))))))) ((true : Bool) = true)))) (∃ o : PutC L cs h (strOfNums b), (And (And ((0 : Int) = (0 : Int)) True) (And (And (And ((true : Bool) = true) (And False (And ((↑(List.length L + (1 : Nat)) : Int) = IntKind.wrap IntKind.i64 ((↑(List.length L) : Int) + (1 : Int))) True))) (And ((true : Bool) = true) (And (And (A = A) (And (And ((true : Bool) = true) (And (List.length (under L h) + (1 : Nat) = List.length (rowS (under L h) ++ castL (encRec [RK.str]) eS (List.take (1 : Nat) (List.drop (0 : Nat) [Enc.of (encRec [RK.str]) (strOfNums (bytesOf (Enc.enc (encInt IntKind.u8)) b), ())])))) (PutC.cap o = cap2))) (Abs.map (32 : Nat) h (mrest (cut L h)) = Abs.map (32 : Nat) h (mrest (cut L h))))) (And ((true : Bool) = true) (And (And ((true : Bool) = true) (And (PutC.ccap o = (1 : Nat)) (And (List.map (Enc.enc eS) (rowS (under L h ++ [strOfNums b])) = List.map (Enc.enc (encRec [RK.str])) [Enc.of (encRec [RK.str]) (strOfNums (bytesOf (Enc.enc (encInt IntKind.u8)) b), ())]) (∀ x_1 : STy, (∀ a_1 : x_1 ∈ rowS (under L h ++ [strOfNums b]), (∀ s : SV, (∀ a_2 : s ∈ Enc.enc eS x_1, ((SV.isPure s : Bool) = (true))))))))) (And ((true : Bool) = true) (And (And ((true : Bool) = true) (And (PutC.cap o = cap2) (And (List.map (Enc.enc eS) (rowS (under L h ++ [strOfNums b])) = List.map (Enc.enc eS) (rowS (under L h) ++ castL (encRec [RK.str]) eS (List.take (1 : Nat) (List.drop (0 : Nat) [Enc.of (encRec [RK.str]) (strOfNums (bytesOf (Enc.enc (encInt IntKind.u8)) b), ())])))) (∀ x_1 : STy, (∀ a_1 : x_1 ∈ rowS (under L h ++ [strOfNums b]), (∀ s : SV, (∀ a_2 : s ∈ Enc.enc eS x_1, ((SV.isPure s : Bool) = (true))))))))) (And ((true : Bool) = true) True)))))))) ((true : Bool) = true)))))) (∃ l_1 : List STy, (And (List.map (Enc.enc eS) (rowS (under L h) ++ castL (encRec [RK.str]) eS (List.take (1 : Nat) (List.drop (0 : Nat) [Enc.of (encRec [RK.str]) (strOfNums (bytesOf (Enc.enc (encInt IntKind.u8)) b), ())]))) = List.map (Enc.enc eS) l_1) (And (And (List.length (rowS (under L h) ++ castL (encRec [RK.str]) eS (List.take (1 : Nat) (List.drop (0 : Nat) [Enc.of (encRec [RK.str]) (strOfNums (bytesOf (Enc.enc (encInt IntKind.u8)) b), ())]))) = List.length l_1) (And (cap2 = cap2) (And (List.length l_1 ≤ cap2) (And ((0 : Nat) < cap2) (List.length l_1 ≤ (1000000000 : Nat)))))) (∀ o : CapT (List.length l_1), (Or (∃ o_1 : PutA L h (strOfNums b), (And (And (putE L h (strOfNums b) = (0 : Int)) True) (And (And (And ((true : Bool) = true) (And False (And ((↑(List.length L) : Int) = IntKind.wrap IntKind.i64 ((↑(List.length L) : Int) + (1 : Int))) True))) (And ((true : Bool) = true) (And (And (A = A) (And (And ((true : Bool) = true) (And (List.length (under L h) = List.length (rowS (under L h) ++ castL (encRec [RK.str]) eS (List.take (1 : Nat) (List.drop (0 : Nat) [Enc.of (encRec [RK.str]) (strOfNums (bytesOf (Enc.enc (encInt IntKind.u8)) b), ())])))) (cap = cap2))) (Abs.map (32 : Nat) h (mrest (cut L h)) = Abs.map (32 : Nat) h (mrest (cut L h))))) (And ((true : Bool) = true) (And (And ((true : Bool) = true) (And (ccap = ccap) (And (List.map (Enc.enc eS) (rowS cs) = List.map (Enc.enc eS) (rowS cs)) (∀ x_1 : STy, (∀ a_1 : x_1 ∈ rowS cs, (∀ s : SV, (∀ a_2 : s ∈ Enc.enc eS x_1, ((SV.isPure s : Bool) = (true))))))))) (And ((true : Bool) = true) (And (And ((true : Bool) = true) (And (cap = cap2) (And (List.map (Enc.enc eS) (rowS (under L h)) = List.map (Enc.enc eS) l_1) (∀ x_1 : STy, (∀ a_1 : x_1 ∈ rowS (under L h), (∀ s : SV, (∀ a_2 : s ∈ Enc.enc eS x_1, ((SV.isPure s : Bool) = (true))))))))) (And ((true : Bool) = true) True)))))))) ((noDup (List.map (fun p => lookP (uni [((0 : Nat), int (putE L h (strOfNums b)))] (openH L cs h A ccap cap) [((0 : Nat), M.one (SV.v (Value.int IntKind.i64 (0 : Int))))] (upd (upd ([((4 : Nat) + (1 : Nat) + (1 : Nat), Blk.row (1 : Nat) eS l_1 cap2), ((4 : Nat) + (1 : Nat) + (1 : Nat) + (1 : Nat), Blk.row (1 : Nat) eS l_1 (CapT.cap o))] ++ delL [(4 : Nat) + (1 : Nat) + (1 : Nat)] (upd (upd (put (del (put (put (openH L cs h A ccap cap) (4 : Nat) (Blk.cells [SV.ints IntKind.u8 (32 : Nat) h])) ((4 : Nat) + (1 : Nat)) (Blk.row (1 : Nat) (encRec [RK.str]) [Enc.of (encRec [RK.str]) (strOfNums (bytesOf (Enc.enc (encInt IntKind.u8)) b), ())] (1 : Nat))) (3 : Nat)) ((4 : Nat) + (1 : Nat) + (1 : Nat)) (Blk.row (1 : Nat) eS (rowS (under L h) ++ castL (encRec [RK.str]) eS (List.take (1 : Nat) (List.drop (0 : Nat) [Enc.of (encRec [RK.str]) (strOfNums (bytesOf (Enc.enc (encInt IntKind.u8)) b), ())]))) cap2)) (1 : Nat) (Blk.obj A [SV.nslc ((4 : Nat) + (1 : Nat) + (1 : Nat)) (1 : Nat) (List.length (rowS (under L h) ++ castL (encRec [RK.str]) eS (List.take (1 : Nat) (List.drop (0 : Nat) [Enc.of (encRec [RK.str]) (strOfNums (bytesOf (Enc.enc (encInt IntKind.u8)) b), ())])))) cap2] (Abs.map (32 : Nat) h (mrest (cut L h))))) (0 : Nat) (Blk.cells [SV.mp (1 : Nat), SV.nslc (2 : Nat) (1 : Nat) (List.length cs) ccap, SV.v (Value.int IntKind.i64 (IntKind.wrap IntKind.i64 ((↑(List.length L) : Int) + (1 : Int))))]))) (0 : Nat) (Blk.cells [SV.mp (1 : Nat), SV.slc ((4 : Nat) + (1 : Nat) + (1 : Nat) + (1 : Nat)) (1 : Nat) (0 : Nat) (List.length l_1) (CapT.cap o), SV.v (Value.int IntKind.i64 (IntKind.wrap IntKind.i64 ((↑(List.length L) : Int) + (1 : Int))))])) (lookP (uni [((0 : Nat), int (putE L h (strOfNums b)))] (openH L cs h A ccap cap) [((0 : Nat), M.one (SV.v (Value.int IntKind.i64 (0 : Int))))] (upd ([((4 : Nat) + (1 : Nat) + (1 : Nat), Blk.row (1 : Nat) eS l_1 cap2), ((4 : Nat) + (1 : Nat) + (1 : Nat) + (1 : Nat), Blk.row (1 : Nat) eS l_1 (CapT.cap o))] ++ delL [(4 : Nat) + (1 : Nat) + (1 : Nat)] (upd (upd (put (del (put (put (openH L cs h A ccap cap) (4 : Nat) (Blk.cells [SV.ints IntKind.u8 (32 : Nat) h])) ((4 : Nat) + (1 : Nat)) (Blk.row (1 : Nat) (encRec [RK.str]) [Enc.of (encRec [RK.str]) (strOfNums (bytesOf (Enc.enc (encInt IntKind.u8)) b), ())] (1 : Nat))) (3 : Nat)) ((4 : Nat) + (1 : Nat) + (1 : Nat)) (Blk.row (1 : Nat) eS (rowS (under L h) ++ castL (encRec [RK.str]) eS (List.take (1 : Nat) (List.drop (0 : Nat) [Enc.of (encRec [RK.str]) (strOfNums (bytesOf (Enc.enc (encInt IntKind.u8)) b), ())]))) cap2)) (1 : Nat) (Blk.obj A [SV.nslc ((4 : Nat) + (1 : Nat) + (1 : Nat)) (1 : Nat) (List.length (rowS (under L h) ++ castL (encRec [RK.str]) eS (List.take (1 : Nat) (List.drop (0 : Nat) [Enc.of (encRec [RK.str]) (strOfNums (bytesOf (Enc.enc (encInt IntKind.u8)) b), ())])))) cap2] (Abs.map (32 : Nat) h (mrest (cut L h))))) (0 : Nat) (Blk.cells [SV.mp (1 : Nat), SV.nslc (2 : Nat) (1 : Nat) (List.length cs) ccap, SV.v (Value.int IntKind.i64 (IntKind.wrap IntKind.i64 ((↑(List.length L) : Int) + (1 : Int))))]))) (0 : Nat) (Blk.cells [SV.mp (1 : Nat), SV.slc ((4 : Nat) + (1 : Nat) + (1 : Nat) + (1 : Nat)) (1 : Nat) (0 : Nat) (List.length l_1) (CapT.cap o), SV.v (Value.int IntKind.i64 (IntKind.wrap IntKind.i64 ((↑(List.length L) : Int) + (1 : Int))))]))) (0 : Nat)) (Blk.cells [SV.mp (1 : Nat), SV.slc ((4 : Nat) + (1 : Nat) + (1 : Nat) + (1 : Nat)) (1 : Nat) (0 : Nat) (List.length l_1) (CapT.cap o), SV.v (Value.int IntKind.i64 (IntKind.wrap IntKind.i64 ((↑(List.length L) : Int) + (1 : Int))))]))) (Prod.fst p)) (openH L cs h A ccap cap)) && Nat.ble (4 : Nat) (4 : Nat) && fixB (uni [((0 : Nat), int (putE L h (strOfNums b)))] (openH L cs h A ccap cap) [((0 : Nat), M.one (SV.v (Value.int IntKind.i64 (0 : Int))))] (upd (upd ([((4 : Nat) + (1 : Nat) + (1 : Nat), Blk.row (1 : Nat) eS l_1 cap2), ((4 : Nat) + (1 : Nat) + (1 : Nat) + (1 : Nat), Blk.row (1 : Nat) eS l_1 (CapT.cap o))] ++ delL [(4 : Nat) + (1 : Nat) + (1 : Nat)] (upd (upd (put (del (put (put (openH L cs h A ccap cap) (4 : Nat) (Blk.cells [SV.ints IntKind.u8 (32 : Nat) h])) ((4 : Nat) + (1 : Nat)) (Blk.row (1 : Nat) (encRec [RK.str]) [Enc.of (encRec [RK.str]) (strOfNums (bytesOf (Enc.enc (encInt IntKind.u8)) b), ())] (1 : Nat))) (3 : Nat)) ((4 : Nat) + (1 : Nat) + (1 : Nat)) (Blk.row (1 : Nat) eS (rowS (under L h) ++ castL (encRec [RK.str]) eS (List.take (1 : Nat) (List.drop (0 : Nat) [Enc.of (encRec [RK.str]) (strOfNums (bytesOf (Enc.enc (encInt IntKind.u8)) b), ())]))) cap2)) (1 : Nat) (Blk.obj A [SV.nslc ((4 : Nat) + (1 : Nat) + (1 : Nat)) (1 : Nat) (List.length (rowS (under L h) ++ castL (encRec [RK.str]) eS (List.take (1 : Nat) (List.drop (0 : Nat) [Enc.of (encRec [RK.str]) (strOfNums (bytesOf (Enc.enc (encInt IntKind.u8)) b), ())])))) cap2] (Abs.map (32 : Nat) h (mrest (cut L h))))) (0 : Nat) (Blk.cells [SV.mp (1 : Nat), SV.nslc (2 : Nat) (1 : Nat) (List.length cs) ccap, SV.v (Value.int IntKind.i64 (IntKind.wrap IntKind.i64 ((↑(List.length L) : Int) + (1 : Int))))]))) (0 : Nat) (Blk.cells [SV.mp (1 : Nat), SV.slc ((4 : Nat) + (1 : Nat) + (1 : Nat) + (1 : Nat)) (1 : Nat) (0 : Nat) (List.length l_1) (CapT.cap o), SV.v (Value.int IntKind.i64 (IntKind.wrap IntKind.i64 ((↑(List.length L) : Int) + (1 : Int))))])) (lookP (uni [((0 : Nat), int (putE L h (strOfNums b)))] (openH L cs h A ccap cap) [((0 : Nat), M.one (SV.v (Value.int IntKind.i64 (0 : Int))))] (upd ([((4 : Nat) + (1 : Nat) + (1 : Nat), Blk.row (1 : Nat) eS l_1 cap2), ((4 : Nat) + (1 : Nat) + (1 : Nat) + (1 : Nat), Blk.row (1 : Nat) eS l_1 (CapT.cap o))] ++ delL [(4 : Nat) + (1 : Nat) + (1 : Nat)] (upd (upd (put (del (put (put (openH L cs h A ccap cap) (4 : Nat) (Blk.cells [SV.ints IntKind.u8 (32 : Nat) h])) ((4 : Nat) + (1 : Nat)) (Blk.row (1 : Nat) (encRec [RK.str]) [Enc.of (encRec [RK.str]) (strOfNums (bytesOf (Enc.enc (encInt IntKind.u8)) b), ())] (1 : Nat))) (3 : Nat)) ((4 : Nat) + (1 : Nat) + (1 : Nat)) (Blk.row (1 : Nat) eS (rowS (under L h) ++ castL (encRec [RK.str]) eS (List.take (1 : Nat) (List.drop (0 : Nat) [Enc.of (encRec [RK.str]) (strOfNums (bytesOf (Enc.enc (encInt IntKind.u8)) b), ())]))) cap2)) (1 : Nat) (Blk.obj A [SV.nslc ((4 : Nat) + (1 : Nat) + (1 : Nat)) (1 : Nat) (List.length (rowS (under L h) ++ castL (encRec [RK.str]) eS (List.take (1 : Nat) (List.drop (0 : Nat) [Enc.of (encRec [RK.str]) (strOfNums (bytesOf (Enc.enc (encInt IntKind.u8)) b), ())])))) cap2] (Abs.map (32 : Nat) h (mrest (cut L h))))) (0 : Nat) (Blk.cells [SV.mp (1 : Nat), SV.nslc (2 : Nat) (1 : Nat) (List.length cs) ccap, SV.v (Value.int IntKind.i64 (IntKind.wrap IntKind.i64 ((↑(List.length L) : Int) + (1 : Int))))]))) (0 : Nat) (Blk.cells [SV.mp (1 : Nat), SV.slc ((4 : Nat) + (1 : Nat) + (1 : Nat) + (1 : Nat)) (1 : Nat) (0 : Nat) (List.length l_1) (CapT.cap o), SV.v (Value.int IntKind.i64 (IntKind.wrap IntKind.i64 ((↑(List.length L) : Int) + (1 : Int))))]))) (0 : Nat)) (Blk.cells [SV.mp (1 : Nat), SV.slc ((4 : Nat) + (1 : Nat) + (1 : Nat) + (1 : Nat)) (1 : Nat) (0 : Nat) (List.length l_1) (CapT.cap o), SV.v (Value.int IntKind.i64 (IntKind.wrap IntKind.i64 ((↑(List.length L) : Int) + (1 : Int))))]))) (4 : Nat) : Bool) = (true))))) (Or (∃ o_1 : PutB L cs h (strOfNums b), (And (And ((0 : Int) = (0 : Int)) True) (And (And (And ((true : Bool) = true) (And False (And ((↑(List.length L + (1 : Nat)) : Int) = IntKind.wrap IntKind.i64 ((↑(List.length L) : Int) + (1 : Int))) True))) (And ((true : Bool) = true) (And (And (A = A) (And (And ((true : Bool) = true) (And (List.length (under L h) + (1 : Nat) = List.length (rowS (under L h) ++ castL (encRec [RK.str]) eS (List.take (1 : Nat) (List.drop (0 : Nat) [Enc.of (encRec [RK.str]) (strOfNums (bytesOf (Enc.enc (encInt IntKind.u8)) b), ())])))) (PutB.cap o_1 = cap2))) (Abs.map (32 : Nat) h (mrest (cut L h)) = Abs.map (32 : Nat) h (mrest (cut L h))))) (And ((true : Bool) = true) (And (And ((true : Bool) = true) (And (ccap = ccap) (And (List.map (Enc.enc eS) (rowS cs) = List.map (Enc.enc eS) (rowS cs)) (∀ x_1 : STy, (∀ a_1 : x_1 ∈ rowS cs, (∀ s : SV, (∀ a_2 : s ∈ Enc.enc eS x_1, ((SV.isPure s : Bool) = (true))))))))) (And ((true : Bool) = true) (And (And ((true : Bool) = true) (And (PutB.cap o_1 = cap2) (And (List.map (Enc.enc eS) (rowS (under L h ++ [strOfNums b])) = List.map (Enc.enc eS) l_1) (∀ x_1 : STy, (∀ a_1 : x_1 ∈ rowS (under L h ++ [strOfNums b]), (∀ s : SV, (∀ a_2 : s ∈ Enc.enc eS x_1, ((SV.isPure s : Bool) = (true))))))))) (And ((true : Bool) = true) True)))))))) ((true : Bool) = true)))) (∃ o_1 : PutC L cs h (strOfNums b), (And (And ((0 : Int) = (0 : Int)) True) (And (And (And ((true : Bool) = true) (And (And ((true : Bool) = true) (And ((0 : Nat) = (0 : Nat)) (And ((2 : Nat) = List.length l_1) (PutC.ccap o_1 = CapT.cap o)))) (And ((↑(List.length L + (1 : Nat)) : Int) = IntKind.wrap IntKind.i64 ((↑(List.length L) : Int) + (1 : Int))) True))) (And ((true : Bool) = true) (And (And (A = A) (And (And ((true : Bool) = true) (And (List.length (under L h) + (1 : Nat) = List.length (rowS (under L h) ++ castL (encRec [RK.str]) eS (List.take (1 : Nat) (List.drop (0 : Nat) [Enc.of (encRec [RK.str]) (strOfNums (bytesOf (Enc.enc (encInt IntKind.u8)) b), ())])))) (PutC.cap o_1 = cap2))) (Abs.map (32 : Nat) h (mrest (cut L h)) = Abs.map (32 : Nat) h (mrest (cut L h))))) (And ((true : Bool) = true) (And (And ((true : Bool) = true) (And (PutC.ccap o_1 = CapT.cap o) (And (List.map (Enc.enc eS) (rowS (under L h ++ [strOfNums b])) = List.map (Enc.enc eS) l_1) (∀ x_1 : STy, (∀ a_1 : x_1 ∈ rowS (under L h ++ [strOfNums b]), (∀ s : SV, (∀ a_2 : s ∈ Enc.enc eS x_1, ((SV.isPure s : Bool) = (true))))))))) (And ((true : Bool) = true) (And (And ((true : Bool) = true) (And (PutC.cap o_1 = cap2) (And (List.map (Enc.enc eS) (rowS (under L h ++ [strOfNums b])) = List.map (Enc.enc eS) l_1) (∀ x_1 : STy, (∀ a_1 : x_1 ∈ rowS (under L h ++ [strOfNums b]), (∀ s : SV, (∀ a_2 : s ∈ Enc.enc eS x_1, ((SV.isPure s : Bool) = (true))))))))) (And ((true : Bool) = true) True)))))))) ((true : Bool) = true)))))))))) (Nat.beq ccap (0 : Nat))) ((↑(List.length (rowS (under L h) ++ castL (encRec [RK.str]) eS (List.take (1 : Nat) (List.drop (0 : Nat) [Enc.of (encRec [RK.str]) (strOfNums (bytesOf (Enc.enc (encInt IntKind.u8)) b), ())])))) : Int) == (2 : Int)))))))))))) (Or (∃ o : PutA L h (strOfNums b), (And (And (putE L h (strOfNums b) = (6 : Int)) True) (And (And (And ((true : Bool) = true) (And (And ((true : Bool) = true) (And (List.length cs = List.length cs) (ccap = ccap))) (And ((↑(List.length L) : Int) = (↑(List.length L) : Int)) True))) (And ((true : Bool) = true) (And (And (A = A) (And (And ((true : Bool) = true) (And (List.length (under L h) = List.length (under L h)) (cap = cap))) (Abs.map (32 : Nat) h (mrest (cut L h)) = Abs.map (32 : Nat) h (mrest (cut L h))))) (And ((true : Bool) = true) (And (And ((true : Bool) = true) (And (ccap = ccap) (And (List.map (Enc.enc eS) (rowS cs) = List.map (Enc.enc eS) (rowS cs)) (∀ x_1 : STy, (∀ a : x_1 ∈ rowS cs, (∀ s : SV, (∀ a_1 : s ∈ Enc.enc eS x_1, ((SV.isPure s : Bool) = (true))))))))) (And ((true : Bool) = true) (And (And ((true : Bool) = true) (And (cap = cap) (And (List.map (Enc.enc eS) (rowS (under L h)) = List.map (Enc.enc eS) (rowS (under L h))) (∀ x_1 : STy, (∀ a : x_1 ∈ rowS (under L h), (∀ s : SV, (∀ a_1 : s ∈ Enc.enc eS x_1, ((SV.isPure s : Bool) = (true))))))))) (And ((true : Bool) = true) True)))))))) ((true : Bool) = true)))) (Or (∃ o : PutB L cs h (strOfNums b), (And (And ((0 : Int) = (6 : Int)) True) (And (And (And ((true : Bool) = true) (And (And ((true : Bool) = true) (And (List.length cs = List.length cs) (ccap = ccap))) (And ((↑(List.length L + (1 : Nat)) : Int) = (↑(List.length L) : Int)) True))) (And ((true : Bool) = true) (And (And (A = A) (And (And ((true : Bool) = true) (And (List.length (under L h) + (1 : Nat) = List.length (under L h)) (PutB.cap o = cap))) (Abs.map (32 : Nat) h (mrest (cut L h)) = Abs.map (32 : Nat) h (mrest (cut L h))))) (And ((true : Bool) = true) (And (And ((true : Bool) = true) (And (ccap = ccap) (And (List.map (Enc.enc eS) (rowS cs) = List.map (Enc.enc eS) (rowS cs)) (∀ x_1 : STy, (∀ a : x_1 ∈ rowS cs, (∀ s : SV, (∀ a_1 : s ∈ Enc.enc eS x_1, ((SV.isPure s : Bool) = (true))))))))) (And ((true : Bool) = true) (And (And ((true : Bool) = true) (And (PutB.cap o = cap) (And (List.map (Enc.enc eS) (rowS (under L h ++ [strOfNums b])) = List.map (Enc.enc eS) (rowS (under L h))) (∀ x_1 : STy, (∀ a : x_1 ∈ rowS (under L h ++ [strOfNums b]), (∀ s : SV, (∀ a_1 : s ∈ Enc.enc eS x_1, ((SV.isPure s : Bool) = (true))))))))) (And ((true : Bool) = true) True)))))))) ((true : Bool) = true)))) (∃ o : PutC L cs h (strOfNums b), (And (And ((0 : Int) = (6 : Int)) True) (And (And (And ((true : Bool) = true) (And False (And ((↑(List.length L + (1 : Nat)) : Int) = (↑(List.length L) : Int)) True))) (And ((true : Bool) = true) (And (And (A = A) (And (And ((true : Bool) = true) (And (List.length (under L h) + (1 : Nat) = List.length (under L h)) (PutC.cap o = cap))) (Abs.map (32 : Nat) h (mrest (cut L h)) = Abs.map (32 : Nat) h (mrest (cut L h))))) (And ((true : Bool) = true) (And False (And ((true : Bool) = true) (And (And ((true : Bool) = true) (And (PutC.cap o = cap) (And (List.map (Enc.enc eS) (rowS (under L h ++ [strOfNums b])) = List.map (Enc.enc eS) (rowS (under L h))) (∀ x_1 : STy, (∀ a : x_1 ∈ rowS (under L h ++ [strOfNums b]), (∀ s : SV, (∀ a_1 : s ∈ Enc.enc eS x_1, ((SV.isPure s : Bool) = (true))))))))) (And ((true : Bool) = true) True)))))))) ((true : Bool) = true)))))) (decide ((65536 : Int) ≤ (↑(List.length L) : Int)))) (Or (∃ o : PutA L h (strOfNums b), (And (And (putE L h (strOfNums b) = (4 : Int)) True) (And (And (And ((true : Bool) = true) (And (And ((true : Bool) = true) (And (List.length cs = List.length cs) (ccap = ccap))) (And ((↑(List.length L) : Int) = (↑(List.length L) : Int)) True))) (And ((true : Bool) = true) (And (And (A = A) (And (And ((true : Bool) = true) (And (List.length (under L h) = List.length (under L h)) (cap = cap))) (Abs.map (32 : Nat) h (mrest (cut L h)) = Abs.map (32 : Nat) h (mrest (cut L h))))) (And ((true : Bool) = true) (And (And ((true : Bool) = true) (And (ccap = ccap) (And (List.map (Enc.enc eS) (rowS cs) = List.map (Enc.enc eS) (rowS cs)) (∀ x_1 : STy, (∀ a : x_1 ∈ rowS cs, (∀ s : SV, (∀ a_1 : s ∈ Enc.enc eS x_1, ((SV.isPure s : Bool) = (true))))))))) (And ((true : Bool) = true) (And (And ((true : Bool) = true) (And (cap = cap) (And (List.map (Enc.enc eS) (rowS (under L h)) = List.map (Enc.enc eS) (rowS (under L h))) (∀ x_1 : STy, (∀ a : x_1 ∈ rowS (under L h), (∀ s : SV, (∀ a_1 : s ∈ Enc.enc eS x_1, ((SV.isPure s : Bool) = (true))))))))) (And ((true : Bool) = true) True)))))))) ((true : Bool) = true)))) (Or (∃ o : PutB L cs h (strOfNums b), (And (And ((0 : Int) = (4 : Int)) True) (And (And (And ((true : Bool) = true) (And (And ((true : Bool) = true) (And (List.length cs = List.length cs) (ccap = ccap))) (And ((↑(List.length L + (1 : Nat)) : Int) = (↑(List.length L) : Int)) True))) (And ((true : Bool) = true) (And (And (A = A) (And (And ((true : Bool) = true) (And (List.length (under L h) + (1 : Nat) = List.length (under L h)) (PutB.cap o = cap))) (Abs.map (32 : Nat) h (mrest (cut L h)) = Abs.map (32 : Nat) h (mrest (cut L h))))) (And ((true : Bool) = true) (And (And ((true : Bool) = true) (And (ccap = ccap) (And (List.map (Enc.enc eS) (rowS cs) = List.map (Enc.enc eS) (rowS cs)) (∀ x_1 : STy, (∀ a : x_1 ∈ rowS cs, (∀ s : SV, (∀ a_1 : s ∈ Enc.enc eS x_1, ((SV.isPure s : Bool) = (true))))))))) (And ((true : Bool) = true) (And (And ((true : Bool) = true) (And (PutB.cap o = cap) (And (List.map (Enc.enc eS) (rowS (under L h ++ [strOfNums b])) = List.map (Enc.enc eS) (rowS (under L h))) (∀ x_1 : STy, (∀ a : x_1 ∈ rowS (under L h ++ [strOfNums b]), (∀ s : SV, (∀ a_1 : s ∈ Enc.enc eS x_1, ((SV.isPure s : Bool) = (true))))))))) (And ((true : Bool) = true) True)))))))) ((true : Bool) = true)))) (∃ o : PutC L cs h (strOfNums b), (And (And ((0 : Int) = (4 : Int)) True) (And (And (And ((true : Bool) = true) (And False (And ((↑(List.length L + (1 : Nat)) : Int) = (↑(List.length L) : Int)) True))) (And ((true : Bool) = true) (And (And (A = A) (And (And ((true : Bool) = true) (And (List.length (under L h) + (1 : Nat) = List.length (under L h)) (PutC.cap o = cap))) (Abs.map (32 : Nat) h (mrest (cut L h)) = Abs.map (32 : Nat) h (mrest (cut L h))))) (And ((true : Bool) = true) (And False (And ((true : Bool) = true) (And (And ((true : Bool) = true) (And (PutC.cap o = cap) (And (List.map (Enc.enc eS) (rowS (under L h ++ [strOfNums b])) = List.map (Enc.enc eS) (rowS (under L h))) (∀ x_1 : STy, (∀ a : x_1 ∈ rowS (under L h ++ [strOfNums b]), (∀ s : SV, (∀ a_1 : s ∈ Enc.enc eS x_1, ((SV.isPure s : Bool) = (true))))))))) (And ((true : Bool) = true) True)))))))) ((true : Bool) = true)))))) (hasS (strOfNums (bytesOf (Enc.enc (encInt IntKind.u8)) b)) (namesS l)))))))))))))) (by kernel_rfl) ?_
  have hul := under_le L h
  have hrl : (rowS (under L h)).length = (under L h).length := rowS_length _
  have e0 : List.take (under L h).length (rowS (under L h)) = rowS (under L h) := by rw [← hrl, List.take_length]
  have e1 : rowS (under L h) ++ castL (encRec [RK.str]) eS (List.take 1 (List.drop 0 [Enc.of (encRec [RK.str]) (strOfNums b, ())])) = rowS (under L h ++ [strOfNums b]) := by
    rw [rowS_append, List.drop_zero, List.take_succ_cons, List.take_zero]
    exact congrArg _ (castL_self eS _ rfl)
  have e2 : (rowS (under L h ++ [strOfNums b])).length = (under L h).length + 1 := by rw [rowS_length, List.length_append]; rfl
  have hw : IntKind.i64.wrap ((L.length : Int) + 1) = ((L.length + 1 : Nat) : Int) := inext (by omega)
  simp only [bytesB, e1, e0, e2, hrl, hw]
  refine ⟨trivial, isB _, Nat.le_refl _, hc2, trivial, fun _ => trivial, fun x => ⟨rowS (under L h), rfl, by omega, ?_⟩⟩
  rw [namesS_row]
  refine bif_b (fun h1 => ?_) (fun h1 => ?_)
  · have hE : putE L h (strOfNums b) = 4 := by unfold putE; rw [h1]; rfl
    refine .inl ⟨⟨by rw [hE]; decide⟩, ?_⟩
    rw [hE]
    repeat' first | exact fun x _ => Enc.pures eS x | exact trivial | refine And.intro ?_ ?_ | with_reducible refine bif_dt (by assumption) ?_ | with_reducible refine bif_df (by assumption) ?_ | with_reducible refine bif_dec (fun _ => ?_) (fun _ => ?_) | with_reducible refine bif_not ?_ | with_reducible refine bif_and ?_ | with_reducible refine bif_or ?_ | with_reducible refine bif_t (by assumption) ?_ | with_reducible refine bif_f (by assumption) ?_ | with_reducible refine bif_t (beq_self_eq_true _) ?_ | with_reducible refine bif_b (fun _ => ?_) (fun _ => ?_) | with_reducible refine ⟨_, Eq.refl (List.map _ _), ?_⟩ | (with_reducible refine Exists.intro (by omega) ?_) | rfl | (intro h0; omega) | omega
  refine bif_dec (fun h2 => ?_) (fun h2 => ?_)
  · have hE : putE L h (strOfNums b) = 6 := by unfold putE; rw [h1]; exact if_pos (by omega)
    refine .inl ⟨⟨by rw [hE]; decide⟩, ?_⟩
    rw [hE]
    repeat' first | exact fun x _ => Enc.pures eS x | exact trivial | refine And.intro ?_ ?_ | with_reducible refine bif_dt (by assumption) ?_ | with_reducible refine bif_df (by assumption) ?_ | with_reducible refine bif_dec (fun _ => ?_) (fun _ => ?_) | with_reducible refine bif_not ?_ | with_reducible refine bif_and ?_ | with_reducible refine bif_or ?_ | with_reducible refine bif_t (by assumption) ?_ | with_reducible refine bif_f (by assumption) ?_ | with_reducible refine bif_t (beq_self_eq_true _) ?_ | with_reducible refine bif_b (fun _ => ?_) (fun _ => ?_) | with_reducible refine ⟨_, Eq.refl (List.map _ _), ?_⟩ | (with_reducible refine Exists.intro (by omega) ?_) | rfl | (intro h0; omega) | omega
  have hE : putE L h (strOfNums b) = 0 := by unfold putE; rw [h1]; exact if_neg (by omega)
  refine ⟨trivial, isB _, trivial, trivial, by omega, by omega, fun cap2 k2 => ⟨trivial, ?_⟩⟩
  refine bif_dec (fun h3 => ?_) (fun h3 => ?_)
  · refine bif_b (fun h4 => ?_) (fun h4 => ?_)
    · have hcs := hcc.1 (Nat.eq_of_beq_eq_true h4)
      refine ⟨rowS (under L h ++ [strOfNums b]), rfl, ⟨e2.symm, trivial, by omega, by omega, by omega⟩, fun o => .inr (.inr ⟨⟨cap2, o.cap, hE, by omega, hcs, by have := o.h; omega⟩, ?_⟩)⟩
      repeat' first | exact fun x _ => Enc.pures eS x | exact trivial | refine And.intro ?_ ?_ | with_reducible refine bif_dt (by assumption) ?_ | with_reducible refine bif_df (by assumption) ?_ | with_reducible refine bif_dec (fun _ => ?_) (fun _ => ?_) | with_reducible refine bif_not ?_ | with_reducible refine bif_and ?_ | with_reducible refine bif_or ?_ | with_reducible refine bif_t (by assumption) ?_ | with_reducible refine bif_f (by assumption) ?_ | with_reducible refine bif_t (beq_self_eq_true _) ?_ | with_reducible refine bif_b (fun _ => ?_) (fun _ => ?_) | with_reducible refine ⟨_, Eq.refl (List.map _ _), ?_⟩ | (with_reducible refine Exists.intro (by omega) ?_) | rfl | (intro h0; omega) | omega
    · refine .inr (.inl ⟨⟨cap2, hE, fun h5 => ?_⟩, ?_⟩)
      · rw [hcc.2 h5.2] at h4
        cases h4
      ·
        repeat' first | exact fun x _ => Enc.pures eS x | exact trivial | refine And.intro ?_ ?_ | with_reducible refine bif_dt (by assumption) ?_ | with_reducible refine bif_df (by assumption) ?_ | with_reducible refine bif_dec (fun _ => ?_) (fun _ => ?_) | with_reducible refine bif_not ?_ | with_reducible refine bif_and ?_ | with_reducible refine bif_or ?_ | with_reducible refine bif_t (by assumption) ?_ | with_reducible refine bif_f (by assumption) ?_ | with_reducible refine bif_t (beq_self_eq_true _) ?_ | with_reducible refine bif_b (fun _ => ?_) (fun _ => ?_) | with_reducible refine ⟨_, Eq.refl (List.map _ _), ?_⟩ | (with_reducible refine Exists.intro (by omega) ?_) | rfl | (intro h0; omega) | omega
  · refine .inr (.inl ⟨⟨cap2, hE, fun h4 => h3 (by omega)⟩, ?_⟩)
    repeat' first | exact fun x _ => Enc.pures eS x | exact trivial | refine And.intro ?_ ?_ | with_reducible refine bif_dt (by assumption) ?_ | with_reducible refine bif_df (by assumption) ?_ | with_reducible refine bif_dec (fun _ => ?_) (fun _ => ?_) | with_reducible refine bif_not ?_ | with_reducible refine bif_and ?_ | with_reducible refine bif_or ?_ | with_reducible refine bif_t (by assumption) ?_ | with_reducible refine bif_f (by assumption) ?_ | with_reducible refine bif_t (beq_self_eq_true _) ?_ | with_reducible refine bif_b (fun _ => ?_) (fun _ => ?_) | with_reducible refine ⟨_, Eq.refl (List.map _ _), ?_⟩ | (with_reducible refine Exists.intro (by omega) ?_) | rfl | (intro h0; omega) | omega
end Go.Proofs.YtblapbjafbmndaaDoor

namespace Go.Proofs.YtblapbjafbmndaaDoor
open Go Go.Sx Go.Sha
set_option linter.unusedVariables false
set_option linter.unusedSimpArgs false
set_option maxRecDepth 100000
set_option maxHeartbeats 4000000

/-- A book behind Put. -/
def putB (L : Ents) (cs : List ByteArray) (h : List Int) (s : ByteArray) : Ents × List ByteArray :=
  if putE L h s = 0 then (L ++ [(h, s)], if (under L h).length = 1 ∧ cs = [] then under L h ++ [s] else cs) else (L, cs)
theorem under_snoc (L : Ents) (h : List Int) (s : ByteArray) : under (L ++ [(h, s)]) h = under L h ++ [s] := by simp [under]
theorem cut_snoc (L : Ents) (h : List Int) (s : ByteArray) : cut (L ++ [(h, s)]) h = cut L h := by
  funext k
  unfold cut
  split
  · rfl
  · rename_i hk
    have e : ¬ h = k := fun e => hk e.symm
    simp [under, e]
theorem put_spec (y : Value) {A : List Nat} {L : Ents} {cs : List ByteArray} {h b : List Int} (hh : h.length = 32) (hL : L.length ≤ 100000) : SMem Tryd.prog 60 [.one (.ptr 0 0), h32 h, byV y b] 1 [(0, .obj A [] (bookAbs L cs))]
    (fun A' : List Nat => ⟨1, int (putE L h (strOfNums b)), [(0, .obj A' [] (bookAbs (putB L cs h (strOfNums b)).1 (putB L cs h (strOfNums b)).2))]⟩) := by
  refine ⟨SCall.via fun B σ w s hargs => ?_⟩
  have hB : B.k ≤ 1 := s.kn
  obtain ⟨σ1, A1, ccap, cap, g1, g2, g3, g4, g5, g6, g7⟩ := book_open s hh
  refine ⟨4, _, σ1, _, by omega, g1, g2, g3, (put_open y hh hL g4 g5 g6 g7).spec, ?_⟩
  rintro σ' n' m h' w' ⟨o, rfl, rfl, rfl⟩ hn hσ mem mok
  have hag : ∀ j, j < 1 → σ j = σ' j := fun j hj => (g1 j hj).trans (hσ j (by omega))
  rcases o with o | o | o
  · obtain ⟨A', m1, m2⟩ := book_shut (L := L) (cs := cs) (k := h) (c := 2) (r := 3) mem hB rfl (fun _ => rfl) rfl rfl rfl (by decide) g4
    have e : putB L cs h (strOfNums b) = (L, cs) := if_neg o.he
    exact ⟨σ', 1, _, _, ⟨A', rfl, rfl, rfl⟩, rfl, Nat.le_refl _, hag, by rw [e]; exact m1, .one rfl (.v rfl), by rw [e]; exact m2⟩
  · have e : putB L cs h (strOfNums b) = (L ++ [(h, strOfNums b)], cs) := by unfold putB; rw [if_pos o.he, if_neg o.hn]
    obtain ⟨A', m1, m2⟩ := book_shut (L := L ++ [(h, strOfNums b)]) (cs := cs) (k := h) (A1 := A1) (ccap := ccap) (cap := o.cap) (c := 2) (r := 4) mem hB rfl
      (fun _ => by rw [List.length_append]; rfl) (by rw [under_snoc, cut_snoc, List.length_append]; rfl) rfl (by rw [under_snoc]; rfl) (by decide) g4
    refine ⟨σ', 1, _, _, ⟨A', rfl, rfl, rfl⟩, ?_, Nat.le_refl _, hag, by rw [e]; exact m1, .one rfl (.v rfl), by rw [e]; exact m2⟩
    show (int 0).den σ' = (int (putE L h (strOfNums b))).den σ'
    rw [o.he]
  · have e : putB L cs h (strOfNums b) = (L ++ [(h, strOfNums b)], under L h ++ [strOfNums b]) := by unfold putB; rw [if_pos o.he, if_pos ⟨o.hy, o.hc⟩]
    have hlen : (under L h ++ [strOfNums b]).length = 2 := by rw [List.length_append, o.hy]; rfl
    have hcc0 : ¬ o.ccap = 0 := by have := o.h2; omega
    obtain ⟨A', m1, m2⟩ := book_shut (L := L ++ [(h, strOfNums b)]) (cs := under L h ++ [strOfNums b]) (k := h) (A1 := A1) (ccap := o.ccap) (cap := o.cap) (c := 5) (r := 4) mem hB rfl
      (fun τ => by
        rw [hlen, List.length_append]
        simp only [denL_cons, denL_nil, SV.dens, SV.den, if_neg hcc0, Nat.zero_mul]
        rfl) (by rw [under_snoc, cut_snoc, List.length_append]; rfl) rfl (by rw [under_snoc]; rfl) (by decide) ⟨fun h0 => absurd h0 hcc0, fun h0 => by simp at h0⟩
    refine ⟨σ', 1, _, _, ⟨A', rfl, rfl, rfl⟩, ?_, Nat.le_refl _, hag, by rw [e]; exact m1, .one rfl (.v rfl), by rw [e]; exact m2⟩
    show (int 0).den σ' = (int (putE L h (strOfNums b))).den σ'
    rw [o.he]
theorem new_open : SMem Tryd.prog 51 [] 0 [] (fun _ : Unit => ⟨2, .one (.ptr 1 0), [(0, .obj [] [] newMap), (1, .cells [.mp 0, .v (.slice none 0 0), .v (.int .i64 0)])]⟩) := by
  refine SMem.inm [] SOK.nil [] MSOK.nil tok mixed [] IOK.nil true [] [] Tryd.call51 Tryd.func51 rfl (by rfl) ?_
  refine Eq.mp (α := (∃ o : Unit, (And (And (And ((true : Bool) = true) ((0 : Nat) = (0 : Nat))) True) (And (And (And (([] : List Nat) = []) (And True (newMap = newMap))) (And ((true : Bool) = true) (And (And ((true : Bool) = true) (And (Value.slice none (0 : Nat) (0 : Nat) = Value.slice none (0 : Nat) (0 : Nat)) (And ((0 : Int) = (0 : Int)) True))) (And ((true : Bool) = true) True)))) ((true : Bool) = true))))) (by kernel_rfl) ?_
  refine ⟨(), ?_⟩
  repeat' first | exact trivial | refine And.intro ?_ ?_ | with_reducible refine bif_dt (by assumption) ?_ | with_reducible refine bif_df (by assumption) ?_ | with_reducible refine bif_dec (fun _ => ?_) (fun _ => ?_) | with_reducible refine bif_not ?_ | with_reducible refine bif_and ?_ | with_reducible refine bif_or ?_ | with_reducible refine bif_t (by assumption) ?_ | with_reducible refine bif_f (by assumption) ?_ | with_reducible refine bif_t (beq_self_eq_true _) ?_ | with_reducible refine bif_b (fun _ => ?_) (fun _ => ?_) | with_reducible refine ⟨_, Eq.refl (List.map _ _), ?_⟩ | (with_reducible refine Exists.intro (by omega) ?_) | rfl | (intro h0; omega) | omega
theorem new_spec : SMem Tryd.prog 51 [] 0 [] (fun A : List Nat => ⟨1, .one (.ptr 0 0), [(0, .obj A [] (bookAbs [] []))]⟩) := by
  refine ⟨SCall.via fun B σ w s hargs => ⟨0, _, σ, _, by omega, fun j hj => by omega, s, fun _ h => h, new_open.spec, ?_⟩⟩
  rintro σ' n' m h' w' ⟨o, rfl, rfl, rfl⟩ hn hσ mem mok
  obtain ⟨σ2, A, m1, m2, m3⟩ := book_made mem (by have := s.kn; omega) rfl rfl
  refine ⟨σ2, 1, _, _, ⟨A, rfl, rfl, rfl⟩, ?_, Nat.zero_le _, fun j hj => by omega, m1, .one rfl (.ptr (by omega)), m3⟩
  show (M.one (.ptr 1 0)).den σ' = (M.one (.ptr 0 0)).den σ2
  simp only [M.den, SV.den, m2]
end Go.Proofs.YtblapbjafbmndaaDoor

namespace Go.Proofs.YtblapbjafbmndaaDoor
open Go Go.Sx Go.Sha
set_option linter.unusedVariables false
set_option linter.unusedSimpArgs false
set_option maxRecDepth 100000
set_option maxHeartbeats 4000000

def c0 : List ByteArray → List Int
  | a :: _ => sl a
  | [] => []
def c1 : List ByteArray → List Int
  | _ :: b :: _ => sl b
  | _ => []
theorem sl_length (s : ByteArray) : (sl s).length = s.size := by
  unfold sl
  rw [List.length_map]
  rfl
theorem take_sl (s : ByteArray) : List.take s.size (List.drop 0 (sl s)) = sl s := by rw [List.drop_zero, ← sl_length, List.take_length]
theorem len_open {L : Ents} {cs : List ByteArray} {h : List Int} {A : List Nat} {ccap cap : Nat} : SMem Tryd.prog 61 [.one (.ptr 0 0)] 4 (openH L cs h A ccap cap) (fun _ : Unit => ⟨4, int L.length, openH L cs h A ccap cap⟩) := by
  refine SMem.inm [] SOK.nil [] MSOK.nil tok mixed [(98, ⟨Tryd.f98, true, [], []⟩)] (IOK.cons Tryd.func98 Tryd.call98 IOK.nil) true [] [] Tryd.call61 Tryd.func61 rfl (by rfl) ?_
  refine Eq.mp (α := (∃ o : Unit, (And (And ((↑(List.length L) : Int) = (↑(List.length L) : Int)) True) (And (And (And ((true : Bool) = true) (And (And ((true : Bool) = true) (And (List.length cs = List.length cs) (ccap = ccap))) (And ((↑(List.length L) : Int) = (↑(List.length L) : Int)) True))) (And ((true : Bool) = true) (And (And (A = A) (And (And ((true : Bool) = true) (And (List.length (under L h) = List.length (under L h)) (cap = cap))) (Abs.map (32 : Nat) h (mrest (cut L h)) = Abs.map (32 : Nat) h (mrest (cut L h))))) (And ((true : Bool) = true) (And (And ((true : Bool) = true) (And (ccap = ccap) (And (List.map (Enc.enc eS) (rowS cs) = List.map (Enc.enc eS) (rowS cs)) (∀ x : STy, (∀ a : x ∈ rowS cs, (∀ s : SV, (∀ a_1 : s ∈ Enc.enc eS x, ((SV.isPure s : Bool) = (true))))))))) (And ((true : Bool) = true) (And (And ((true : Bool) = true) (And (cap = cap) (And (List.map (Enc.enc eS) (rowS (under L h)) = List.map (Enc.enc eS) (rowS (under L h))) (∀ x : STy, (∀ a : x ∈ rowS (under L h), (∀ s : SV, (∀ a_1 : s ∈ Enc.enc eS x, ((SV.isPure s : Bool) = (true))))))))) (And ((true : Bool) = true) True)))))))) ((true : Bool) = true))))) (by kernel_rfl) ?_
  refine ⟨(), ?_⟩
  repeat' first | exact fun x _ => Enc.pures eS x | exact trivial | refine And.intro ?_ ?_ | with_reducible refine bif_dt (by assumption) ?_ | with_reducible refine bif_df (by assumption) ?_ | with_reducible refine bif_dec (fun _ => ?_) (fun _ => ?_) | with_reducible refine bif_not ?_ | with_reducible refine bif_and ?_ | with_reducible refine bif_or ?_ | with_reducible refine bif_t (by assumption) ?_ | with_reducible refine bif_f (by assumption) ?_ | with_reducible refine bif_t (beq_self_eq_true _) ?_ | with_reducible refine bif_b (fun _ => ?_) (fun _ => ?_) | with_reducible refine ⟨_, Eq.refl (List.map _ _), ?_⟩ | (with_reducible refine Exists.intro (by omega) ?_) | rfl | (intro h0; omega) | omega
theorem clash_open0 {L : Ents} {h : List Int} {A : List Nat} {cap : Nat} : SMem Tryd.prog 55 [.one (.ptr 0 0)] 4 (openH L [] h A 0 cap) (fun o : Value × Value => ⟨4, .tup [byV o.1 [], byV o.2 [], bool false], openH L [] h A 0 cap⟩) := by
  refine SMem.inf 1 EB [] SOK.nil [] MSOK.nil tok mixed [(98, ⟨Tryd.f98, true, [], []⟩)] (IOK.cons Tryd.func98 Tryd.call98 IOK.nil) true [] [] Tryd.call55 Tryd.func55 rfl (by rfl) ?_
  refine Eq.mp (α := (∃ o : Value × Value, (And (And (And (SV.view (Prod.fst o) (1 : Nat) (Enc.enc (encInt IntKind.u8)) [] = nilV (1 : Nat) EB (SV.v (Value.slice none (0 : Nat) (0 : Nat)))) (And (SV.view (Prod.snd o) (1 : Nat) (Enc.enc (encInt IntKind.u8)) [] = nilV (1 : Nat) EB (SV.v (Value.slice none (0 : Nat) (0 : Nat)))) (And ((false : Bool) = false) True))) True) (And (And (And ((true : Bool) = true) (And (And ((true : Bool) = true) (And ((0 : Nat) = (0 : Nat)) ((0 : Nat) = (0 : Nat)))) (And ((↑(List.length L) : Int) = (↑(List.length L) : Int)) True))) (And ((true : Bool) = true) (And (And (A = A) (And (And ((true : Bool) = true) (And (List.length (under L h) = List.length (under L h)) (cap = cap))) (Abs.map (32 : Nat) h (mrest (cut L h)) = Abs.map (32 : Nat) h (mrest (cut L h))))) (And ((true : Bool) = true) (And (And ((true : Bool) = true) (And ((0 : Nat) = (0 : Nat)) (And (List.map (Enc.enc eS) (rowS []) = List.map (Enc.enc eS) (rowS [])) (∀ x : STy, (∀ a : x ∈ rowS [], (∀ s : SV, (∀ a_1 : s ∈ Enc.enc eS x, ((SV.isPure s : Bool) = (true))))))))) (And ((true : Bool) = true) (And (And ((true : Bool) = true) (And (cap = cap) (And (List.map (Enc.enc eS) (rowS (under L h)) = List.map (Enc.enc eS) (rowS (under L h))) (∀ x : STy, (∀ a : x ∈ rowS (under L h), (∀ s : SV, (∀ a_1 : s ∈ Enc.enc eS x, ((SV.isPure s : Bool) = (true))))))))) (And ((true : Bool) = true) True)))))))) ((true : Bool) = true))))) (by kernel_rfl) ?_
  refine ⟨(.slice none 0 0, .slice none 0 0), ?_⟩
  repeat' first | exact fun x _ => Enc.pures eS x | exact trivial | refine And.intro ?_ ?_ | with_reducible refine bif_dt (by assumption) ?_ | with_reducible refine bif_df (by assumption) ?_ | with_reducible refine bif_dec (fun _ => ?_) (fun _ => ?_) | with_reducible refine bif_not ?_ | with_reducible refine bif_and ?_ | with_reducible refine bif_or ?_ | with_reducible refine bif_t (by assumption) ?_ | with_reducible refine bif_f (by assumption) ?_ | with_reducible refine bif_t (beq_self_eq_true _) ?_ | with_reducible refine bif_b (fun _ => ?_) (fun _ => ?_) | with_reducible refine ⟨_, Eq.refl (List.map _ _), ?_⟩ | (with_reducible refine Exists.intro (by omega) ?_) | rfl | (intro h0; omega) | omega
theorem clash_open2 {L : Ents} {a b : ByteArray} {h : List Int} {A : List Nat} {ccap cap : Nat} (hc : 2 ≤ ccap) : SMem Tryd.prog 55 [.one (.ptr 0 0)] 4 (openH L [a, b] h A ccap cap) (fun o : Value × Value => ⟨4, .tup [byV o.1 (sl a), byV o.2 (sl b), bool true], openH L [a, b] h A ccap cap⟩) := by
  refine SMem.inf 1 EB [] SOK.nil [] MSOK.nil tok mixed [(98, ⟨Tryd.f98, true, [], []⟩)] (IOK.cons Tryd.func98 Tryd.call98 IOK.nil) true [] [] Tryd.call55 Tryd.func55 rfl (by rfl) ?_
  refine Eq.mp (α := (@Bool.rec (fun _ => Prop) (And ((0 : Int) ≤ (0 : Int)) (And (Int.toNat (0 : Int) < (2 : Nat)) (∃ hi : Int.toNat (0 : Int) < (2 : Nat), (And ((0 : Int) ≤ (1 : Int)) (And (Int.toNat (1 : Int) < (2 : Nat)) (∃ hi_1 : Int.toNat (1 : Int) < (2 : Nat), (And (∀ cap_1 : Nat, (∀ a_1 : ByteArray.size a ≤ cap_1, (And (∀ cap_2 : Nat, (∀ a_2 : ByteArray.size b ≤ cap_2, (And ((0 : Nat) + ByteArray.size a ≤ List.length (sl a)) (And (ByteArray.size a ≤ cap_1) (And (∀ y : Int, ((true : Bool) = true)) (∀ x : Value, (And ((0 : Nat) + ByteArray.size b ≤ List.length (sl b)) (And (ByteArray.size b ≤ cap_2) (And (∀ y : Int, ((true : Bool) = true)) (∀ x_1 : Value, (∃ o : Value × Value, (And (And (And (SV.view (Prod.fst o) (1 : Nat) (Enc.enc (encInt IntKind.u8)) (sl a) = nilV (1 : Nat) EB (SV.view x (1 : Nat) (Enc.enc (encInt IntKind.u8)) (List.take (ByteArray.size a) (List.drop (0 : Nat) (sl a))))) (And (SV.view (Prod.snd o) (1 : Nat) (Enc.enc (encInt IntKind.u8)) (sl b) = nilV (1 : Nat) EB (SV.view x_1 (1 : Nat) (Enc.enc (encInt IntKind.u8)) (List.take (ByteArray.size b) (List.drop (0 : Nat) (sl b))))) (And ((true : Bool) = true) True))) True) (And (And (And ((true : Bool) = true) (And (And ((true : Bool) = true) (And ((2 : Nat) = (2 : Nat)) (ccap = ccap))) (And ((↑(List.length L) : Int) = (↑(List.length L) : Int)) True))) (And ((true : Bool) = true) (And (And (A = A) (And (And ((true : Bool) = true) (And (List.length (under L h) = List.length (under L h)) (cap = cap))) (Abs.map (32 : Nat) h (mrest (cut L h)) = Abs.map (32 : Nat) h (mrest (cut L h))))) (And ((true : Bool) = true) (And (And ((true : Bool) = true) (And (ccap = ccap) (And (List.map (Enc.enc eS) (rowS [a, b]) = List.map (Enc.enc eS) (rowS [a, b])) (∀ x_2 : STy, (∀ a_3 : x_2 ∈ rowS [a, b], (∀ s : SV, (∀ a_4 : s ∈ Enc.enc eS x_2, ((SV.isPure s : Bool) = (true))))))))) (And ((true : Bool) = true) (And (And ((true : Bool) = true) (And (cap = cap) (And (List.map (Enc.enc eS) (rowS (under L h)) = List.map (Enc.enc eS) (rowS (under L h))) (∀ x_2 : STy, (∀ a_3 : x_2 ∈ rowS (under L h), (∀ s : SV, (∀ a_4 : s ∈ Enc.enc eS x_2, ((SV.isPure s : Bool) = (true))))))))) (And ((true : Bool) = true) True)))))))) ((true : Bool) = true)))))))))))))) True))) (And (∀ cap_1 : Nat, (∀ a_1 : ByteArray.size b ≤ cap_1, (And (∀ cap_2 : Nat, (∀ a_2 : ByteArray.size a ≤ cap_2, (And ((0 : Nat) + ByteArray.size a ≤ List.length (sl a)) (And (ByteArray.size a ≤ cap_2) (And (∀ y : Int, ((true : Bool) = true)) (∀ x : Value, (And ((0 : Nat) + ByteArray.size b ≤ List.length (sl b)) (And (ByteArray.size b ≤ cap_1) (And (∀ y : Int, ((true : Bool) = true)) (∀ x_1 : Value, (∃ o : Value × Value, (And (And (And (SV.view (Prod.fst o) (1 : Nat) (Enc.enc (encInt IntKind.u8)) (sl a) = nilV (1 : Nat) EB (SV.view x (1 : Nat) (Enc.enc (encInt IntKind.u8)) (List.take (ByteArray.size a) (List.drop (0 : Nat) (sl a))))) (And (SV.view (Prod.snd o) (1 : Nat) (Enc.enc (encInt IntKind.u8)) (sl b) = nilV (1 : Nat) EB (SV.view x_1 (1 : Nat) (Enc.enc (encInt IntKind.u8)) (List.take (ByteArray.size b) (List.drop (0 : Nat) (sl b))))) (And ((true : Bool) = true) True))) True) (And (And (And ((true : Bool) = true) (And (And ((true : Bool) = true) (And ((2 : Nat) = (2 : Nat)) (ccap = ccap))) (And ((↑(List.length L) : Int) = (↑(List.length L) : Int)) True))) (And ((true : Bool) = true) (And (And (A = A) (And (And ((true : Bool) = true) (And (List.length (under L h) = List.length (under L h)) (cap = cap))) (Abs.map (32 : Nat) h (mrest (cut L h)) = Abs.map (32 : Nat) h (mrest (cut L h))))) (And ((true : Bool) = true) (And (And ((true : Bool) = true) (And (ccap = ccap) (And (List.map (Enc.enc eS) (rowS [a, b]) = List.map (Enc.enc eS) (rowS [a, b])) (∀ x_2 : STy, (∀ a_3 : x_2 ∈ rowS [a, b], (∀ s : SV, (∀ a_4 : s ∈ Enc.enc eS x_2, ((SV.isPure s : Bool) = (true))))))))) (And ((true : Bool) = true) (And (And ((true : Bool) = true) (And (cap = cap) (And (List.map (Enc.enc eS) (rowS (under L h)) = List.map (Enc.enc eS) (rowS (under L h))) (∀ x_2 : STy, (∀ a_3 : x_2 ∈ rowS (under L h), (∀ s : SV, (∀ a_4 : s ∈ Enc.enc eS x_2, ((SV.isPure s : Bool) = (true))))))))) (And ((true : Bool) = true) True)))))))) ((true : Bool) = true)))))))))))))) True))) True)))))))) (∃ o : Value × Value, (And (And (And (SV.view (Prod.fst o) (1 : Nat) (Enc.enc (encInt IntKind.u8)) (sl a) = nilV (1 : Nat) EB (SV.v (Value.slice none (0 : Nat) (0 : Nat)))) (And (SV.view (Prod.snd o) (1 : Nat) (Enc.enc (encInt IntKind.u8)) (sl b) = nilV (1 : Nat) EB (SV.v (Value.slice none (0 : Nat) (0 : Nat)))) (And ((true : Bool) = (false)) True))) True) (And (And (And ((true : Bool) = true) (And (And ((true : Bool) = true) (And ((2 : Nat) = (2 : Nat)) (ccap = ccap))) (And ((↑(List.length L) : Int) = (↑(List.length L) : Int)) True))) (And ((true : Bool) = true) (And (And (A = A) (And (And ((true : Bool) = true) (And (List.length (under L h) = List.length (under L h)) (cap = cap))) (Abs.map (32 : Nat) h (mrest (cut L h)) = Abs.map (32 : Nat) h (mrest (cut L h))))) (And ((true : Bool) = true) (And (And ((true : Bool) = true) (And (ccap = ccap) (And (List.map (Enc.enc eS) (rowS [a, b]) = List.map (Enc.enc eS) (rowS [a, b])) (∀ x : STy, (∀ a_1 : x ∈ rowS [a, b], (∀ s : SV, (∀ a_2 : s ∈ Enc.enc eS x, ((SV.isPure s : Bool) = (true))))))))) (And ((true : Bool) = true) (And (And ((true : Bool) = true) (And (cap = cap) (And (List.map (Enc.enc eS) (rowS (under L h)) = List.map (Enc.enc eS) (rowS (under L h))) (∀ x : STy, (∀ a_1 : x ∈ rowS (under L h), (∀ s : SV, (∀ a_2 : s ∈ Enc.enc eS x, ((SV.isPure s : Bool) = (true))))))))) (And ((true : Bool) = true) True)))))))) ((true : Bool) = true)))) (Nat.beq ccap (0 : Nat)))) (by kernel_rfl) ?_
  refine bif_b (fun h0 => absurd (Nat.eq_of_beq_eq_true h0) (by omega)) (fun _ => ?_)
  simp only [take_sl, sl_length]
  refine ⟨by decide, by decide, by decide, by decide, by decide, by decide, ?_⟩
  refine ⟨fun q1 k1 => ⟨fun q2 k2 => ⟨by omega, k1, fun _ => trivial, fun x => ⟨by omega, k2, fun _ => trivial, fun x1 => ⟨(x, x1), ?_⟩⟩⟩, trivial⟩, fun q1 k1 => ⟨fun q2 k2 => ⟨by omega, k2, fun _ => trivial, fun x => ⟨by omega, k1, fun _ => trivial, fun x1 => ⟨(x, x1), ?_⟩⟩⟩, trivial⟩, trivial⟩
  ·
    repeat' first | exact fun x _ => Enc.pures eS x | exact trivial | refine And.intro ?_ ?_ | with_reducible refine bif_dt (by assumption) ?_ | with_reducible refine bif_df (by assumption) ?_ | with_reducible refine bif_dec (fun _ => ?_) (fun _ => ?_) | with_reducible refine bif_not ?_ | with_reducible refine bif_and ?_ | with_reducible refine bif_or ?_ | with_reducible refine bif_t (by assumption) ?_ | with_reducible refine bif_f (by assumption) ?_ | with_reducible refine bif_t (beq_self_eq_true _) ?_ | with_reducible refine bif_b (fun _ => ?_) (fun _ => ?_) | with_reducible refine ⟨_, Eq.refl (List.map _ _), ?_⟩ | (with_reducible refine Exists.intro (by omega) ?_) | rfl | (intro h0; omega) | omega
  ·
    repeat' first | exact fun x _ => Enc.pures eS x | exact trivial | refine And.intro ?_ ?_ | with_reducible refine bif_dt (by assumption) ?_ | with_reducible refine bif_df (by assumption) ?_ | with_reducible refine bif_dec (fun _ => ?_) (fun _ => ?_) | with_reducible refine bif_not ?_ | with_reducible refine bif_and ?_ | with_reducible refine bif_or ?_ | with_reducible refine bif_t (by assumption) ?_ | with_reducible refine bif_f (by assumption) ?_ | with_reducible refine bif_t (beq_self_eq_true _) ?_ | with_reducible refine bif_b (fun _ => ?_) (fun _ => ?_) | with_reducible refine ⟨_, Eq.refl (List.map _ _), ?_⟩ | (with_reducible refine Exists.intro (by omega) ?_) | rfl | (intro h0; omega) | omega
/-- What a look leaves: the book, shut again. -/
theorem book_look {P : Program} {f : Nat} {args : List M} {A : List Nat} {L : Ents} {cs : List ByteArray} {k : List Int} (hk : k.length = 32) {ι : Type} {R : ι → M} (hR : ∀ o, (R o).pure = true)
    (spec : ∀ A1 ccap cap, (ccap = 0 ↔ cs = []) → cs.length ≤ ccap → (under L k).length ≤ cap → SMem P f args 4 (openH L cs k A1 ccap cap) (fun o : ι => ⟨4, R o, openH L cs k A1 ccap cap⟩)) :
    SMem P f args 1 [(0, .obj A [] (bookAbs L cs))] (fun o : ι × List Nat => ⟨1, R o.1, [(0, .obj o.2 [] (bookAbs L cs))]⟩) := by
  refine ⟨SCall.via fun B σ w s hargs => ?_⟩
  have hB : B.k ≤ 1 := s.kn
  obtain ⟨σ1, A1, ccap, cap, g1, g2, g3, g4, g5, g6, g7⟩ := book_open s hk
  refine ⟨4, _, σ1, _, by omega, g1, g2, g3, (spec A1 ccap cap g4 g5 g6).spec, ?_⟩
  rintro σ' n' m h' w' ⟨o, rfl, rfl, rfl⟩ hn hσ mem mok
  have hag : ∀ j, j < 1 → σ j = σ' j := fun j hj => (g1 j hj).trans (hσ j (by omega))
  obtain ⟨A', m1, m2⟩ := book_shut (L := L) (cs := cs) (k := k) (c := 2) (r := 3) mem hB rfl (fun _ => rfl) rfl rfl rfl (by decide) g4
  exact ⟨σ', 1, _, _, ⟨(o, A'), rfl, rfl, rfl⟩, rfl, Nat.le_refl _, hag, m1, (mok.reav m2).of_pure (fun _ h => h) (hR o), m2⟩
theorem len_spec {A : List Nat} {L : Ents} {cs : List ByteArray} : SMem Tryd.prog 61 [.one (.ptr 0 0)] 1 [(0, .obj A [] (bookAbs L cs))] (fun o : Unit × List Nat => ⟨1, int L.length, [(0, .obj o.2 [] (bookAbs L cs))]⟩) :=
  book_look (k := List.replicate 32 0) rfl (R := fun _ => int L.length) (fun _ => rfl) fun _ _ _ _ _ _ => len_open
theorem clash_spec {A : List Nat} {L : Ents} {cs : List ByteArray} (h : cs = [] ∨ cs.length = 2) : SMem Tryd.prog 55 [.one (.ptr 0 0)] 1 [(0, .obj A [] (bookAbs L cs))] (fun o : (Value × Value) × List Nat => ⟨1, .tup [byV o.1.1 (c0 cs), byV o.1.2 (c1 cs), bool (!cs.isEmpty)], [(0, .obj o.2 [] (bookAbs L cs))]⟩) := by
  refine book_look (k := List.replicate 32 0) rfl (R := fun o : Value × Value => .tup [byV o.1 (c0 cs), byV o.2 (c1 cs), bool (!cs.isEmpty)]) (fun _ => rfl) fun A1 ccap cap g1 g2 _ => ?_
  rcases h with rfl | h
  · rw [g1.2 rfl]
    exact clash_open0
  · match cs, h with
    | [a, b], _ => exact clash_open2 g2
def bputT : MT := fun ms n h K => match ms with
  | [.one (.ptr P0 0), .agg [.ints .u8 32 k], .one (.view vx0 ve0 en0 vl0)] => (match get h P0 with
    | some (.obj A [] o0) => bif Nat.beq ve0 1 && noDup [P0] then ∃ b : List (Int), vl0.map en0 = b.map eB ∧ ∃ (L : Ents) (cs : List ByteArray), ((o0 = bookAbs L cs) ∧ k.length = 32 ∧ L.length ≤ 100000) ∧ (∀ o : List Nat, K (n + 0) (int (putE L k (strOfNums b))) ([(P0, .obj o [] (bookAbs (putB L cs k (strOfNums b)).1 (putB L cs k (strOfNums b)).2))] ++ delL [P0] h)) else False
    | _ => False)
  | _ => False
theorem bput_mono : MMono bputT := by
  intro ms n h K K' hkk hk
  unfold bputT at hk ⊢
  split at hk
  · rename_i P0 k vx0 ve0 va0 en0 vl0
    split at hk
    · rename_i A o0 hg0
      try simp only [hg0]
      obtain ⟨hb, y0, z0, q0, q1, h1, h2⟩ := cond_false_elim hk
      rw [hb]
      exact ⟨y0, z0, q0, q1, h1, fun o => hkk _ _ _ (h2 o)⟩
    · exact hk.elim
  · exact hk.elim
theorem bput_ok : MOK Tryd.prog 60 bputT := by
  refine ⟨?_, bput_mono⟩
  intro ms n hB K hk
  unfold bputT at hk
  split at hk
  · rename_i P0 k vx0 ve0 va0 en0 vl0
    split at hk
    · rename_i A o0 hg0
      obtain ⟨hb, b, he0, L, cs, h, hk2⟩ := cond_false_elim hk
      clear hk
      obtain ⟨rfl, h⟩ := h
      simp only [Bool.and_eq_true] at hb
      obtain ⟨hc0, hnd⟩ := hb
      have hs0 := Nat.eq_of_beq_eq_true hc0
      subst hs0
      refine SCall.seen ?_ (.cons (.refl _) (.cons (.refl _) (.cons (.view he0) .nil)))
      exact (put_spec _ (A := A) (L := L) (cs := cs) h.1 h.2).use (fun j => match j with | 0 => P0 | _ => 0) rfl rfl ⟨by show (match get hB P0 with | some b0 => Blk.imp _ _ _ b0 | none => False); rw [hg0]; exact ⟨rfl, .inl ⟨rfl, rfl⟩, rfl⟩, rfl, trivial⟩ (by exact hnd) (fun j hj => by cases j with
          | zero => exact ⟨_, rfl⟩
          | succ j => omega) (fun o => hk2 o)
    · exact hk.elim
  · exact hk.elim

def bnewT : MT := fun ms n h K => match ms with
  | [] => bif true then (True) ∧ (∀ o : List Nat, K (n + 1) (.one (.ptr n 0)) ([(n, .obj o [] (bookAbs [] []))] ++ delL [] h)) else False
  | _ => False
theorem bnew_mono : MMono bnewT := by
  intro ms n h K K' hkk hk
  unfold bnewT at hk ⊢
  split at hk
  · obtain ⟨hb, h1, h2⟩ := cond_false_elim hk
    rw [hb]
    exact ⟨h1, fun o => hkk _ _ _ (h2 o)⟩
  · exact hk.elim
theorem bnew_ok : MOK Tryd.prog 51 bnewT := by
  refine ⟨?_, bnew_mono⟩
  intro ms n hB K hk
  unfold bnewT at hk
  split at hk
  · obtain ⟨hb, h, hk2⟩ := cond_false_elim hk
    clear hk
    have hnd : noDup [] = true := rfl
    refine SCall.seen ?_ .nil
    exact (new_spec).use (fun _ => 0) rfl rfl trivial (by exact hnd) (fun j hj => absurd hj (Nat.not_lt_zero j)) (fun o => hk2 o)
  · exact hk.elim

def blenT : MT := fun ms n h K => match ms with
  | [.one (.ptr P0 0)] => (match get h P0 with
    | some (.obj A [] o0) => bif noDup [P0] then ∃ (L : Ents) (cs : List ByteArray), ((o0 = bookAbs L cs) ∧ True) ∧ (∀ o : Unit × List Nat, K (n + 0) (int L.length) ([(P0, .obj o.2 [] (bookAbs L cs))] ++ delL [P0] h)) else False
    | _ => False)
  | _ => False
theorem blen_mono : MMono blenT := by
  intro ms n h K K' hkk hk
  unfold blenT at hk ⊢
  split at hk
  · rename_i P0
    split at hk
    · rename_i A o0 hg0
      try simp only [hg0]
      obtain ⟨hb, q0, q1, h1, h2⟩ := cond_false_elim hk
      rw [hb]
      exact ⟨q0, q1, h1, fun o => hkk _ _ _ (h2 o)⟩
    · exact hk.elim
  · exact hk.elim
theorem blen_ok : MOK Tryd.prog 61 blenT := by
  refine ⟨?_, blen_mono⟩
  intro ms n hB K hk
  unfold blenT at hk
  split at hk
  · rename_i P0
    split at hk
    · rename_i A o0 hg0
      obtain ⟨hb, L, cs, h, hk2⟩ := cond_false_elim hk
      clear hk
      obtain ⟨rfl, h⟩ := h
      have hnd := hb
      refine SCall.seen ?_ (.cons (.refl _) .nil)
      exact (len_spec (A := A) (L := L) (cs := cs)).use (fun j => match j with | 0 => P0 | _ => 0) rfl rfl ⟨by show (match get hB P0 with | some b0 => Blk.imp _ _ _ b0 | none => False); rw [hg0]; exact ⟨rfl, .inl ⟨rfl, rfl⟩, rfl⟩, rfl, trivial⟩ (by exact hnd) (fun j hj => by cases j with
          | zero => exact ⟨_, rfl⟩
          | succ j => omega) (fun o => hk2 o)
    · exact hk.elim
  · exact hk.elim

def bclashT : MT := fun ms n h K => match ms with
  | [.one (.ptr P0 0)] => (match get h P0 with
    | some (.obj A [] o0) => bif noDup [P0] then ∃ (L : Ents) (cs : List ByteArray), ((o0 = bookAbs L cs) ∧ (cs = [] ∨ cs.length = 2)) ∧ (∀ o : (Value × Value) × List Nat, K (n + 0) (.tup [byV o.1.1 (c0 cs), byV o.1.2 (c1 cs), bool (!cs.isEmpty)]) ([(P0, .obj o.2 [] (bookAbs L cs))] ++ delL [P0] h)) else False
    | _ => False)
  | _ => False
theorem bclash_mono : MMono bclashT := by
  intro ms n h K K' hkk hk
  unfold bclashT at hk ⊢
  split at hk
  · rename_i P0
    split at hk
    · rename_i A o0 hg0
      try simp only [hg0]
      obtain ⟨hb, q0, q1, h1, h2⟩ := cond_false_elim hk
      rw [hb]
      exact ⟨q0, q1, h1, fun o => hkk _ _ _ (h2 o)⟩
    · exact hk.elim
  · exact hk.elim
theorem bclash_ok : MOK Tryd.prog 55 bclashT := by
  refine ⟨?_, bclash_mono⟩
  intro ms n hB K hk
  unfold bclashT at hk
  split at hk
  · rename_i P0
    split at hk
    · rename_i A o0 hg0
      obtain ⟨hb, L, cs, h, hk2⟩ := cond_false_elim hk
      clear hk
      obtain ⟨rfl, h⟩ := h
      have hnd := hb
      refine SCall.seen ?_ (.cons (.refl _) .nil)
      exact (clash_spec (A := A) (L := L) h).use (fun j => match j with | 0 => P0 | _ => 0) rfl rfl ⟨by show (match get hB P0 with | some b0 => Blk.imp _ _ _ b0 | none => False); rw [hg0]; exact ⟨rfl, .inl ⟨rfl, rfl⟩, rfl⟩, rfl, trivial⟩ (by exact hnd) (fun j hj => by cases j with
          | zero => exact ⟨_, rfl⟩
          | succ j => omega) (fun o => hk2 o)
    · exact hk.elim
  · exact hk.elim

end Go.Proofs.YtblapbjafbmndaaDoor
