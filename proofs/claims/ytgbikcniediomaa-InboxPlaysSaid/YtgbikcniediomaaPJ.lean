/- An inbox's Clone. -/
import Derived.Test.YtgbikcniediomaaPI
import Derived.Test.YtgbikcniediomaaSxZ
import Derived.Test.YtgbikcniediomaaSx24
import Derived.Test.YtgbikcniediomaaTabR
namespace Go.Proofs.Ytgbikcniediomaa
open Go Go.Sx
set_option linter.unusedVariables false
set_option linter.unusedSimpArgs false
set_option maxRecDepth 100000
set_option maxHeartbeats 4000000

structure CapK (n : Nat) where
  cap : Nat
  h : capOk n cap
theorem castKs (l : List KTy) : castL EK (encRec BkF) l = l := castL_self _ _ rfl
theorem cloneK_spec {L : List KTy} {cp : Nat} (h : capOk L.length cp) (hl : L.length ≤ 5000) : SMem Try.prog 38 [.one (.nslc 0 2 L.length cp)] 1 [(0, .row 2 EK L cp)] (fun c : CapK L.length => ⟨2, .one (.nslc 1 2 L.length c.cap), [(0, .row 2 EK L cp), (1, .row 2 EK L c.cap)]⟩) := by
  refine SMem.ino [] SOK.nil [] MSOK.nil tok mixed [] IOK.nil true [] [] Try.call38 Try.func38 rfl (by rfl) ?_
  refine Eq.mp (α := (@Bool.rec (fun _ => Prop) (And ((0 : Nat) = (0 : Nat)) (And ((0 : Nat) = (0 : Nat)) (And (List.length L ≤ List.length L) (And (cp = cp) (And (((0 : Nat) + List.length (castL EK (encRec [RK.sl (9 : Nat) [RK.int IntKind.u64, RK.int IntKind.u64, RK.int IntKind.u64, RK.ints IntKind.u64 (4 : Nat), RK.int IntKind.u64, RK.sl (1 : Nat) [RK.int IntKind.u8]], RK.sl (1 : Nat) [RK.sl (1 : Nat) [RK.int IntKind.u8]]]) (List.take (List.length L) L))) * (48 : Nat) ≤ (150000000000000 : Nat)) (∀ cap2 : Nat, (∀ a : (0 : Nat) + List.length (castL EK (encRec [RK.sl (9 : Nat) [RK.int IntKind.u64, RK.int IntKind.u64, RK.int IntKind.u64, RK.ints IntKind.u64 (4 : Nat), RK.int IntKind.u64, RK.sl (1 : Nat) [RK.int IntKind.u8]], RK.sl (1 : Nat) [RK.sl (1 : Nat) [RK.int IntKind.u8]]]) (List.take (List.length L) L)) ≤ cap2, (And (And ((0 : Nat) = (0 : Nat)) (And ((0 : Nat) < cap2) (List.length ([] ++ castL EK (encRec [RK.sl (9 : Nat) [RK.int IntKind.u64, RK.int IntKind.u64, RK.int IntKind.u64, RK.ints IntKind.u64 (4 : Nat), RK.int IntKind.u64, RK.sl (1 : Nat) [RK.int IntKind.u8]], RK.sl (1 : Nat) [RK.sl (1 : Nat) [RK.int IntKind.u8]]]) (List.take (List.length L) L)) ≤ cap2))) (∃ o : CapK (List.length L), (And (And (And ((true : Bool) = true) (And (List.length L = List.length ([] ++ castL EK (encRec [RK.sl (9 : Nat) [RK.int IntKind.u64, RK.int IntKind.u64, RK.int IntKind.u64, RK.ints IntKind.u64 (4 : Nat), RK.int IntKind.u64, RK.sl (1 : Nat) [RK.int IntKind.u8]], RK.sl (1 : Nat) [RK.sl (1 : Nat) [RK.int IntKind.u8]]]) (List.take (List.length L) L))) (CapK.cap o = cap2))) True) (And (And (And ((true : Bool) = true) (And (cp = cp) (And (List.map (Enc.enc EK) L = List.map (Enc.enc EK) L) (∀ x : KTy, (∀ a_1 : x ∈ L, (∀ s : SV, (∀ a_2 : s ∈ Enc.enc EK x, ((SV.isPure s : Bool) = (true))))))))) (And ((true : Bool) = true) (And (And ((true : Bool) = true) (And (CapK.cap o = cap2) (And (List.map (Enc.enc EK) L = List.map (Enc.enc (encRec [RK.sl (9 : Nat) [RK.int IntKind.u64, RK.int IntKind.u64, RK.int IntKind.u64, RK.ints IntKind.u64 (4 : Nat), RK.int IntKind.u64, RK.sl (1 : Nat) [RK.int IntKind.u8]], RK.sl (1 : Nat) [RK.sl (1 : Nat) [RK.int IntKind.u8]]])) ([] ++ castL EK (encRec [RK.sl (9 : Nat) [RK.int IntKind.u64, RK.int IntKind.u64, RK.int IntKind.u64, RK.ints IntKind.u64 (4 : Nat), RK.int IntKind.u64, RK.sl (1 : Nat) [RK.int IntKind.u8]], RK.sl (1 : Nat) [RK.sl (1 : Nat) [RK.int IntKind.u8]]]) (List.take (List.length L) L))) (∀ x : KTy, (∀ a_1 : x ∈ L, (∀ s : SV, (∀ a_2 : s ∈ Enc.enc EK x, ((SV.isPure s : Bool) = (true))))))))) (And ((true : Bool) = true) True)))) ((true : Bool) = true)))))))))))) (∃ o : CapK (List.length L), (And (And (And ((true : Bool) = true) (And (List.length L = (0 : Nat)) (CapK.cap o = (0 : Nat)))) True) (And (And (And ((true : Bool) = true) (And (cp = cp) (And (List.map (Enc.enc EK) L = List.map (Enc.enc EK) L) (∀ x : KTy, (∀ a : x ∈ L, (∀ s : SV, (∀ a_1 : s ∈ Enc.enc EK x, ((SV.isPure s : Bool) = (true))))))))) (And ((true : Bool) = true) (And (And ((true : Bool) = true) (And (CapK.cap o = (0 : Nat)) (And (List.map (Enc.enc EK) L = List.map (Enc.enc EK) []) (∀ x : KTy, (∀ a : x ∈ L, (∀ s : SV, (∀ a_1 : s ∈ Enc.enc EK x, ((SV.isPure s : Bool) = (true))))))))) (And ((true : Bool) = true) True)))) ((true : Bool) = true)))) (Nat.beq cp (0 : Nat)))) (by kernel_rfl) ?_
  obtain ⟨h1, h2⟩ := h
  refine bif_b (fun h3 => ?_) (fun h3 => ?_)
  · have h4 := Nat.eq_of_beq_eq_true h3
    subst h4
    have h5 : L = [] := List.eq_nil_of_length_eq_zero (Nat.le_zero.1 h1)
    subst h5
    refine ⟨⟨0, ⟨Nat.le_refl _, fun _ => rfl⟩⟩, ?_⟩
    repeat' first | exact fun x _ => Enc.pures EK x | exact trivial | refine And.intro ?_ ?_ | with_reducible refine bif_dt (by assumption) ?_ | with_reducible refine bif_df (by assumption) ?_ | with_reducible refine bif_dec (fun _ => ?_) (fun _ => ?_) | with_reducible refine bif_not ?_ | with_reducible refine bif_and ?_ | with_reducible refine bif_or ?_ | with_reducible refine bif_t (by assumption) ?_ | with_reducible refine bif_f (by assumption) ?_ | with_reducible refine bif_t (beq_self_eq_true _) ?_ | with_reducible refine bif_b (fun _ => ?_) (fun _ => ?_) | with_reducible refine ⟨_, Eq.refl (List.map _ _), ?_⟩ | (with_reducible refine Exists.intro (by omega) ?_) | rfl | (intro h0; omega) | omega
  · have h4 : 0 < cp := Nat.pos_of_ne_zero fun h4 => by rw [h4] at h3; cases h3
    have h5 : 0 < L.length := Nat.pos_of_ne_zero fun h5 => by have := h2 h5; omega
    rw [List.take_length]
    have e := castKs L
    have el := congrArg List.length e
    have em := congrArg (List.map EK.enc) e
    refine ⟨rfl, rfl, Nat.le_refl _, rfl, ?_, fun cap2 k2 => ⟨⟨rfl, ?_, ?_⟩, ⟨cap2, ⟨?_, fun h6 => by omega⟩⟩, ⟨⟨rfl, el.symm, rfl⟩, trivial⟩, ⟨⟨rfl, rfl, rfl, fun x _ => Enc.pures EK x⟩, rfl, ⟨rfl, rfl, em.symm, fun x _ => Enc.pures EK x⟩, rfl, trivial⟩, rfl⟩⟩
    · exact Nat.le_trans (Nat.mul_le_mul_right 48 (Nat.le_trans (Nat.le_of_eq ((Nat.zero_add _).trans el)) hl)) (by decide)
    · have k3 := Nat.le_trans (Nat.le_of_eq ((Nat.zero_add _).trans el).symm) k2
      omega
    · exact Nat.le_trans (Nat.le_of_eq (Nat.zero_add _).symm) k2
    · exact Nat.le_trans (Nat.le_of_eq ((Nat.zero_add _).trans el).symm) k2
theorem cloneK_row {L : List KTy} {len cap cp : Nat} (h : len = L.length ∧ cap = cp ∧ capOk L.length cp ∧ L.length ≤ 5000) : SMem Try.prog 38 [.one (.nslc 0 2 len cap)] 1 [(0, .row 2 EK L cp)] (fun c : CapK L.length => ⟨2, .one (.nslc 1 2 L.length c.cap), [(0, .row 2 EK L cp), (1, .row 2 EK L c.cap)]⟩) := by
  obtain ⟨rfl, rfl, h1, h2⟩ := h
  exact cloneK_spec h1 h2
def cloneKT : MT := fun ms n h K => match ms with
  | [.one (.nslc P0 2 len cap)] => (match get h P0 with
    | some (.row we0 wn0 wl0 cp) => bif Nat.beq we0 2 && noDup [P0] then ∃ L : List (KTy), wl0.map wn0.enc = L.map (EK).enc ∧ (len = L.length ∧ cap = cp ∧ capOk L.length cp ∧ L.length ≤ 5000) ∧ (∀ c : CapK L.length, K (n + 1) (.one (.nslc n 2 L.length c.cap)) ([(P0, .row 2 EK L cp), (n, .row 2 EK L c.cap)] ++ delL [P0] h)) else False
    | _ => False)
  | _ => False
theorem cloneK_mono : MMono cloneKT := by
  intro ms n h K K' hkk hk
  unfold cloneKT at hk ⊢
  split at hk
  · rename_i P0 len cap
    split at hk
    · rename_i we0 wa0 wn0 wl0 cp hg0
      try simp only [hg0]
      obtain ⟨hb, y0, z0, h1, h2⟩ := cond_false_elim hk
      rw [hb]
      exact ⟨y0, z0, h1, fun o => hkk _ _ _ (h2 o)⟩
    · exact hk.elim
  · exact hk.elim
theorem cloneK_ok : MOK Try.prog 38 cloneKT := by
  refine ⟨?_, cloneK_mono⟩
  intro ms n hB K hk
  unfold cloneKT at hk
  split at hk
  · rename_i P0 len cap
    split at hk
    · rename_i we0 wa0 wn0 wl0 cp hg0
      obtain ⟨hb, L, hl0, h, hk2⟩ := cond_false_elim hk
      clear hk
      simp only [Bool.and_eq_true] at hb
      obtain ⟨hc0, hnd⟩ := hb
      have hs0 := Nat.eq_of_beq_eq_true hc0
      subst hs0
      refine SCall.seen ?_ (.cons (.refl _) .nil)
      exact (cloneK_row h).use (fun j => match j with | 0 => P0 | _ => 0) rfl rfl ⟨by show (match get hB P0 with | some b0 => Blk.imp _ _ _ b0 | none => False); rw [hg0]; exact ⟨rfl, rfl, hl0.symm, fun y _ => Enc.pures _ y⟩, rfl, trivial⟩ (by exact hnd) (fun j hj => by cases j with
          | zero => exact ⟨_, rfl⟩
          | succ j => omega) (fun o => hk2 o)
    · exact hk.elim
  · exact hk.elim

structure IB.Ok (x : IB) : Prop where
  d : x.D.length ≤ 8
  b : x.B.length ≤ 8
  dd : ∀ m ∈ x.D, m.d.length ≤ 64
  bb : ∀ y ∈ x.B, y.length ≤ 4096
  l : x.L.length ≤ 4096
  ll : ∀ k ∈ x.L, okB k
structure C1T (L : List KTy) (ms : List MTy) where
  c : CapK L.length
  cap : CapT ms.length
  i : Nat
  r : List MTy
  hi : i ≤ ms.length
  he : r.map ml = (ms.take i).map ml
structure C2T (L : List KTy) (ms : List MTy) (bs : List BTy) where
  c : CapK L.length
  cap : CapT bs.length
  r : List MTy
  he : r.map ml = ms.map ml
  i : Nat
  r2 : List BTy
  hi : i ≤ bs.length
  he2 : r2.map bl = (bs.take i).map bl
structure C3T (L : List KTy) (ms : List MTy) (bs : List BTy) where
  c : CapK L.length
  r : List MTy
  r2 : List BTy
  he : r.map ml = ms.map ml
  he2 : r2.map bl = bs.map bl
theorem clone_spec {L : List KTy} {cp : Nat} {ms : List MTy} {bs : List BTy} {q : Int} (hc : capOk L.length cp) (hl : L.length ≤ 5000) (h1 : ms.length ≤ 8) (h2 : bs.length ≤ 8) (h3 : ∀ m ∈ ms, (ml m).d.length ≤ 64) (h4 : ∀ b ∈ bs, (bl b).length ≤ 4096) :
    SMem Try.prog 24 [.one (.ptr 0 0)] 4 (inH L cp ms bs q) (fun o : C3T L ms bs => ⟨9, .one (.ptr 4 0), inH L cp ms bs q ++ [(4, .cells [.nslc 8 2 L.length o.c.cap, .ch 5, .ch 6, .v (.int .u64 q)]), (5, .chan 8 true EM o.r), (6, .chan 8 false EBl o.r2), (8, .row 2 EK L o.c.cap)]⟩) := by
  refine SMem.inm [] SOK.nil [(15, inewT), (2000038, noT), (38, cloneKT), (36, allMT), (37, allBT), (33, copiedT), (35, cloneBT)] (MSOK.cons inew_ok (MSOK.cons noT_ok (MSOK.cons cloneK_ok (MSOK.cons allM_ok (MSOK.cons allB_ok (MSOK.cons copied_ok (MSOK.cons cloneB_ok MSOK.nil))))))) tok mixed [(31, ⟨Try.f31, false, [], []⟩)] (IOK.cons Try.func31 Try.call31 IOK.nil) false [(100005, ⟨CapK L.length, fun c => ⟨9, [(0, .one (.ptr 0 0)), (3, .one (.ptr 4 0))], [(0, .cells [.nslc 3 2 L.length cp, .ch 1, .ch 2, .v (.int .u64 q)]), (1, .chan 8 true EM ms), (2, .chan 8 false EBl bs), (3, .row 2 EK L cp), (4, .cells [.nslc 8 2 L.length c.cap, .ch 5, .ch 6, .v (.int .u64 q)]), (5, .chan 8 true EM []), (6, .chan 8 false EBl []), (8, .row 2 EK L c.cap)]⟩, fun _ => 0, fun _ _ => True⟩), (6, ⟨C1T L ms, fun p => ⟨10, [(0, .one (.ptr 0 0)), (3, .one (.ptr 4 0)), (30, .one (.nslc 9 9 ms.length p.cap.cap)), (31, int ms.length), (32, int p.i)], [(0, .cells [.nslc 3 2 L.length cp, .ch 1, .ch 2, .v (.int .u64 q)]), (1, .chan 8 true EM (ms.take p.i)), (2, .chan 8 false EBl bs), (3, .row 2 EK L cp), (4, .cells [.nslc 8 2 L.length p.c.cap, .ch 5, .ch 6, .v (.int .u64 q)]), (5, .chan 8 true EM p.r), (6, .chan 8 false EBl []), (8, .row 2 EK L p.c.cap), (9, .row 9 EM ms p.cap.cap)]⟩, fun p => ms.length - p.i, fun _ _ => True⟩), (12, ⟨C2T L ms bs, fun p => ⟨11, [(0, .one (.ptr 0 0)), (3, .one (.ptr 4 0)), (52, .one (.nslc 10 1 bs.length p.cap.cap)), (53, int bs.length), (54, int p.i)], [(0, .cells [.nslc 3 2 L.length cp, .ch 1, .ch 2, .v (.int .u64 q)]), (1, .chan 8 true EM ms), (2, .chan 8 false EBl (bs.take p.i)), (3, .row 2 EK L cp), (4, .cells [.nslc 8 2 L.length p.c.cap, .ch 5, .ch 6, .v (.int .u64 q)]), (5, .chan 8 true EM p.r), (6, .chan 8 false EBl p.r2), (8, .row 2 EK L p.c.cap), (10, .row 1 EBl bs p.cap.cap)]⟩, fun p => bs.length - p.i, fun _ _ => True⟩)] [] Try.call24 Try.func24 rfl (by rfl) ?_
  refine Eq.mp (α := (And True (∀ o : Unit, (And (And (∃ L_1 : List KTy, (And (List.map (Enc.enc EK) L = List.map (Enc.enc EK) L_1) (And (And (List.length L = List.length L_1) (And (cp = cp) (And (And (List.length L_1 ≤ cp) (∀ a : List.length L_1 = (0 : Nat), (cp = (0 : Nat)))) (List.length L_1 ≤ (5000 : Nat))))) (∀ c : CapK (List.length L_1), (And (And (∃ i : CapK (List.length L), (And (And (And ((true : Bool) = true) ((0 : Nat) = (0 : Nat))) (And (And ((true : Bool) = true) ((0 : Nat) = (0 : Nat))) True)) (And (And (And (And ((true : Bool) = true) (And (List.length L = List.length L) (cp = cp))) (And ((true : Bool) = true) (And ((true : Bool) = true) (And (q = q) True)))) (And ((true : Bool) = true) (And (And ((8 : Nat) = (8 : Nat)) (And ((true : Bool) = true) (List.map (Enc.enc EM) ms = List.map (Enc.enc EM) ms))) (And ((true : Bool) = true) (And (And ((8 : Nat) = (8 : Nat)) (And ((false : Bool) = false) (List.map (Enc.enc EBl) bs = List.map (Enc.enc EBl) bs))) (And ((true : Bool) = true) (And (And ((true : Bool) = true) (And (cp = cp) (And (List.map (Enc.enc EK) L = List.map (Enc.enc EK) L_1) (∀ x : KTy, (∀ a : x ∈ L, (∀ s : SV, (∀ a_1 : s ∈ Enc.enc EK x, ((SV.isPure s : Bool) = (true))))))))) (And ((true : Bool) = true) (And (And (And ((true : Bool) = true) (And (List.length L = List.length L_1) (CapK.cap i = CapK.cap c))) (And ((true : Bool) = true) (And ((true : Bool) = true) (And (q = q) True)))) (And ((true : Bool) = true) (And (And ((8 : Nat) = (8 : Nat)) (And ((true : Bool) = true) (List.map (Enc.enc EM) [] = List.map (Enc.enc EM) []))) (And ((true : Bool) = true) (And (And ((8 : Nat) = (8 : Nat)) (And ((false : Bool) = false) (List.map (Enc.enc EBl) [] = List.map (Enc.enc EBl) []))) (And ((true : Bool) = true) (And (And ((true : Bool) = true) (And (CapK.cap i = CapK.cap c) (And (List.map (Enc.enc EK) L = List.map (Enc.enc EK) L_1) (∀ x : KTy, (∀ a : x ∈ L, (∀ s : SV, (∀ a_1 : s ∈ Enc.enc EK x, ((SV.isPure s : Bool) = (true))))))))) (And ((true : Bool) = true) True)))))))))))))))) ((true : Bool) = true)))) True) True))))) (And (And (∃ L_1 : List KTy, (And (List.map (Enc.enc EK) L = List.map (Enc.enc EK) L_1) (And (And (List.length L = List.length L_1) (And (cp = cp) (And (And (List.length L_1 ≤ cp) (∀ a : List.length L_1 = (0 : Nat), (cp = (0 : Nat)))) (List.length L_1 ≤ (5000 : Nat))))) (∀ c : CapK (List.length L_1), (And (And (∃ i : CapK (List.length L), (And (And (And ((true : Bool) = true) ((0 : Nat) = (0 : Nat))) (And (And ((true : Bool) = true) ((0 : Nat) = (0 : Nat))) True)) (And (And (And (And ((true : Bool) = true) (And (List.length L = List.length L) (cp = cp))) (And ((true : Bool) = true) (And ((true : Bool) = true) (And (q = q) True)))) (And ((true : Bool) = true) (And (And ((8 : Nat) = (8 : Nat)) (And ((true : Bool) = true) (List.map (Enc.enc EM) ms = List.map (Enc.enc EM) ms))) (And ((true : Bool) = true) (And (And ((8 : Nat) = (8 : Nat)) (And ((false : Bool) = false) (List.map (Enc.enc EBl) bs = List.map (Enc.enc EBl) bs))) (And ((true : Bool) = true) (And (And ((true : Bool) = true) (And (cp = cp) (And (List.map (Enc.enc EK) L = List.map (Enc.enc EK) L_1) (∀ x : KTy, (∀ a : x ∈ L, (∀ s : SV, (∀ a_1 : s ∈ Enc.enc EK x, ((SV.isPure s : Bool) = (true))))))))) (And ((true : Bool) = true) (And (And (And ((true : Bool) = true) (And (List.length L = List.length L_1) (CapK.cap i = CapK.cap c))) (And ((true : Bool) = true) (And ((true : Bool) = true) (And (q = q) True)))) (And ((true : Bool) = true) (And (And ((8 : Nat) = (8 : Nat)) (And ((true : Bool) = true) (List.map (Enc.enc EM) [] = List.map (Enc.enc EM) []))) (And ((true : Bool) = true) (And (And ((8 : Nat) = (8 : Nat)) (And ((false : Bool) = false) (List.map (Enc.enc EBl) [] = List.map (Enc.enc EBl) []))) (And ((true : Bool) = true) (And (And ((true : Bool) = true) (And (CapK.cap i = CapK.cap c) (And (List.map (Enc.enc EK) L = List.map (Enc.enc EK) L_1) (∀ x : KTy, (∀ a : x ∈ L, (∀ s : SV, (∀ a_1 : s ∈ Enc.enc EK x, ((SV.isPure s : Bool) = (true))))))))) (And ((true : Bool) = true) True)))))))))))))))) ((true : Bool) = true)))) True) True))))) True) True)) (∀ i : CapK (List.length L), (∃ ms_1 : List MTy, (And (List.map (Enc.enc EM) ms = List.map (Enc.enc EM) ms_1) (And (And ((8 : Nat) = (8 : Nat)) (List.length ms_1 ≤ (1000 : Nat))) (∀ c : CapT (List.length ms_1), (∃ i0 : C1T L ms, (And (And True (And (And (And ((true : Bool) = true) ((0 : Nat) = (0 : Nat))) (And (And ((true : Bool) = true) ((0 : Nat) = (0 : Nat))) (And (And ((true : Bool) = true) (And (List.length ms = List.length ms_1) (CapT.cap (C1T.cap i0) = CapT.cap c))) (And ((↑(List.length ms) : Int) = (↑(List.length ms_1) : Int)) (And ((↑(C1T.i i0) : Int) = (0 : Int)) True))))) (And (And (And (And ((true : Bool) = true) (And (List.length L = List.length L) (cp = cp))) (And ((true : Bool) = true) (And ((true : Bool) = true) (And (q = q) True)))) (And ((true : Bool) = true) (And (And ((8 : Nat) = (8 : Nat)) (And ((true : Bool) = true) (List.map (Enc.enc EM) (List.take (C1T.i i0) ms) = List.map (Enc.enc EM) []))) (And ((true : Bool) = true) (And (And ((8 : Nat) = (8 : Nat)) (And ((false : Bool) = false) (List.map (Enc.enc EBl) bs = List.map (Enc.enc EBl) bs))) (And ((true : Bool) = true) (And (And ((true : Bool) = true) (And (cp = cp) (And (List.map (Enc.enc EK) L = List.map (Enc.enc EK) L) (∀ x : KTy, (∀ a : x ∈ L, (∀ s : SV, (∀ a_1 : s ∈ Enc.enc EK x, ((SV.isPure s : Bool) = (true))))))))) (And ((true : Bool) = true) (And (And (And ((true : Bool) = true) (And (List.length L = List.length L) (CapK.cap (C1T.c i0) = CapK.cap i))) (And ((true : Bool) = true) (And ((true : Bool) = true) (And (q = q) True)))) (And ((true : Bool) = true) (And (And ((8 : Nat) = (8 : Nat)) (And ((true : Bool) = true) (List.map (Enc.enc EM) (C1T.r i0) = List.map (Enc.enc EM) []))) (And ((true : Bool) = true) (And (And ((8 : Nat) = (8 : Nat)) (And ((false : Bool) = false) (List.map (Enc.enc EBl) [] = List.map (Enc.enc EBl) []))) (And ((true : Bool) = true) (And (And ((true : Bool) = true) (And (CapK.cap (C1T.c i0) = CapK.cap i) (And (List.map (Enc.enc EK) L = List.map (Enc.enc EK) L) (∀ x : KTy, (∀ a : x ∈ L, (∀ s : SV, (∀ a_1 : s ∈ Enc.enc EK x, ((SV.isPure s : Bool) = (true))))))))) (And ((true : Bool) = true) (And (And ((true : Bool) = true) (And (CapT.cap (C1T.cap i0) = CapT.cap c) (And (List.map (Enc.enc EM) ms = List.map (Enc.enc EM) ms_1) (∀ x : MTy, (∀ a : x ∈ ms, (∀ s : SV, (∀ a_1 : s ∈ Enc.enc EM x, ((SV.isPure s : Bool) = (true))))))))) (And ((true : Bool) = true) True)))))))))))))))))) ((true : Bool) = true)))) (∀ i_1 : C1T L ms, (∀ a : True, (@Bool.rec (fun _ => Prop) (∃ ms_2 : List BTy, (And (List.map (Enc.enc EBl) bs = List.map (Enc.enc EBl) ms_2) (And (And ((8 : Nat) = (8 : Nat)) (List.length ms_2 ≤ (1000 : Nat))) (∀ c_1 : CapT (List.length ms_2), (∃ i0_1 : C2T L ms bs, (And (And True (And (And (And ((true : Bool) = true) ((0 : Nat) = (0 : Nat))) (And (And ((true : Bool) = true) ((0 : Nat) = (0 : Nat))) (And (And ((true : Bool) = true) (And (List.length bs = List.length ms_2) (CapT.cap (C2T.cap i0_1) = CapT.cap c_1))) (And ((↑(List.length bs) : Int) = (↑(List.length ms_2) : Int)) (And ((↑(C2T.i i0_1) : Int) = (0 : Int)) True))))) (And (And (And (And ((true : Bool) = true) (And (List.length L = List.length L) (cp = cp))) (And ((true : Bool) = true) (And ((true : Bool) = true) (And (q = q) True)))) (And ((true : Bool) = true) (And (And ((8 : Nat) = (8 : Nat)) (And ((true : Bool) = true) (List.map (Enc.enc EM) ms = List.map (Enc.enc EM) (List.take (C1T.i i_1) ms)))) (And ((true : Bool) = true) (And (And ((8 : Nat) = (8 : Nat)) (And ((false : Bool) = false) (List.map (Enc.enc EBl) (List.take (C2T.i i0_1) bs) = List.map (Enc.enc EBl) []))) (And ((true : Bool) = true) (And (And ((true : Bool) = true) (And (cp = cp) (And (List.map (Enc.enc EK) L = List.map (Enc.enc EK) L) (∀ x : KTy, (∀ a_1 : x ∈ L, (∀ s : SV, (∀ a_2 : s ∈ Enc.enc EK x, ((SV.isPure s : Bool) = (true))))))))) (And ((true : Bool) = true) (And (And (And ((true : Bool) = true) (And (List.length L = List.length L) (CapK.cap (C2T.c i0_1) = CapK.cap (C1T.c i_1)))) (And ((true : Bool) = true) (And ((true : Bool) = true) (And (q = q) True)))) (And ((true : Bool) = true) (And (And ((8 : Nat) = (8 : Nat)) (And ((true : Bool) = true) (List.map (Enc.enc EM) (C2T.r i0_1) = List.map (Enc.enc EM) (C1T.r i_1)))) (And ((true : Bool) = true) (And (And ((8 : Nat) = (8 : Nat)) (And ((false : Bool) = false) (List.map (Enc.enc EBl) (C2T.r2 i0_1) = List.map (Enc.enc EBl) []))) (And ((true : Bool) = true) (And (And ((true : Bool) = true) (And (CapK.cap (C2T.c i0_1) = CapK.cap (C1T.c i_1)) (And (List.map (Enc.enc EK) L = List.map (Enc.enc EK) L) (∀ x : KTy, (∀ a_1 : x ∈ L, (∀ s : SV, (∀ a_2 : s ∈ Enc.enc EK x, ((SV.isPure s : Bool) = (true))))))))) (And ((true : Bool) = true) (And (And ((true : Bool) = true) (And (CapT.cap (C2T.cap i0_1) = CapT.cap c_1) (And (List.map (Enc.enc EBl) bs = List.map (Enc.enc EBl) ms_2) (∀ x : BTy, (∀ a_1 : x ∈ bs, (∀ s : SV, (∀ a_2 : s ∈ Enc.enc EBl x, ((SV.isPure s : Bool) = (true))))))))) (And ((true : Bool) = true) True)))))))))))))))))) ((true : Bool) = true)))) (∀ i_2 : C2T L ms bs, (∀ a_1 : True, (@Bool.rec (fun _ => Prop) (∃ o_1 : C3T L ms bs, (And (And (And ((true : Bool) = true) ((0 : Nat) = (0 : Nat))) True) (And (And (And (And ((true : Bool) = true) (And (List.length L = List.length L) (cp = cp))) (And ((true : Bool) = true) (And ((true : Bool) = true) (And (q = q) True)))) (And ((true : Bool) = true) (And (And ((8 : Nat) = (8 : Nat)) (And ((true : Bool) = true) (List.map (Enc.enc EM) ms = List.map (Enc.enc EM) ms))) (And ((true : Bool) = true) (And (And ((8 : Nat) = (8 : Nat)) (And ((false : Bool) = false) (List.map (Enc.enc EBl) bs = List.map (Enc.enc EBl) (List.take (C2T.i i_2) bs)))) (And ((true : Bool) = true) (And (And ((true : Bool) = true) (And (cp = cp) (And (List.map (Enc.enc EK) L = List.map (Enc.enc EK) L) (∀ x : KTy, (∀ a_2 : x ∈ L, (∀ s : SV, (∀ a_3 : s ∈ Enc.enc EK x, ((SV.isPure s : Bool) = (true))))))))) (And ((true : Bool) = true) (And (And (And ((true : Bool) = true) (And (List.length L = List.length L) (CapK.cap (C3T.c o_1) = CapK.cap (C2T.c i_2)))) (And ((true : Bool) = true) (And ((true : Bool) = true) (And (q = q) True)))) (And ((true : Bool) = true) (And (And ((8 : Nat) = (8 : Nat)) (And ((true : Bool) = true) (List.map (Enc.enc EM) (C3T.r o_1) = List.map (Enc.enc EM) (C2T.r i_2)))) (And ((true : Bool) = true) (And (And ((8 : Nat) = (8 : Nat)) (And ((false : Bool) = false) (List.map (Enc.enc EBl) (C3T.r2 o_1) = List.map (Enc.enc EBl) (C2T.r2 i_2)))) (And ((true : Bool) = true) (And (And ((true : Bool) = true) (And (CapK.cap (C3T.c o_1) = CapK.cap (C2T.c i_2)) (And (List.map (Enc.enc EK) L = List.map (Enc.enc EK) L) (∀ x : KTy, (∀ a_2 : x ∈ L, (∀ s : SV, (∀ a_3 : s ∈ Enc.enc EK x, ((SV.isPure s : Bool) = (true))))))))) (And ((true : Bool) = true) True)))))))))))))))) ((true : Bool) = true)))) (And ((0 : Int) ≤ (↑(C2T.i i_2) : Int)) (And (Int.toNat (↑(C2T.i i_2) : Int) < List.length bs) (∃ hi : Int.toNat (↑(C2T.i i_2) : Int) < List.length bs, (And (List.length (List.take (C2T.i i_2) bs) < (8 : Nat)) (∃ l' : List (RK.TL [RK.int IntKind.u8]), (And (List.map (RK.svs._f [RK.int IntKind.u8] ⟨⟨RK.sv._f (RK.int IntKind.u8) PUnit.unit, PUnit.unit⟩, RK.svs._f [] PUnit.unit, PUnit.unit⟩) (Prod.snd (Prod.fst bs[Int.toNat (↑(C2T.i i_2) : Int)])) = List.map (RK.svs [RK.int IntKind.u8]) l') (And (And (∃ l : List Int, (And (List.map (RK.svs._f [RK.int IntKind.u8] ⟨⟨RK.sv._f (RK.int IntKind.u8) PUnit.unit, PUnit.unit⟩, RK.svs._f [] PUnit.unit, PUnit.unit⟩) (Prod.snd (Prod.fst bs[Int.toNat (↑(C2T.i i_2) : Int)])) = List.map eB l) (And (List.length l ≤ (100000000 : Nat)) (∀ x : Value, (And (And (List.length (C2T.r2 i_2) < (8 : Nat)) (∃ l'_1 : List (RK.TL [RK.int IntKind.u8]), (And (List.map eB l = List.map (RK.svs [RK.int IntKind.u8]) l'_1) (∃ i' : C2T L ms bs, (And (And (List.length bs - C2T.i i' < List.length bs - C2T.i i_2) True) (And (And (And ((true : Bool) = true) ((0 : Nat) = (0 : Nat))) (And (And ((true : Bool) = true) ((0 : Nat) = (0 : Nat))) (And (And ((true : Bool) = true) (And (List.length bs = List.length bs) (CapT.cap (C2T.cap i') = CapT.cap (C2T.cap i_2)))) (And ((↑(List.length bs) : Int) = (↑(List.length bs) : Int)) (And ((↑(C2T.i i') : Int) = IntKind.wrap IntKind.i64 ((↑(C2T.i i_2) : Int) + (1 : Int))) True))))) (And (And (And (And ((true : Bool) = true) (And (List.length L = List.length L) (cp = cp))) (And ((true : Bool) = true) (And ((true : Bool) = true) (And (q = q) True)))) (And ((true : Bool) = true) (And (And ((8 : Nat) = (8 : Nat)) (And ((true : Bool) = true) (List.map (Enc.enc EM) ms = List.map (Enc.enc EM) ms))) (And ((true : Bool) = true) (And (And ((8 : Nat) = (8 : Nat)) (And ((false : Bool) = false) (List.map (Enc.enc EBl) (List.take (C2T.i i') bs) = List.map (Enc.enc EBl) (List.take (C2T.i i_2) bs ++ [Enc.of EBl ((Prod.fst (Prod.fst bs[Int.toNat (↑(C2T.i i_2) : Int)]), l'), ())])))) (And ((true : Bool) = true) (And (And ((true : Bool) = true) (And (cp = cp) (And (List.map (Enc.enc EK) L = List.map (Enc.enc EK) L) (∀ x_1 : KTy, (∀ a_2 : x_1 ∈ L, (∀ s : SV, (∀ a_3 : s ∈ Enc.enc EK x_1, ((SV.isPure s : Bool) = (true))))))))) (And ((true : Bool) = true) (And (And (And ((true : Bool) = true) (And (List.length L = List.length L) (CapK.cap (C2T.c i') = CapK.cap (C2T.c i_2)))) (And ((true : Bool) = true) (And ((true : Bool) = true) (And (q = q) True)))) (And ((true : Bool) = true) (And (And ((8 : Nat) = (8 : Nat)) (And ((true : Bool) = true) (List.map (Enc.enc EM) (C2T.r i') = List.map (Enc.enc EM) (C2T.r i_2)))) (And ((true : Bool) = true) (And (And ((8 : Nat) = (8 : Nat)) (And ((false : Bool) = false) (List.map (Enc.enc EBl) (C2T.r2 i') = List.map (Enc.enc EBl) (C2T.r2 i_2 ++ [Enc.of EBl ((x, l'_1), ())])))) (And ((true : Bool) = true) (And (And ((true : Bool) = true) (And (CapK.cap (C2T.c i') = CapK.cap (C2T.c i_2)) (And (List.map (Enc.enc EK) L = List.map (Enc.enc EK) L) (∀ x_1 : KTy, (∀ a_2 : x_1 ∈ L, (∀ s : SV, (∀ a_3 : s ∈ Enc.enc EK x_1, ((SV.isPure s : Bool) = (true))))))))) (And ((true : Bool) = true) (And (And ((true : Bool) = true) (And (CapT.cap (C2T.cap i') = CapT.cap (C2T.cap i_2)) (And (List.map (Enc.enc EBl) bs = List.map (Enc.enc EBl) bs) (∀ x_1 : BTy, (∀ a_2 : x_1 ∈ bs, (∀ s : SV, (∀ a_3 : s ∈ Enc.enc EBl x_1, ((SV.isPure s : Bool) = (true))))))))) (And ((true : Bool) = true) True)))))))))))))))))) ((true : Bool) = true)))))))) True))))) True) (And (∃ l : List Int, (And (List.map (RK.svs._f [RK.int IntKind.u8] ⟨⟨RK.sv._f (RK.int IntKind.u8) PUnit.unit, PUnit.unit⟩, RK.svs._f [] PUnit.unit, PUnit.unit⟩) (Prod.snd (Prod.fst bs[Int.toNat (↑(C2T.i i_2) : Int)])) = List.map eB l) (And (List.length l ≤ (100000000 : Nat)) (∀ x : Value, (And (And (List.length (C2T.r2 i_2) < (8 : Nat)) (∃ l'_1 : List (RK.TL [RK.int IntKind.u8]), (And (List.map eB l = List.map (RK.svs [RK.int IntKind.u8]) l'_1) (∃ i' : C2T L ms bs, (And (And (List.length bs - C2T.i i' < List.length bs - C2T.i i_2) True) (And (And (And ((true : Bool) = true) ((0 : Nat) = (0 : Nat))) (And (And ((true : Bool) = true) ((0 : Nat) = (0 : Nat))) (And (And ((true : Bool) = true) (And (List.length bs = List.length bs) (CapT.cap (C2T.cap i') = CapT.cap (C2T.cap i_2)))) (And ((↑(List.length bs) : Int) = (↑(List.length bs) : Int)) (And ((↑(C2T.i i') : Int) = IntKind.wrap IntKind.i64 ((↑(C2T.i i_2) : Int) + (1 : Int))) True))))) (And (And (And (And ((true : Bool) = true) (And (List.length L = List.length L) (cp = cp))) (And ((true : Bool) = true) (And ((true : Bool) = true) (And (q = q) True)))) (And ((true : Bool) = true) (And (And ((8 : Nat) = (8 : Nat)) (And ((true : Bool) = true) (List.map (Enc.enc EM) ms = List.map (Enc.enc EM) ms))) (And ((true : Bool) = true) (And (And ((8 : Nat) = (8 : Nat)) (And ((false : Bool) = false) (List.map (Enc.enc EBl) (List.take (C2T.i i') bs) = List.map (Enc.enc EBl) (List.take (C2T.i i_2) bs ++ [Enc.of EBl ((Prod.fst (Prod.fst bs[Int.toNat (↑(C2T.i i_2) : Int)]), l'), ())])))) (And ((true : Bool) = true) (And (And ((true : Bool) = true) (And (cp = cp) (And (List.map (Enc.enc EK) L = List.map (Enc.enc EK) L) (∀ x_1 : KTy, (∀ a_2 : x_1 ∈ L, (∀ s : SV, (∀ a_3 : s ∈ Enc.enc EK x_1, ((SV.isPure s : Bool) = (true))))))))) (And ((true : Bool) = true) (And (And (And ((true : Bool) = true) (And (List.length L = List.length L) (CapK.cap (C2T.c i') = CapK.cap (C2T.c i_2)))) (And ((true : Bool) = true) (And ((true : Bool) = true) (And (q = q) True)))) (And ((true : Bool) = true) (And (And ((8 : Nat) = (8 : Nat)) (And ((true : Bool) = true) (List.map (Enc.enc EM) (C2T.r i') = List.map (Enc.enc EM) (C2T.r i_2)))) (And ((true : Bool) = true) (And (And ((8 : Nat) = (8 : Nat)) (And ((false : Bool) = false) (List.map (Enc.enc EBl) (C2T.r2 i') = List.map (Enc.enc EBl) (C2T.r2 i_2 ++ [Enc.of EBl ((x, l'_1), ())])))) (And ((true : Bool) = true) (And (And ((true : Bool) = true) (And (CapK.cap (C2T.c i') = CapK.cap (C2T.c i_2)) (And (List.map (Enc.enc EK) L = List.map (Enc.enc EK) L) (∀ x_1 : KTy, (∀ a_2 : x_1 ∈ L, (∀ s : SV, (∀ a_3 : s ∈ Enc.enc EK x_1, ((SV.isPure s : Bool) = (true))))))))) (And ((true : Bool) = true) (And (And ((true : Bool) = true) (And (CapT.cap (C2T.cap i') = CapT.cap (C2T.cap i_2)) (And (List.map (Enc.enc EBl) bs = List.map (Enc.enc EBl) bs) (∀ x_1 : BTy, (∀ a_2 : x_1 ∈ bs, (∀ s : SV, (∀ a_3 : s ∈ Enc.enc EBl x_1, ((SV.isPure s : Bool) = (true))))))))) (And ((true : Bool) = true) True)))))))))))))))))) ((true : Bool) = true)))))))) True))))) True)))))))) (decide ((↑(C2T.i i_2) : Int) < (↑(List.length bs) : Int)))))))))))) (And ((0 : Int) ≤ (↑(C1T.i i_1) : Int)) (And (Int.toNat (↑(C1T.i i_1) : Int) < List.length ms) (∃ hi : Int.toNat (↑(C1T.i i_1) : Int) < List.length ms, (And (List.length (List.take (C1T.i i_1) ms) < (8 : Nat)) (∃ l' : List (RK.TL [RK.int IntKind.u8]), (And (List.map (RK.svs._f [RK.int IntKind.u8] ⟨⟨RK.sv._f (RK.int IntKind.u8) PUnit.unit, PUnit.unit⟩, RK.svs._f [] PUnit.unit, PUnit.unit⟩) (Prod.snd (Prod.fst (Prod.snd (Prod.snd (Prod.snd (Prod.snd (Prod.snd ms[Int.toNat (↑(C1T.i i_1) : Int)]))))))) = List.map (RK.svs [RK.int IntKind.u8]) l') (And (And (∃ d : List Int, (And (List.map (RK.svs._f [RK.int IntKind.u8] ⟨⟨RK.sv._f (RK.int IntKind.u8) PUnit.unit, PUnit.unit⟩, RK.svs._f [] PUnit.unit, PUnit.unit⟩) (Prod.snd (Prod.fst (Prod.snd (Prod.snd (Prod.snd (Prod.snd (Prod.snd ms[Int.toNat (↑(C1T.i i_1) : Int)]))))))) = List.map eB d) (And (List.length d ≤ (100000000 : Nat)) (∀ y : Value, (And (And (List.length (C1T.r i_1) < (8 : Nat)) (∃ l'_1 : List (RK.TL [RK.int IntKind.u8]), (And (List.map eB d = List.map (RK.svs [RK.int IntKind.u8]) l'_1) (∃ i' : C1T L ms, (And (And (List.length ms - C1T.i i' < List.length ms - C1T.i i_1) True) (And (And (And ((true : Bool) = true) ((0 : Nat) = (0 : Nat))) (And (And ((true : Bool) = true) ((0 : Nat) = (0 : Nat))) (And (And ((true : Bool) = true) (And (List.length ms = List.length ms) (CapT.cap (C1T.cap i') = CapT.cap (C1T.cap i_1)))) (And ((↑(List.length ms) : Int) = (↑(List.length ms) : Int)) (And ((↑(C1T.i i') : Int) = IntKind.wrap IntKind.i64 ((↑(C1T.i i_1) : Int) + (1 : Int))) True))))) (And (And (And (And ((true : Bool) = true) (And (List.length L = List.length L) (cp = cp))) (And ((true : Bool) = true) (And ((true : Bool) = true) (And (q = q) True)))) (And ((true : Bool) = true) (And (And ((8 : Nat) = (8 : Nat)) (And ((true : Bool) = true) (List.map (Enc.enc EM) (List.take (C1T.i i') ms) = List.map (Enc.enc EM) (List.take (C1T.i i_1) ms ++ [Enc.of EM (Prod.fst ms[Int.toNat (↑(C1T.i i_1) : Int)], Prod.fst (Prod.snd ms[Int.toNat (↑(C1T.i i_1) : Int)]), Prod.fst (Prod.snd (Prod.snd ms[Int.toNat (↑(C1T.i i_1) : Int)])), Prod.fst (Prod.snd (Prod.snd (Prod.snd ms[Int.toNat (↑(C1T.i i_1) : Int)]))), Prod.fst (Prod.snd (Prod.snd (Prod.snd (Prod.snd ms[Int.toNat (↑(C1T.i i_1) : Int)])))), (Prod.fst (Prod.fst (Prod.snd (Prod.snd (Prod.snd (Prod.snd (Prod.snd ms[Int.toNat (↑(C1T.i i_1) : Int)])))))), l'), ())])))) (And ((true : Bool) = true) (And (And ((8 : Nat) = (8 : Nat)) (And ((false : Bool) = false) (List.map (Enc.enc EBl) bs = List.map (Enc.enc EBl) bs))) (And ((true : Bool) = true) (And (And ((true : Bool) = true) (And (cp = cp) (And (List.map (Enc.enc EK) L = List.map (Enc.enc EK) L) (∀ x : KTy, (∀ a_1 : x ∈ L, (∀ s : SV, (∀ a_2 : s ∈ Enc.enc EK x, ((SV.isPure s : Bool) = (true))))))))) (And ((true : Bool) = true) (And (And (And ((true : Bool) = true) (And (List.length L = List.length L) (CapK.cap (C1T.c i') = CapK.cap (C1T.c i_1)))) (And ((true : Bool) = true) (And ((true : Bool) = true) (And (q = q) True)))) (And ((true : Bool) = true) (And (And ((8 : Nat) = (8 : Nat)) (And ((true : Bool) = true) (List.map (Enc.enc EM) (C1T.r i') = List.map (Enc.enc EM) (C1T.r i_1 ++ [Enc.of EM (Prod.fst ms[Int.toNat (↑(C1T.i i_1) : Int)], Prod.fst (Prod.snd ms[Int.toNat (↑(C1T.i i_1) : Int)]), Prod.fst (Prod.snd (Prod.snd ms[Int.toNat (↑(C1T.i i_1) : Int)])), Prod.fst (Prod.snd (Prod.snd (Prod.snd ms[Int.toNat (↑(C1T.i i_1) : Int)]))), Prod.fst (Prod.snd (Prod.snd (Prod.snd (Prod.snd ms[Int.toNat (↑(C1T.i i_1) : Int)])))), (y, l'_1), ())])))) (And ((true : Bool) = true) (And (And ((8 : Nat) = (8 : Nat)) (And ((false : Bool) = false) (List.map (Enc.enc EBl) [] = List.map (Enc.enc EBl) []))) (And ((true : Bool) = true) (And (And ((true : Bool) = true) (And (CapK.cap (C1T.c i') = CapK.cap (C1T.c i_1)) (And (List.map (Enc.enc EK) L = List.map (Enc.enc EK) L) (∀ x : KTy, (∀ a_1 : x ∈ L, (∀ s : SV, (∀ a_2 : s ∈ Enc.enc EK x, ((SV.isPure s : Bool) = (true))))))))) (And ((true : Bool) = true) (And (And ((true : Bool) = true) (And (CapT.cap (C1T.cap i') = CapT.cap (C1T.cap i_1)) (And (List.map (Enc.enc EM) ms = List.map (Enc.enc EM) ms) (∀ x : MTy, (∀ a_1 : x ∈ ms, (∀ s : SV, (∀ a_2 : s ∈ Enc.enc EM x, ((SV.isPure s : Bool) = (true))))))))) (And ((true : Bool) = true) True)))))))))))))))))) ((true : Bool) = true)))))))) True))))) True) (And (∃ d : List Int, (And (List.map (RK.svs._f [RK.int IntKind.u8] ⟨⟨RK.sv._f (RK.int IntKind.u8) PUnit.unit, PUnit.unit⟩, RK.svs._f [] PUnit.unit, PUnit.unit⟩) (Prod.snd (Prod.fst (Prod.snd (Prod.snd (Prod.snd (Prod.snd (Prod.snd ms[Int.toNat (↑(C1T.i i_1) : Int)]))))))) = List.map eB d) (And (List.length d ≤ (100000000 : Nat)) (∀ y : Value, (And (And (List.length (C1T.r i_1) < (8 : Nat)) (∃ l'_1 : List (RK.TL [RK.int IntKind.u8]), (And (List.map eB d = List.map (RK.svs [RK.int IntKind.u8]) l'_1) (∃ i' : C1T L ms, (And (And (List.length ms - C1T.i i' < List.length ms - C1T.i i_1) True) (And (And (And ((true : Bool) = true) ((0 : Nat) = (0 : Nat))) (And (And ((true : Bool) = true) ((0 : Nat) = (0 : Nat))) (And (And ((true : Bool) = true) (And (List.length ms = List.length ms) (CapT.cap (C1T.cap i') = CapT.cap (C1T.cap i_1)))) (And ((↑(List.length ms) : Int) = (↑(List.length ms) : Int)) (And ((↑(C1T.i i') : Int) = IntKind.wrap IntKind.i64 ((↑(C1T.i i_1) : Int) + (1 : Int))) True))))) (And (And (And (And ((true : Bool) = true) (And (List.length L = List.length L) (cp = cp))) (And ((true : Bool) = true) (And ((true : Bool) = true) (And (q = q) True)))) (And ((true : Bool) = true) (And (And ((8 : Nat) = (8 : Nat)) (And ((true : Bool) = true) (List.map (Enc.enc EM) (List.take (C1T.i i') ms) = List.map (Enc.enc EM) (List.take (C1T.i i_1) ms ++ [Enc.of EM (Prod.fst ms[Int.toNat (↑(C1T.i i_1) : Int)], Prod.fst (Prod.snd ms[Int.toNat (↑(C1T.i i_1) : Int)]), Prod.fst (Prod.snd (Prod.snd ms[Int.toNat (↑(C1T.i i_1) : Int)])), Prod.fst (Prod.snd (Prod.snd (Prod.snd ms[Int.toNat (↑(C1T.i i_1) : Int)]))), Prod.fst (Prod.snd (Prod.snd (Prod.snd (Prod.snd ms[Int.toNat (↑(C1T.i i_1) : Int)])))), (Prod.fst (Prod.fst (Prod.snd (Prod.snd (Prod.snd (Prod.snd (Prod.snd ms[Int.toNat (↑(C1T.i i_1) : Int)])))))), l'), ())])))) (And ((true : Bool) = true) (And (And ((8 : Nat) = (8 : Nat)) (And ((false : Bool) = false) (List.map (Enc.enc EBl) bs = List.map (Enc.enc EBl) bs))) (And ((true : Bool) = true) (And (And ((true : Bool) = true) (And (cp = cp) (And (List.map (Enc.enc EK) L = List.map (Enc.enc EK) L) (∀ x : KTy, (∀ a_1 : x ∈ L, (∀ s : SV, (∀ a_2 : s ∈ Enc.enc EK x, ((SV.isPure s : Bool) = (true))))))))) (And ((true : Bool) = true) (And (And (And ((true : Bool) = true) (And (List.length L = List.length L) (CapK.cap (C1T.c i') = CapK.cap (C1T.c i_1)))) (And ((true : Bool) = true) (And ((true : Bool) = true) (And (q = q) True)))) (And ((true : Bool) = true) (And (And ((8 : Nat) = (8 : Nat)) (And ((true : Bool) = true) (List.map (Enc.enc EM) (C1T.r i') = List.map (Enc.enc EM) (C1T.r i_1 ++ [Enc.of EM (Prod.fst ms[Int.toNat (↑(C1T.i i_1) : Int)], Prod.fst (Prod.snd ms[Int.toNat (↑(C1T.i i_1) : Int)]), Prod.fst (Prod.snd (Prod.snd ms[Int.toNat (↑(C1T.i i_1) : Int)])), Prod.fst (Prod.snd (Prod.snd (Prod.snd ms[Int.toNat (↑(C1T.i i_1) : Int)]))), Prod.fst (Prod.snd (Prod.snd (Prod.snd (Prod.snd ms[Int.toNat (↑(C1T.i i_1) : Int)])))), (y, l'_1), ())])))) (And ((true : Bool) = true) (And (And ((8 : Nat) = (8 : Nat)) (And ((false : Bool) = false) (List.map (Enc.enc EBl) [] = List.map (Enc.enc EBl) []))) (And ((true : Bool) = true) (And (And ((true : Bool) = true) (And (CapK.cap (C1T.c i') = CapK.cap (C1T.c i_1)) (And (List.map (Enc.enc EK) L = List.map (Enc.enc EK) L) (∀ x : KTy, (∀ a_1 : x ∈ L, (∀ s : SV, (∀ a_2 : s ∈ Enc.enc EK x, ((SV.isPure s : Bool) = (true))))))))) (And ((true : Bool) = true) (And (And ((true : Bool) = true) (And (CapT.cap (C1T.cap i') = CapT.cap (C1T.cap i_1)) (And (List.map (Enc.enc EM) ms = List.map (Enc.enc EM) ms) (∀ x : MTy, (∀ a_1 : x ∈ ms, (∀ s : SV, (∀ a_2 : s ∈ Enc.enc EM x, ((SV.isPure s : Bool) = (true))))))))) (And ((true : Bool) = true) True)))))))))))))))))) ((true : Bool) = true)))))))) True))))) True)))))))) (decide ((↑(C1T.i i_1) : Int) < (↑(List.length ms) : Int))))))))))))))))) (by kernel_rfl) ?_
  refine ⟨trivial, fun _ => ⟨?_, fun c => ?_⟩⟩
  ·
    repeat' first | exact fun x _ => Enc.pures EK x | refine ⟨L, rfl, ⟨rfl, rfl, hc, hl⟩, fun c => ?_⟩ | refine ⟨c, ?_⟩ | exact trivial | refine And.intro ?_ ?_ | with_reducible refine bif_dt (by assumption) ?_ | with_reducible refine bif_df (by assumption) ?_ | with_reducible refine bif_dec (fun _ => ?_) (fun _ => ?_) | with_reducible refine bif_not ?_ | with_reducible refine bif_and ?_ | with_reducible refine bif_or ?_ | with_reducible refine bif_t (by assumption) ?_ | with_reducible refine bif_f (by assumption) ?_ | with_reducible refine bif_t (beq_self_eq_true _) ?_ | with_reducible refine bif_b (fun _ => ?_) (fun _ => ?_) | with_reducible refine ⟨_, Eq.refl (List.map _ _), ?_⟩ | (with_reducible refine Exists.intro (by omega) ?_) | rfl | (intro h0; omega) | omega
  refine ⟨ms, rfl, ⟨rfl, by omega⟩, fun c1 => ⟨⟨c, c1, 0, [], Nat.zero_le _, rfl⟩, ?_, ?_⟩⟩
  ·
    repeat' first | exact fun x _ => Enc.pures EK x | exact fun x _ => Enc.pures EM x | exact trivial | refine And.intro ?_ ?_ | with_reducible refine bif_dt (by assumption) ?_ | with_reducible refine bif_df (by assumption) ?_ | with_reducible refine bif_dec (fun _ => ?_) (fun _ => ?_) | with_reducible refine bif_not ?_ | with_reducible refine bif_and ?_ | with_reducible refine bif_or ?_ | with_reducible refine bif_t (by assumption) ?_ | with_reducible refine bif_f (by assumption) ?_ | with_reducible refine bif_t (beq_self_eq_true _) ?_ | with_reducible refine bif_b (fun _ => ?_) (fun _ => ?_) | with_reducible refine ⟨_, Eq.refl (List.map _ _), ?_⟩ | (with_reducible refine Exists.intro (by omega) ?_) | rfl | (intro h0; omega) | omega
  clear c c1
  rintro ⟨c, c1, i, r, hi, he⟩ -
  dsimp only
  refine bif_dec (fun g1 => ?_) (fun g1 => ?_)
  · have hi' : i < ms.length := by omega
    have hr := congrArg List.length he
    rw [List.length_map, List.length_map, List.length_take] at hr
    have hlt : (ms.take i).length = i := by rw [List.length_take]; omega
    have hw : IntKind.i64.wrap ((i : Int) + 1) = ((i + 1 : Nat) : Int) := wrap0 i (by omega)
    have hd : (ml ms[i]).d.length ≤ 100000000 := by have := h3 _ (List.getElem_mem hi'); omega
    have e0 : List.map EM.enc (ms.take (i + 1)) = List.map EM.enc (ms.take i ++ [ms[i]]) := by rw [List.take_add_one, List.getElem?_eq_getElem hi']; rfl
    have hst : ∀ z : Value, (r ++ [mkM (ml ms[i]) z]).map ml = (ms.take (i + 1)).map ml := fun z => by
      rw [List.map_append, he, List.take_add_one, List.getElem?_eq_getElem hi', List.map_append, List.map_cons, ml_mk]
      rfl
    simp only [Int.toNat_natCast, hw]
    repeat' first | exact fun x _ => Enc.pures EK x | exact fun x _ => Enc.pures EM x | refine ⟨hi', ?_⟩ | refine ⟨ms[i].2.2.2.2.2.1.2, rfl, ?_⟩ | refine ⟨(ml ms[i]).d, (b1_enc _).symm, hd, fun z => ?_⟩ | refine ⟨mkL (ml ms[i]).d, encmk _, ?_⟩ | refine ⟨⟨c, c1, i + 1, r ++ [mkM (ml ms[i]) z], hi', hst z⟩, ⟨show ms.length - (i + 1) < ms.length - i by omega, trivial⟩, ?_⟩ | exact e0 | exact trivial | refine And.intro ?_ ?_ | with_reducible refine bif_dt (by assumption) ?_ | with_reducible refine bif_df (by assumption) ?_ | with_reducible refine bif_dec (fun _ => ?_) (fun _ => ?_) | with_reducible refine bif_not ?_ | with_reducible refine bif_and ?_ | with_reducible refine bif_or ?_ | with_reducible refine bif_t (by assumption) ?_ | with_reducible refine bif_f (by assumption) ?_ | with_reducible refine bif_t (beq_self_eq_true _) ?_ | with_reducible refine bif_b (fun _ => ?_) (fun _ => ?_) | with_reducible refine ⟨_, Eq.refl (List.map _ _), ?_⟩ | (with_reducible refine Exists.intro (by omega) ?_) | rfl | (intro h0; omega) | omega
  have hil : i = ms.length := by omega
  subst hil
  have he : r.map ml = ms.map ml := by rw [he, List.take_length]
  have e1 : List.map EM.enc ms = List.map EM.enc (ms.take ms.length) := by rw [List.take_length]
  clear g1
  refine ⟨bs, rfl, ⟨rfl, by omega⟩, fun c2 => ⟨⟨c, c2, r, he, 0, [], Nat.zero_le _, rfl⟩, ?_, ?_⟩⟩
  ·
    repeat' first | exact e1 | exact fun x _ => Enc.pures EK x | exact fun x _ => Enc.pures EM x | exact fun x _ => Enc.pures EBl x | exact trivial | refine And.intro ?_ ?_ | with_reducible refine bif_dt (by assumption) ?_ | with_reducible refine bif_df (by assumption) ?_ | with_reducible refine bif_dec (fun _ => ?_) (fun _ => ?_) | with_reducible refine bif_not ?_ | with_reducible refine bif_and ?_ | with_reducible refine bif_or ?_ | with_reducible refine bif_t (by assumption) ?_ | with_reducible refine bif_f (by assumption) ?_ | with_reducible refine bif_t (beq_self_eq_true _) ?_ | with_reducible refine bif_b (fun _ => ?_) (fun _ => ?_) | with_reducible refine ⟨_, Eq.refl (List.map _ _), ?_⟩ | (with_reducible refine Exists.intro (by omega) ?_) | rfl | (intro h0; omega) | omega
  clear hi c1 c2 he c
  rintro ⟨c, c2, r, he, i, r2, hi, he2⟩ -
  dsimp only
  refine bif_dec (fun g1 => ?_) (fun g1 => ?_)
  · have hi' : i < bs.length := by omega
    have hr := congrArg List.length he2
    rw [List.length_map, List.length_map, List.length_take] at hr
    have hlt : (bs.take i).length = i := by rw [List.length_take]; omega
    have hw : IntKind.i64.wrap ((i : Int) + 1) = ((i + 1 : Nat) : Int) := wrap0 i (by omega)
    have hd : (bl bs[i]).length ≤ 100000000 := by have := h4 _ (List.getElem_mem hi'); omega
    have e0 : List.map EBl.enc (bs.take (i + 1)) = List.map EBl.enc (bs.take i ++ [bs[i]]) := by rw [List.take_add_one, List.getElem?_eq_getElem hi']; rfl
    have hst : ∀ z : Value, (r2 ++ [mkB z (bl bs[i])]).map bl = (bs.take (i + 1)).map bl := fun z => by
      rw [List.map_append, he2, List.take_add_one, List.getElem?_eq_getElem hi', List.map_append, List.map_cons, bl_mk]
      rfl
    simp only [Int.toNat_natCast, hw]
    repeat' first | exact fun x _ => Enc.pures EK x | exact fun x _ => Enc.pures EM x | exact fun x _ => Enc.pures EBl x | refine ⟨hi', ?_⟩ | refine ⟨bs[i].1.2, rfl, ?_⟩ | refine ⟨bl bs[i], (b1_enc _).symm, hd, fun z => ?_⟩ | refine ⟨mkL (bl bs[i]), encmk _, ?_⟩ | refine ⟨⟨c, c2, r, he, i + 1, r2 ++ [mkB z (bl bs[i])], hi', hst z⟩, ⟨show bs.length - (i + 1) < bs.length - i by omega, trivial⟩, ?_⟩ | exact e0 | exact trivial | refine And.intro ?_ ?_ | with_reducible refine bif_dt (by assumption) ?_ | with_reducible refine bif_df (by assumption) ?_ | with_reducible refine bif_dec (fun _ => ?_) (fun _ => ?_) | with_reducible refine bif_not ?_ | with_reducible refine bif_and ?_ | with_reducible refine bif_or ?_ | with_reducible refine bif_t (by assumption) ?_ | with_reducible refine bif_f (by assumption) ?_ | with_reducible refine bif_t (beq_self_eq_true _) ?_ | with_reducible refine bif_b (fun _ => ?_) (fun _ => ?_) | with_reducible refine ⟨_, Eq.refl (List.map _ _), ?_⟩ | (with_reducible refine Exists.intro (by omega) ?_) | rfl | (intro h0; omega) | omega
  have hil : i = bs.length := by omega
  subst hil
  have he2 : r2.map bl = bs.map bl := by rw [he2, List.take_length]
  have e1 : List.map EBl.enc bs = List.map EBl.enc (bs.take bs.length) := by rw [List.take_length]
  refine ⟨⟨c, r, r2, he, he2⟩, ?_⟩
  repeat' first | exact e1 | exact fun x _ => Enc.pures EK x | exact trivial | refine And.intro ?_ ?_ | with_reducible refine bif_dt (by assumption) ?_ | with_reducible refine bif_df (by assumption) ?_ | with_reducible refine bif_dec (fun _ => ?_) (fun _ => ?_) | with_reducible refine bif_not ?_ | with_reducible refine bif_and ?_ | with_reducible refine bif_or ?_ | with_reducible refine bif_t (by assumption) ?_ | with_reducible refine bif_f (by assumption) ?_ | with_reducible refine bif_t (beq_self_eq_true _) ?_ | with_reducible refine bif_b (fun _ => ?_) (fun _ => ?_) | with_reducible refine ⟨_, Eq.refl (List.map _ _), ?_⟩ | (with_reducible refine Exists.intro (by omega) ?_) | rfl | (intro h0; omega) | omega
open Go Go.Sx

abbrev RTy := RK.TL [.sl 0 []]
def ER : Enc RTy := encRec [.sl 0 []]
def rawR (e : Value × List Int) : RTy := ((e.1, List.replicate e.2.length ()), ())
def okE (e : Value × List Int) : Prop := e.2 ≠ [] → ∃ k c, e.1 = .slice (some ⟨k, 0, none⟩) e.2.length c
structure PlT (b : List Int) where
  A : List Nat
  x : Value
  h : okE (x, b)
theorem bytesEB (l : List Int) : bytesOf (encInt .u8).enc l = l := by
  unfold bytesOf
  exact List.map_id'' (fun _ => rfl) l
theorem cloneP_spec (y : Value) {b : List Int} (A : List Nat) (P : List (Value × List Int)) (h : b.length ≤ 100000000) : SMem Try.prog 35 [byV y b] 1 [(0, pool A P)] (fun o : PlT b => ⟨1, .one (rawV o.x b.length), [(0, pool o.A (P ++ [(o.x, b)]))]⟩) := by
  refine SMem.inp [] SOK.nil [] MSOK.nil tokR mixed [] IOK.nil true [] [] Try.call35 Try.func35 rfl (by rfl) ?_
  refine Eq.mp (α := (@Bool.rec (fun _ => Prop) (And ((0 : Nat) = (0 : Nat)) (And ((0 : Nat) = (0 : Nat)) (∃ ys : List Int, (And (List.map (Enc.enc (encInt IntKind.u8)) ys = List.map eB b) (And (((0 : Nat) + List.length ys) * (1 : Nat) ≤ (150000000000000 : Nat)) (∀ cap2 : Nat, (∀ a : (0 : Nat) + List.length ys ≤ cap2, (And (And (List.length ([] ++ ys) = List.length ([] ++ ys)) (And (List.length ([] ++ ys) ≤ cap2) (∀ x : Int, (∀ a_1 : x ∈ [] ++ ys, (∃ b_1 : Int, (Enc.enc (encInt IntKind.u8) x = [SV.v (Value.int IntKind.u8 b_1)])))))) (∀ A' : List Nat, (∀ x : Value, (∀ a_1 : bytesOf (Enc.enc (encInt IntKind.u8)) ([] ++ ys) ≠ [] → ∃ b c, x = Value.slice (some { block := b, off := (0 : Nat) }) (List.length ([] ++ ys)) c, (∃ o : PlT b, (And (And (SV.view (PlT.x o) (0 : Nat) (RK.svs []) (List.replicate (List.length b) ()) = rawV x (List.length ([] ++ ys))) True) (And (And (And (PlT.A o = A') (And True (Abs.own (P ++ [(PlT.x o, b)]) = Abs.own (P ++ [(x, bytesOf (Enc.enc (encInt IntKind.u8)) ([] ++ ys))])))) (And ((true : Bool) = true) True)) ((true : Bool) = true))))))))))))))) (∀ A' : List Nat, (∀ x : Value, (∃ o : PlT b, (And (And (SV.view (PlT.x o) (0 : Nat) (RK.svs []) (List.replicate (List.length b) ()) = rawV x (0 : Nat)) True) (And (And (And (PlT.A o = A') (And True (Abs.own (P ++ [(PlT.x o, b)]) = Abs.own (P ++ [(x, [])])))) (And ((true : Bool) = true) True)) ((true : Bool) = true)))))) (isNilV y && List.isEmpty b))) (by kernel_rfl) ?_
  refine bif_b (fun h1 => ?_) (fun h1 => ?_)
  · simp only [Bool.and_eq_true, List.isEmpty_iff] at h1
    obtain ⟨_, rfl⟩ := h1
    exact fun A' x => ⟨⟨A', x, fun h => absurd rfl h⟩, ⟨rfl, trivial⟩, ⟨⟨rfl, trivial, rfl⟩, rfl, trivial⟩, rfl⟩
  · refine ⟨rfl, rfl, b, rfl, by omega, fun cap2 k2 => ⟨⟨rfl, Nat.le_trans (Nat.le_of_eq (Nat.zero_add _).symm) k2, fun z _ => ⟨z, rfl⟩⟩, fun A' x hx => ⟨⟨A', x, fun hne => hx (show bytesOf (encInt .u8).enc b ≠ [] by rw [bytesEB]; exact hne)⟩, ⟨rfl, trivial⟩, ⟨⟨rfl, trivial, ?_⟩, rfl, trivial⟩, rfl⟩⟩⟩
    exact congrArg (fun z => Abs.own (P ++ [(x, z)])) (bytesEB b).symm
def clonePT : MT := fun ms n h K => match ms with
  | [.one (.view vx0 ve0 en0 vl0)] => (match get h 0 with
    | some (.obj A [] (.own P)) => bif Nat.beq ve0 1 && noDup [0] then ∃ b : List (Int), vl0.map en0 = b.map eB ∧ (b.length ≤ 100000000) ∧ (∀ o : PlT b, K (n + 0) (.one (rawV o.x b.length)) ([(0, pool o.A (P ++ [(o.x, b)]))] ++ delL [0] h)) else False
    | _ => False)
  | _ => False
theorem cloneP_mono : MMono clonePT := by
  intro ms n h K K' hkk hk
  unfold clonePT at hk ⊢
  split at hk
  · rename_i vx0 ve0 va0 en0 vl0
    split at hk
    · rename_i A P hg0
      try simp only [hg0]
      obtain ⟨hb, y0, z0, h1, h2⟩ := cond_false_elim hk
      rw [hb]
      exact ⟨y0, z0, h1, fun o => hkk _ _ _ (h2 o)⟩
    · exact hk.elim
  · exact hk.elim
theorem cloneP_ok : MOK Try.prog 35 clonePT := by
  refine ⟨?_, cloneP_mono⟩
  intro ms n hB K hk
  unfold clonePT at hk
  split at hk
  · rename_i vx0 ve0 va0 en0 vl0
    split at hk
    · rename_i A P hg0
      obtain ⟨hb, b, he0, h, hk2⟩ := cond_false_elim hk
      clear hk
      simp only [Bool.and_eq_true] at hb
      obtain ⟨hc0, hnd⟩ := hb
      have hs0 := Nat.eq_of_beq_eq_true hc0
      subst hs0
      refine SCall.seen ?_ (.cons (.view he0) .nil)
      exact (cloneP_spec _ A P h).use (fun j => match j with | 0 => 0 | _ => 0) rfl rfl ⟨by show (match get hB 0 with | some b0 => Blk.imp _ _ _ b0 | none => False); rw [hg0]; exact ⟨rfl, .inl ⟨rfl, rfl⟩, rfl⟩, rfl, trivial⟩ (by exact hnd) (fun j hj => by cases j with
          | zero => exact ⟨_, rfl⟩
          | succ j => omega) (fun o => hk2 o)
    · exact hk.elim
  · exact hk.elim

structure KpT (ms : List MTy) (bs : List BTy) where
  A : List Nat
  ms' : List MTy
  c1 : Nat
  N : List (Value × List Int)
  c2 : Nat
  hm : ms'.map ml = ms.map ml
  hb : N.map (·.2) = bs.map bl
  hN : ∀ e ∈ N, okE e
  h1 : ms'.length ≤ c1
  h2 : N.length ≤ c2
structure P1T (ms : List MTy) where
  i : Nat
  cap : Nat
  r : List MTy
  hi : i ≤ ms.length
  hc : r.length ≤ cap
  he : r.map ml = (ms.take i).map ml
structure P2T (ms : List MTy) (bs : List BTy) where
  A : List Nat
  cap : Nat
  r : List MTy
  hc : r.length ≤ cap
  he : r.map ml = ms.map ml
  i : Nat
  cap2 : Nat
  N : List (Value × List Int)
  hi : i ≤ bs.length
  hc2 : N.length ≤ cap2
  he2 : N.map (·.2) = (bs.take i).map bl
  hN : ∀ e ∈ N, okE e
theorem bcopiedP_spec (x y : Value) {ms : List MTy} {bs : List BTy} (A : List Nat) (P : List (Value × List Int)) (h1 : ms.length ≤ 1000) (h2 : bs.length ≤ 1000) (h3 : ∀ m ∈ ms, (ml m).d.length ≤ 100000000) (h4 : ∀ b ∈ bs, (bl b).length ≤ 100000000) :
    SMem Try.prog 39 [.agg (bkA x ms y bs)] 1 [(0, pool A P)] (fun o : KpT ms bs => ⟨3, .agg [.nslc 1 9 o.ms'.length o.c1, .nslc 2 1 (o.N.map rawR).length o.c2], [(0, pool o.A (P ++ o.N)), (1, .row 9 EM o.ms' o.c1), (2, .row 1 ER (o.N.map rawR) o.c2)]⟩) := by
  refine SMem.inm [] SOK.nil [(33, copiedT), (35, clonePT)] (MSOK.cons copied_ok (MSOK.cons cloneP_ok MSOK.nil)) tokR mixed [] IOK.nil false [(2, ⟨P1T ms, fun p => ⟨4, [(8, .one (.view x 9 EM.enc ms)), (9, int ms.length), (10, int p.i), (1, .one (.ptr 1 0)), (2, .one (.ptr 2 0))], [(0, pool A P), (1, .cells (bkA x ms y bs)), (2, .cells [.nslc 3 9 p.r.length p.cap, .v (.slice none 0 0)]), (3, .row 9 EM p.r p.cap)]⟩, fun p => ms.length - p.i, fun _ _ => True⟩), (7, ⟨P2T ms bs, fun p => ⟨5, [(23, .one (.view y 1 EBl.enc bs)), (24, int bs.length), (25, int p.i), (2, .one (.ptr 2 0))], [(0, pool p.A (P ++ p.N)), (2, .cells [.nslc 3 9 p.r.length p.cap, .nslc 4 1 (p.N.map rawR).length p.cap2]), (3, .row 9 EM p.r p.cap), (4, .row 1 ER (p.N.map rawR) p.cap2)]⟩, fun p => bs.length - p.i, fun _ _ => True⟩)] [] Try.call39 Try.func39 rfl (by rfl) ?_
  refine Eq.mp (α := (∃ i0 : P1T ms, (And (And True (And (And (SV.view x (9 : Nat) (Enc.enc EM) ms = SV.view x (9 : Nat) (Enc.enc EM) ms) (And ((↑(List.length ms) : Int) = (↑(List.length ms) : Int)) (And ((↑(P1T.i i0) : Int) = (0 : Int)) (And (And ((true : Bool) = true) ((0 : Nat) = (0 : Nat))) (And (And ((true : Bool) = true) ((0 : Nat) = (0 : Nat))) True))))) (And (And (And (A = A) (And True (Abs.own P = Abs.own P))) (And ((true : Bool) = true) (And (And (SV.view x (9 : Nat) (Enc.enc EM) ms = SV.view x (9 : Nat) (Enc.enc EM) ms) (And (SV.view y (1 : Nat) (Enc.enc EBl) bs = SV.view y (1 : Nat) (Enc.enc EBl) bs) True)) (And ((true : Bool) = true) (And (And (And ((true : Bool) = true) (And (List.length (P1T.r i0) = (0 : Nat)) (P1T.cap i0 = (0 : Nat)))) (And (Value.slice none (0 : Nat) (0 : Nat) = Value.slice none (0 : Nat) (0 : Nat)) True)) (And ((true : Bool) = true) (And (And ((true : Bool) = true) (And (P1T.cap i0 = (0 : Nat)) (And (List.map (Enc.enc EM) (P1T.r i0) = List.map (Enc.enc EM) []) (∀ x_1 : MTy, (∀ a : x_1 ∈ P1T.r i0, (∀ s : SV, (∀ a_1 : s ∈ Enc.enc EM x_1, ((SV.isPure s : Bool) = (true))))))))) (And ((true : Bool) = true) True)))))))) ((true : Bool) = true)))) (∀ i : P1T ms, (∀ a : True, (@Bool.rec (fun _ => Prop) (∃ i0_1 : P2T ms bs, (And (And True (And (And (SV.view y (1 : Nat) (Enc.enc EBl) bs = SV.view y (1 : Nat) (Enc.enc EBl) bs) (And ((↑(List.length bs) : Int) = (↑(List.length bs) : Int)) (And ((↑(P2T.i i0_1) : Int) = (0 : Int)) (And (And ((true : Bool) = true) ((0 : Nat) = (0 : Nat))) True)))) (And (And (And (P2T.A i0_1 = A) (And True (Abs.own (P ++ P2T.N i0_1) = Abs.own P))) (And ((true : Bool) = true) (And (And (And ((true : Bool) = true) (And (List.length (P2T.r i0_1) = List.length (P1T.r i)) (P2T.cap i0_1 = P1T.cap i))) (And (And ((true : Bool) = true) (And (List.length (List.map rawR (P2T.N i0_1)) = (0 : Nat)) (P2T.cap2 i0_1 = (0 : Nat)))) True)) (And ((true : Bool) = true) (And (And ((true : Bool) = true) (And (P2T.cap i0_1 = P1T.cap i) (And (List.map (Enc.enc EM) (P2T.r i0_1) = List.map (Enc.enc EM) (P1T.r i)) (∀ x_1 : MTy, (∀ a_1 : x_1 ∈ P2T.r i0_1, (∀ s : SV, (∀ a_2 : s ∈ Enc.enc EM x_1, ((SV.isPure s : Bool) = (true))))))))) (And ((true : Bool) = true) (And (And ((true : Bool) = true) (And (P2T.cap2 i0_1 = (0 : Nat)) (And (List.map (Enc.enc ER) (List.map rawR (P2T.N i0_1)) = List.map (Enc.enc ER) []) (∀ x_1 : RTy, (∀ a_1 : x_1 ∈ List.map rawR (P2T.N i0_1), (∀ s : SV, (∀ a_2 : s ∈ Enc.enc ER x_1, ((SV.isPure s : Bool) = (true))))))))) (And ((true : Bool) = true) True)))))))) ((true : Bool) = true)))) (∀ i_1 : P2T ms bs, (∀ a_1 : True, (@Bool.rec (fun _ => Prop) (∃ o : KpT ms bs, (And (And (And (And ((true : Bool) = true) (And (List.length (KpT.ms' o) = List.length (P2T.r i_1)) (KpT.c1 o = P2T.cap i_1))) (And (And ((true : Bool) = true) (And (List.length (List.map rawR (KpT.N o)) = List.length (List.map rawR (P2T.N i_1))) (KpT.c2 o = P2T.cap2 i_1))) True)) True) (And (And (And (KpT.A o = P2T.A i_1) (And True (Abs.own (P ++ KpT.N o) = Abs.own (P ++ P2T.N i_1)))) (And ((true : Bool) = true) (And (And ((true : Bool) = true) (And (KpT.c1 o = P2T.cap i_1) (And (List.map (Enc.enc EM) (KpT.ms' o) = List.map (Enc.enc EM) (P2T.r i_1)) (∀ x_1 : MTy, (∀ a_2 : x_1 ∈ KpT.ms' o, (∀ s : SV, (∀ a_3 : s ∈ Enc.enc EM x_1, ((SV.isPure s : Bool) = (true))))))))) (And ((true : Bool) = true) (And (And ((true : Bool) = true) (And (KpT.c2 o = P2T.cap2 i_1) (And (List.map (Enc.enc ER) (List.map rawR (KpT.N o)) = List.map (Enc.enc ER) (List.map rawR (P2T.N i_1))) (∀ x_1 : RTy, (∀ a_2 : x_1 ∈ List.map rawR (KpT.N o), (∀ s : SV, (∀ a_3 : s ∈ Enc.enc ER x_1, ((SV.isPure s : Bool) = (true))))))))) (And ((true : Bool) = true) True)))))) ((true : Bool) = true)))) (And ((0 : Int) ≤ (↑(P2T.i i_1) : Int)) (∃ hk : Int.toNat (↑(P2T.i i_1) : Int) < List.length bs, (And (And (∃ b : List Int, (And (List.map (RK.svs._f [RK.int IntKind.u8] ⟨⟨RK.sv._f (RK.int IntKind.u8) PUnit.unit, PUnit.unit⟩, RK.svs._f [] PUnit.unit, PUnit.unit⟩) (Prod.snd (Prod.fst bs[Int.toNat (↑(P2T.i i_1) : Int)])) = List.map eB b) (And (List.length b ≤ (100000000 : Nat)) (∀ o : PlT b, (And (∃ l' : List (RK.TL []), (And (List.map (RK.svs []) (List.replicate (List.length b) ()) = List.map (RK.svs []) l') (And (And (List.length (List.map rawR (P2T.N i_1)) = List.length (List.map rawR (P2T.N i_1))) (And (P2T.cap2 i_1 = P2T.cap2 i_1) (And ((0 : Nat) + (1 : Nat) ≤ (1 : Nat)) (And ((List.length (List.map rawR (P2T.N i_1)) + (1 : Nat)) * (24 : Nat) ≤ (150000000000000 : Nat)) (∀ cap2 : Nat, (∀ a_2 : List.length (List.map rawR (P2T.N i_1)) + (1 : Nat) ≤ cap2, (And (∃ i' : P2T ms bs, (And (And (List.length bs - P2T.i i' < List.length bs - P2T.i i_1) True) (And (And (SV.view y (1 : Nat) (Enc.enc EBl) bs = SV.view y (1 : Nat) (Enc.enc EBl) bs) (And ((↑(List.length bs) : Int) = (↑(List.length bs) : Int)) (And ((↑(P2T.i i') : Int) = IntKind.wrap IntKind.i64 ((↑(P2T.i i_1) : Int) + (1 : Int))) (And (And ((true : Bool) = true) ((0 : Nat) = (0 : Nat))) True)))) (And (And (And (P2T.A i' = PlT.A o) (And True (Abs.own (P ++ P2T.N i') = Abs.own (P ++ P2T.N i_1 ++ [(PlT.x o, b)])))) (And ((true : Bool) = true) (And (And (And ((true : Bool) = true) (And (List.length (P2T.r i') = List.length (P2T.r i_1)) (P2T.cap i' = P2T.cap i_1))) (And (And ((true : Bool) = true) (And (List.length (List.map rawR (P2T.N i')) = List.length (List.map rawR (P2T.N i_1) ++ castL (encRec [RK.sl (0 : Nat) []]) ER (List.take (1 : Nat) (List.drop (0 : Nat) [Enc.of (encRec [RK.sl (0 : Nat) []]) ((PlT.x o, l'), ())])))) (P2T.cap2 i' = cap2))) True)) (And ((true : Bool) = true) (And (And ((true : Bool) = true) (And (P2T.cap i' = P2T.cap i_1) (And (List.map (Enc.enc EM) (P2T.r i') = List.map (Enc.enc EM) (P2T.r i_1)) (∀ x_1 : MTy, (∀ a_3 : x_1 ∈ P2T.r i', (∀ s : SV, (∀ a_4 : s ∈ Enc.enc EM x_1, ((SV.isPure s : Bool) = (true))))))))) (And ((true : Bool) = true) (And (And ((true : Bool) = true) (And (P2T.cap2 i' = cap2) (And (List.map (Enc.enc ER) (List.map rawR (P2T.N i')) = List.map (Enc.enc ER) (List.map rawR (P2T.N i_1) ++ castL (encRec [RK.sl (0 : Nat) []]) ER (List.take (1 : Nat) (List.drop (0 : Nat) [Enc.of (encRec [RK.sl (0 : Nat) []]) ((PlT.x o, l'), ())])))) (∀ x_1 : RTy, (∀ a_3 : x_1 ∈ List.map rawR (P2T.N i'), (∀ s : SV, (∀ a_4 : s ∈ Enc.enc ER x_1, ((SV.isPure s : Bool) = (true))))))))) (And ((true : Bool) = true) True)))))))) ((true : Bool) = true))))) True))))))) True))) True))))) True) (And (∃ b : List Int, (And (List.map (RK.svs._f [RK.int IntKind.u8] ⟨⟨RK.sv._f (RK.int IntKind.u8) PUnit.unit, PUnit.unit⟩, RK.svs._f [] PUnit.unit, PUnit.unit⟩) (Prod.snd (Prod.fst bs[Int.toNat (↑(P2T.i i_1) : Int)])) = List.map eB b) (And (List.length b ≤ (100000000 : Nat)) (∀ o : PlT b, (And (And (∃ l' : List (RK.TL []), (And (List.map (RK.svs []) (List.replicate (List.length b) ()) = List.map (RK.svs []) l') (And (And (List.length (List.map rawR (P2T.N i_1)) = List.length (List.map rawR (P2T.N i_1))) (And (P2T.cap2 i_1 = P2T.cap2 i_1) (And ((0 : Nat) + (1 : Nat) ≤ (1 : Nat)) (And ((List.length (List.map rawR (P2T.N i_1)) + (1 : Nat)) * (24 : Nat) ≤ (150000000000000 : Nat)) (∀ cap2 : Nat, (∀ a_2 : List.length (List.map rawR (P2T.N i_1)) + (1 : Nat) ≤ cap2, (And (∃ i' : P2T ms bs, (And (And (List.length bs - P2T.i i' < List.length bs - P2T.i i_1) True) (And (And (SV.view y (1 : Nat) (Enc.enc EBl) bs = SV.view y (1 : Nat) (Enc.enc EBl) bs) (And ((↑(List.length bs) : Int) = (↑(List.length bs) : Int)) (And ((↑(P2T.i i') : Int) = IntKind.wrap IntKind.i64 ((↑(P2T.i i_1) : Int) + (1 : Int))) (And (And ((true : Bool) = true) ((0 : Nat) = (0 : Nat))) True)))) (And (And (And (P2T.A i' = PlT.A o) (And True (Abs.own (P ++ P2T.N i') = Abs.own (P ++ P2T.N i_1 ++ [(PlT.x o, b)])))) (And ((true : Bool) = true) (And (And (And ((true : Bool) = true) (And (List.length (P2T.r i') = List.length (P2T.r i_1)) (P2T.cap i' = P2T.cap i_1))) (And (And ((true : Bool) = true) (And (List.length (List.map rawR (P2T.N i')) = List.length (List.map rawR (P2T.N i_1) ++ castL (encRec [RK.sl (0 : Nat) []]) ER (List.take (1 : Nat) (List.drop (0 : Nat) [Enc.of (encRec [RK.sl (0 : Nat) []]) ((PlT.x o, l'), ())])))) (P2T.cap2 i' = cap2))) True)) (And ((true : Bool) = true) (And (And ((true : Bool) = true) (And (P2T.cap i' = P2T.cap i_1) (And (List.map (Enc.enc EM) (P2T.r i') = List.map (Enc.enc EM) (P2T.r i_1)) (∀ x_1 : MTy, (∀ a_3 : x_1 ∈ P2T.r i', (∀ s : SV, (∀ a_4 : s ∈ Enc.enc EM x_1, ((SV.isPure s : Bool) = (true))))))))) (And ((true : Bool) = true) (And (And ((true : Bool) = true) (And (P2T.cap2 i' = cap2) (And (List.map (Enc.enc ER) (List.map rawR (P2T.N i')) = List.map (Enc.enc ER) (List.map rawR (P2T.N i_1) ++ castL (encRec [RK.sl (0 : Nat) []]) ER (List.take (1 : Nat) (List.drop (0 : Nat) [Enc.of (encRec [RK.sl (0 : Nat) []]) ((PlT.x o, l'), ())])))) (∀ x_1 : RTy, (∀ a_3 : x_1 ∈ List.map rawR (P2T.N i'), (∀ s : SV, (∀ a_4 : s ∈ Enc.enc ER x_1, ((SV.isPure s : Bool) = (true))))))))) (And ((true : Bool) = true) True)))))))) ((true : Bool) = true))))) True))))))) True))) True) (And (∃ l' : List (RK.TL []), (And (List.map (RK.svs []) (List.replicate (List.length b) ()) = List.map (RK.svs []) l') (And (And (List.length (List.map rawR (P2T.N i_1)) = List.length (List.map rawR (P2T.N i_1))) (And (P2T.cap2 i_1 = P2T.cap2 i_1) (And ((0 : Nat) + (1 : Nat) ≤ (1 : Nat)) (And ((List.length (List.map rawR (P2T.N i_1)) + (1 : Nat)) * (24 : Nat) ≤ (150000000000000 : Nat)) (∀ cap2 : Nat, (∀ a_2 : List.length (List.map rawR (P2T.N i_1)) + (1 : Nat) ≤ cap2, (And (∃ i' : P2T ms bs, (And (And (List.length bs - P2T.i i' < List.length bs - P2T.i i_1) True) (And (And (SV.view y (1 : Nat) (Enc.enc EBl) bs = SV.view y (1 : Nat) (Enc.enc EBl) bs) (And ((↑(List.length bs) : Int) = (↑(List.length bs) : Int)) (And ((↑(P2T.i i') : Int) = IntKind.wrap IntKind.i64 ((↑(P2T.i i_1) : Int) + (1 : Int))) (And (And ((true : Bool) = true) ((0 : Nat) = (0 : Nat))) True)))) (And (And (And (P2T.A i' = PlT.A o) (And True (Abs.own (P ++ P2T.N i') = Abs.own (P ++ P2T.N i_1 ++ [(PlT.x o, b)])))) (And ((true : Bool) = true) (And (And (And ((true : Bool) = true) (And (List.length (P2T.r i') = List.length (P2T.r i_1)) (P2T.cap i' = P2T.cap i_1))) (And (And ((true : Bool) = true) (And (List.length (List.map rawR (P2T.N i')) = List.length (List.map rawR (P2T.N i_1) ++ castL (encRec [RK.sl (0 : Nat) []]) ER (List.take (1 : Nat) (List.drop (0 : Nat) [Enc.of (encRec [RK.sl (0 : Nat) []]) ((PlT.x o, l'), ())])))) (P2T.cap2 i' = cap2))) True)) (And ((true : Bool) = true) (And (And ((true : Bool) = true) (And (P2T.cap i' = P2T.cap i_1) (And (List.map (Enc.enc EM) (P2T.r i') = List.map (Enc.enc EM) (P2T.r i_1)) (∀ x_1 : MTy, (∀ a_3 : x_1 ∈ P2T.r i', (∀ s : SV, (∀ a_4 : s ∈ Enc.enc EM x_1, ((SV.isPure s : Bool) = (true))))))))) (And ((true : Bool) = true) (And (And ((true : Bool) = true) (And (P2T.cap2 i' = cap2) (And (List.map (Enc.enc ER) (List.map rawR (P2T.N i')) = List.map (Enc.enc ER) (List.map rawR (P2T.N i_1) ++ castL (encRec [RK.sl (0 : Nat) []]) ER (List.take (1 : Nat) (List.drop (0 : Nat) [Enc.of (encRec [RK.sl (0 : Nat) []]) ((PlT.x o, l'), ())])))) (∀ x_1 : RTy, (∀ a_3 : x_1 ∈ List.map rawR (P2T.N i'), (∀ s : SV, (∀ a_4 : s ∈ Enc.enc ER x_1, ((SV.isPure s : Bool) = (true))))))))) (And ((true : Bool) = true) True)))))))) ((true : Bool) = true))))) True))))))) True))) True)))))) True)))) (decide ((↑(P2T.i i_1) : Int) < (↑(List.length bs) : Int)))))))) (And ((0 : Int) ≤ (↑(P1T.i i) : Int)) (∃ hk : Int.toNat (↑(P1T.i i) : Int) < List.length ms, (And (And (∃ d : List Int, (And (List.map (RK.svs._f [RK.int IntKind.u8] ⟨⟨RK.sv._f (RK.int IntKind.u8) PUnit.unit, PUnit.unit⟩, RK.svs._f [] PUnit.unit, PUnit.unit⟩) (Prod.snd (Prod.fst (Prod.snd (Prod.snd (Prod.snd (Prod.snd (Prod.snd ms[Int.toNat (↑(P1T.i i) : Int)]))))))) = List.map eB d) (And (List.length d ≤ (100000000 : Nat)) (∀ y_1 : Value, (And (∃ l' : List (RK.TL [RK.int IntKind.u8]), (And (List.map eB d = List.map (RK.svs [RK.int IntKind.u8]) l') (And (And (List.length (P1T.r i) = List.length (P1T.r i)) (And (P1T.cap i = P1T.cap i) (And ((0 : Nat) + (1 : Nat) ≤ (1 : Nat)) (And ((List.length (P1T.r i) + (1 : Nat)) * (88 : Nat) ≤ (150000000000000 : Nat)) (∀ cap2 : Nat, (∀ a_1 : List.length (P1T.r i) + (1 : Nat) ≤ cap2, (And (∃ i' : P1T ms, (And (And (List.length ms - P1T.i i' < List.length ms - P1T.i i) True) (And (And (SV.view x (9 : Nat) (Enc.enc EM) ms = SV.view x (9 : Nat) (Enc.enc EM) ms) (And ((↑(List.length ms) : Int) = (↑(List.length ms) : Int)) (And ((↑(P1T.i i') : Int) = IntKind.wrap IntKind.i64 ((↑(P1T.i i) : Int) + (1 : Int))) (And (And ((true : Bool) = true) ((0 : Nat) = (0 : Nat))) (And (And ((true : Bool) = true) ((0 : Nat) = (0 : Nat))) True))))) (And (And (And (A = A) (And True (Abs.own P = Abs.own P))) (And ((true : Bool) = true) (And (And (SV.view x (9 : Nat) (Enc.enc EM) ms = SV.view x (9 : Nat) (Enc.enc EM) ms) (And (SV.view y (1 : Nat) (Enc.enc EBl) bs = SV.view y (1 : Nat) (Enc.enc EBl) bs) True)) (And ((true : Bool) = true) (And (And (And ((true : Bool) = true) (And (List.length (P1T.r i') = List.length (P1T.r i ++ castL (encRec [RK.int IntKind.u64, RK.int IntKind.u64, RK.int IntKind.u64, RK.ints IntKind.u64 (4 : Nat), RK.int IntKind.u64, RK.sl (1 : Nat) [RK.int IntKind.u8]]) EM (List.take (1 : Nat) (List.drop (0 : Nat) [Enc.of (encRec [RK.int IntKind.u64, RK.int IntKind.u64, RK.int IntKind.u64, RK.ints IntKind.u64 (4 : Nat), RK.int IntKind.u64, RK.sl (1 : Nat) [RK.int IntKind.u8]]) (Prod.fst ms[Int.toNat (↑(P1T.i i) : Int)], Prod.fst (Prod.snd ms[Int.toNat (↑(P1T.i i) : Int)]), Prod.fst (Prod.snd (Prod.snd ms[Int.toNat (↑(P1T.i i) : Int)])), Prod.fst (Prod.snd (Prod.snd (Prod.snd ms[Int.toNat (↑(P1T.i i) : Int)]))), Prod.fst (Prod.snd (Prod.snd (Prod.snd (Prod.snd ms[Int.toNat (↑(P1T.i i) : Int)])))), (y_1, l'), ())])))) (P1T.cap i' = cap2))) (And (Value.slice none (0 : Nat) (0 : Nat) = Value.slice none (0 : Nat) (0 : Nat)) True)) (And ((true : Bool) = true) (And (And ((true : Bool) = true) (And (P1T.cap i' = cap2) (And (List.map (Enc.enc EM) (P1T.r i') = List.map (Enc.enc EM) (P1T.r i ++ castL (encRec [RK.int IntKind.u64, RK.int IntKind.u64, RK.int IntKind.u64, RK.ints IntKind.u64 (4 : Nat), RK.int IntKind.u64, RK.sl (1 : Nat) [RK.int IntKind.u8]]) EM (List.take (1 : Nat) (List.drop (0 : Nat) [Enc.of (encRec [RK.int IntKind.u64, RK.int IntKind.u64, RK.int IntKind.u64, RK.ints IntKind.u64 (4 : Nat), RK.int IntKind.u64, RK.sl (1 : Nat) [RK.int IntKind.u8]]) (Prod.fst ms[Int.toNat (↑(P1T.i i) : Int)], Prod.fst (Prod.snd ms[Int.toNat (↑(P1T.i i) : Int)]), Prod.fst (Prod.snd (Prod.snd ms[Int.toNat (↑(P1T.i i) : Int)])), Prod.fst (Prod.snd (Prod.snd (Prod.snd ms[Int.toNat (↑(P1T.i i) : Int)]))), Prod.fst (Prod.snd (Prod.snd (Prod.snd (Prod.snd ms[Int.toNat (↑(P1T.i i) : Int)])))), (y_1, l'), ())])))) (∀ x_1 : MTy, (∀ a_2 : x_1 ∈ P1T.r i', (∀ s : SV, (∀ a_3 : s ∈ Enc.enc EM x_1, ((SV.isPure s : Bool) = (true))))))))) (And ((true : Bool) = true) True)))))))) ((true : Bool) = true))))) True))))))) True))) True))))) True) (And (∃ d : List Int, (And (List.map (RK.svs._f [RK.int IntKind.u8] ⟨⟨RK.sv._f (RK.int IntKind.u8) PUnit.unit, PUnit.unit⟩, RK.svs._f [] PUnit.unit, PUnit.unit⟩) (Prod.snd (Prod.fst (Prod.snd (Prod.snd (Prod.snd (Prod.snd (Prod.snd ms[Int.toNat (↑(P1T.i i) : Int)]))))))) = List.map eB d) (And (List.length d ≤ (100000000 : Nat)) (∀ y_1 : Value, (And (And (∃ l' : List (RK.TL [RK.int IntKind.u8]), (And (List.map eB d = List.map (RK.svs [RK.int IntKind.u8]) l') (And (And (List.length (P1T.r i) = List.length (P1T.r i)) (And (P1T.cap i = P1T.cap i) (And ((0 : Nat) + (1 : Nat) ≤ (1 : Nat)) (And ((List.length (P1T.r i) + (1 : Nat)) * (88 : Nat) ≤ (150000000000000 : Nat)) (∀ cap2 : Nat, (∀ a_1 : List.length (P1T.r i) + (1 : Nat) ≤ cap2, (And (∃ i' : P1T ms, (And (And (List.length ms - P1T.i i' < List.length ms - P1T.i i) True) (And (And (SV.view x (9 : Nat) (Enc.enc EM) ms = SV.view x (9 : Nat) (Enc.enc EM) ms) (And ((↑(List.length ms) : Int) = (↑(List.length ms) : Int)) (And ((↑(P1T.i i') : Int) = IntKind.wrap IntKind.i64 ((↑(P1T.i i) : Int) + (1 : Int))) (And (And ((true : Bool) = true) ((0 : Nat) = (0 : Nat))) (And (And ((true : Bool) = true) ((0 : Nat) = (0 : Nat))) True))))) (And (And (And (A = A) (And True (Abs.own P = Abs.own P))) (And ((true : Bool) = true) (And (And (SV.view x (9 : Nat) (Enc.enc EM) ms = SV.view x (9 : Nat) (Enc.enc EM) ms) (And (SV.view y (1 : Nat) (Enc.enc EBl) bs = SV.view y (1 : Nat) (Enc.enc EBl) bs) True)) (And ((true : Bool) = true) (And (And (And ((true : Bool) = true) (And (List.length (P1T.r i') = List.length (P1T.r i ++ castL (encRec [RK.int IntKind.u64, RK.int IntKind.u64, RK.int IntKind.u64, RK.ints IntKind.u64 (4 : Nat), RK.int IntKind.u64, RK.sl (1 : Nat) [RK.int IntKind.u8]]) EM (List.take (1 : Nat) (List.drop (0 : Nat) [Enc.of (encRec [RK.int IntKind.u64, RK.int IntKind.u64, RK.int IntKind.u64, RK.ints IntKind.u64 (4 : Nat), RK.int IntKind.u64, RK.sl (1 : Nat) [RK.int IntKind.u8]]) (Prod.fst ms[Int.toNat (↑(P1T.i i) : Int)], Prod.fst (Prod.snd ms[Int.toNat (↑(P1T.i i) : Int)]), Prod.fst (Prod.snd (Prod.snd ms[Int.toNat (↑(P1T.i i) : Int)])), Prod.fst (Prod.snd (Prod.snd (Prod.snd ms[Int.toNat (↑(P1T.i i) : Int)]))), Prod.fst (Prod.snd (Prod.snd (Prod.snd (Prod.snd ms[Int.toNat (↑(P1T.i i) : Int)])))), (y_1, l'), ())])))) (P1T.cap i' = cap2))) (And (Value.slice none (0 : Nat) (0 : Nat) = Value.slice none (0 : Nat) (0 : Nat)) True)) (And ((true : Bool) = true) (And (And ((true : Bool) = true) (And (P1T.cap i' = cap2) (And (List.map (Enc.enc EM) (P1T.r i') = List.map (Enc.enc EM) (P1T.r i ++ castL (encRec [RK.int IntKind.u64, RK.int IntKind.u64, RK.int IntKind.u64, RK.ints IntKind.u64 (4 : Nat), RK.int IntKind.u64, RK.sl (1 : Nat) [RK.int IntKind.u8]]) EM (List.take (1 : Nat) (List.drop (0 : Nat) [Enc.of (encRec [RK.int IntKind.u64, RK.int IntKind.u64, RK.int IntKind.u64, RK.ints IntKind.u64 (4 : Nat), RK.int IntKind.u64, RK.sl (1 : Nat) [RK.int IntKind.u8]]) (Prod.fst ms[Int.toNat (↑(P1T.i i) : Int)], Prod.fst (Prod.snd ms[Int.toNat (↑(P1T.i i) : Int)]), Prod.fst (Prod.snd (Prod.snd ms[Int.toNat (↑(P1T.i i) : Int)])), Prod.fst (Prod.snd (Prod.snd (Prod.snd ms[Int.toNat (↑(P1T.i i) : Int)]))), Prod.fst (Prod.snd (Prod.snd (Prod.snd (Prod.snd ms[Int.toNat (↑(P1T.i i) : Int)])))), (y_1, l'), ())])))) (∀ x_1 : MTy, (∀ a_2 : x_1 ∈ P1T.r i', (∀ s : SV, (∀ a_3 : s ∈ Enc.enc EM x_1, ((SV.isPure s : Bool) = (true))))))))) (And ((true : Bool) = true) True)))))))) ((true : Bool) = true))))) True))))))) True))) True) (And (∃ l' : List (RK.TL [RK.int IntKind.u8]), (And (List.map eB d = List.map (RK.svs [RK.int IntKind.u8]) l') (And (And (List.length (P1T.r i) = List.length (P1T.r i)) (And (P1T.cap i = P1T.cap i) (And ((0 : Nat) + (1 : Nat) ≤ (1 : Nat)) (And ((List.length (P1T.r i) + (1 : Nat)) * (88 : Nat) ≤ (150000000000000 : Nat)) (∀ cap2 : Nat, (∀ a_1 : List.length (P1T.r i) + (1 : Nat) ≤ cap2, (And (∃ i' : P1T ms, (And (And (List.length ms - P1T.i i' < List.length ms - P1T.i i) True) (And (And (SV.view x (9 : Nat) (Enc.enc EM) ms = SV.view x (9 : Nat) (Enc.enc EM) ms) (And ((↑(List.length ms) : Int) = (↑(List.length ms) : Int)) (And ((↑(P1T.i i') : Int) = IntKind.wrap IntKind.i64 ((↑(P1T.i i) : Int) + (1 : Int))) (And (And ((true : Bool) = true) ((0 : Nat) = (0 : Nat))) (And (And ((true : Bool) = true) ((0 : Nat) = (0 : Nat))) True))))) (And (And (And (A = A) (And True (Abs.own P = Abs.own P))) (And ((true : Bool) = true) (And (And (SV.view x (9 : Nat) (Enc.enc EM) ms = SV.view x (9 : Nat) (Enc.enc EM) ms) (And (SV.view y (1 : Nat) (Enc.enc EBl) bs = SV.view y (1 : Nat) (Enc.enc EBl) bs) True)) (And ((true : Bool) = true) (And (And (And ((true : Bool) = true) (And (List.length (P1T.r i') = List.length (P1T.r i ++ castL (encRec [RK.int IntKind.u64, RK.int IntKind.u64, RK.int IntKind.u64, RK.ints IntKind.u64 (4 : Nat), RK.int IntKind.u64, RK.sl (1 : Nat) [RK.int IntKind.u8]]) EM (List.take (1 : Nat) (List.drop (0 : Nat) [Enc.of (encRec [RK.int IntKind.u64, RK.int IntKind.u64, RK.int IntKind.u64, RK.ints IntKind.u64 (4 : Nat), RK.int IntKind.u64, RK.sl (1 : Nat) [RK.int IntKind.u8]]) (Prod.fst ms[Int.toNat (↑(P1T.i i) : Int)], Prod.fst (Prod.snd ms[Int.toNat (↑(P1T.i i) : Int)]), Prod.fst (Prod.snd (Prod.snd ms[Int.toNat (↑(P1T.i i) : Int)])), Prod.fst (Prod.snd (Prod.snd (Prod.snd ms[Int.toNat (↑(P1T.i i) : Int)]))), Prod.fst (Prod.snd (Prod.snd (Prod.snd (Prod.snd ms[Int.toNat (↑(P1T.i i) : Int)])))), (y_1, l'), ())])))) (P1T.cap i' = cap2))) (And (Value.slice none (0 : Nat) (0 : Nat) = Value.slice none (0 : Nat) (0 : Nat)) True)) (And ((true : Bool) = true) (And (And ((true : Bool) = true) (And (P1T.cap i' = cap2) (And (List.map (Enc.enc EM) (P1T.r i') = List.map (Enc.enc EM) (P1T.r i ++ castL (encRec [RK.int IntKind.u64, RK.int IntKind.u64, RK.int IntKind.u64, RK.ints IntKind.u64 (4 : Nat), RK.int IntKind.u64, RK.sl (1 : Nat) [RK.int IntKind.u8]]) EM (List.take (1 : Nat) (List.drop (0 : Nat) [Enc.of (encRec [RK.int IntKind.u64, RK.int IntKind.u64, RK.int IntKind.u64, RK.ints IntKind.u64 (4 : Nat), RK.int IntKind.u64, RK.sl (1 : Nat) [RK.int IntKind.u8]]) (Prod.fst ms[Int.toNat (↑(P1T.i i) : Int)], Prod.fst (Prod.snd ms[Int.toNat (↑(P1T.i i) : Int)]), Prod.fst (Prod.snd (Prod.snd ms[Int.toNat (↑(P1T.i i) : Int)])), Prod.fst (Prod.snd (Prod.snd (Prod.snd ms[Int.toNat (↑(P1T.i i) : Int)]))), Prod.fst (Prod.snd (Prod.snd (Prod.snd (Prod.snd ms[Int.toNat (↑(P1T.i i) : Int)])))), (y_1, l'), ())])))) (∀ x_1 : MTy, (∀ a_2 : x_1 ∈ P1T.r i', (∀ s : SV, (∀ a_3 : s ∈ Enc.enc EM x_1, ((SV.isPure s : Bool) = (true))))))))) (And ((true : Bool) = true) True)))))))) ((true : Bool) = true))))) True))))))) True))) True)))))) True)))) (decide ((↑(P1T.i i) : Int) < (↑(List.length ms) : Int))))))))) (by kernel_rfl) ?_
  have hst : ∀ {r : List MTy} {i : Nat} (hi : i < ms.length) (he : r.map ml = (ms.take i).map ml) (z : Value), (r ++ [mkM (ml ms[i]) z]).map ml = (ms.take (i + 1)).map ml := fun {r i} hi he z => by
    rw [List.map_append, he, List.take_add_one, List.getElem?_eq_getElem hi, List.map_append, List.map_cons, ml_mk]
    rfl
  refine ⟨⟨0, 0, [], Nat.zero_le _, Nat.le_refl _, rfl⟩, ?_, ?_⟩
  ·
    repeat' first | exact fun x _ => Enc.pures EM x | exact trivial | refine And.intro ?_ ?_ | with_reducible refine bif_dt (by assumption) ?_ | with_reducible refine bif_df (by assumption) ?_ | with_reducible refine bif_dec (fun _ => ?_) (fun _ => ?_) | with_reducible refine bif_not ?_ | with_reducible refine bif_and ?_ | with_reducible refine bif_or ?_ | with_reducible refine bif_t (by assumption) ?_ | with_reducible refine bif_f (by assumption) ?_ | with_reducible refine bif_t (beq_self_eq_true _) ?_ | with_reducible refine bif_b (fun _ => ?_) (fun _ => ?_) | with_reducible refine ⟨_, Eq.refl (List.map _ _), ?_⟩ | (with_reducible refine Exists.intro (by omega) ?_) | rfl | (intro h0; omega) | omega
  rintro ⟨i, cap, r, hi, hc, he⟩ -
  dsimp only
  refine bif_dec (fun g1 => ?_) (fun g1 => ?_)
  · have hi' : i < ms.length := by omega
    have hr := congrArg List.length he
    rw [List.length_map, List.length_map, List.length_take] at hr
    have hw : IntKind.i64.wrap ((i : Int) + 1) = ((i + 1 : Nat) : Int) := by rw [wrap64 (by omega) (by omega)]; rfl
    simp only [Int.toNat_natCast, hw]
    have hd := h3 _ (List.getElem_mem hi')
    repeat' first | exact fun x _ => Enc.pures EM x | refine ⟨(ml ms[i]).d, (b1_enc _).symm, hd, fun z => ?_⟩ | refine ⟨mkL (ml ms[i]).d, encmk _, ?_⟩ | refine fun (cap2 : Nat) (k2 : r.length + 1 ≤ cap2) => ?_ | refine ⟨⟨i + 1, cap2, r ++ [mkM (ml ms[i]) z], hi', by rw [List.length_append]; exact k2, hst hi' he z⟩, ⟨show ms.length - (i + 1) < ms.length - i by omega, trivial⟩, ?_⟩ | exact congrArg (fun l => (r ++ l).length) (castM (mkM (ml ms[i]) z)).symm | exact congrArg (fun l => List.map EM.enc (r ++ l)) (castM (mkM (ml ms[i]) z)).symm | exact trivial | refine And.intro ?_ ?_ | with_reducible refine bif_dt (by assumption) ?_ | with_reducible refine bif_df (by assumption) ?_ | with_reducible refine bif_dec (fun _ => ?_) (fun _ => ?_) | with_reducible refine bif_not ?_ | with_reducible refine bif_and ?_ | with_reducible refine bif_or ?_ | with_reducible refine bif_t (by assumption) ?_ | with_reducible refine bif_f (by assumption) ?_ | with_reducible refine bif_t (beq_self_eq_true _) ?_ | with_reducible refine bif_b (fun _ => ?_) (fun _ => ?_) | with_reducible refine ⟨_, Eq.refl (List.map _ _), ?_⟩ | (with_reducible refine Exists.intro (by omega) ?_) | rfl | (intro h0; omega) | omega
  · have hil : i = ms.length := by omega
    subst hil
    rw [List.take_length] at he
    have a0 : Abs.own (P ++ []) = Abs.own P := by rw [List.append_nil]
    refine ⟨⟨A, cap, r, hc, he, 0, 0, [], Nat.zero_le _, Nat.le_refl _, rfl, fun _ h => by cases h⟩, ?_, ?_⟩
    ·
      repeat' first | exact a0 | exact fun x _ => Enc.pures EM x | exact fun x _ => Enc.pures ER x | exact trivial | refine And.intro ?_ ?_ | with_reducible refine bif_dt (by assumption) ?_ | with_reducible refine bif_df (by assumption) ?_ | with_reducible refine bif_dec (fun _ => ?_) (fun _ => ?_) | with_reducible refine bif_not ?_ | with_reducible refine bif_and ?_ | with_reducible refine bif_or ?_ | with_reducible refine bif_t (by assumption) ?_ | with_reducible refine bif_f (by assumption) ?_ | with_reducible refine bif_t (beq_self_eq_true _) ?_ | with_reducible refine bif_b (fun _ => ?_) (fun _ => ?_) | with_reducible refine ⟨_, Eq.refl (List.map _ _), ?_⟩ | (with_reducible refine Exists.intro (by omega) ?_) | rfl | (intro h0; omega) | omega
    clear hi hc he g1
    rintro ⟨A, cap, r, hc, he, i, cap2, N, hi, hc2, he2, hN⟩ -
    dsimp only
    refine bif_dec (fun g1 => ?_) (fun g1 => ?_)
    · have hi' : i < bs.length := by omega
      have hr := congrArg List.length he2
      rw [List.length_map, List.length_map, List.length_take] at hr
      have hw : IntKind.i64.wrap ((i : Int) + 1) = ((i + 1 : Nat) : Int) := by rw [wrap64 (by omega) (by omega)]; rfl
      have hlR : (N.map rawR).length = i := by rw [List.length_map]; omega
      simp only [Int.toNat_natCast, hw]
      have hd := h4 _ (List.getElem_mem hi')
      have he3 : ∀ o : PlT (bl bs[i]), (N ++ [(o.x, bl bs[i])]).map (·.2) = (bs.take (i + 1)).map bl := fun o => by
        rw [List.map_append, he2, List.take_add_one, List.getElem?_eq_getElem hi', List.map_append]
        rfl
      have hN3 : ∀ o : PlT (bl bs[i]), ∀ e ∈ N ++ [(o.x, bl bs[i])], okE e := fun o e he => by
        rcases List.mem_append.1 he with he | he
        · exact hN e he
        · rcases List.mem_singleton.1 he with rfl
          exact o.h
      have hap : ∀ o : PlT (bl bs[i]), Abs.own (P ++ (N ++ [(o.x, bl bs[i])])) = Abs.own (P ++ N ++ [(o.x, bl bs[i])]) := fun o => by rw [List.append_assoc]
      have hcR : ∀ o : PlT (bl bs[i]), castL (encRec [.sl 0 []]) ER (List.take 1 (List.drop 0 [(encRec [.sl 0 []]).of (rawR (o.x, bl bs[i]))])) = [rawR (o.x, bl bs[i])] := fun o => castL_self _ _ rfl
      have hm1 : ∀ o : PlT (bl bs[i]), (N ++ [(o.x, bl bs[i])]).map rawR = N.map rawR ++ [rawR (o.x, bl bs[i])] := fun o => by rw [List.map_append]; rfl
      repeat' first | exact fun x _ => Enc.pures EM x | exact fun x _ => Enc.pures ER x | refine ⟨bl bs[i], (b1_enc _).symm, hd, fun o => ?_⟩ | refine ⟨List.replicate (bl bs[i]).length (), rfl, ?_⟩ | refine fun (cap3 : Nat) (k3 : (N.map rawR).length + 1 ≤ cap3) => ?_ | refine ⟨⟨o.A, cap, r, hc, he, i + 1, cap3, N ++ [(o.x, bl bs[i])], hi', by rw [List.length_append, ← List.length_map rawR]; exact k3, he3 o, hN3 o⟩, ⟨show bs.length - (i + 1) < bs.length - i by omega, trivial⟩, ?_⟩ | exact hap o | exact (congrArg List.length (hm1 o)).trans (congrArg (fun l => (N.map rawR ++ l).length) (hcR o)).symm | exact (congrArg (List.map ER.enc) (hm1 o)).trans (congrArg (fun l => List.map ER.enc (N.map rawR ++ l)) (hcR o)).symm | exact trivial | refine And.intro ?_ ?_ | with_reducible refine bif_dt (by assumption) ?_ | with_reducible refine bif_df (by assumption) ?_ | with_reducible refine bif_dec (fun _ => ?_) (fun _ => ?_) | with_reducible refine bif_not ?_ | with_reducible refine bif_and ?_ | with_reducible refine bif_or ?_ | with_reducible refine bif_t (by assumption) ?_ | with_reducible refine bif_f (by assumption) ?_ | with_reducible refine bif_t (beq_self_eq_true _) ?_ | with_reducible refine bif_b (fun _ => ?_) (fun _ => ?_) | with_reducible refine ⟨_, Eq.refl (List.map _ _), ?_⟩ | (with_reducible refine Exists.intro (by omega) ?_) | rfl | (intro h0; omega) | omega
    · have hil : i = bs.length := by omega
      subst hil
      rw [List.take_length] at he2
      refine ⟨⟨A, r, cap, N, cap2, he, he2, hN, hc, hc2⟩, ?_⟩
      repeat' first | exact fun x _ => Enc.pures EM x | exact fun x _ => Enc.pures ER x | exact trivial | refine And.intro ?_ ?_ | with_reducible refine bif_dt (by assumption) ?_ | with_reducible refine bif_df (by assumption) ?_ | with_reducible refine bif_dec (fun _ => ?_) (fun _ => ?_) | with_reducible refine bif_not ?_ | with_reducible refine bif_and ?_ | with_reducible refine bif_or ?_ | with_reducible refine bif_t (by assumption) ?_ | with_reducible refine bif_f (by assumption) ?_ | with_reducible refine bif_t (beq_self_eq_true _) ?_ | with_reducible refine bif_b (fun _ => ?_) (fun _ => ?_) | with_reducible refine ⟨_, Eq.refl (List.map _ _), ?_⟩ | (with_reducible refine Exists.intro (by omega) ?_) | rfl | (intro h0; omega) | omega
def bcopiedPT : MT := fun ms n h K => match ms with
  | [.agg [.view vx0 ve0 en0 vl0, .view vx1 ve1 en1 vl1]] => (match get h 0 with
    | some (.obj A [] (.own P)) => bif Nat.beq ve0 9 && Nat.beq ve1 1 && noDup [0] then ∃ ms : List (MTy), vl0.map en0 = ms.map EM.enc ∧ ∃ bs : List (BTy), vl1.map en1 = bs.map EBl.enc ∧ ((ms.length ≤ 1000 ∧ bs.length ≤ 1000 ∧ (∀ m ∈ ms, (ml m).d.length ≤ 100000000) ∧ ∀ b ∈ bs, (bl b).length ≤ 100000000)) ∧ (∀ o : KpT ms bs, K (n + 2) (.agg [.nslc n 9 o.ms'.length o.c1, .nslc (n + 1) 1 (o.N.map rawR).length o.c2]) ([(0, pool o.A (P ++ o.N)), (n, .row 9 EM o.ms' o.c1), (n + 1, .row 1 ER (o.N.map rawR) o.c2)] ++ delL [0] h)) else False
    | _ => False)
  | _ => False
theorem bcopiedP_mono : MMono bcopiedPT := by
  intro ms n h K K' hkk hk
  unfold bcopiedPT at hk ⊢
  split at hk
  · rename_i vx0 ve0 va0 en0 vl0 vx1 ve1 va1 en1 vl1
    split at hk
    · rename_i A P hg0
      try simp only [hg0]
      obtain ⟨hb, y0, z0, y1, z1, h1, h2⟩ := cond_false_elim hk
      rw [hb]
      exact ⟨y0, z0, y1, z1, h1, fun o => hkk _ _ _ (h2 o)⟩
    · exact hk.elim
  · exact hk.elim
theorem bcopiedP_ok : MOK Try.prog 39 bcopiedPT := by
  refine ⟨?_, bcopiedP_mono⟩
  intro ms n hB K hk
  unfold bcopiedPT at hk
  split at hk
  · rename_i vx0 ve0 va0 en0 vl0 vx1 ve1 va1 en1 vl1
    split at hk
    · rename_i A P hg0
      obtain ⟨hb, ms, he0, bs, he1, h, hk2⟩ := cond_false_elim hk
      clear hk
      simp only [Bool.and_eq_true] at hb
      obtain ⟨⟨hc0, hc1⟩, hnd⟩ := hb
      have hs0 := Nat.eq_of_beq_eq_true hc0
      subst hs0
      have hs1 := Nat.eq_of_beq_eq_true hc1
      subst hs1
      refine SCall.seen ?_ (.cons (.agg (.view he0 (.view he1 .nil))) .nil)
      exact (bcopiedP_spec _ _ A P h.1 h.2.1 h.2.2.1 h.2.2.2).use (fun j => match j with | 0 => 0 | _ => 0) rfl rfl ⟨by show (match get hB 0 with | some b0 => Blk.imp _ _ _ b0 | none => False); rw [hg0]; exact ⟨rfl, .inl ⟨rfl, rfl⟩, rfl⟩, rfl, trivial⟩ (by exact hnd) (fun j hj => by cases j with
          | zero => exact ⟨_, rfl⟩
          | succ j => omega) (fun o => hk2 o)
    · exact hk.elim
  · exact hk.elim

open Go Go.Sx

abbrev inP (A : List Nat) (P : List (Value × List Int)) (L : List KTy) (cp : Nat) (ms : List MTy) (bs : List BTy) (q : Int) : Bs :=
  [(0, pool A P), (1, .cells [.nslc 4 2 L.length cp, .ch 2, .ch 3, .v (.int .u64 q)]), (2, .chan 8 true EM ms), (3, .chan 8 false EBl bs), (4, .row 2 EK L cp)]
structure KbT (b : Blo) where
  A : List Nat
  ms : List MTy
  c1 : Nat
  N : List (Value × List Int)
  c2 : Nat
  hm : ms.map ml = b.1
  hb : N.map (·.2) = b.2
  hN : ∀ e ∈ N, okE e
  h1 : ms.length ≤ c1
  h2 : N.length ≤ c2
theorem blockP_spec (n : Int) {x : IB} (i : IBT x) (A : List Nat) (P : List (Value × List Int)) (h : ∀ b ∈ x.L, okB b) (hl : x.L.length ≤ 4096) (hb : blockB x.L n = true) : SMem Try.prog 27 [.one (.ptr 1 0), int n] 5 (inP A P i.L i.cp i.ms i.bs x.N)
    (fun o : KbT (blockF x.L n) => ⟨7, .tup [.agg [.nslc 5 9 o.ms.length o.c1, .nslc 6 1 (o.N.map rawR).length o.c2], bool true], inP o.A (P ++ o.N) i.L i.cp i.ms i.bs x.N ++ [(5, .row 9 EM o.ms o.c1), (6, .row 1 ER (o.N.map rawR) o.c2)]⟩) := by
  refine SMem.inm [] SOK.nil [(39, bcopiedPT)] (MSOK.cons bcopiedP_ok MSOK.nil) tokR mixed [(31, ⟨Try.f31, true, [], []⟩)] (IOK.cons Try.func31 Try.call31 IOK.nil) true [] [] Try.call27 Try.func27 rfl (by rfl) ?_
  refine Eq.mp (α := (@Bool.rec (fun _ => Prop) (@Bool.rec (fun _ => Prop) (And ((0 : Int) ≤ IntKind.wrap IntKind.i64 (n - (1 : Int))) (And (Int.toNat (IntKind.wrap IntKind.i64 (n - (1 : Int))) < List.length (IBT.L i)) (∃ hi : Int.toNat (IntKind.wrap IntKind.i64 (n - (1 : Int))) < List.length (IBT.L i), (∃ ms : List MTy, (And (List.map (RK.svs._f [RK.int IntKind.u64, RK.int IntKind.u64, RK.int IntKind.u64, RK.ints IntKind.u64 (4 : Nat), RK.int IntKind.u64, RK.sl (1 : Nat) [RK.int IntKind.u8]] ⟨⟨RK.sv._f (RK.int IntKind.u64) PUnit.unit, PUnit.unit⟩, RK.svs._f [RK.int IntKind.u64, RK.int IntKind.u64, RK.ints IntKind.u64 (4 : Nat), RK.int IntKind.u64, RK.sl (1 : Nat) [RK.int IntKind.u8]] ⟨⟨RK.sv._f (RK.int IntKind.u64) PUnit.unit, PUnit.unit⟩, RK.svs._f [RK.int IntKind.u64, RK.ints IntKind.u64 (4 : Nat), RK.int IntKind.u64, RK.sl (1 : Nat) [RK.int IntKind.u8]] ⟨⟨RK.sv._f (RK.int IntKind.u64) PUnit.unit, PUnit.unit⟩, RK.svs._f [RK.ints IntKind.u64 (4 : Nat), RK.int IntKind.u64, RK.sl (1 : Nat) [RK.int IntKind.u8]] ⟨⟨RK.sv._f (RK.ints IntKind.u64 (4 : Nat)) PUnit.unit, PUnit.unit⟩, RK.svs._f [RK.int IntKind.u64, RK.sl (1 : Nat) [RK.int IntKind.u8]] ⟨⟨RK.sv._f (RK.int IntKind.u64) PUnit.unit, PUnit.unit⟩, RK.svs._f [RK.sl (1 : Nat) [RK.int IntKind.u8]] ⟨⟨RK.sv._f (RK.sl (1 : Nat) [RK.int IntKind.u8]) ⟨RK.svs._f [RK.int IntKind.u8] ⟨⟨RK.sv._f (RK.int IntKind.u8) PUnit.unit, PUnit.unit⟩, RK.svs._f [] PUnit.unit, PUnit.unit⟩, ⟨RK.sv._f (RK.int IntKind.u8) PUnit.unit, PUnit.unit⟩, RK.svs._f [] PUnit.unit, PUnit.unit⟩, RK.svs._f [RK.int IntKind.u8] ⟨⟨RK.sv._f (RK.int IntKind.u8) PUnit.unit, PUnit.unit⟩, RK.svs._f [] PUnit.unit, PUnit.unit⟩, ⟨RK.sv._f (RK.int IntKind.u8) PUnit.unit, PUnit.unit⟩, RK.svs._f [] PUnit.unit, PUnit.unit⟩, RK.svs._f [] PUnit.unit, PUnit.unit⟩, ⟨RK.sv._f (RK.sl (1 : Nat) [RK.int IntKind.u8]) ⟨RK.svs._f [RK.int IntKind.u8] ⟨⟨RK.sv._f (RK.int IntKind.u8) PUnit.unit, PUnit.unit⟩, RK.svs._f [] PUnit.unit, PUnit.unit⟩, ⟨RK.sv._f (RK.int IntKind.u8) PUnit.unit, PUnit.unit⟩, RK.svs._f [] PUnit.unit, PUnit.unit⟩, RK.svs._f [RK.int IntKind.u8] ⟨⟨RK.sv._f (RK.int IntKind.u8) PUnit.unit, PUnit.unit⟩, RK.svs._f [] PUnit.unit, PUnit.unit⟩, ⟨RK.sv._f (RK.int IntKind.u8) PUnit.unit, PUnit.unit⟩, RK.svs._f [] PUnit.unit, PUnit.unit⟩, RK.svs._f [] PUnit.unit, PUnit.unit⟩, ⟨RK.sv._f (RK.int IntKind.u64) PUnit.unit, PUnit.unit⟩, RK.svs._f [RK.sl (1 : Nat) [RK.int IntKind.u8]] ⟨⟨RK.sv._f (RK.sl (1 : Nat) [RK.int IntKind.u8]) ⟨RK.svs._f [RK.int IntKind.u8] ⟨⟨RK.sv._f (RK.int IntKind.u8) PUnit.unit, PUnit.unit⟩, RK.svs._f [] PUnit.unit, PUnit.unit⟩, ⟨RK.sv._f (RK.int IntKind.u8) PUnit.unit, PUnit.unit⟩, RK.svs._f [] PUnit.unit, PUnit.unit⟩, RK.svs._f [RK.int IntKind.u8] ⟨⟨RK.sv._f (RK.int IntKind.u8) PUnit.unit, PUnit.unit⟩, RK.svs._f [] PUnit.unit, PUnit.unit⟩, ⟨RK.sv._f (RK.int IntKind.u8) PUnit.unit, PUnit.unit⟩, RK.svs._f [] PUnit.unit, PUnit.unit⟩, RK.svs._f [] PUnit.unit, PUnit.unit⟩, ⟨RK.sv._f (RK.sl (1 : Nat) [RK.int IntKind.u8]) ⟨RK.svs._f [RK.int IntKind.u8] ⟨⟨RK.sv._f (RK.int IntKind.u8) PUnit.unit, PUnit.unit⟩, RK.svs._f [] PUnit.unit, PUnit.unit⟩, ⟨RK.sv._f (RK.int IntKind.u8) PUnit.unit, PUnit.unit⟩, RK.svs._f [] PUnit.unit, PUnit.unit⟩, RK.svs._f [RK.int IntKind.u8] ⟨⟨RK.sv._f (RK.int IntKind.u8) PUnit.unit, PUnit.unit⟩, RK.svs._f [] PUnit.unit, PUnit.unit⟩, ⟨RK.sv._f (RK.int IntKind.u8) PUnit.unit, PUnit.unit⟩, RK.svs._f [] PUnit.unit, PUnit.unit⟩, RK.svs._f [] PUnit.unit, PUnit.unit⟩, ⟨RK.sv._f (RK.ints IntKind.u64 (4 : Nat)) PUnit.unit, PUnit.unit⟩, RK.svs._f [RK.int IntKind.u64, RK.sl (1 : Nat) [RK.int IntKind.u8]] ⟨⟨RK.sv._f (RK.int IntKind.u64) PUnit.unit, PUnit.unit⟩, RK.svs._f [RK.sl (1 : Nat) [RK.int IntKind.u8]] ⟨⟨RK.sv._f (RK.sl (1 : Nat) [RK.int IntKind.u8]) ⟨RK.svs._f [RK.int IntKind.u8] ⟨⟨RK.sv._f (RK.int IntKind.u8) PUnit.unit, PUnit.unit⟩, RK.svs._f [] PUnit.unit, PUnit.unit⟩, ⟨RK.sv._f (RK.int IntKind.u8) PUnit.unit, PUnit.unit⟩, RK.svs._f [] PUnit.unit, PUnit.unit⟩, RK.svs._f [RK.int IntKind.u8] ⟨⟨RK.sv._f (RK.int IntKind.u8) PUnit.unit, PUnit.unit⟩, RK.svs._f [] PUnit.unit, PUnit.unit⟩, ⟨RK.sv._f (RK.int IntKind.u8) PUnit.unit, PUnit.unit⟩, RK.svs._f [] PUnit.unit, PUnit.unit⟩, RK.svs._f [] PUnit.unit, PUnit.unit⟩, ⟨RK.sv._f (RK.sl (1 : Nat) [RK.int IntKind.u8]) ⟨RK.svs._f [RK.int IntKind.u8] ⟨⟨RK.sv._f (RK.int IntKind.u8) PUnit.unit, PUnit.unit⟩, RK.svs._f [] PUnit.unit, PUnit.unit⟩, ⟨RK.sv._f (RK.int IntKind.u8) PUnit.unit, PUnit.unit⟩, RK.svs._f [] PUnit.unit, PUnit.unit⟩, RK.svs._f [RK.int IntKind.u8] ⟨⟨RK.sv._f (RK.int IntKind.u8) PUnit.unit, PUnit.unit⟩, RK.svs._f [] PUnit.unit, PUnit.unit⟩, ⟨RK.sv._f (RK.int IntKind.u8) PUnit.unit, PUnit.unit⟩, RK.svs._f [] PUnit.unit, PUnit.unit⟩, RK.svs._f [] PUnit.unit, PUnit.unit⟩, ⟨RK.sv._f (RK.int IntKind.u64) PUnit.unit, PUnit.unit⟩, RK.svs._f [RK.sl (1 : Nat) [RK.int IntKind.u8]] ⟨⟨RK.sv._f (RK.sl (1 : Nat) [RK.int IntKind.u8]) ⟨RK.svs._f [RK.int IntKind.u8] ⟨⟨RK.sv._f (RK.int IntKind.u8) PUnit.unit, PUnit.unit⟩, RK.svs._f [] PUnit.unit, PUnit.unit⟩, ⟨RK.sv._f (RK.int IntKind.u8) PUnit.unit, PUnit.unit⟩, RK.svs._f [] PUnit.unit, PUnit.unit⟩, RK.svs._f [RK.int IntKind.u8] ⟨⟨RK.sv._f (RK.int IntKind.u8) PUnit.unit, PUnit.unit⟩, RK.svs._f [] PUnit.unit, PUnit.unit⟩, ⟨RK.sv._f (RK.int IntKind.u8) PUnit.unit, PUnit.unit⟩, RK.svs._f [] PUnit.unit, PUnit.unit⟩, RK.svs._f [] PUnit.unit, PUnit.unit⟩, ⟨RK.sv._f (RK.sl (1 : Nat) [RK.int IntKind.u8]) ⟨RK.svs._f [RK.int IntKind.u8] ⟨⟨RK.sv._f (RK.int IntKind.u8) PUnit.unit, PUnit.unit⟩, RK.svs._f [] PUnit.unit, PUnit.unit⟩, ⟨RK.sv._f (RK.int IntKind.u8) PUnit.unit, PUnit.unit⟩, RK.svs._f [] PUnit.unit, PUnit.unit⟩, RK.svs._f [RK.int IntKind.u8] ⟨⟨RK.sv._f (RK.int IntKind.u8) PUnit.unit, PUnit.unit⟩, RK.svs._f [] PUnit.unit, PUnit.unit⟩, ⟨RK.sv._f (RK.int IntKind.u8) PUnit.unit, PUnit.unit⟩, RK.svs._f [] PUnit.unit, PUnit.unit⟩, RK.svs._f [] PUnit.unit, PUnit.unit⟩, ⟨RK.sv._f (RK.int IntKind.u64) PUnit.unit, PUnit.unit⟩, RK.svs._f [RK.ints IntKind.u64 (4 : Nat), RK.int IntKind.u64, RK.sl (1 : Nat) [RK.int IntKind.u8]] ⟨⟨RK.sv._f (RK.ints IntKind.u64 (4 : Nat)) PUnit.unit, PUnit.unit⟩, RK.svs._f [RK.int IntKind.u64, RK.sl (1 : Nat) [RK.int IntKind.u8]] ⟨⟨RK.sv._f (RK.int IntKind.u64) PUnit.unit, PUnit.unit⟩, RK.svs._f [RK.sl (1 : Nat) [RK.int IntKind.u8]] ⟨⟨RK.sv._f (RK.sl (1 : Nat) [RK.int IntKind.u8]) ⟨RK.svs._f [RK.int IntKind.u8] ⟨⟨RK.sv._f (RK.int IntKind.u8) PUnit.unit, PUnit.unit⟩, RK.svs._f [] PUnit.unit, PUnit.unit⟩, ⟨RK.sv._f (RK.int IntKind.u8) PUnit.unit, PUnit.unit⟩, RK.svs._f [] PUnit.unit, PUnit.unit⟩, RK.svs._f [RK.int IntKind.u8] ⟨⟨RK.sv._f (RK.int IntKind.u8) PUnit.unit, PUnit.unit⟩, RK.svs._f [] PUnit.unit, PUnit.unit⟩, ⟨RK.sv._f (RK.int IntKind.u8) PUnit.unit, PUnit.unit⟩, RK.svs._f [] PUnit.unit, PUnit.unit⟩, RK.svs._f [] PUnit.unit, PUnit.unit⟩, ⟨RK.sv._f (RK.sl (1 : Nat) [RK.int IntKind.u8]) ⟨RK.svs._f [RK.int IntKind.u8] ⟨⟨RK.sv._f (RK.int IntKind.u8) PUnit.unit, PUnit.unit⟩, RK.svs._f [] PUnit.unit, PUnit.unit⟩, ⟨RK.sv._f (RK.int IntKind.u8) PUnit.unit, PUnit.unit⟩, RK.svs._f [] PUnit.unit, PUnit.unit⟩, RK.svs._f [RK.int IntKind.u8] ⟨⟨RK.sv._f (RK.int IntKind.u8) PUnit.unit, PUnit.unit⟩, RK.svs._f [] PUnit.unit, PUnit.unit⟩, ⟨RK.sv._f (RK.int IntKind.u8) PUnit.unit, PUnit.unit⟩, RK.svs._f [] PUnit.unit, PUnit.unit⟩, RK.svs._f [] PUnit.unit, PUnit.unit⟩, ⟨RK.sv._f (RK.int IntKind.u64) PUnit.unit, PUnit.unit⟩, RK.svs._f [RK.sl (1 : Nat) [RK.int IntKind.u8]] ⟨⟨RK.sv._f (RK.sl (1 : Nat) [RK.int IntKind.u8]) ⟨RK.svs._f [RK.int IntKind.u8] ⟨⟨RK.sv._f (RK.int IntKind.u8) PUnit.unit, PUnit.unit⟩, RK.svs._f [] PUnit.unit, PUnit.unit⟩, ⟨RK.sv._f (RK.int IntKind.u8) PUnit.unit, PUnit.unit⟩, RK.svs._f [] PUnit.unit, PUnit.unit⟩, RK.svs._f [RK.int IntKind.u8] ⟨⟨RK.sv._f (RK.int IntKind.u8) PUnit.unit, PUnit.unit⟩, RK.svs._f [] PUnit.unit, PUnit.unit⟩, ⟨RK.sv._f (RK.int IntKind.u8) PUnit.unit, PUnit.unit⟩, RK.svs._f [] PUnit.unit, PUnit.unit⟩, RK.svs._f [] PUnit.unit, PUnit.unit⟩, ⟨RK.sv._f (RK.sl (1 : Nat) [RK.int IntKind.u8]) ⟨RK.svs._f [RK.int IntKind.u8] ⟨⟨RK.sv._f (RK.int IntKind.u8) PUnit.unit, PUnit.unit⟩, RK.svs._f [] PUnit.unit, PUnit.unit⟩, ⟨RK.sv._f (RK.int IntKind.u8) PUnit.unit, PUnit.unit⟩, RK.svs._f [] PUnit.unit, PUnit.unit⟩, RK.svs._f [RK.int IntKind.u8] ⟨⟨RK.sv._f (RK.int IntKind.u8) PUnit.unit, PUnit.unit⟩, RK.svs._f [] PUnit.unit, PUnit.unit⟩, ⟨RK.sv._f (RK.int IntKind.u8) PUnit.unit, PUnit.unit⟩, RK.svs._f [] PUnit.unit, PUnit.unit⟩, RK.svs._f [] PUnit.unit, PUnit.unit⟩, ⟨RK.sv._f (RK.ints IntKind.u64 (4 : Nat)) PUnit.unit, PUnit.unit⟩, RK.svs._f [RK.int IntKind.u64, RK.sl (1 : Nat) [RK.int IntKind.u8]] ⟨⟨RK.sv._f (RK.int IntKind.u64) PUnit.unit, PUnit.unit⟩, RK.svs._f [RK.sl (1 : Nat) [RK.int IntKind.u8]] ⟨⟨RK.sv._f (RK.sl (1 : Nat) [RK.int IntKind.u8]) ⟨RK.svs._f [RK.int IntKind.u8] ⟨⟨RK.sv._f (RK.int IntKind.u8) PUnit.unit, PUnit.unit⟩, RK.svs._f [] PUnit.unit, PUnit.unit⟩, ⟨RK.sv._f (RK.int IntKind.u8) PUnit.unit, PUnit.unit⟩, RK.svs._f [] PUnit.unit, PUnit.unit⟩, RK.svs._f [RK.int IntKind.u8] ⟨⟨RK.sv._f (RK.int IntKind.u8) PUnit.unit, PUnit.unit⟩, RK.svs._f [] PUnit.unit, PUnit.unit⟩, ⟨RK.sv._f (RK.int IntKind.u8) PUnit.unit, PUnit.unit⟩, RK.svs._f [] PUnit.unit, PUnit.unit⟩, RK.svs._f [] PUnit.unit, PUnit.unit⟩, ⟨RK.sv._f (RK.sl (1 : Nat) [RK.int IntKind.u8]) ⟨RK.svs._f [RK.int IntKind.u8] ⟨⟨RK.sv._f (RK.int IntKind.u8) PUnit.unit, PUnit.unit⟩, RK.svs._f [] PUnit.unit, PUnit.unit⟩, ⟨RK.sv._f (RK.int IntKind.u8) PUnit.unit, PUnit.unit⟩, RK.svs._f [] PUnit.unit, PUnit.unit⟩, RK.svs._f [RK.int IntKind.u8] ⟨⟨RK.sv._f (RK.int IntKind.u8) PUnit.unit, PUnit.unit⟩, RK.svs._f [] PUnit.unit, PUnit.unit⟩, ⟨RK.sv._f (RK.int IntKind.u8) PUnit.unit, PUnit.unit⟩, RK.svs._f [] PUnit.unit, PUnit.unit⟩, RK.svs._f [] PUnit.unit, PUnit.unit⟩, ⟨RK.sv._f (RK.int IntKind.u64) PUnit.unit, PUnit.unit⟩, RK.svs._f [RK.sl (1 : Nat) [RK.int IntKind.u8]] ⟨⟨RK.sv._f (RK.sl (1 : Nat) [RK.int IntKind.u8]) ⟨RK.svs._f [RK.int IntKind.u8] ⟨⟨RK.sv._f (RK.int IntKind.u8) PUnit.unit, PUnit.unit⟩, RK.svs._f [] PUnit.unit, PUnit.unit⟩, ⟨RK.sv._f (RK.int IntKind.u8) PUnit.unit, PUnit.unit⟩, RK.svs._f [] PUnit.unit, PUnit.unit⟩, RK.svs._f [RK.int IntKind.u8] ⟨⟨RK.sv._f (RK.int IntKind.u8) PUnit.unit, PUnit.unit⟩, RK.svs._f [] PUnit.unit, PUnit.unit⟩, ⟨RK.sv._f (RK.int IntKind.u8) PUnit.unit, PUnit.unit⟩, RK.svs._f [] PUnit.unit, PUnit.unit⟩, RK.svs._f [] PUnit.unit, PUnit.unit⟩, ⟨RK.sv._f (RK.sl (1 : Nat) [RK.int IntKind.u8]) ⟨RK.svs._f [RK.int IntKind.u8] ⟨⟨RK.sv._f (RK.int IntKind.u8) PUnit.unit, PUnit.unit⟩, RK.svs._f [] PUnit.unit, PUnit.unit⟩, ⟨RK.sv._f (RK.int IntKind.u8) PUnit.unit, PUnit.unit⟩, RK.svs._f [] PUnit.unit, PUnit.unit⟩, RK.svs._f [RK.int IntKind.u8] ⟨⟨RK.sv._f (RK.int IntKind.u8) PUnit.unit, PUnit.unit⟩, RK.svs._f [] PUnit.unit, PUnit.unit⟩, ⟨RK.sv._f (RK.int IntKind.u8) PUnit.unit, PUnit.unit⟩, RK.svs._f [] PUnit.unit, PUnit.unit⟩, RK.svs._f [] PUnit.unit, PUnit.unit⟩, ⟨RK.sv._f (RK.int IntKind.u64) PUnit.unit, PUnit.unit⟩, RK.svs._f [RK.int IntKind.u64, RK.ints IntKind.u64 (4 : Nat), RK.int IntKind.u64, RK.sl (1 : Nat) [RK.int IntKind.u8]] ⟨⟨RK.sv._f (RK.int IntKind.u64) PUnit.unit, PUnit.unit⟩, RK.svs._f [RK.ints IntKind.u64 (4 : Nat), RK.int IntKind.u64, RK.sl (1 : Nat) [RK.int IntKind.u8]] ⟨⟨RK.sv._f (RK.ints IntKind.u64 (4 : Nat)) PUnit.unit, PUnit.unit⟩, RK.svs._f [RK.int IntKind.u64, RK.sl (1 : Nat) [RK.int IntKind.u8]] ⟨⟨RK.sv._f (RK.int IntKind.u64) PUnit.unit, PUnit.unit⟩, RK.svs._f [RK.sl (1 : Nat) [RK.int IntKind.u8]] ⟨⟨RK.sv._f (RK.sl (1 : Nat) [RK.int IntKind.u8]) ⟨RK.svs._f [RK.int IntKind.u8] ⟨⟨RK.sv._f (RK.int IntKind.u8) PUnit.unit, PUnit.unit⟩, RK.svs._f [] PUnit.unit, PUnit.unit⟩, ⟨RK.sv._f (RK.int IntKind.u8) PUnit.unit, PUnit.unit⟩, RK.svs._f [] PUnit.unit, PUnit.unit⟩, RK.svs._f [RK.int IntKind.u8] ⟨⟨RK.sv._f (RK.int IntKind.u8) PUnit.unit, PUnit.unit⟩, RK.svs._f [] PUnit.unit, PUnit.unit⟩, ⟨RK.sv._f (RK.int IntKind.u8) PUnit.unit, PUnit.unit⟩, RK.svs._f [] PUnit.unit, PUnit.unit⟩, RK.svs._f [] PUnit.unit, PUnit.unit⟩, ⟨RK.sv._f (RK.sl (1 : Nat) [RK.int IntKind.u8]) ⟨RK.svs._f [RK.int IntKind.u8] ⟨⟨RK.sv._f (RK.int IntKind.u8) PUnit.unit, PUnit.unit⟩, RK.svs._f [] PUnit.unit, PUnit.unit⟩, ⟨RK.sv._f (RK.int IntKind.u8) PUnit.unit, PUnit.unit⟩, RK.svs._f [] PUnit.unit, PUnit.unit⟩, RK.svs._f [RK.int IntKind.u8] ⟨⟨RK.sv._f (RK.int IntKind.u8) PUnit.unit, PUnit.unit⟩, RK.svs._f [] PUnit.unit, PUnit.unit⟩, ⟨RK.sv._f (RK.int IntKind.u8) PUnit.unit, PUnit.unit⟩, RK.svs._f [] PUnit.unit, PUnit.unit⟩, RK.svs._f [] PUnit.unit, PUnit.unit⟩, ⟨RK.sv._f (RK.int IntKind.u64) PUnit.unit, PUnit.unit⟩, RK.svs._f [RK.sl (1 : Nat) [RK.int IntKind.u8]] ⟨⟨RK.sv._f (RK.sl (1 : Nat) [RK.int IntKind.u8]) ⟨RK.svs._f [RK.int IntKind.u8] ⟨⟨RK.sv._f (RK.int IntKind.u8) PUnit.unit, PUnit.unit⟩, RK.svs._f [] PUnit.unit, PUnit.unit⟩, ⟨RK.sv._f (RK.int IntKind.u8) PUnit.unit, PUnit.unit⟩, RK.svs._f [] PUnit.unit, PUnit.unit⟩, RK.svs._f [RK.int IntKind.u8] ⟨⟨RK.sv._f (RK.int IntKind.u8) PUnit.unit, PUnit.unit⟩, RK.svs._f [] PUnit.unit, PUnit.unit⟩, ⟨RK.sv._f (RK.int IntKind.u8) PUnit.unit, PUnit.unit⟩, RK.svs._f [] PUnit.unit, PUnit.unit⟩, RK.svs._f [] PUnit.unit, PUnit.unit⟩, ⟨RK.sv._f (RK.sl (1 : Nat) [RK.int IntKind.u8]) ⟨RK.svs._f [RK.int IntKind.u8] ⟨⟨RK.sv._f (RK.int IntKind.u8) PUnit.unit, PUnit.unit⟩, RK.svs._f [] PUnit.unit, PUnit.unit⟩, ⟨RK.sv._f (RK.int IntKind.u8) PUnit.unit, PUnit.unit⟩, RK.svs._f [] PUnit.unit, PUnit.unit⟩, RK.svs._f [RK.int IntKind.u8] ⟨⟨RK.sv._f (RK.int IntKind.u8) PUnit.unit, PUnit.unit⟩, RK.svs._f [] PUnit.unit, PUnit.unit⟩, ⟨RK.sv._f (RK.int IntKind.u8) PUnit.unit, PUnit.unit⟩, RK.svs._f [] PUnit.unit, PUnit.unit⟩, RK.svs._f [] PUnit.unit, PUnit.unit⟩, ⟨RK.sv._f (RK.ints IntKind.u64 (4 : Nat)) PUnit.unit, PUnit.unit⟩, RK.svs._f [RK.int IntKind.u64, RK.sl (1 : Nat) [RK.int IntKind.u8]] ⟨⟨RK.sv._f (RK.int IntKind.u64) PUnit.unit, PUnit.unit⟩, RK.svs._f [RK.sl (1 : Nat) [RK.int IntKind.u8]] ⟨⟨RK.sv._f (RK.sl (1 : Nat) [RK.int IntKind.u8]) ⟨RK.svs._f [RK.int IntKind.u8] ⟨⟨RK.sv._f (RK.int IntKind.u8) PUnit.unit, PUnit.unit⟩, RK.svs._f [] PUnit.unit, PUnit.unit⟩, ⟨RK.sv._f (RK.int IntKind.u8) PUnit.unit, PUnit.unit⟩, RK.svs._f [] PUnit.unit, PUnit.unit⟩, RK.svs._f [RK.int IntKind.u8] ⟨⟨RK.sv._f (RK.int IntKind.u8) PUnit.unit, PUnit.unit⟩, RK.svs._f [] PUnit.unit, PUnit.unit⟩, ⟨RK.sv._f (RK.int IntKind.u8) PUnit.unit, PUnit.unit⟩, RK.svs._f [] PUnit.unit, PUnit.unit⟩, RK.svs._f [] PUnit.unit, PUnit.unit⟩, ⟨RK.sv._f (RK.sl (1 : Nat) [RK.int IntKind.u8]) ⟨RK.svs._f [RK.int IntKind.u8] ⟨⟨RK.sv._f (RK.int IntKind.u8) PUnit.unit, PUnit.unit⟩, RK.svs._f [] PUnit.unit, PUnit.unit⟩, ⟨RK.sv._f (RK.int IntKind.u8) PUnit.unit, PUnit.unit⟩, RK.svs._f [] PUnit.unit, PUnit.unit⟩, RK.svs._f [RK.int IntKind.u8] ⟨⟨RK.sv._f (RK.int IntKind.u8) PUnit.unit, PUnit.unit⟩, RK.svs._f [] PUnit.unit, PUnit.unit⟩, ⟨RK.sv._f (RK.int IntKind.u8) PUnit.unit, PUnit.unit⟩, RK.svs._f [] PUnit.unit, PUnit.unit⟩, RK.svs._f [] PUnit.unit, PUnit.unit⟩, ⟨RK.sv._f (RK.int IntKind.u64) PUnit.unit, PUnit.unit⟩, RK.svs._f [RK.sl (1 : Nat) [RK.int IntKind.u8]] ⟨⟨RK.sv._f (RK.sl (1 : Nat) [RK.int IntKind.u8]) ⟨RK.svs._f [RK.int IntKind.u8] ⟨⟨RK.sv._f (RK.int IntKind.u8) PUnit.unit, PUnit.unit⟩, RK.svs._f [] PUnit.unit, PUnit.unit⟩, ⟨RK.sv._f (RK.int IntKind.u8) PUnit.unit, PUnit.unit⟩, RK.svs._f [] PUnit.unit, PUnit.unit⟩, RK.svs._f [RK.int IntKind.u8] ⟨⟨RK.sv._f (RK.int IntKind.u8) PUnit.unit, PUnit.unit⟩, RK.svs._f [] PUnit.unit, PUnit.unit⟩, ⟨RK.sv._f (RK.int IntKind.u8) PUnit.unit, PUnit.unit⟩, RK.svs._f [] PUnit.unit, PUnit.unit⟩, RK.svs._f [] PUnit.unit, PUnit.unit⟩, ⟨RK.sv._f (RK.sl (1 : Nat) [RK.int IntKind.u8]) ⟨RK.svs._f [RK.int IntKind.u8] ⟨⟨RK.sv._f (RK.int IntKind.u8) PUnit.unit, PUnit.unit⟩, RK.svs._f [] PUnit.unit, PUnit.unit⟩, ⟨RK.sv._f (RK.int IntKind.u8) PUnit.unit, PUnit.unit⟩, RK.svs._f [] PUnit.unit, PUnit.unit⟩, RK.svs._f [RK.int IntKind.u8] ⟨⟨RK.sv._f (RK.int IntKind.u8) PUnit.unit, PUnit.unit⟩, RK.svs._f [] PUnit.unit, PUnit.unit⟩, ⟨RK.sv._f (RK.int IntKind.u8) PUnit.unit, PUnit.unit⟩, RK.svs._f [] PUnit.unit, PUnit.unit⟩, RK.svs._f [] PUnit.unit, PUnit.unit⟩, ⟨RK.sv._f (RK.int IntKind.u64) PUnit.unit, PUnit.unit⟩, RK.svs._f [RK.ints IntKind.u64 (4 : Nat), RK.int IntKind.u64, RK.sl (1 : Nat) [RK.int IntKind.u8]] ⟨⟨RK.sv._f (RK.ints IntKind.u64 (4 : Nat)) PUnit.unit, PUnit.unit⟩, RK.svs._f [RK.int IntKind.u64, RK.sl (1 : Nat) [RK.int IntKind.u8]] ⟨⟨RK.sv._f (RK.int IntKind.u64) PUnit.unit, PUnit.unit⟩, RK.svs._f [RK.sl (1 : Nat) [RK.int IntKind.u8]] ⟨⟨RK.sv._f (RK.sl (1 : Nat) [RK.int IntKind.u8]) ⟨RK.svs._f [RK.int IntKind.u8] ⟨⟨RK.sv._f (RK.int IntKind.u8) PUnit.unit, PUnit.unit⟩, RK.svs._f [] PUnit.unit, PUnit.unit⟩, ⟨RK.sv._f (RK.int IntKind.u8) PUnit.unit, PUnit.unit⟩, RK.svs._f [] PUnit.unit, PUnit.unit⟩, RK.svs._f [RK.int IntKind.u8] ⟨⟨RK.sv._f (RK.int IntKind.u8) PUnit.unit, PUnit.unit⟩, RK.svs._f [] PUnit.unit, PUnit.unit⟩, ⟨RK.sv._f (RK.int IntKind.u8) PUnit.unit, PUnit.unit⟩, RK.svs._f [] PUnit.unit, PUnit.unit⟩, RK.svs._f [] PUnit.unit, PUnit.unit⟩, ⟨RK.sv._f (RK.sl (1 : Nat) [RK.int IntKind.u8]) ⟨RK.svs._f [RK.int IntKind.u8] ⟨⟨RK.sv._f (RK.int IntKind.u8) PUnit.unit, PUnit.unit⟩, RK.svs._f [] PUnit.unit, PUnit.unit⟩, ⟨RK.sv._f (RK.int IntKind.u8) PUnit.unit, PUnit.unit⟩, RK.svs._f [] PUnit.unit, PUnit.unit⟩, RK.svs._f [RK.int IntKind.u8] ⟨⟨RK.sv._f (RK.int IntKind.u8) PUnit.unit, PUnit.unit⟩, RK.svs._f [] PUnit.unit, PUnit.unit⟩, ⟨RK.sv._f (RK.int IntKind.u8) PUnit.unit, PUnit.unit⟩, RK.svs._f [] PUnit.unit, PUnit.unit⟩, RK.svs._f [] PUnit.unit, PUnit.unit⟩, ⟨RK.sv._f (RK.int IntKind.u64) PUnit.unit, PUnit.unit⟩, RK.svs._f [RK.sl (1 : Nat) [RK.int IntKind.u8]] ⟨⟨RK.sv._f (RK.sl (1 : Nat) [RK.int IntKind.u8]) ⟨RK.svs._f [RK.int IntKind.u8] ⟨⟨RK.sv._f (RK.int IntKind.u8) PUnit.unit, PUnit.unit⟩, RK.svs._f [] PUnit.unit, PUnit.unit⟩, ⟨RK.sv._f (RK.int IntKind.u8) PUnit.unit, PUnit.unit⟩, RK.svs._f [] PUnit.unit, PUnit.unit⟩, RK.svs._f [RK.int IntKind.u8] ⟨⟨RK.sv._f (RK.int IntKind.u8) PUnit.unit, PUnit.unit⟩, RK.svs._f [] PUnit.unit, PUnit.unit⟩, ⟨RK.sv._f (RK.int IntKind.u8) PUnit.unit, PUnit.unit⟩, RK.svs._f [] PUnit.unit, PUnit.unit⟩, RK.svs._f [] PUnit.unit, PUnit.unit⟩, ⟨RK.sv._f (RK.sl (1 : Nat) [RK.int IntKind.u8]) ⟨RK.svs._f [RK.int IntKind.u8] ⟨⟨RK.sv._f (RK.int IntKind.u8) PUnit.unit, PUnit.unit⟩, RK.svs._f [] PUnit.unit, PUnit.unit⟩, ⟨RK.sv._f (RK.int IntKind.u8) PUnit.unit, PUnit.unit⟩, RK.svs._f [] PUnit.unit, PUnit.unit⟩, RK.svs._f [RK.int IntKind.u8] ⟨⟨RK.sv._f (RK.int IntKind.u8) PUnit.unit, PUnit.unit⟩, RK.svs._f [] PUnit.unit, PUnit.unit⟩, ⟨RK.sv._f (RK.int IntKind.u8) PUnit.unit, PUnit.unit⟩, RK.svs._f [] PUnit.unit, PUnit.unit⟩, RK.svs._f [] PUnit.unit, PUnit.unit⟩, ⟨RK.sv._f (RK.ints IntKind.u64 (4 : Nat)) PUnit.unit, PUnit.unit⟩, RK.svs._f [RK.int IntKind.u64, RK.sl (1 : Nat) [RK.int IntKind.u8]] ⟨⟨RK.sv._f (RK.int IntKind.u64) PUnit.unit, PUnit.unit⟩, RK.svs._f [RK.sl (1 : Nat) [RK.int IntKind.u8]] ⟨⟨RK.sv._f (RK.sl (1 : Nat) [RK.int IntKind.u8]) ⟨RK.svs._f [RK.int IntKind.u8] ⟨⟨RK.sv._f (RK.int IntKind.u8) PUnit.unit, PUnit.unit⟩, RK.svs._f [] PUnit.unit, PUnit.unit⟩, ⟨RK.sv._f (RK.int IntKind.u8) PUnit.unit, PUnit.unit⟩, RK.svs._f [] PUnit.unit, PUnit.unit⟩, RK.svs._f [RK.int IntKind.u8] ⟨⟨RK.sv._f (RK.int IntKind.u8) PUnit.unit, PUnit.unit⟩, RK.svs._f [] PUnit.unit, PUnit.unit⟩, ⟨RK.sv._f (RK.int IntKind.u8) PUnit.unit, PUnit.unit⟩, RK.svs._f [] PUnit.unit, PUnit.unit⟩, RK.svs._f [] PUnit.unit, PUnit.unit⟩, ⟨RK.sv._f (RK.sl (1 : Nat) [RK.int IntKind.u8]) ⟨RK.svs._f [RK.int IntKind.u8] ⟨⟨RK.sv._f (RK.int IntKind.u8) PUnit.unit, PUnit.unit⟩, RK.svs._f [] PUnit.unit, PUnit.unit⟩, ⟨RK.sv._f (RK.int IntKind.u8) PUnit.unit, PUnit.unit⟩, RK.svs._f [] PUnit.unit, PUnit.unit⟩, RK.svs._f [RK.int IntKind.u8] ⟨⟨RK.sv._f (RK.int IntKind.u8) PUnit.unit, PUnit.unit⟩, RK.svs._f [] PUnit.unit, PUnit.unit⟩, ⟨RK.sv._f (RK.int IntKind.u8) PUnit.unit, PUnit.unit⟩, RK.svs._f [] PUnit.unit, PUnit.unit⟩, RK.svs._f [] PUnit.unit, PUnit.unit⟩, ⟨RK.sv._f (RK.int IntKind.u64) PUnit.unit, PUnit.unit⟩, RK.svs._f [RK.sl (1 : Nat) [RK.int IntKind.u8]] ⟨⟨RK.sv._f (RK.sl (1 : Nat) [RK.int IntKind.u8]) ⟨RK.svs._f [RK.int IntKind.u8] ⟨⟨RK.sv._f (RK.int IntKind.u8) PUnit.unit, PUnit.unit⟩, RK.svs._f [] PUnit.unit, PUnit.unit⟩, ⟨RK.sv._f (RK.int IntKind.u8) PUnit.unit, PUnit.unit⟩, RK.svs._f [] PUnit.unit, PUnit.unit⟩, RK.svs._f [RK.int IntKind.u8] ⟨⟨RK.sv._f (RK.int IntKind.u8) PUnit.unit, PUnit.unit⟩, RK.svs._f [] PUnit.unit, PUnit.unit⟩, ⟨RK.sv._f (RK.int IntKind.u8) PUnit.unit, PUnit.unit⟩, RK.svs._f [] PUnit.unit, PUnit.unit⟩, RK.svs._f [] PUnit.unit, PUnit.unit⟩, ⟨RK.sv._f (RK.sl (1 : Nat) [RK.int IntKind.u8]) ⟨RK.svs._f [RK.int IntKind.u8] ⟨⟨RK.sv._f (RK.int IntKind.u8) PUnit.unit, PUnit.unit⟩, RK.svs._f [] PUnit.unit, PUnit.unit⟩, ⟨RK.sv._f (RK.int IntKind.u8) PUnit.unit, PUnit.unit⟩, RK.svs._f [] PUnit.unit, PUnit.unit⟩, RK.svs._f [RK.int IntKind.u8] ⟨⟨RK.sv._f (RK.int IntKind.u8) PUnit.unit, PUnit.unit⟩, RK.svs._f [] PUnit.unit, PUnit.unit⟩, ⟨RK.sv._f (RK.int IntKind.u8) PUnit.unit, PUnit.unit⟩, RK.svs._f [] PUnit.unit, PUnit.unit⟩, RK.svs._f [] PUnit.unit, PUnit.unit⟩) (Prod.snd (Prod.fst (IBT.L i)[Int.toNat (IntKind.wrap IntKind.i64 (n - (1 : Int)))])) = List.map (Enc.enc EM) ms) (∃ bs : List BTy, (And (List.map (RK.svs._f [RK.sl (1 : Nat) [RK.int IntKind.u8]] ⟨⟨RK.sv._f (RK.sl (1 : Nat) [RK.int IntKind.u8]) ⟨RK.svs._f [RK.int IntKind.u8] ⟨⟨RK.sv._f (RK.int IntKind.u8) PUnit.unit, PUnit.unit⟩, RK.svs._f [] PUnit.unit, PUnit.unit⟩, ⟨RK.sv._f (RK.int IntKind.u8) PUnit.unit, PUnit.unit⟩, RK.svs._f [] PUnit.unit, PUnit.unit⟩, RK.svs._f [RK.int IntKind.u8] ⟨⟨RK.sv._f (RK.int IntKind.u8) PUnit.unit, PUnit.unit⟩, RK.svs._f [] PUnit.unit, PUnit.unit⟩, ⟨RK.sv._f (RK.int IntKind.u8) PUnit.unit, PUnit.unit⟩, RK.svs._f [] PUnit.unit, PUnit.unit⟩, RK.svs._f [] PUnit.unit, PUnit.unit⟩) (Prod.snd (Prod.fst (Prod.snd (IBT.L i)[Int.toNat (IntKind.wrap IntKind.i64 (n - (1 : Int)))]))) = List.map (Enc.enc EBl) bs) (And (And (List.length ms ≤ (1000 : Nat)) (And (List.length bs ≤ (1000 : Nat)) (And (∀ m : MTy, (∀ a : m ∈ ms, (List.length (Msg.d (ml m)) ≤ (100000000 : Nat)))) (∀ b : BTy, (∀ a : b ∈ bs, (List.length (bl b) ≤ (100000000 : Nat))))))) (∀ o : KpT ms bs, (∃ o_1 : KbT (blockF (IB.L x) n), (And (And (And (And (And ((true : Bool) = true) (And (List.length (KbT.ms o_1) = List.length (KpT.ms' o)) (KbT.c1 o_1 = KpT.c1 o))) (And (And ((true : Bool) = true) (And (List.length (List.map rawR (KbT.N o_1)) = List.length (List.map rawR (KpT.N o))) (KbT.c2 o_1 = KpT.c2 o))) True)) (And ((true : Bool) = true) True)) True) (And (And (And (KbT.A o_1 = KpT.A o) (And True (Abs.own (P ++ KbT.N o_1) = Abs.own (P ++ KpT.N o)))) (And ((true : Bool) = true) (And (And (And ((true : Bool) = true) (And (List.length (IBT.L i) = List.length (IBT.L i)) (IBT.cp i = IBT.cp i))) (And ((true : Bool) = true) (And ((true : Bool) = true) (And (IB.N x = IB.N x) True)))) (And ((true : Bool) = true) (And (And ((8 : Nat) = (8 : Nat)) (And ((true : Bool) = true) (List.map (Enc.enc EM) (IBT.ms i) = List.map (Enc.enc EM) (IBT.ms i)))) (And ((true : Bool) = true) (And (And ((8 : Nat) = (8 : Nat)) (And ((false : Bool) = false) (List.map (Enc.enc EBl) (IBT.bs i) = List.map (Enc.enc EBl) (IBT.bs i)))) (And ((true : Bool) = true) (And (And ((true : Bool) = true) (And (IBT.cp i = IBT.cp i) (And (List.map (Enc.enc EK) (IBT.L i) = List.map (Enc.enc EK) (IBT.L i)) (∀ x_1 : KTy, (∀ a : x_1 ∈ IBT.L i, (∀ s : SV, (∀ a_1 : s ∈ Enc.enc EK x_1, ((SV.isPure s : Bool) = (true))))))))) (And ((true : Bool) = true) (And (And ((true : Bool) = true) (And (KbT.c1 o_1 = KpT.c1 o) (And (List.map (Enc.enc EM) (KbT.ms o_1) = List.map (Enc.enc EM) (KpT.ms' o)) (∀ x_1 : MTy, (∀ a : x_1 ∈ KbT.ms o_1, (∀ s : SV, (∀ a_1 : s ∈ Enc.enc EM x_1, ((SV.isPure s : Bool) = (true))))))))) (And ((true : Bool) = true) (And (And ((true : Bool) = true) (And (KbT.c2 o_1 = KpT.c2 o) (And (List.map (Enc.enc ER) (List.map rawR (KbT.N o_1)) = List.map (Enc.enc ER) (List.map rawR (KpT.N o))) (∀ x_1 : RTy, (∀ a : x_1 ∈ List.map rawR (KbT.N o_1), (∀ s : SV, (∀ a_1 : s ∈ Enc.enc ER x_1, ((SV.isPure s : Bool) = (true))))))))) (And ((true : Bool) = true) True)))))))))))))) ((true : Bool) = true))))))))))))) (∃ o : KbT (blockF (IB.L x) n), (And (And (And (And False (And False True)) (And ((true : Bool) = (false)) True)) True) (And (And (And (KbT.A o = A) (And True (Abs.own (P ++ KbT.N o) = Abs.own P))) (And ((true : Bool) = true) (And (And (And ((true : Bool) = true) (And (List.length (IBT.L i) = List.length (IBT.L i)) (IBT.cp i = IBT.cp i))) (And ((true : Bool) = true) (And ((true : Bool) = true) (And (IB.N x = IB.N x) True)))) (And ((true : Bool) = true) (And (And ((8 : Nat) = (8 : Nat)) (And ((true : Bool) = true) (List.map (Enc.enc EM) (IBT.ms i) = List.map (Enc.enc EM) (IBT.ms i)))) (And ((true : Bool) = true) (And (And ((8 : Nat) = (8 : Nat)) (And ((false : Bool) = false) (List.map (Enc.enc EBl) (IBT.bs i) = List.map (Enc.enc EBl) (IBT.bs i)))) (And ((true : Bool) = true) (And (And ((true : Bool) = true) (And (IBT.cp i = IBT.cp i) (And (List.map (Enc.enc EK) (IBT.L i) = List.map (Enc.enc EK) (IBT.L i)) (∀ x_1 : KTy, (∀ a : x_1 ∈ IBT.L i, (∀ s : SV, (∀ a_1 : s ∈ Enc.enc EK x_1, ((SV.isPure s : Bool) = (true))))))))) (And ((true : Bool) = true) (And False (And ((true : Bool) = true) (And False (And ((true : Bool) = true) True)))))))))))))) ((true : Bool) = true)))) (decide ((↑(List.length (IBT.L i)) : Int) < n))) (∃ o : KbT (blockF (IB.L x) n), (And (And (And (And False (And False True)) (And ((true : Bool) = (false)) True)) True) (And (And (And (KbT.A o = A) (And True (Abs.own (P ++ KbT.N o) = Abs.own P))) (And ((true : Bool) = true) (And (And (And ((true : Bool) = true) (And (List.length (IBT.L i) = List.length (IBT.L i)) (IBT.cp i = IBT.cp i))) (And ((true : Bool) = true) (And ((true : Bool) = true) (And (IB.N x = IB.N x) True)))) (And ((true : Bool) = true) (And (And ((8 : Nat) = (8 : Nat)) (And ((true : Bool) = true) (List.map (Enc.enc EM) (IBT.ms i) = List.map (Enc.enc EM) (IBT.ms i)))) (And ((true : Bool) = true) (And (And ((8 : Nat) = (8 : Nat)) (And ((false : Bool) = false) (List.map (Enc.enc EBl) (IBT.bs i) = List.map (Enc.enc EBl) (IBT.bs i)))) (And ((true : Bool) = true) (And (And ((true : Bool) = true) (And (IBT.cp i = IBT.cp i) (And (List.map (Enc.enc EK) (IBT.L i) = List.map (Enc.enc EK) (IBT.L i)) (∀ x_1 : KTy, (∀ a : x_1 ∈ IBT.L i, (∀ s : SV, (∀ a_1 : s ∈ Enc.enc EK x_1, ((SV.isPure s : Bool) = (true))))))))) (And ((true : Bool) = true) (And False (And ((true : Bool) = true) (And False (And ((true : Bool) = true) True)))))))))))))) ((true : Bool) = true)))) (decide (n < (1 : Int))))) (by kernel_rfl) ?_
  have hb2 := hb
  unfold blockB at hb2
  simp only [Bool.and_eq_true, decide_eq_true_eq] at hb2
  have hL : i.L.length = x.L.length := by have := congrArg List.length i.hL; rwa [List.length_map] at this
  refine bif_dec (fun g1 => absurd g1 (by omega)) (fun g1 => ?_)
  refine bif_dec (fun g2 => absurd g2 (by omega)) (fun g2 => ?_)
  have hw : IntKind.i64.wrap (n - 1) = (((n - 1).toNat : Nat) : Int) := by rw [wrap64 (by omega) (by omega)]; omega
  generalize hj : (n - 1).toNat = j at hw
  have hj' : j < i.L.length := by omega
  have hjx : j < x.L.length := by omega
  have hkl : x.L[j] = kl i.L[j] := by
    have := congrArg (fun l => l[j]?) i.hL
    simp only [List.getElem?_map, List.getElem?_eq_getElem hj', List.getElem?_eq_getElem hjx, Option.map_some, Option.some.injEq] at this
    exact this.symm
  have hf : blockF x.L n = kl i.L[j] := by
    unfold blockF
    rw [if_pos hb, hj, List.getD_eq_getElem?_getD, List.getElem?_eq_getElem hjx, hkl]
    rfl
  have ok := h _ (List.getElem_mem hjx)
  rw [hkl] at ok
  obtain ⟨o1, o2, o3, o4⟩ := ok
  have l1 : i.L[j].1.2.length ≤ 8 := by have : (List.map ml i.L[j].1.2).length ≤ 8 := o1; rwa [List.length_map] at this
  have l2 : i.L[j].2.1.2.length ≤ 8 := by have : (List.map bl i.L[j].2.1.2).length ≤ 8 := o2; rwa [List.length_map] at this
  rw [hf]
  simp only [hw, Int.toNat_natCast]
  refine ⟨by omega, hj', hj', i.L[j].1.2, rfl, i.L[j].2.1.2, rfl, ⟨by omega, by omega, fun m hm => by have := o3 _ (List.mem_map_of_mem hm); omega, fun b hb => by have := o4 _ (List.mem_map_of_mem hb); omega⟩, fun o => ⟨⟨o.A, o.ms', o.c1, o.N, o.c2, o.hm, o.hb, o.hN, o.h1, o.h2⟩, ?_⟩⟩
  repeat' first | exact fun x _ => Enc.pures EK x | exact fun x _ => Enc.pures EM x | exact fun x _ => Enc.pures ER x | exact trivial | refine And.intro ?_ ?_ | with_reducible refine bif_dt (by assumption) ?_ | with_reducible refine bif_df (by assumption) ?_ | with_reducible refine bif_dec (fun _ => ?_) (fun _ => ?_) | with_reducible refine bif_not ?_ | with_reducible refine bif_and ?_ | with_reducible refine bif_or ?_ | with_reducible refine bif_t (by assumption) ?_ | with_reducible refine bif_f (by assumption) ?_ | with_reducible refine bif_t (beq_self_eq_true _) ?_ | with_reducible refine bif_b (fun _ => ?_) (fun _ => ?_) | with_reducible refine ⟨_, Eq.refl (List.map _ _), ?_⟩ | (with_reducible refine Exists.intro (by omega) ?_) | rfl | (intro h0; omega) | omega
theorem blockP_row (n_ : Int) (A : List Nat) (P : List (Value × List Int)) {x : IB} {L : List KTy} {ms : List MTy} {bs : List BTy} {len cap cp c1 c2 : Nat} (h : (len = L.length ∧ cap = cp ∧ capOk L.length cp ∧ c1 = 8 ∧ c2 = 8 ∧ L.map kl = x.L ∧ ms.map ml = x.D ∧ bs.map bl = x.B ∧ (∀ b ∈ x.L, okB b) ∧ x.L.length ≤ 4096 ∧ blockB x.L n_ = true)) :
    SMem Try.prog 27 [.one (.ptr 1 0), int n_] 5 [(0, pool A P), (1, .cells [.nslc 4 2 len cap, .ch 2, .ch 3, .v (.int .u64 x.N)]), (2, .chan c1 true EM ms), (3, .chan c2 false EBl bs), (4, .row 2 EK L cp)]
    (fun o : KbT (blockF x.L n_) => ⟨7, .tup [.agg [.nslc 5 9 o.ms.length o.c1, .nslc 6 1 (o.N.map rawR).length o.c2], bool true], inP o.A (P ++ o.N) L cp ms bs x.N ++ [(5, .row 9 EM o.ms o.c1), (6, .row 1 ER (o.N.map rawR) o.c2)]⟩) := by
  obtain ⟨rfl, rfl, h1, rfl, rfl, h2, h3, h4, h5, h6, h7⟩ := h
  exact blockP_spec n_ ⟨L, cap, ms, bs, h2, h3, h4, h1⟩ A P h5 h6 h7
def iblockPT : MT := fun ms n h K => match ms with
  | [.one (.ptr P0 0), .one (.v (.int .i64 n_))] => (match get h 0 with
    | some (.obj A [] (.own P)) => (match get h P0 with
    | some (.cells [.nslc P3 2 len cap, .ch P1, .ch P2, .v (.int .u64 q)]) => (match get h P1 with
    | some (.chan c1 true wn2 wl2) => (match get h P2 with
    | some (.chan c2 false wn3 wl3) => (match get h P3 with
    | some (.row we4 wn4 wl4 cp) => bif Nat.beq we4 2 && noDup [0, P0, P1, P2, P3] then ∃ ms : List (MTy), wl2.map wn2.enc = ms.map (EM).enc ∧ ∃ bs : List (BTy), wl3.map wn3.enc = bs.map (EBl).enc ∧ ∃ L : List (KTy), wl4.map wn4.enc = L.map (EK).enc ∧ ∃ (x : IB), ((q = x.N) ∧ (len = L.length ∧ cap = cp ∧ capOk L.length cp ∧ c1 = 8 ∧ c2 = 8 ∧ L.map kl = x.L ∧ ms.map ml = x.D ∧ bs.map bl = x.B ∧ (∀ b ∈ x.L, okB b) ∧ x.L.length ≤ 4096 ∧ blockB x.L n_ = true)) ∧ (∀ o : KbT (blockF x.L n_), K (n + 2) (.tup [.agg [.nslc n 9 o.ms.length o.c1, .nslc (n + 1) 1 (o.N.map rawR).length o.c2], bool true]) ([(0, pool o.A (P ++ o.N)), (P0, .cells [.nslc P3 2 L.length cp, .ch P1, .ch P2, .v (.int .u64 q)]), (P1, .chan 8 true EM ms), (P2, .chan 8 false EBl bs), (P3, .row 2 EK L cp), (n, .row 9 EM o.ms o.c1), (n + 1, .row 1 ER (o.N.map rawR) o.c2)] ++ delL [0, P0, P1, P2, P3] h)) else False
    | _ => False)
    | _ => False)
    | _ => False)
    | _ => False)
    | _ => False)
  | _ => False
theorem iblockP_mono : MMono iblockPT := by
  intro ms n h K K' hkk hk
  unfold iblockPT at hk ⊢
  split at hk
  · rename_i P0 n_
    split at hk
    · rename_i A P hg0
      try simp only [hg0]
      split at hk
      · rename_i P3 len cap P1 P2 q hg1
        try simp only [hg1]
        split at hk
        · rename_i c1 wa2 wn2 wl2 hg2
          try simp only [hg2]
          split at hk
          · rename_i c2 wa3 wn3 wl3 hg3
            try simp only [hg3]
            split at hk
            · rename_i we4 wa4 wn4 wl4 cp hg4
              try simp only [hg4]
              obtain ⟨hb, y0, z0, y1, z1, y2, z2, q0, h1, h2⟩ := cond_false_elim hk
              rw [hb]
              exact ⟨y0, z0, y1, z1, y2, z2, q0, h1, fun o => hkk _ _ _ (h2 o)⟩
            · exact hk.elim
          · exact hk.elim
        · exact hk.elim
      · exact hk.elim
    · exact hk.elim
  · exact hk.elim
theorem iblockP_ok : MOK Try.prog 27 iblockPT := by
  refine ⟨?_, iblockP_mono⟩
  intro ms n hB K hk
  unfold iblockPT at hk
  split at hk
  · rename_i P0 n_
    split at hk
    · rename_i A P hg0
      split at hk
      · rename_i P3 len cap P1 P2 q hg1
        split at hk
        · rename_i c1 wa2 wn2 wl2 hg2
          split at hk
          · rename_i c2 wa3 wn3 wl3 hg3
            split at hk
            · rename_i we4 wa4 wn4 wl4 cp hg4
              obtain ⟨hb, ms, hl2, bs, hl3, L, hl4, x, h, hk2⟩ := cond_false_elim hk
              clear hk
              obtain ⟨rfl, h⟩ := h
              simp only [Bool.and_eq_true] at hb
              obtain ⟨hc0, hnd⟩ := hb
              have hs0 := Nat.eq_of_beq_eq_true hc0
              subst hs0
              refine SCall.seen ?_ (.cons (.refl _) (.cons (.refl _) .nil))
              exact (blockP_row n_ A P h).use (fun j => match j with | 0 => 0 | 1 => P0 | 2 => P1 | 3 => P2 | 4 => P3 | _ => 0) rfl rfl ⟨by show (match get hB 0 with | some b0 => Blk.imp _ _ _ b0 | none => False); rw [hg0]; exact ⟨rfl, .inl ⟨rfl, rfl⟩, rfl⟩, rfl, ⟨by show (match get hB P0 with | some b0 => Blk.imp _ _ _ b0 | none => False); rw [hg1]; exact ⟨rfl, rfl⟩, rfl, ⟨by show (match get hB P1 with | some b0 => Blk.imp _ _ _ b0 | none => False); rw [hg2]; exact ⟨rfl, rfl, hl2.symm⟩, rfl, ⟨by show (match get hB P2 with | some b0 => Blk.imp _ _ _ b0 | none => False); rw [hg3]; exact ⟨rfl, rfl, hl3.symm⟩, rfl, ⟨by show (match get hB P3 with | some b0 => Blk.imp _ _ _ b0 | none => False); rw [hg4]; exact ⟨rfl, rfl, hl4.symm, fun y _ => Enc.pures _ y⟩, rfl, trivial⟩⟩⟩⟩⟩ (by exact hnd) (fun j hj => by cases j with
                  | zero => exact ⟨_, rfl⟩
                  | succ j => cases j with
                   | zero => exact ⟨_, rfl⟩
                   | succ j => cases j with
                    | zero => exact ⟨_, rfl⟩
                    | succ j => cases j with
                     | zero => exact ⟨_, rfl⟩
                     | succ j => cases j with
                      | zero => exact ⟨_, rfl⟩
                      | succ j => omega) (fun o => hk2 o)
            · exact hk.elim
          · exact hk.elim
        · exact hk.elim
      · exact hk.elim
    · exact hk.elim
  · exact hk.elim

def orT (T1 T2 : MT) : MT := fun ms n h K => T1 ms n h K ∨ T2 ms n h K
theorem orT_ok {f : Nat} {T1 T2 : MT} (h1 : MOK Try.prog f T1) (h2 : MOK Try.prog f T2) : MOK Try.prog f (orT T1 T2) :=
  ⟨fun args n h K hk => hk.elim (h1.ok _ _ _ _) (h2.ok _ _ _ _), fun args n h K K' hkk hk => hk.elim (fun h => .inl (h1.mono _ _ _ _ _ hkk h)) fun h => .inr (h2.mono _ _ _ _ _ hkk h)⟩
def iblock2T : MT := orT iblockT iblockPT
theorem iblock2_ok : MOK Try.prog 27 iblock2T := orT_ok iblock_ok iblockP_ok
theorem isameP_spec (x y : Value) (A : List Nat) (P : List (Value × List Int)) {ms ms' : List MTy} {c1 : Nat} {N : List (Value × List Int)} {c2 : Nat} {bs : List BTy} (hm : ms.map ml = ms'.map ml) (hb : N.map (·.2) = bs.map bl) (hP : ∀ e ∈ N, e ∈ P) (h1 : ms.length ≤ 1000) (h2 : N.length ≤ 1000) (h3 : ∀ m ∈ ms, (ml m).d.length ≤ 100000000) (hc1 : ms.length ≤ c1) (hc2 : N.length ≤ c2) :
    SMem Try.prog 28 [.agg [.nslc 1 9 ms.length c1, .nslc 2 1 (N.map rawR).length c2], .agg (bkA x ms' y bs)] 3 [(0, pool A P), (1, .row 9 EM ms c1), (2, .row 1 ER (N.map rawR) c2)] (fun _ : Unit => ⟨3, bool true, [(0, pool A P), (1, .row 9 EM ms c1), (2, .row 1 ER (N.map rawR) c2)]⟩) := by
  refine SMem.inm [(40, isameT)] (SOK.cons isame_ok SOK.nil) [(41, irmsgT)] (MSOK.cons irmsg_ok MSOK.nil) tokR mixed [] IOK.nil false [(4, ⟨{ i : Nat // i ≤ ms.length }, fun p => ⟨5, [(2, .one (.ptr 3 0)), (3, .one (.ptr 4 0)), (4, bool false), (5, int p.1)], [(0, pool A P), (1, .row 9 EM ms c1), (2, .row 1 ER (N.map rawR) c2), (3, .cells [.nslc 1 9 ms.length c1, .nslc 2 1 (N.map rawR).length c2]), (4, .cells (bkA x ms' y bs))]⟩, fun p => ms.length - p.1, fun _ _ => True⟩), (9, ⟨{ i : Nat // i ≤ N.length }, fun p => ⟨5, [(2, .one (.ptr 3 0)), (3, .one (.ptr 4 0)), (4, bool false), (6, int p.1)], [(0, pool A P), (1, .row 9 EM ms c1), (2, .row 1 ER (N.map rawR) c2), (3, .cells [.nslc 1 9 ms.length c1, .nslc 2 1 (N.map rawR).length c2]), (4, .cells (bkA x ms' y bs))]⟩, fun p => N.length - p.1, fun _ _ => True⟩)] [] Try.call28 Try.func28 rfl (by rfl) ?_
  refine Eq.mp (α := (@Bool.rec (fun _ => Prop) (@Bool.rec (fun _ => Prop) (∃ i0 : { i // i ≤ List.length ms }, (And (And True (And (And (And ((true : Bool) = true) ((0 : Nat) = (0 : Nat))) (And (And ((true : Bool) = true) ((0 : Nat) = (0 : Nat))) (And ((false : Bool) = false) (And ((↑(Subtype.val i0) : Int) = (0 : Int)) True)))) (And (And (And (A = A) (And True (Abs.own P = Abs.own P))) (And ((true : Bool) = true) (And (And ((true : Bool) = true) (And (c1 = c1) (And (List.map (Enc.enc EM) ms = List.map (Enc.enc EM) ms) (∀ x_1 : MTy, (∀ a : x_1 ∈ ms, (∀ s : SV, (∀ a_1 : s ∈ Enc.enc EM x_1, ((SV.isPure s : Bool) = (true))))))))) (And ((true : Bool) = true) (And (And ((true : Bool) = true) (And (c2 = c2) (And (List.map (Enc.enc ER) (List.map rawR N) = List.map (Enc.enc ER) (List.map rawR N)) (∀ x_1 : RTy, (∀ a : x_1 ∈ List.map rawR N, (∀ s : SV, (∀ a_1 : s ∈ Enc.enc ER x_1, ((SV.isPure s : Bool) = (true))))))))) (And ((true : Bool) = true) (And (And (And ((true : Bool) = true) (And (List.length ms = List.length ms) (c1 = c1))) (And (And ((true : Bool) = true) (And (List.length (List.map rawR N) = List.length (List.map rawR N)) (c2 = c2))) True)) (And ((true : Bool) = true) (And (And (SV.view x (9 : Nat) (Enc.enc EM) ms' = SV.view x (9 : Nat) (Enc.enc EM) ms') (And (SV.view y (1 : Nat) (Enc.enc EBl) bs = SV.view y (1 : Nat) (Enc.enc EBl) bs) True)) (And ((true : Bool) = true) True)))))))))) ((true : Bool) = true)))) (∀ i : { i // i ≤ List.length ms }, (∀ a : True, (@Bool.rec (fun _ => Prop) (∃ i0_1 : { i // i ≤ List.length N }, (And (And True (And (And (And ((true : Bool) = true) ((0 : Nat) = (0 : Nat))) (And (And ((true : Bool) = true) ((0 : Nat) = (0 : Nat))) (And ((false : Bool) = false) (And ((↑(Subtype.val i0_1) : Int) = (0 : Int)) True)))) (And (And (And (A = A) (And True (Abs.own P = Abs.own P))) (And ((true : Bool) = true) (And (And ((true : Bool) = true) (And (c1 = c1) (And (List.map (Enc.enc EM) ms = List.map (Enc.enc EM) ms) (∀ x_1 : MTy, (∀ a_1 : x_1 ∈ ms, (∀ s : SV, (∀ a_2 : s ∈ Enc.enc EM x_1, ((SV.isPure s : Bool) = (true))))))))) (And ((true : Bool) = true) (And (And ((true : Bool) = true) (And (c2 = c2) (And (List.map (Enc.enc ER) (List.map rawR N) = List.map (Enc.enc ER) (List.map rawR N)) (∀ x_1 : RTy, (∀ a_1 : x_1 ∈ List.map rawR N, (∀ s : SV, (∀ a_2 : s ∈ Enc.enc ER x_1, ((SV.isPure s : Bool) = (true))))))))) (And ((true : Bool) = true) (And (And (And ((true : Bool) = true) (And (List.length ms = List.length ms) (c1 = c1))) (And (And ((true : Bool) = true) (And (List.length (List.map rawR N) = List.length (List.map rawR N)) (c2 = c2))) True)) (And ((true : Bool) = true) (And (And (SV.view x (9 : Nat) (Enc.enc EM) ms' = SV.view x (9 : Nat) (Enc.enc EM) ms') (And (SV.view y (1 : Nat) (Enc.enc EBl) bs = SV.view y (1 : Nat) (Enc.enc EBl) bs) True)) (And ((true : Bool) = true) True)))))))))) ((true : Bool) = true)))) (∀ i_1 : { i // i ≤ List.length N }, (∀ a_1 : True, (@Bool.rec (fun _ => Prop) (∃ o : Unit, (And (And ((true : Bool) = true) True) (And (And (And (A = A) (And True (Abs.own P = Abs.own P))) (And ((true : Bool) = true) (And (And ((true : Bool) = true) (And (c1 = c1) (And (List.map (Enc.enc EM) ms = List.map (Enc.enc EM) ms) (∀ x_1 : MTy, (∀ a_2 : x_1 ∈ ms, (∀ s : SV, (∀ a_3 : s ∈ Enc.enc EM x_1, ((SV.isPure s : Bool) = (true))))))))) (And ((true : Bool) = true) (And (And ((true : Bool) = true) (And (c2 = c2) (And (List.map (Enc.enc ER) (List.map rawR N) = List.map (Enc.enc ER) (List.map rawR N)) (∀ x_1 : RTy, (∀ a_2 : x_1 ∈ List.map rawR N, (∀ s : SV, (∀ a_3 : s ∈ Enc.enc ER x_1, ((SV.isPure s : Bool) = (true))))))))) (And ((true : Bool) = true) True)))))) ((true : Bool) = true)))) (And ((0 : Int) ≤ (↑(Subtype.val i_1) : Int)) (And (Int.toNat (↑(Subtype.val i_1) : Int) < List.length (List.map rawR N)) (∃ hi : Int.toNat (↑(Subtype.val i_1) : Int) < List.length (List.map rawR N), (∃ q : Nat, (∃ hq : q < List.length P, (And (And (Prod.fst P[q] = Prod.fst (Prod.fst (List.map rawR N)[Int.toNat (↑(Subtype.val i_1) : Int)])) (List.length (Prod.snd P[q]) = List.length (Prod.snd (Prod.fst (List.map rawR N)[Int.toNat (↑(Subtype.val i_1) : Int)])))) (And ((0 : Int) ≤ (↑(Subtype.val i_1) : Int)) (∃ hk : Int.toNat (↑(Subtype.val i_1) : Int) < List.length bs, (And (∀ x_1 : RK.TL [RK.int IntKind.u8], (∀ a_2 : x_1 ∈ Prod.snd (Prod.fst bs[Int.toNat (↑(Subtype.val i_1) : Int)]), (∃ b : Int, (RK.svs._f [RK.int IntKind.u8] ⟨⟨RK.sv._f (RK.int IntKind.u8) PUnit.unit, PUnit.unit⟩, RK.svs._f [] PUnit.unit, PUnit.unit⟩ x_1 = [SV.v (Value.int IntKind.u8 b)])))) (@Bool.rec (fun _ => Prop) (∃ i' : { i // i ≤ List.length N }, (And (And (List.length N - Subtype.val i' < List.length N - Subtype.val i_1) True) (And (And (And ((true : Bool) = true) ((0 : Nat) = (0 : Nat))) (And (And ((true : Bool) = true) ((0 : Nat) = (0 : Nat))) (And ((false : Bool) = false) (And ((↑(Subtype.val i') : Int) = IntKind.wrap IntKind.i64 ((↑(Subtype.val i_1) : Int) + (1 : Int))) True)))) (And (And (And (A = A) (And True (Abs.own P = Abs.own P))) (And ((true : Bool) = true) (And (And ((true : Bool) = true) (And (c1 = c1) (And (List.map (Enc.enc EM) ms = List.map (Enc.enc EM) ms) (∀ x_1 : MTy, (∀ a_2 : x_1 ∈ ms, (∀ s : SV, (∀ a_3 : s ∈ Enc.enc EM x_1, ((SV.isPure s : Bool) = (true))))))))) (And ((true : Bool) = true) (And (And ((true : Bool) = true) (And (c2 = c2) (And (List.map (Enc.enc ER) (List.map rawR N) = List.map (Enc.enc ER) (List.map rawR N)) (∀ x_1 : RTy, (∀ a_2 : x_1 ∈ List.map rawR N, (∀ s : SV, (∀ a_3 : s ∈ Enc.enc ER x_1, ((SV.isPure s : Bool) = (true))))))))) (And ((true : Bool) = true) (And (And (And ((true : Bool) = true) (And (List.length ms = List.length ms) (c1 = c1))) (And (And ((true : Bool) = true) (And (List.length (List.map rawR N) = List.length (List.map rawR N)) (c2 = c2))) True)) (And ((true : Bool) = true) (And (And (SV.view x (9 : Nat) (Enc.enc EM) ms' = SV.view x (9 : Nat) (Enc.enc EM) ms') (And (SV.view y (1 : Nat) (Enc.enc EBl) bs = SV.view y (1 : Nat) (Enc.enc EBl) bs) True)) (And ((true : Bool) = true) True)))))))))) ((true : Bool) = true))))) (∃ o : Unit, (And (And ((true : Bool) = (false)) True) (And (And (And (A = A) (And True (Abs.own P = Abs.own P))) (And ((true : Bool) = true) (And (And ((true : Bool) = true) (And (c1 = c1) (And (List.map (Enc.enc EM) ms = List.map (Enc.enc EM) ms) (∀ x_1 : MTy, (∀ a_2 : x_1 ∈ ms, (∀ s : SV, (∀ a_3 : s ∈ Enc.enc EM x_1, ((SV.isPure s : Bool) = (true))))))))) (And ((true : Bool) = true) (And (And ((true : Bool) = true) (And (c2 = c2) (And (List.map (Enc.enc ER) (List.map rawR N) = List.map (Enc.enc ER) (List.map rawR N)) (∀ x_1 : RTy, (∀ a_2 : x_1 ∈ List.map rawR N, (∀ s : SV, (∀ a_3 : s ∈ Enc.enc ER x_1, ((SV.isPure s : Bool) = (true))))))))) (And ((true : Bool) = true) True)))))) ((true : Bool) = true)))) (!ByteArray.toList (strOfNums (Prod.snd P[q])) == ByteArray.toList (strOfNums (bytesOf (RK.svs._f [RK.int IntKind.u8] ⟨⟨RK.sv._f (RK.int IntKind.u8) PUnit.unit, PUnit.unit⟩, RK.svs._f [] PUnit.unit, PUnit.unit⟩) (Prod.snd (Prod.fst bs[Int.toNat (↑(Subtype.val i_1) : Int)]))))))))))))))) (decide ((↑(Subtype.val i_1) : Int) < (↑(List.length (List.map rawR N)) : Int)))))))) (And ((0 : Int) ≤ (↑(Subtype.val i) : Int)) (And (Int.toNat (↑(Subtype.val i) : Int) < List.length ms) (∃ hi : Int.toNat (↑(Subtype.val i) : Int) < List.length ms, (And (∃ d : List Int, (And (List.map (RK.svs._f [RK.int IntKind.u8] ⟨⟨RK.sv._f (RK.int IntKind.u8) PUnit.unit, PUnit.unit⟩, RK.svs._f [] PUnit.unit, PUnit.unit⟩) (Prod.snd (Prod.fst (Prod.snd (Prod.snd (Prod.snd (Prod.snd (Prod.snd ms[Int.toNat (↑(Subtype.val i) : Int)]))))))) = List.map eB d) (And (List.length d ≤ (100000000 : Nat)) (∀ y_1 : Value, (And ((0 : Int) ≤ (↑(Subtype.val i) : Int)) (∃ hk : Int.toNat (↑(Subtype.val i) : Int) < List.length ms', (∃ d_1 : List Int, (And (List.map eB d = List.map eB d_1) (∃ d2 : List Int, (And (List.map (RK.svs._f [RK.int IntKind.u8] ⟨⟨RK.sv._f (RK.int IntKind.u8) PUnit.unit, PUnit.unit⟩, RK.svs._f [] PUnit.unit, PUnit.unit⟩) (Prod.snd (Prod.fst (Prod.snd (Prod.snd (Prod.snd (Prod.snd (Prod.snd ms'[Int.toNat (↑(Subtype.val i) : Int)]))))))) = List.map eB d2) (And (And (Prod.fst ms[Int.toNat (↑(Subtype.val i) : Int)] = Prod.fst ms'[Int.toNat (↑(Subtype.val i) : Int)]) (And (Prod.fst (Prod.snd ms[Int.toNat (↑(Subtype.val i) : Int)]) = Prod.fst (Prod.snd ms'[Int.toNat (↑(Subtype.val i) : Int)])) (And (Prod.fst (Prod.snd (Prod.snd ms[Int.toNat (↑(Subtype.val i) : Int)])) = Prod.fst (Prod.snd (Prod.snd ms'[Int.toNat (↑(Subtype.val i) : Int)]))) (And (Prod.fst (Prod.snd (Prod.snd (Prod.snd ms[Int.toNat (↑(Subtype.val i) : Int)]))) = Prod.fst (Prod.snd (Prod.snd (Prod.snd ms'[Int.toNat (↑(Subtype.val i) : Int)])))) (And (Prod.fst (Prod.snd (Prod.snd (Prod.snd (Prod.snd ms[Int.toNat (↑(Subtype.val i) : Int)])))) = Prod.fst (Prod.snd (Prod.snd (Prod.snd (Prod.snd ms'[Int.toNat (↑(Subtype.val i) : Int)]))))) (d_1 = d2)))))) (∃ i' : { i // i ≤ List.length ms }, (And (And (List.length ms - Subtype.val i' < List.length ms - Subtype.val i) True) (And (And (And ((true : Bool) = true) ((0 : Nat) = (0 : Nat))) (And (And ((true : Bool) = true) ((0 : Nat) = (0 : Nat))) (And ((false : Bool) = false) (And ((↑(Subtype.val i') : Int) = IntKind.wrap IntKind.i64 ((↑(Subtype.val i) : Int) + (1 : Int))) True)))) (And (And (And (A = A) (And True (Abs.own P = Abs.own P))) (And ((true : Bool) = true) (And (And ((true : Bool) = true) (And (c1 = c1) (And (List.map (Enc.enc EM) ms = List.map (Enc.enc EM) ms) (∀ x_1 : MTy, (∀ a_1 : x_1 ∈ ms, (∀ s : SV, (∀ a_2 : s ∈ Enc.enc EM x_1, ((SV.isPure s : Bool) = (true))))))))) (And ((true : Bool) = true) (And (And ((true : Bool) = true) (And (c2 = c2) (And (List.map (Enc.enc ER) (List.map rawR N) = List.map (Enc.enc ER) (List.map rawR N)) (∀ x_1 : RTy, (∀ a_1 : x_1 ∈ List.map rawR N, (∀ s : SV, (∀ a_2 : s ∈ Enc.enc ER x_1, ((SV.isPure s : Bool) = (true))))))))) (And ((true : Bool) = true) (And (And (And ((true : Bool) = true) (And (List.length ms = List.length ms) (c1 = c1))) (And (And ((true : Bool) = true) (And (List.length (List.map rawR N) = List.length (List.map rawR N)) (c2 = c2))) True)) (And ((true : Bool) = true) (And (And (SV.view x (9 : Nat) (Enc.enc EM) ms' = SV.view x (9 : Nat) (Enc.enc EM) ms') (And (SV.view y (1 : Nat) (Enc.enc EBl) bs = SV.view y (1 : Nat) (Enc.enc EBl) bs) True)) (And ((true : Bool) = true) True)))))))))) ((true : Bool) = true)))))))))))))))) (And (And ((0 : Int) ≤ (↑(Subtype.val i) : Int)) (∃ hk : Int.toNat (↑(Subtype.val i) : Int) < List.length ms', (And (∃ d : List Int, (And (List.map (RK.svs._f [RK.int IntKind.u8] ⟨⟨RK.sv._f (RK.int IntKind.u8) PUnit.unit, PUnit.unit⟩, RK.svs._f [] PUnit.unit, PUnit.unit⟩) (Prod.snd (Prod.fst (Prod.snd (Prod.snd (Prod.snd (Prod.snd (Prod.snd ms[Int.toNat (↑(Subtype.val i) : Int)]))))))) = List.map eB d) (And (List.length d ≤ (100000000 : Nat)) (∀ y_1 : Value, (∃ d_1 : List Int, (And (List.map eB d = List.map eB d_1) (∃ d2 : List Int, (And (List.map (RK.svs._f [RK.int IntKind.u8] ⟨⟨RK.sv._f (RK.int IntKind.u8) PUnit.unit, PUnit.unit⟩, RK.svs._f [] PUnit.unit, PUnit.unit⟩) (Prod.snd (Prod.fst (Prod.snd (Prod.snd (Prod.snd (Prod.snd (Prod.snd ms'[Int.toNat (↑(Subtype.val i) : Int)]))))))) = List.map eB d2) (And (And (Prod.fst ms[Int.toNat (↑(Subtype.val i) : Int)] = Prod.fst ms'[Int.toNat (↑(Subtype.val i) : Int)]) (And (Prod.fst (Prod.snd ms[Int.toNat (↑(Subtype.val i) : Int)]) = Prod.fst (Prod.snd ms'[Int.toNat (↑(Subtype.val i) : Int)])) (And (Prod.fst (Prod.snd (Prod.snd ms[Int.toNat (↑(Subtype.val i) : Int)])) = Prod.fst (Prod.snd (Prod.snd ms'[Int.toNat (↑(Subtype.val i) : Int)]))) (And (Prod.fst (Prod.snd (Prod.snd (Prod.snd ms[Int.toNat (↑(Subtype.val i) : Int)]))) = Prod.fst (Prod.snd (Prod.snd (Prod.snd ms'[Int.toNat (↑(Subtype.val i) : Int)])))) (And (Prod.fst (Prod.snd (Prod.snd (Prod.snd (Prod.snd ms[Int.toNat (↑(Subtype.val i) : Int)])))) = Prod.fst (Prod.snd (Prod.snd (Prod.snd (Prod.snd ms'[Int.toNat (↑(Subtype.val i) : Int)]))))) (d_1 = d2)))))) (∃ i' : { i // i ≤ List.length ms }, (And (And (List.length ms - Subtype.val i' < List.length ms - Subtype.val i) True) (And (And (And ((true : Bool) = true) ((0 : Nat) = (0 : Nat))) (And (And ((true : Bool) = true) ((0 : Nat) = (0 : Nat))) (And ((false : Bool) = false) (And ((↑(Subtype.val i') : Int) = IntKind.wrap IntKind.i64 ((↑(Subtype.val i) : Int) + (1 : Int))) True)))) (And (And (And (A = A) (And True (Abs.own P = Abs.own P))) (And ((true : Bool) = true) (And (And ((true : Bool) = true) (And (c1 = c1) (And (List.map (Enc.enc EM) ms = List.map (Enc.enc EM) ms) (∀ x_1 : MTy, (∀ a_1 : x_1 ∈ ms, (∀ s : SV, (∀ a_2 : s ∈ Enc.enc EM x_1, ((SV.isPure s : Bool) = (true))))))))) (And ((true : Bool) = true) (And (And ((true : Bool) = true) (And (c2 = c2) (And (List.map (Enc.enc ER) (List.map rawR N) = List.map (Enc.enc ER) (List.map rawR N)) (∀ x_1 : RTy, (∀ a_1 : x_1 ∈ List.map rawR N, (∀ s : SV, (∀ a_2 : s ∈ Enc.enc ER x_1, ((SV.isPure s : Bool) = (true))))))))) (And ((true : Bool) = true) (And (And (And ((true : Bool) = true) (And (List.length ms = List.length ms) (c1 = c1))) (And (And ((true : Bool) = true) (And (List.length (List.map rawR N) = List.length (List.map rawR N)) (c2 = c2))) True)) (And ((true : Bool) = true) (And (And (SV.view x (9 : Nat) (Enc.enc EM) ms' = SV.view x (9 : Nat) (Enc.enc EM) ms') (And (SV.view y (1 : Nat) (Enc.enc EBl) bs = SV.view y (1 : Nat) (Enc.enc EBl) bs) True)) (And ((true : Bool) = true) True)))))))))) ((true : Bool) = true)))))))))))))) True))) True))))) (decide ((↑(Subtype.val i) : Int) < (↑(List.length ms) : Int)))))))) (∃ o : Unit, (And (And ((true : Bool) = (false)) True) (And (And (And (A = A) (And True (Abs.own P = Abs.own P))) (And ((true : Bool) = true) (And (And ((true : Bool) = true) (And (c1 = c1) (And (List.map (Enc.enc EM) ms = List.map (Enc.enc EM) ms) (∀ x_1 : MTy, (∀ a : x_1 ∈ ms, (∀ s : SV, (∀ a_1 : s ∈ Enc.enc EM x_1, ((SV.isPure s : Bool) = (true))))))))) (And ((true : Bool) = true) (And (And ((true : Bool) = true) (And (c2 = c2) (And (List.map (Enc.enc ER) (List.map rawR N) = List.map (Enc.enc ER) (List.map rawR N)) (∀ x_1 : RTy, (∀ a : x_1 ∈ List.map rawR N, (∀ s : SV, (∀ a_1 : s ∈ Enc.enc ER x_1, ((SV.isPure s : Bool) = (true))))))))) (And ((true : Bool) = true) True)))))) ((true : Bool) = true)))) ((↑(List.length (List.map rawR N)) : Int) != (↑(List.length bs) : Int))) (∃ o : Unit, (And (And ((true : Bool) = (false)) True) (And (And (And (A = A) (And True (Abs.own P = Abs.own P))) (And ((true : Bool) = true) (And (And ((true : Bool) = true) (And (c1 = c1) (And (List.map (Enc.enc EM) ms = List.map (Enc.enc EM) ms) (∀ x_1 : MTy, (∀ a : x_1 ∈ ms, (∀ s : SV, (∀ a_1 : s ∈ Enc.enc EM x_1, ((SV.isPure s : Bool) = (true))))))))) (And ((true : Bool) = true) (And (And ((true : Bool) = true) (And (c2 = c2) (And (List.map (Enc.enc ER) (List.map rawR N) = List.map (Enc.enc ER) (List.map rawR N)) (∀ x_1 : RTy, (∀ a : x_1 ∈ List.map rawR N, (∀ s : SV, (∀ a_1 : s ∈ Enc.enc ER x_1, ((SV.isPure s : Bool) = (true))))))))) (And ((true : Bool) = true) True)))))) ((true : Bool) = true)))) ((↑(List.length ms) : Int) != (↑(List.length ms') : Int)))) (by kernel_rfl) ?_
  have hlm : ms.length = ms'.length := by have := congrArg List.length hm; rwa [List.length_map, List.length_map] at this
  have hlb : N.length = bs.length := by have := congrArg List.length hb; rwa [List.length_map, List.length_map] at this
  have hlR : (N.map rawR).length = N.length := List.length_map _
  refine bif_f (by rw [hlm]; exact bne_self_eq_false _) (bif_f (by rw [hlR, hlb]; exact bne_self_eq_false _) ?_)
  refine ⟨⟨0, Nat.zero_le _⟩, ?_, ?_⟩
  ·
    repeat' first | exact fun x _ => Enc.pures EM x | exact fun x _ => Enc.pures ER x | exact trivial | refine And.intro ?_ ?_ | with_reducible refine bif_dt (by assumption) ?_ | with_reducible refine bif_df (by assumption) ?_ | with_reducible refine bif_dec (fun _ => ?_) (fun _ => ?_) | with_reducible refine bif_not ?_ | with_reducible refine bif_and ?_ | with_reducible refine bif_or ?_ | with_reducible refine bif_t (by assumption) ?_ | with_reducible refine bif_f (by assumption) ?_ | with_reducible refine bif_t (beq_self_eq_true _) ?_ | with_reducible refine bif_b (fun _ => ?_) (fun _ => ?_) | with_reducible refine ⟨_, Eq.refl (List.map _ _), ?_⟩ | (with_reducible refine Exists.intro (by omega) ?_) | rfl | (intro h0; omega) | omega
  rintro ⟨i, hi⟩ -
  dsimp only
  refine bif_dec (fun g1 => ?_) (fun g1 => ?_)
  · have hi' : i < ms.length := by omega
    have hw : IntKind.i64.wrap ((i : Int) + 1) = ((i + 1 : Nat) : Int) := by rw [wrap64 (by omega) (by omega)]; rfl
    have hd := h3 _ (List.getElem_mem hi')
    have he : ml ms[i] = ml (ms'[i]'(by omega)) := by
      have := congrArg (fun l => l[i]?) hm
      simp only [List.getElem?_map, List.getElem?_eq_getElem hi', List.getElem?_eq_getElem (show i < ms'.length by omega), Option.map_some, Option.some.injEq] at this
      exact this
    simp only [Int.toNat_natCast, hw]
    have hs : ms[i].1 = (ms'[i]'(by omega)).1 ∧ ms[i].2.1 = (ms'[i]'(by omega)).2.1 ∧ ms[i].2.2.1 = (ms'[i]'(by omega)).2.2.1 ∧ ms[i].2.2.2.1 = (ms'[i]'(by omega)).2.2.2.1 ∧ ms[i].2.2.2.2.1 = (ms'[i]'(by omega)).2.2.2.2.1 ∧ (ml ms[i]).d = (ml (ms'[i]'(by omega))).d := ⟨congrArg Msg.n he, congrArg Msg.s he, congrArg Msg.t he, congrArg Msg.v he, congrArg Msg.g he, congrArg Msg.d he⟩
    repeat' first | refine ⟨(ml ms[i]).d, (b1_enc _).symm, hd, fun z => ?_⟩ | refine ⟨(ml ms[i]).d, rfl, (ml (ms'[i]'(by omega))).d, (b1_enc _).symm, hs, ⟨i + 1, hi'⟩, ⟨show ms.length - (i + 1) < ms.length - i by omega, trivial⟩, ?_⟩ | exact fun x _ => Enc.pures EM x | exact fun x _ => Enc.pures ER x | exact trivial | refine And.intro ?_ ?_ | with_reducible refine bif_dt (by assumption) ?_ | with_reducible refine bif_df (by assumption) ?_ | with_reducible refine bif_dec (fun _ => ?_) (fun _ => ?_) | with_reducible refine bif_not ?_ | with_reducible refine bif_and ?_ | with_reducible refine bif_or ?_ | with_reducible refine bif_t (by assumption) ?_ | with_reducible refine bif_f (by assumption) ?_ | with_reducible refine bif_t (beq_self_eq_true _) ?_ | with_reducible refine bif_b (fun _ => ?_) (fun _ => ?_) | with_reducible refine ⟨_, Eq.refl (List.map _ _), ?_⟩ | (with_reducible refine Exists.intro (by omega) ?_) | rfl | (intro h0; omega) | omega
  · have hil : i = ms.length := by omega
    subst hil
    refine ⟨⟨0, Nat.zero_le _⟩, ?_, ?_⟩
    ·
      repeat' first | exact fun x _ => Enc.pures EM x | exact fun x _ => Enc.pures ER x | exact trivial | refine And.intro ?_ ?_ | with_reducible refine bif_dt (by assumption) ?_ | with_reducible refine bif_df (by assumption) ?_ | with_reducible refine bif_dec (fun _ => ?_) (fun _ => ?_) | with_reducible refine bif_not ?_ | with_reducible refine bif_and ?_ | with_reducible refine bif_or ?_ | with_reducible refine bif_t (by assumption) ?_ | with_reducible refine bif_f (by assumption) ?_ | with_reducible refine bif_t (beq_self_eq_true _) ?_ | with_reducible refine bif_b (fun _ => ?_) (fun _ => ?_) | with_reducible refine ⟨_, Eq.refl (List.map _ _), ?_⟩ | (with_reducible refine Exists.intro (by omega) ?_) | rfl | (intro h0; omega) | omega
    clear hi g1
    rintro ⟨i, hi⟩ -
    dsimp only
    refine bif_dec (fun g1 => ?_) (fun g1 => ?_)
    · have hi' : i < N.length := by omega
      have hw : IntKind.i64.wrap ((i : Int) + 1) = ((i + 1 : Nat) : Int) := by rw [wrap64 (by omega) (by omega)]; rfl
      have he : N[i].2 = bl (bs[i]'(by omega)) := by
        have := congrArg (fun l => l[i]?) hb
        simp only [List.getElem?_map, List.getElem?_eq_getElem hi', List.getElem?_eq_getElem (show i < bs.length by omega), Option.map_some, Option.some.injEq] at this
        exact this
      obtain ⟨q, hq, hPq⟩ := List.getElem_of_mem (hP _ (List.getElem_mem hi'))
      have hRi : (N.map rawR)[i]'(by omega) = rawR N[i] := List.getElem_map _
      simp only [Int.toNat_natCast, hw]
      refine ⟨by omega, by omega, by omega, q, hq, ⟨by rw [hRi, hPq]; rfl, by rw [hRi, hPq]; exact (List.length_replicate).symm⟩, by omega, by omega, fun y _ => ⟨_, rfl⟩, ?_⟩
      refine bif_f (by rw [hPq, he]; exact (congrArg Bool.not (beq_self_eq_true _))) ?_
      repeat' first | refine ⟨⟨i + 1, hi'⟩, ⟨show N.length - (i + 1) < N.length - i by omega, trivial⟩, ?_⟩ | exact fun x _ => Enc.pures EM x | exact fun x _ => Enc.pures ER x | exact trivial | refine And.intro ?_ ?_ | with_reducible refine bif_dt (by assumption) ?_ | with_reducible refine bif_df (by assumption) ?_ | with_reducible refine bif_dec (fun _ => ?_) (fun _ => ?_) | with_reducible refine bif_not ?_ | with_reducible refine bif_and ?_ | with_reducible refine bif_or ?_ | with_reducible refine bif_t (by assumption) ?_ | with_reducible refine bif_f (by assumption) ?_ | with_reducible refine bif_t (beq_self_eq_true _) ?_ | with_reducible refine bif_b (fun _ => ?_) (fun _ => ?_) | with_reducible refine ⟨_, Eq.refl (List.map _ _), ?_⟩ | (with_reducible refine Exists.intro (by omega) ?_) | rfl | (intro h0; omega) | omega
    · refine ⟨(), ?_⟩
      repeat' first | exact fun x _ => Enc.pures EM x | exact fun x _ => Enc.pures ER x | exact trivial | refine And.intro ?_ ?_ | with_reducible refine bif_dt (by assumption) ?_ | with_reducible refine bif_df (by assumption) ?_ | with_reducible refine bif_dec (fun _ => ?_) (fun _ => ?_) | with_reducible refine bif_not ?_ | with_reducible refine bif_and ?_ | with_reducible refine bif_or ?_ | with_reducible refine bif_t (by assumption) ?_ | with_reducible refine bif_f (by assumption) ?_ | with_reducible refine bif_t (beq_self_eq_true _) ?_ | with_reducible refine bif_b (fun _ => ?_) (fun _ => ?_) | with_reducible refine ⟨_, Eq.refl (List.map _ _), ?_⟩ | (with_reducible refine Exists.intro (by omega) ?_) | rfl | (intro h0; omega) | omega
open Go Go.Sx

abbrev mO (n s t : Int) (v : List Int) (g : Int) (j len cap : Nat) : List SV := [.v (.int .u64 n), .v (.int .u64 s), .v (.int .u64 t), .ints .u64 4 v, .v (.int .u64 g), .slc j 1 0 len cap]
theorem imsgO_spec (n s t : Int) (v : List Int) (g : Int) (x : Value) {d : List Int} (h : d.length ≤ 100000000) : SMem Try.prog 16 [.agg (mA n s t v g x d)] 0 [] (fun c : CapT d.length => ⟨1, .agg (mO n s t v g 0 d.length c.cap), [(0, .row 1 EB d c.cap)]⟩) := by
  refine SMem.inm [] SOK.nil [] MSOK.nil tok mixed [] IOK.nil true [] [] Try.call16 Try.func16 rfl (by rfl) ?_
  refine Eq.mp (α := (And (And (And ((0 : Nat) = (0 : Nat)) (And ((0 : Nat) = (0 : Nat)) (∃ ys : List Int, (And (List.map (Enc.enc (encInt IntKind.u8)) ys = List.map eB d) (And (((0 : Nat) + List.length ys) * (1 : Nat) ≤ (150000000000000 : Nat)) (∀ cap2 : Nat, (∀ a : (0 : Nat) + List.length ys ≤ cap2, (And (∃ o : CapT (List.length d), (And (And (And (n = n) (And (s = s) (And (t = t) (And (v = v) (And (g = g) (And (And ((true : Bool) = true) (And ((0 : Nat) = (0 : Nat)) (And (List.length d = List.length ([] ++ ys)) (CapT.cap o = cap2)))) True)))))) True) (And (And (And ((true : Bool) = true) (And (CapT.cap o = cap2) (And (List.map (Enc.enc EB) d = List.map (Enc.enc (encInt IntKind.u8)) ([] ++ ys)) (∀ x_1 : Int, (∀ a_1 : x_1 ∈ d, (∀ s_1 : SV, (∀ a_2 : s_1 ∈ Enc.enc EB x_1, ((SV.isPure s_1 : Bool) = (true))))))))) (And ((true : Bool) = true) True)) ((true : Bool) = true)))) True)))))))) True) True)) (by kernel_rfl) ?_
  exact ⟨⟨⟨rfl, rfl, d, rfl, by omega, fun cap2 h2 => ⟨⟨⟨cap2, Nat.le_trans (Nat.le_of_eq (Nat.zero_add _).symm) h2⟩, ⟨⟨rfl, rfl, rfl, rfl, rfl, ⟨rfl, rfl, rfl, rfl⟩, trivial⟩, trivial⟩, ⟨⟨rfl, rfl, rfl, fun x _ => Enc.pures EB x⟩, rfl, trivial⟩, rfl⟩, trivial⟩⟩, trivial⟩, trivial⟩
def imsgOT : MT := fun ms n h K => match ms with
  | [.agg [.v (.int .u64 n_), .v (.int .u64 s), .v (.int .u64 t), .ints .u64 4 v, .v (.int .u64 g), .view vx0 ve0 en0 vl0]] => bif Nat.beq ve0 1 && noDup [] then ∃ d : List (Int), vl0.map en0 = d.map eB ∧ (d.length ≤ 100000000) ∧ (∀ c : CapT d.length, K (n + 1) (.agg (mO n_ s t v g n d.length c.cap)) ([(n, .row 1 EB d c.cap)] ++ delL [] h)) else False
  | _ => False
theorem imsgO_mono : MMono imsgOT := by
  intro ms n h K K' hkk hk
  unfold imsgOT at hk ⊢
  split at hk
  · rename_i n_ s t v g vx0 ve0 va0 en0 vl0
    obtain ⟨hb, y0, z0, h1, h2⟩ := cond_false_elim hk
    rw [hb]
    exact ⟨y0, z0, h1, fun o => hkk _ _ _ (h2 o)⟩
  · exact hk.elim
theorem imsgO_ok : MOK Try.prog 16 imsgOT := by
  refine ⟨?_, imsgO_mono⟩
  intro ms n hB K hk
  unfold imsgOT at hk
  split at hk
  · rename_i n_ s t v g vx0 ve0 va0 en0 vl0
    obtain ⟨hb, d, he0, h, hk2⟩ := cond_false_elim hk
    clear hk
    simp only [Bool.and_eq_true] at hb
    obtain ⟨hc0, hnd⟩ := hb
    have hs0 := Nat.eq_of_beq_eq_true hc0
    subst hs0
    refine SCall.seen ?_ (.cons (.agg (.refl (.refl (.refl (.refl (.refl (.view he0 .nil))))))) .nil)
    exact (imsgO_spec _ _ _ _ _ _ h).use (fun _ => 0) rfl rfl trivial (by exact hnd) (fun j hj => absurd hj (Nat.not_lt_zero j)) (fun o => hk2 o)
  · exact hk.elim

theorem castBs (l : List Int) : castL EB (encInt .u8) l = l := castL_self _ _ rfl
theorem cloneO_spec {l : List Int} {cp : Nat} (h : l.length ≤ cp) (hl : l.length ≤ 100000000) : SMem Try.prog 35 [.one (.slc 0 1 0 l.length cp)] 1 [(0, .row 1 EB l cp)] (fun x : Value => ⟨1, byV x l, [(0, .row 1 EB l cp)]⟩) := by
  refine SMem.inf 1 EB [] SOK.nil [] MSOK.nil tok mixed [] IOK.nil true [] [] Try.call35 Try.func35 rfl (by rfl) ?_
  refine Eq.mp (α := (And ((0 : Nat) = (0 : Nat)) (And ((0 : Nat) = (0 : Nat)) (And ((0 : Nat) + List.length l ≤ List.length l) (And (((0 : Nat) + List.length (castL EB (encInt IntKind.u8) (List.take (List.length l) (List.drop (0 : Nat) l)))) * (1 : Nat) ≤ (150000000000000 : Nat)) (∀ cap2 : Nat, (∀ a : (0 : Nat) + List.length (castL EB (encInt IntKind.u8) (List.take (List.length l) (List.drop (0 : Nat) l))) ≤ cap2, (And ((0 : Nat) + List.length ([] ++ castL EB (encInt IntKind.u8) (List.take (List.length l) (List.drop (0 : Nat) l))) ≤ List.length ([] ++ castL EB (encInt IntKind.u8) (List.take (List.length l) (List.drop (0 : Nat) l)))) (And (List.length ([] ++ castL EB (encInt IntKind.u8) (List.take (List.length l) (List.drop (0 : Nat) l))) ≤ cap2) (And (∀ y : Int, ((true : Bool) = true)) (∀ x : Value, (∃ o : Value, (And (And (SV.view o (1 : Nat) eB l = nilV (1 : Nat) EB (SV.view x (1 : Nat) (Enc.enc (encInt IntKind.u8)) (List.take (List.length ([] ++ castL EB (encInt IntKind.u8) (List.take (List.length l) (List.drop (0 : Nat) l)))) (List.drop (0 : Nat) ([] ++ castL EB (encInt IntKind.u8) (List.take (List.length l) (List.drop (0 : Nat) l))))))) True) (And (And (And ((true : Bool) = true) (And (cp = cp) (And (List.map (Enc.enc EB) l = List.map (Enc.enc EB) l) (∀ x_1 : Int, (∀ a_1 : x_1 ∈ l, (∀ s : SV, (∀ a_2 : s ∈ Enc.enc EB x_1, ((SV.isPure s : Bool) = (true))))))))) (And ((true : Bool) = true) True)) ((true : Bool) = true))))))))))))))) (by kernel_rfl) ?_
  simp only [List.nil_append, List.drop_zero, List.take_length, Nat.zero_add, castBs]
  exact ⟨trivial, trivial, Nat.le_refl _, by omega, fun c hc => ⟨Nat.le_refl _, hc, fun _ => trivial, fun x => ⟨x, ⟨rfl, trivial⟩, ⟨⟨trivial, trivial, trivial, fun x _ => Enc.pures EB x⟩, trivial, trivial⟩, trivial⟩⟩⟩
theorem cloneO_row {l : List Int} {len cap cp : Nat} (h : len = l.length ∧ cap = cp ∧ l.length ≤ cp ∧ l.length ≤ 100000000) : SMem Try.prog 35 [.one (.slc 0 1 0 len cap)] 1 [(0, .row 1 EB l cp)] (fun x : Value => ⟨1, byV x l, [(0, .row 1 EB l cp)]⟩) := by
  obtain ⟨rfl, rfl, h1, h2⟩ := h
  exact cloneO_spec h1 h2
def cloneOT : MT := fun ms n h K => match ms with
  | [.one (.slc P0 1 0 len cap)] => (match get h P0 with
    | some (.row we0 wn0 wl0 cp) => bif Nat.beq we0 1 && noDup [P0] then ∃ l : List (Int), wl0.map wn0.enc = l.map (EB).enc ∧ (len = l.length ∧ cap = cp ∧ l.length ≤ cp ∧ l.length ≤ 100000000) ∧ (∀ x : Value, K (n + 0) (byV x l) ([(P0, .row 1 EB l cp)] ++ delL [P0] h)) else False
    | _ => False)
  | _ => False
theorem cloneO_mono : MMono cloneOT := by
  intro ms n h K K' hkk hk
  unfold cloneOT at hk ⊢
  split at hk
  · rename_i P0 len cap
    split at hk
    · rename_i we0 wa0 wn0 wl0 cp hg0
      try simp only [hg0]
      obtain ⟨hb, y0, z0, h1, h2⟩ := cond_false_elim hk
      rw [hb]
      exact ⟨y0, z0, h1, fun o => hkk _ _ _ (h2 o)⟩
    · exact hk.elim
  · exact hk.elim
theorem cloneO_ok : MOK Try.prog 35 cloneOT := by
  refine ⟨?_, cloneO_mono⟩
  intro ms n hB K hk
  unfold cloneOT at hk
  split at hk
  · rename_i P0 len cap
    split at hk
    · rename_i we0 wa0 wn0 wl0 cp hg0
      obtain ⟨hb, l, hl0, h, hk2⟩ := cond_false_elim hk
      clear hk
      simp only [Bool.and_eq_true] at hb
      obtain ⟨hc0, hnd⟩ := hb
      have hs0 := Nat.eq_of_beq_eq_true hc0
      subst hs0
      refine SCall.seen ?_ (.cons (.refl _) .nil)
      exact (cloneO_row h).use (fun j => match j with | 0 => P0 | _ => 0) rfl rfl ⟨by show (match get hB P0 with | some b0 => Blk.imp _ _ _ b0 | none => False); rw [hg0]; exact ⟨rfl, rfl, hl0.symm, fun y _ => Enc.pures _ y⟩, rfl, trivial⟩ (by exact hnd) (fun j hj => by cases j with
          | zero => exact ⟨_, rfl⟩
          | succ j => omega) (fun o => hk2 o)
    · exact hk.elim
  · exact hk.elim

abbrev dH (m : Msg) (c : Nat) : Bs := [(4, .row 1 EB m.d c)]
theorem depositO_spec (m : Msg) {c : Nat} (hc : m.d.length ≤ c) {x : IB} (i : IBT x) : SMem Try.prog 17 [.one (.ptr 0 0), .agg (mO m.n m.s m.t m.v m.g 4 m.d.length c)] 5 (inH i.L i.cp i.ms i.bs x.N ++ dH m c)
    (fun o : IBT (x.deposit m).1 => ⟨5, .tup [u64 (x.deposit m).2.1, int (x.deposit m).2.2], inH o.L o.cp o.ms o.bs (x.deposit m).1.N ++ dH m c⟩) := by
  refine SMem.inm [] SOK.nil [(2000035, noT), (35, cloneOT)] (MSOK.cons noT_ok (MSOK.cons cloneO_ok MSOK.nil)) tok mixed [(31, ⟨Try.f31, true, [], []⟩), (32, ⟨Try.f32, true, [], []⟩), (33, ⟨Try.f33, true, [], []⟩), (47, ⟨Try.f47, true, [], []⟩)] (IOK.cons Try.func31 Try.call31 (IOK.cons Try.func32 Try.call32 (IOK.cons Try.func33 Try.call33 (IOK.cons Try.func47 Try.call47 IOK.nil)))) true [] [] Try.call17 Try.func17 rfl (by rfl) ?_
  refine Eq.mp (α := (@Bool.rec (fun _ => Prop) (∃ o : IBT (Prod.fst (IB.deposit x m)), (And (And (And (Prod.fst (Prod.snd (IB.deposit x m)) = (0 : Int)) (And (Prod.snd (Prod.snd (IB.deposit x m)) = (1 : Int)) True)) True) (And (And (And (And ((true : Bool) = true) (And (List.length (IBT.L o) = List.length (IBT.L i)) (IBT.cp o = IBT.cp i))) (And ((true : Bool) = true) (And ((true : Bool) = true) (And (IB.N (Prod.fst (IB.deposit x m)) = IB.N x) True)))) (And ((true : Bool) = true) (And (And ((8 : Nat) = (8 : Nat)) (And ((true : Bool) = true) (List.map (Enc.enc EM) (IBT.ms o) = List.map (Enc.enc EM) (IBT.ms i)))) (And ((true : Bool) = true) (And (And ((8 : Nat) = (8 : Nat)) (And ((false : Bool) = false) (List.map (Enc.enc EBl) (IBT.bs o) = List.map (Enc.enc EBl) (IBT.bs i)))) (And ((true : Bool) = true) (And (And ((true : Bool) = true) (And (IBT.cp o = IBT.cp i) (And (List.map (Enc.enc EK) (IBT.L o) = List.map (Enc.enc EK) (IBT.L i)) (∀ x_1 : KTy, (∀ a : x_1 ∈ IBT.L o, (∀ s : SV, (∀ a_1 : s ∈ Enc.enc EK x_1, ((SV.isPure s : Bool) = (true))))))))) (And ((true : Bool) = true) (And (And ((true : Bool) = true) (And (c = c) (And (List.map (Enc.enc EB) (Msg.d m) = List.map (Enc.enc EB) (Msg.d m)) (∀ x_1 : Int, (∀ a : x_1 ∈ Msg.d m, (∀ s : SV, (∀ a_1 : s ∈ Enc.enc EB x_1, ((SV.isPure s : Bool) = (true))))))))) (And ((true : Bool) = true) True)))))))))) ((true : Bool) = true)))) (@Bool.rec (fun _ => Prop) (∃ l : List Int, (And (List.map (Enc.enc EB) (Msg.d m) = List.map (Enc.enc EB) l) (And (And (List.length (Msg.d m) = List.length l) (And (c = c) (And (List.length l ≤ c) (List.length l ≤ (100000000 : Nat))))) (∀ x_1 : Value, (@Bool.rec (fun _ => Prop) (∃ o : IBT (Prod.fst (IB.deposit x m)), (And (And (And (Prod.fst (Prod.snd (IB.deposit x m)) = (0 : Int)) (And (Prod.snd (Prod.snd (IB.deposit x m)) = (6 : Int)) True)) True) (And (And (And (And ((true : Bool) = true) (And (List.length (IBT.L o) = List.length (IBT.L i)) (IBT.cp o = IBT.cp i))) (And ((true : Bool) = true) (And ((true : Bool) = true) (And (IB.N (Prod.fst (IB.deposit x m)) = IB.N x) True)))) (And ((true : Bool) = true) (And (And ((8 : Nat) = (8 : Nat)) (And ((true : Bool) = true) (List.map (Enc.enc EM) (IBT.ms o) = List.map (Enc.enc EM) (IBT.ms i)))) (And ((true : Bool) = true) (And (And ((8 : Nat) = (8 : Nat)) (And ((false : Bool) = false) (List.map (Enc.enc EBl) (IBT.bs o) = List.map (Enc.enc EBl) (IBT.bs i)))) (And ((true : Bool) = true) (And (And ((true : Bool) = true) (And (IBT.cp o = IBT.cp i) (And (List.map (Enc.enc EK) (IBT.L o) = List.map (Enc.enc EK) (IBT.L i)) (∀ x_2 : KTy, (∀ a : x_2 ∈ IBT.L o, (∀ s : SV, (∀ a_1 : s ∈ Enc.enc EK x_2, ((SV.isPure s : Bool) = (true))))))))) (And ((true : Bool) = true) (And (And ((true : Bool) = true) (And (c = c) (And (List.map (Enc.enc EB) (Msg.d m) = List.map (Enc.enc EB) l) (∀ x_2 : Int, (∀ a : x_2 ∈ Msg.d m, (∀ s : SV, (∀ a_1 : s ∈ Enc.enc EB x_2, ((SV.isPure s : Bool) = (true))))))))) (And ((true : Bool) = true) True)))))))))) ((true : Bool) = true)))) (∃ l' : List (RK.TL [RK.int IntKind.u8]), (And (List.map eB l = List.map (RK.svs [RK.int IntKind.u8]) l') (∃ o : IBT (Prod.fst (IB.deposit x m)), (And (And (And (Prod.fst (Prod.snd (IB.deposit x m)) = IB.N x) (And (Prod.snd (Prod.snd (IB.deposit x m)) = (0 : Int)) True)) True) (And (And (And (And ((true : Bool) = true) (And (List.length (IBT.L o) = List.length (IBT.L i)) (IBT.cp o = IBT.cp i))) (And ((true : Bool) = true) (And ((true : Bool) = true) (And (IB.N (Prod.fst (IB.deposit x m)) = IntKind.wrap IntKind.u64 (IB.N x + (1 : Int))) True)))) (And ((true : Bool) = true) (And (And ((8 : Nat) = (8 : Nat)) (And ((true : Bool) = true) (List.map (Enc.enc EM) (IBT.ms o) = List.map (Enc.enc EM) (IBT.ms i ++ [Enc.of EM (IB.N x, Msg.s m, Msg.t m, Msg.v m, Msg.g m, (x_1, l'), ())])))) (And ((true : Bool) = true) (And (And ((8 : Nat) = (8 : Nat)) (And ((false : Bool) = false) (List.map (Enc.enc EBl) (IBT.bs o) = List.map (Enc.enc EBl) (IBT.bs i)))) (And ((true : Bool) = true) (And (And ((true : Bool) = true) (And (IBT.cp o = IBT.cp i) (And (List.map (Enc.enc EK) (IBT.L o) = List.map (Enc.enc EK) (IBT.L i)) (∀ x_2 : KTy, (∀ a : x_2 ∈ IBT.L o, (∀ s : SV, (∀ a_1 : s ∈ Enc.enc EK x_2, ((SV.isPure s : Bool) = (true))))))))) (And ((true : Bool) = true) (And (And ((true : Bool) = true) (And (c = c) (And (List.map (Enc.enc EB) (Msg.d m) = List.map (Enc.enc EB) l) (∀ x_2 : Int, (∀ a : x_2 ∈ Msg.d m, (∀ s : SV, (∀ a_1 : s ∈ Enc.enc EB x_2, ((SV.isPure s : Bool) = (true))))))))) (And ((true : Bool) = true) True)))))))))) ((true : Bool) = true)))))) (decide (List.length (IBT.ms i) < (8 : Nat)))))))) (∃ o : IBT (Prod.fst (IB.deposit x m)), (And (And (And (Prod.fst (Prod.snd (IB.deposit x m)) = (0 : Int)) (And (Prod.snd (Prod.snd (IB.deposit x m)) = (1 : Int)) True)) True) (And (And (And (And ((true : Bool) = true) (And (List.length (IBT.L o) = List.length (IBT.L i)) (IBT.cp o = IBT.cp i))) (And ((true : Bool) = true) (And ((true : Bool) = true) (And (IB.N (Prod.fst (IB.deposit x m)) = IB.N x) True)))) (And ((true : Bool) = true) (And (And ((8 : Nat) = (8 : Nat)) (And ((true : Bool) = true) (List.map (Enc.enc EM) (IBT.ms o) = List.map (Enc.enc EM) (IBT.ms i)))) (And ((true : Bool) = true) (And (And ((8 : Nat) = (8 : Nat)) (And ((false : Bool) = false) (List.map (Enc.enc EBl) (IBT.bs o) = List.map (Enc.enc EBl) (IBT.bs i)))) (And ((true : Bool) = true) (And (And ((true : Bool) = true) (And (IBT.cp o = IBT.cp i) (And (List.map (Enc.enc EK) (IBT.L o) = List.map (Enc.enc EK) (IBT.L i)) (∀ x_1 : KTy, (∀ a : x_1 ∈ IBT.L o, (∀ s : SV, (∀ a_1 : s ∈ Enc.enc EK x_1, ((SV.isPure s : Bool) = (true))))))))) (And ((true : Bool) = true) (And (And ((true : Bool) = true) (And (c = c) (And (List.map (Enc.enc EB) (Msg.d m) = List.map (Enc.enc EB) (Msg.d m)) (∀ x_1 : Int, (∀ a : x_1 ∈ Msg.d m, (∀ s : SV, (∀ a_1 : s ∈ Enc.enc EB x_1, ((SV.isPure s : Bool) = (true))))))))) (And ((true : Bool) = true) True)))))))))) ((true : Bool) = true)))) (!decide ((↑(List.length (Msg.d m)) : Int) ≤ (64 : Int)))) (decide (Msg.g m ≤ (65536 : Int))))) (by kernel_rfl) ?_
  have hlen : i.ms.length = x.D.length := by rw [← i.hm, List.length_map]
  unfold IB.deposit rightM
  refine bif_dec (fun g1 => ?_) (fun g1 => ?_)
  · rw [decide_eq_true g1, Bool.true_and, show decide ((m.d.length : Int) ≤ 64) = decide (m.d.length ≤ 64) from decide_eq_decide.2 (by omega)]
    refine bif_not (bif_dec (fun hd => ?_) (fun hd => ?_))
    · rw [if_pos (decide_eq_true hd)]
      refine ⟨m.d, rfl, ⟨rfl, rfl, hc, by omega⟩, fun z => bif_dec (fun h2 => ?_) (fun h2 => ?_)⟩
      · rw [if_pos (show x.D.length < 8 by omega)]
        refine ⟨mkL m.d, encmk m.d, ⟨i.L, i.cp, i.ms ++ [mkM { m with n := x.N } z], i.bs, i.hL, by rw [List.map_append, i.hm, List.map_cons, ml_mk]; rfl, i.hb, i.hc⟩, ?_⟩
        repeat' first | exact fun x _ => Enc.pures EK x | exact fun x _ => Enc.pures EB x | exact trivial | refine And.intro ?_ ?_ | with_reducible refine bif_dt (by assumption) ?_ | with_reducible refine bif_df (by assumption) ?_ | with_reducible refine bif_dec (fun _ => ?_) (fun _ => ?_) | with_reducible refine bif_not ?_ | with_reducible refine bif_and ?_ | with_reducible refine bif_or ?_ | with_reducible refine bif_t (by assumption) ?_ | with_reducible refine bif_f (by assumption) ?_ | with_reducible refine bif_t (beq_self_eq_true _) ?_ | with_reducible refine bif_b (fun _ => ?_) (fun _ => ?_) | with_reducible refine ⟨_, Eq.refl (List.map _ _), ?_⟩ | (with_reducible refine Exists.intro (by omega) ?_) | rfl | (intro h0; omega) | omega
      · rw [if_neg (show ¬ x.D.length < 8 by omega)]
        refine ⟨i, ?_⟩
        repeat' first | exact fun x _ => Enc.pures EK x | exact fun x _ => Enc.pures EB x | exact trivial | refine And.intro ?_ ?_ | with_reducible refine bif_dt (by assumption) ?_ | with_reducible refine bif_df (by assumption) ?_ | with_reducible refine bif_dec (fun _ => ?_) (fun _ => ?_) | with_reducible refine bif_not ?_ | with_reducible refine bif_and ?_ | with_reducible refine bif_or ?_ | with_reducible refine bif_t (by assumption) ?_ | with_reducible refine bif_f (by assumption) ?_ | with_reducible refine bif_t (beq_self_eq_true _) ?_ | with_reducible refine bif_b (fun _ => ?_) (fun _ => ?_) | with_reducible refine ⟨_, Eq.refl (List.map _ _), ?_⟩ | (with_reducible refine Exists.intro (by omega) ?_) | rfl | (intro h0; omega) | omega
    · rw [if_neg (by rw [decide_eq_false hd]; decide)]
      refine ⟨i, ?_⟩
      repeat' first | exact fun x _ => Enc.pures EK x | exact fun x _ => Enc.pures EB x | exact trivial | refine And.intro ?_ ?_ | with_reducible refine bif_dt (by assumption) ?_ | with_reducible refine bif_df (by assumption) ?_ | with_reducible refine bif_dec (fun _ => ?_) (fun _ => ?_) | with_reducible refine bif_not ?_ | with_reducible refine bif_and ?_ | with_reducible refine bif_or ?_ | with_reducible refine bif_t (by assumption) ?_ | with_reducible refine bif_f (by assumption) ?_ | with_reducible refine bif_t (beq_self_eq_true _) ?_ | with_reducible refine bif_b (fun _ => ?_) (fun _ => ?_) | with_reducible refine ⟨_, Eq.refl (List.map _ _), ?_⟩ | (with_reducible refine Exists.intro (by omega) ?_) | rfl | (intro h0; omega) | omega
  · rw [decide_eq_false g1, Bool.false_and, if_neg (by decide)]
    refine ⟨i, ?_⟩
    repeat' first | exact fun x _ => Enc.pures EK x | exact fun x _ => Enc.pures EB x | exact trivial | refine And.intro ?_ ?_ | with_reducible refine bif_dt (by assumption) ?_ | with_reducible refine bif_df (by assumption) ?_ | with_reducible refine bif_dec (fun _ => ?_) (fun _ => ?_) | with_reducible refine bif_not ?_ | with_reducible refine bif_and ?_ | with_reducible refine bif_or ?_ | with_reducible refine bif_t (by assumption) ?_ | with_reducible refine bif_f (by assumption) ?_ | with_reducible refine bif_t (beq_self_eq_true _) ?_ | with_reducible refine bif_b (fun _ => ?_) (fun _ => ?_) | with_reducible refine ⟨_, Eq.refl (List.map _ _), ?_⟩ | (with_reducible refine Exists.intro (by omega) ?_) | rfl | (intro h0; omega) | omega
theorem postO_spec {b : List Int} {c : Nat} (hc : b.length ≤ c) {x : IB} (i : IBT x) : SMem Try.prog 20 [.one (.ptr 0 0), .one (.slc 4 1 0 b.length c)] 5 (inH i.L i.cp i.ms i.bs x.N ++ [(4, .row 1 EB b c)]) (fun o : IBT (x.post b).1 => ⟨5, int (x.post b).2, inH o.L o.cp o.ms o.bs (x.post b).1.N ++ [(4, .row 1 EB b c)]⟩) := by
  refine SMem.inm [] SOK.nil [(2000035, noT), (35, cloneOT)] (MSOK.cons noT_ok (MSOK.cons cloneO_ok MSOK.nil)) tok mixed [(31, ⟨Try.f31, true, [], []⟩)] (IOK.cons Try.func31 Try.call31 IOK.nil) true [] [] Try.call20 Try.func20 rfl (by rfl) ?_
  refine Eq.mp (α := (@Bool.rec (fun _ => Prop) (∃ l : List Int, (And (List.map (Enc.enc EB) b = List.map (Enc.enc EB) l) (And (And (List.length b = List.length l) (And (c = c) (And (List.length l ≤ c) (List.length l ≤ (100000000 : Nat))))) (∀ x_1 : Value, (@Bool.rec (fun _ => Prop) (∃ o : IBT (Prod.fst (IB.post x b)), (And (And (Prod.snd (IB.post x b) = (6 : Int)) True) (And (And (And (And ((true : Bool) = true) (And (List.length (IBT.L o) = List.length (IBT.L i)) (IBT.cp o = IBT.cp i))) (And ((true : Bool) = true) (And ((true : Bool) = true) (And (IB.N (Prod.fst (IB.post x b)) = IB.N x) True)))) (And ((true : Bool) = true) (And (And ((8 : Nat) = (8 : Nat)) (And ((true : Bool) = true) (List.map (Enc.enc EM) (IBT.ms o) = List.map (Enc.enc EM) (IBT.ms i)))) (And ((true : Bool) = true) (And (And ((8 : Nat) = (8 : Nat)) (And ((false : Bool) = false) (List.map (Enc.enc EBl) (IBT.bs o) = List.map (Enc.enc EBl) (IBT.bs i)))) (And ((true : Bool) = true) (And (And ((true : Bool) = true) (And (IBT.cp o = IBT.cp i) (And (List.map (Enc.enc EK) (IBT.L o) = List.map (Enc.enc EK) (IBT.L i)) (∀ x_2 : KTy, (∀ a : x_2 ∈ IBT.L o, (∀ s : SV, (∀ a_1 : s ∈ Enc.enc EK x_2, ((SV.isPure s : Bool) = (true))))))))) (And ((true : Bool) = true) (And (And ((true : Bool) = true) (And (c = c) (And (List.map (Enc.enc EB) b = List.map (Enc.enc EB) l) (∀ x_2 : Int, (∀ a : x_2 ∈ b, (∀ s : SV, (∀ a_1 : s ∈ Enc.enc EB x_2, ((SV.isPure s : Bool) = (true))))))))) (And ((true : Bool) = true) True)))))))))) ((true : Bool) = true)))) (∃ l' : List (RK.TL [RK.int IntKind.u8]), (And (List.map eB l = List.map (RK.svs [RK.int IntKind.u8]) l') (∃ o : IBT (Prod.fst (IB.post x b)), (And (And (Prod.snd (IB.post x b) = (0 : Int)) True) (And (And (And (And ((true : Bool) = true) (And (List.length (IBT.L o) = List.length (IBT.L i)) (IBT.cp o = IBT.cp i))) (And ((true : Bool) = true) (And ((true : Bool) = true) (And (IB.N (Prod.fst (IB.post x b)) = IB.N x) True)))) (And ((true : Bool) = true) (And (And ((8 : Nat) = (8 : Nat)) (And ((true : Bool) = true) (List.map (Enc.enc EM) (IBT.ms o) = List.map (Enc.enc EM) (IBT.ms i)))) (And ((true : Bool) = true) (And (And ((8 : Nat) = (8 : Nat)) (And ((false : Bool) = false) (List.map (Enc.enc EBl) (IBT.bs o) = List.map (Enc.enc EBl) (IBT.bs i ++ [Enc.of EBl ((x_1, l'), ())])))) (And ((true : Bool) = true) (And (And ((true : Bool) = true) (And (IBT.cp o = IBT.cp i) (And (List.map (Enc.enc EK) (IBT.L o) = List.map (Enc.enc EK) (IBT.L i)) (∀ x_2 : KTy, (∀ a : x_2 ∈ IBT.L o, (∀ s : SV, (∀ a_1 : s ∈ Enc.enc EK x_2, ((SV.isPure s : Bool) = (true))))))))) (And ((true : Bool) = true) (And (And ((true : Bool) = true) (And (c = c) (And (List.map (Enc.enc EB) b = List.map (Enc.enc EB) l) (∀ x_2 : Int, (∀ a : x_2 ∈ b, (∀ s : SV, (∀ a_1 : s ∈ Enc.enc EB x_2, ((SV.isPure s : Bool) = (true))))))))) (And ((true : Bool) = true) True)))))))))) ((true : Bool) = true)))))) (decide (List.length (IBT.bs i) < (8 : Nat)))))))) (∃ o : IBT (Prod.fst (IB.post x b)), (And (And (Prod.snd (IB.post x b) = (6 : Int)) True) (And (And (And (And ((true : Bool) = true) (And (List.length (IBT.L o) = List.length (IBT.L i)) (IBT.cp o = IBT.cp i))) (And ((true : Bool) = true) (And ((true : Bool) = true) (And (IB.N (Prod.fst (IB.post x b)) = IB.N x) True)))) (And ((true : Bool) = true) (And (And ((8 : Nat) = (8 : Nat)) (And ((true : Bool) = true) (List.map (Enc.enc EM) (IBT.ms o) = List.map (Enc.enc EM) (IBT.ms i)))) (And ((true : Bool) = true) (And (And ((8 : Nat) = (8 : Nat)) (And ((false : Bool) = false) (List.map (Enc.enc EBl) (IBT.bs o) = List.map (Enc.enc EBl) (IBT.bs i)))) (And ((true : Bool) = true) (And (And ((true : Bool) = true) (And (IBT.cp o = IBT.cp i) (And (List.map (Enc.enc EK) (IBT.L o) = List.map (Enc.enc EK) (IBT.L i)) (∀ x_1 : KTy, (∀ a : x_1 ∈ IBT.L o, (∀ s : SV, (∀ a_1 : s ∈ Enc.enc EK x_1, ((SV.isPure s : Bool) = (true))))))))) (And ((true : Bool) = true) (And (And ((true : Bool) = true) (And (c = c) (And (List.map (Enc.enc EB) b = List.map (Enc.enc EB) b) (∀ x_1 : Int, (∀ a : x_1 ∈ b, (∀ s : SV, (∀ a_1 : s ∈ Enc.enc EB x_1, ((SV.isPure s : Bool) = (true))))))))) (And ((true : Bool) = true) True)))))))))) ((true : Bool) = true)))) (decide ((4096 : Int) < (↑(List.length b) : Int))))) (by kernel_rfl) ?_
  have hlen : i.bs.length = x.B.length := by rw [← i.hb, List.length_map]
  unfold IB.post
  refine bif_dec (fun h => ?_) (fun h => ?_)
  · rw [if_pos (show 4096 < b.length by omega)]
    refine ⟨i, ?_⟩
    repeat' first | exact fun x _ => Enc.pures EK x | exact fun x _ => Enc.pures EB x | exact trivial | refine And.intro ?_ ?_ | with_reducible refine bif_dt (by assumption) ?_ | with_reducible refine bif_df (by assumption) ?_ | with_reducible refine bif_dec (fun _ => ?_) (fun _ => ?_) | with_reducible refine bif_not ?_ | with_reducible refine bif_and ?_ | with_reducible refine bif_or ?_ | with_reducible refine bif_t (by assumption) ?_ | with_reducible refine bif_f (by assumption) ?_ | with_reducible refine bif_t (beq_self_eq_true _) ?_ | with_reducible refine bif_b (fun _ => ?_) (fun _ => ?_) | with_reducible refine ⟨_, Eq.refl (List.map _ _), ?_⟩ | (with_reducible refine Exists.intro (by omega) ?_) | rfl | (intro h0; omega) | omega
  rw [if_neg (show ¬ 4096 < b.length by omega)]
  refine ⟨b, rfl, ⟨rfl, rfl, hc, by omega⟩, fun z => bif_dec (fun h2 => ?_) (fun h2 => ?_)⟩
  · rw [if_pos (show x.B.length < 8 by omega)]
    refine ⟨mkL b, encmk b, ⟨i.L, i.cp, i.ms, i.bs ++ [mkB z b], i.hL, i.hm, by rw [List.map_append, i.hb, List.map_cons, bl_mk]; rfl, i.hc⟩, ?_⟩
    repeat' first | exact fun x _ => Enc.pures EK x | exact fun x _ => Enc.pures EB x | exact trivial | refine And.intro ?_ ?_ | with_reducible refine bif_dt (by assumption) ?_ | with_reducible refine bif_df (by assumption) ?_ | with_reducible refine bif_dec (fun _ => ?_) (fun _ => ?_) | with_reducible refine bif_not ?_ | with_reducible refine bif_and ?_ | with_reducible refine bif_or ?_ | with_reducible refine bif_t (by assumption) ?_ | with_reducible refine bif_f (by assumption) ?_ | with_reducible refine bif_t (beq_self_eq_true _) ?_ | with_reducible refine bif_b (fun _ => ?_) (fun _ => ?_) | with_reducible refine ⟨_, Eq.refl (List.map _ _), ?_⟩ | (with_reducible refine Exists.intro (by omega) ?_) | rfl | (intro h0; omega) | omega
  · rw [if_neg (show ¬ x.B.length < 8 by omega)]
    refine ⟨i, ?_⟩
    repeat' first | exact fun x _ => Enc.pures EK x | exact fun x _ => Enc.pures EB x | exact trivial | refine And.intro ?_ ?_ | with_reducible refine bif_dt (by assumption) ?_ | with_reducible refine bif_df (by assumption) ?_ | with_reducible refine bif_dec (fun _ => ?_) (fun _ => ?_) | with_reducible refine bif_not ?_ | with_reducible refine bif_and ?_ | with_reducible refine bif_or ?_ | with_reducible refine bif_t (by assumption) ?_ | with_reducible refine bif_f (by assumption) ?_ | with_reducible refine bif_t (beq_self_eq_true _) ?_ | with_reducible refine bif_b (fun _ => ?_) (fun _ => ?_) | with_reducible refine ⟨_, Eq.refl (List.map _ _), ?_⟩ | (with_reducible refine Exists.intro (by omega) ?_) | rfl | (intro h0; omega) | omega
theorem depositO_row (n_ s t : Int) (v : List Int) (g : Int) (d : List Int) {x : IB} {L : List KTy} {ms : List MTy} {bs : List BTy} {len cap cp c1 c2 ln c c4 : Nat} (h : (len = L.length ∧ cap = cp ∧ capOk L.length cp ∧ c1 = 8 ∧ c2 = 8 ∧ L.map kl = x.L ∧ ms.map ml = x.D ∧ bs.map bl = x.B) ∧ ln = d.length ∧ c = c4 ∧ d.length ≤ c4) : SMem Try.prog 17 [.one (.ptr 0 0), .agg (mO n_ s t v g 4 ln c)] 5 [(0, .cells [.nslc 3 2 len cap, .ch 1, .ch 2, .v (.int .u64 x.N)]), (1, .chan c1 true EM ms), (2, .chan c2 false EBl bs), (3, .row 2 EK L cp), (4, .row 1 EB d c4)]
    (fun o : IBT (x.deposit ⟨n_, s, t, v, g, d⟩).1 => ⟨5, .tup [u64 (x.deposit ⟨n_, s, t, v, g, d⟩).2.1, int (x.deposit ⟨n_, s, t, v, g, d⟩).2.2], inH o.L o.cp o.ms o.bs (x.deposit ⟨n_, s, t, v, g, d⟩).1.N ++ [(4, .row 1 EB d c4)]⟩) := by
  obtain ⟨⟨rfl, rfl, h1, rfl, rfl, h2, h3, h4⟩, rfl, rfl, h5⟩ := h
  exact depositO_spec ⟨n_, s, t, v, g, d⟩ h5 ⟨L, cap, ms, bs, h2, h3, h4, h1⟩
theorem postO_row (b : List Int) {x : IB} {L : List KTy} {ms : List MTy} {bs : List BTy} {len cap cp c1 c2 ln c c4 : Nat} (h : (len = L.length ∧ cap = cp ∧ capOk L.length cp ∧ c1 = 8 ∧ c2 = 8 ∧ L.map kl = x.L ∧ ms.map ml = x.D ∧ bs.map bl = x.B) ∧ ln = b.length ∧ c = c4 ∧ b.length ≤ c4) : SMem Try.prog 20 [.one (.ptr 0 0), .one (.slc 4 1 0 ln c)] 5 [(0, .cells [.nslc 3 2 len cap, .ch 1, .ch 2, .v (.int .u64 x.N)]), (1, .chan c1 true EM ms), (2, .chan c2 false EBl bs), (3, .row 2 EK L cp), (4, .row 1 EB b c4)]
    (fun o : IBT (x.post b).1 => ⟨5, int (x.post b).2, inH o.L o.cp o.ms o.bs (x.post b).1.N ++ [(4, .row 1 EB b c4)]⟩) := by
  obtain ⟨⟨rfl, rfl, h1, rfl, rfl, h2, h3, h4⟩, rfl, rfl, h5⟩ := h
  exact postO_spec h5 ⟨L, cap, ms, bs, h2, h3, h4, h1⟩
def depositOT : MT := fun ms n h K => match ms with
  | [.one (.ptr P0 0), .agg [.v (.int .u64 n_), .v (.int .u64 s), .v (.int .u64 t), .ints .u64 4 v, .v (.int .u64 g), .slc P4 1 0 ln c]] => (match get h P0 with
    | some (.cells [.nslc P3 2 len cap, .ch P1, .ch P2, .v (.int .u64 q)]) => (match get h P1 with
    | some (.chan c1 true wn1 wl1) => (match get h P2 with
    | some (.chan c2 false wn2 wl2) => (match get h P3 with
    | some (.row we3 wn3 wl3 cp) => (match get h P4 with
    | some (.row we4 wn4 wl4 c4) => bif Nat.beq we3 2 && Nat.beq we4 1 && noDup [P0, P1, P2, P3, P4] then ∃ ms : List (MTy), wl1.map wn1.enc = ms.map (EM).enc ∧ ∃ bs : List (BTy), wl2.map wn2.enc = bs.map (EBl).enc ∧ ∃ L : List (KTy), wl3.map wn3.enc = L.map (EK).enc ∧ ∃ d : List (Int), wl4.map wn4.enc = d.map (EB).enc ∧ ∃ (x : IB), ((q = x.N) ∧ (len = L.length ∧ cap = cp ∧ capOk L.length cp ∧ c1 = 8 ∧ c2 = 8 ∧ L.map kl = x.L ∧ ms.map ml = x.D ∧ bs.map bl = x.B) ∧ ln = d.length ∧ c = c4 ∧ d.length ≤ c4) ∧ (∀ o : IBT (x.deposit ⟨n_, s, t, v, g, d⟩).1, K (n + 0) (.tup [u64 (x.deposit ⟨n_, s, t, v, g, d⟩).2.1, int (x.deposit ⟨n_, s, t, v, g, d⟩).2.2]) ([(P0, .cells [.nslc P3 2 o.L.length o.cp, .ch P1, .ch P2, .v (.int .u64 (x.deposit ⟨n_, s, t, v, g, d⟩).1.N)]), (P1, .chan 8 true EM o.ms), (P2, .chan 8 false EBl o.bs), (P3, .row 2 EK o.L o.cp), (P4, .row 1 EB d c4)] ++ delL [P0, P1, P2, P3, P4] h)) else False
    | _ => False)
    | _ => False)
    | _ => False)
    | _ => False)
    | _ => False)
  | _ => False
theorem depositO_mono : MMono depositOT := by
  intro ms n h K K' hkk hk
  unfold depositOT at hk ⊢
  split at hk
  · rename_i P0 n_ s t v g P4 ln c
    split at hk
    · rename_i P3 len cap P1 P2 q hg0
      try simp only [hg0]
      split at hk
      · rename_i c1 wa1 wn1 wl1 hg1
        try simp only [hg1]
        split at hk
        · rename_i c2 wa2 wn2 wl2 hg2
          try simp only [hg2]
          split at hk
          · rename_i we3 wa3 wn3 wl3 cp hg3
            try simp only [hg3]
            split at hk
            · rename_i we4 wa4 wn4 wl4 c4 hg4
              try simp only [hg4]
              obtain ⟨hb, y0, z0, y1, z1, y2, z2, y3, z3, q0, h1, h2⟩ := cond_false_elim hk
              rw [hb]
              exact ⟨y0, z0, y1, z1, y2, z2, y3, z3, q0, h1, fun o => hkk _ _ _ (h2 o)⟩
            · exact hk.elim
          · exact hk.elim
        · exact hk.elim
      · exact hk.elim
    · exact hk.elim
  · exact hk.elim
theorem depositO_ok : MOK Try.prog 17 depositOT := by
  refine ⟨?_, depositO_mono⟩
  intro ms n hB K hk
  unfold depositOT at hk
  split at hk
  · rename_i P0 n_ s t v g P4 ln c
    split at hk
    · rename_i P3 len cap P1 P2 q hg0
      split at hk
      · rename_i c1 wa1 wn1 wl1 hg1
        split at hk
        · rename_i c2 wa2 wn2 wl2 hg2
          split at hk
          · rename_i we3 wa3 wn3 wl3 cp hg3
            split at hk
            · rename_i we4 wa4 wn4 wl4 c4 hg4
              obtain ⟨hb, ms, hl1, bs, hl2, L, hl3, d, hl4, x, h, hk2⟩ := cond_false_elim hk
              clear hk
              obtain ⟨rfl, h⟩ := h
              simp only [Bool.and_eq_true] at hb
              obtain ⟨⟨hc0, hc1⟩, hnd⟩ := hb
              have hs0 := Nat.eq_of_beq_eq_true hc0
              subst hs0
              have hs1 := Nat.eq_of_beq_eq_true hc1
              subst hs1
              refine SCall.seen ?_ (.cons (.refl _) (.cons (.agg (.refl (.refl (.refl (.refl (.refl (.refl .nil))))))) .nil))
              exact (depositO_row n_ s t v g d h).use (fun j => match j with | 0 => P0 | 1 => P1 | 2 => P2 | 3 => P3 | 4 => P4 | _ => 0) rfl rfl ⟨by show (match get hB P0 with | some b0 => Blk.imp _ _ _ b0 | none => False); rw [hg0]; exact ⟨rfl, rfl⟩, rfl, ⟨by show (match get hB P1 with | some b0 => Blk.imp _ _ _ b0 | none => False); rw [hg1]; exact ⟨rfl, rfl, hl1.symm⟩, rfl, ⟨by show (match get hB P2 with | some b0 => Blk.imp _ _ _ b0 | none => False); rw [hg2]; exact ⟨rfl, rfl, hl2.symm⟩, rfl, ⟨by show (match get hB P3 with | some b0 => Blk.imp _ _ _ b0 | none => False); rw [hg3]; exact ⟨rfl, rfl, hl3.symm, fun y _ => Enc.pures _ y⟩, rfl, ⟨by show (match get hB P4 with | some b0 => Blk.imp _ _ _ b0 | none => False); rw [hg4]; exact ⟨rfl, rfl, hl4.symm, fun y _ => Enc.pures _ y⟩, rfl, trivial⟩⟩⟩⟩⟩ (by exact hnd) (fun j hj => by cases j with
                  | zero => exact ⟨_, rfl⟩
                  | succ j => cases j with
                   | zero => exact ⟨_, rfl⟩
                   | succ j => cases j with
                    | zero => exact ⟨_, rfl⟩
                    | succ j => cases j with
                     | zero => exact ⟨_, rfl⟩
                     | succ j => cases j with
                      | zero => exact ⟨_, rfl⟩
                      | succ j => omega) (fun o => hk2 o)
            · exact hk.elim
          · exact hk.elim
        · exact hk.elim
      · exact hk.elim
    · exact hk.elim
  · exact hk.elim

def postOT : MT := fun ms n h K => match ms with
  | [.one (.ptr P0 0), .one (.slc P4 1 0 ln c)] => (match get h P0 with
    | some (.cells [.nslc P3 2 len cap, .ch P1, .ch P2, .v (.int .u64 q)]) => (match get h P1 with
    | some (.chan c1 true wn1 wl1) => (match get h P2 with
    | some (.chan c2 false wn2 wl2) => (match get h P3 with
    | some (.row we3 wn3 wl3 cp) => (match get h P4 with
    | some (.row we4 wn4 wl4 c4) => bif Nat.beq we3 2 && Nat.beq we4 1 && noDup [P0, P1, P2, P3, P4] then ∃ ms : List (MTy), wl1.map wn1.enc = ms.map (EM).enc ∧ ∃ bs : List (BTy), wl2.map wn2.enc = bs.map (EBl).enc ∧ ∃ L : List (KTy), wl3.map wn3.enc = L.map (EK).enc ∧ ∃ b : List (Int), wl4.map wn4.enc = b.map (EB).enc ∧ ∃ (x : IB), ((q = x.N) ∧ (len = L.length ∧ cap = cp ∧ capOk L.length cp ∧ c1 = 8 ∧ c2 = 8 ∧ L.map kl = x.L ∧ ms.map ml = x.D ∧ bs.map bl = x.B) ∧ ln = b.length ∧ c = c4 ∧ b.length ≤ c4) ∧ (∀ o : IBT (x.post b).1, K (n + 0) (int (x.post b).2) ([(P0, .cells [.nslc P3 2 o.L.length o.cp, .ch P1, .ch P2, .v (.int .u64 (x.post b).1.N)]), (P1, .chan 8 true EM o.ms), (P2, .chan 8 false EBl o.bs), (P3, .row 2 EK o.L o.cp), (P4, .row 1 EB b c4)] ++ delL [P0, P1, P2, P3, P4] h)) else False
    | _ => False)
    | _ => False)
    | _ => False)
    | _ => False)
    | _ => False)
  | _ => False
theorem postO_mono : MMono postOT := by
  intro ms n h K K' hkk hk
  unfold postOT at hk ⊢
  split at hk
  · rename_i P0 P4 ln c
    split at hk
    · rename_i P3 len cap P1 P2 q hg0
      try simp only [hg0]
      split at hk
      · rename_i c1 wa1 wn1 wl1 hg1
        try simp only [hg1]
        split at hk
        · rename_i c2 wa2 wn2 wl2 hg2
          try simp only [hg2]
          split at hk
          · rename_i we3 wa3 wn3 wl3 cp hg3
            try simp only [hg3]
            split at hk
            · rename_i we4 wa4 wn4 wl4 c4 hg4
              try simp only [hg4]
              obtain ⟨hb, y0, z0, y1, z1, y2, z2, y3, z3, q0, h1, h2⟩ := cond_false_elim hk
              rw [hb]
              exact ⟨y0, z0, y1, z1, y2, z2, y3, z3, q0, h1, fun o => hkk _ _ _ (h2 o)⟩
            · exact hk.elim
          · exact hk.elim
        · exact hk.elim
      · exact hk.elim
    · exact hk.elim
  · exact hk.elim
theorem postO_ok : MOK Try.prog 20 postOT := by
  refine ⟨?_, postO_mono⟩
  intro ms n hB K hk
  unfold postOT at hk
  split at hk
  · rename_i P0 P4 ln c
    split at hk
    · rename_i P3 len cap P1 P2 q hg0
      split at hk
      · rename_i c1 wa1 wn1 wl1 hg1
        split at hk
        · rename_i c2 wa2 wn2 wl2 hg2
          split at hk
          · rename_i we3 wa3 wn3 wl3 cp hg3
            split at hk
            · rename_i we4 wa4 wn4 wl4 c4 hg4
              obtain ⟨hb, ms, hl1, bs, hl2, L, hl3, b, hl4, x, h, hk2⟩ := cond_false_elim hk
              clear hk
              obtain ⟨rfl, h⟩ := h
              simp only [Bool.and_eq_true] at hb
              obtain ⟨⟨hc0, hc1⟩, hnd⟩ := hb
              have hs0 := Nat.eq_of_beq_eq_true hc0
              subst hs0
              have hs1 := Nat.eq_of_beq_eq_true hc1
              subst hs1
              refine SCall.seen ?_ (.cons (.refl _) (.cons (.refl _) .nil))
              exact (postO_row b h).use (fun j => match j with | 0 => P0 | 1 => P1 | 2 => P2 | 3 => P3 | 4 => P4 | _ => 0) rfl rfl ⟨by show (match get hB P0 with | some b0 => Blk.imp _ _ _ b0 | none => False); rw [hg0]; exact ⟨rfl, rfl⟩, rfl, ⟨by show (match get hB P1 with | some b0 => Blk.imp _ _ _ b0 | none => False); rw [hg1]; exact ⟨rfl, rfl, hl1.symm⟩, rfl, ⟨by show (match get hB P2 with | some b0 => Blk.imp _ _ _ b0 | none => False); rw [hg2]; exact ⟨rfl, rfl, hl2.symm⟩, rfl, ⟨by show (match get hB P3 with | some b0 => Blk.imp _ _ _ b0 | none => False); rw [hg3]; exact ⟨rfl, rfl, hl3.symm, fun y _ => Enc.pures _ y⟩, rfl, ⟨by show (match get hB P4 with | some b0 => Blk.imp _ _ _ b0 | none => False); rw [hg4]; exact ⟨rfl, rfl, hl4.symm, fun y _ => Enc.pures _ y⟩, rfl, trivial⟩⟩⟩⟩⟩ (by exact hnd) (fun j hj => by cases j with
                  | zero => exact ⟨_, rfl⟩
                  | succ j => cases j with
                   | zero => exact ⟨_, rfl⟩
                   | succ j => cases j with
                    | zero => exact ⟨_, rfl⟩
                    | succ j => cases j with
                     | zero => exact ⟨_, rfl⟩
                     | succ j => cases j with
                      | zero => exact ⟨_, rfl⟩
                      | succ j => omega) (fun o => hk2 o)
            · exact hk.elim
          · exact hk.elim
        · exact hk.elim
      · exact hk.elim
    · exact hk.elim
  · exact hk.elim

def deposit3T : MT := fun ms n h K => match ms with
  | [a, .agg [p, q, r, s, t, .slc j e o l c]] => depositOT [a, .agg [p, q, r, s, t, .slc j e o l c]] n h K
  | ms => idepositNT ms n h K
theorem deposit3_ok : MOK Try.prog 17 deposit3T := by
  refine ⟨fun args n h K hk => ?_, fun args n h K K' hkk hk => ?_⟩
  · unfold deposit3T at hk
    split at hk
    · exact depositO_ok.ok _ _ _ _ hk
    · exact idepositN_ok.ok _ _ _ _ hk
  · unfold deposit3T at hk ⊢
    split at hk
    · exact depositO_ok.mono _ _ _ _ _ hkk hk
    · exact idepositN_ok.mono _ _ _ _ _ hkk hk
open Go Go.Sx

structure DBT (x : IB) where
  L : List KTy
  cp : Nat
  ms : List MTy
  c1 : Nat
  bs : List BTy
  c2 : Nat
  hL : L.map kl = x.L
  hm : ms.map ml = x.D
  hb : bs.map bl = x.B
  h0 : L.length ≤ cp
  h1 : ms.length ≤ c1
  h2 : bs.length ≤ c2
abbrev doc (L : List KTy) (cp : Nat) (ms : List MTy) (c1 : Nat) (bs : List BTy) (c2 : Nat) (q : Int) : Bs :=
  [(0, .cells [.nslc 1 2 L.length cp, .nslc 2 9 ms.length c1, .nslc 3 1 bs.length c2, .v (.int .u64 q)]), (1, .row 2 EK L cp), (2, .row 9 EM ms c1), (3, .row 1 EBl bs c2)]
abbrev dcs (a b c : Nat) (L : List KTy) (cp : Nat) (ms : List MTy) (c1 : Nat) (bs : List BTy) (c2 : Nat) (q : Int) : Bs :=
  [(0, .cells [.nslc a 2 L.length cp, .nslc b 9 ms.length c1, .nslc c 1 bs.length c2, .v (.int .u64 q)]), (a, .row 2 EK L cp), (b, .row 9 EM ms c1), (c, .row 1 EBl bs c2)]
theorem tkB (l : List Int) : List.map eB (List.take ([] ++ l).length (List.drop 0 ([] ++ l))) = List.map (RK.svs [.int .u8]) (mkL l) := by
  rw [List.nil_append, List.drop_zero, List.take_length]
  exact encmk l
theorem dpost_spec (y : Value) {b : List Int} {x : IB} (i : DBT x) (hb : x.B.length ≤ 8) : SMem Try.prog 21 [.one (.ptr 0 0), byV y b] 4 (doc i.L i.cp i.ms i.c1 i.bs i.c2 x.N) (fun o : DBT (x.post b).1 => ⟨5, int (x.post b).2, dcs 1 2 4 o.L o.cp o.ms o.c1 o.bs o.c2 (x.post b).1.N⟩) := by
  refine SMem.inm [] SOK.nil [] MSOK.nil tok mixed [] IOK.nil true [] [] Try.call21 Try.func21 rfl (by rfl) ?_
  refine Eq.mp (α := (@Bool.rec (fun _ => Prop) (@Bool.rec (fun _ => Prop) (And (And (And (And ((0 : Nat) = (0 : Nat)) (And ((0 : Nat) = (0 : Nat)) (∃ ys : List Int, (And (List.map (Enc.enc (encInt IntKind.u8)) ys = List.map eB b) (And (((0 : Nat) + List.length ys) * (1 : Nat) ≤ (150000000000000 : Nat)) (∀ cap2 : Nat, (∀ a : (0 : Nat) + List.length ys ≤ cap2, (And (And ((0 : Nat) + List.length ([] ++ ys) ≤ List.length ([] ++ ys)) (And (List.length ([] ++ ys) ≤ cap2) (And (∀ y_1 : Int, ((true : Bool) = true)) (∀ x_1 : Value, (∃ l' : List (RK.TL [RK.int IntKind.u8]), (And (List.map (Enc.enc (encInt IntKind.u8)) (List.take (List.length ([] ++ ys)) (List.drop (0 : Nat) ([] ++ ys))) = List.map (RK.svs [RK.int IntKind.u8]) l') (And (And (List.length (DBT.bs i) = List.length (DBT.bs i)) (And (DBT.c2 i = DBT.c2 i) (And ((0 : Nat) + (1 : Nat) ≤ (1 : Nat)) (And ((List.length (DBT.bs i) + (1 : Nat)) * (24 : Nat) ≤ (150000000000000 : Nat)) (∀ cap2_1 : Nat, (∀ a_1 : List.length (DBT.bs i) + (1 : Nat) ≤ cap2_1, (And (∃ o : DBT (Prod.fst (IB.post x b)), (And (And (Prod.snd (IB.post x b) = (0 : Int)) True) (And (And (And (And ((true : Bool) = true) (And (List.length (DBT.L o) = List.length (DBT.L i)) (DBT.cp o = DBT.cp i))) (And (And ((true : Bool) = true) (And (List.length (DBT.ms o) = List.length (DBT.ms i)) (DBT.c1 o = DBT.c1 i))) (And (And ((true : Bool) = true) (And (List.length (DBT.bs o) = List.length (DBT.bs i ++ castL (encRec [RK.sl (1 : Nat) [RK.int IntKind.u8]]) EBl (List.take (1 : Nat) (List.drop (0 : Nat) [Enc.of (encRec [RK.sl (1 : Nat) [RK.int IntKind.u8]]) ((x_1, l'), ())])))) (DBT.c2 o = cap2_1))) (And (IB.N (Prod.fst (IB.post x b)) = IB.N x) True)))) (And ((true : Bool) = true) (And (And ((true : Bool) = true) (And (DBT.cp o = DBT.cp i) (And (List.map (Enc.enc EK) (DBT.L o) = List.map (Enc.enc EK) (DBT.L i)) (∀ x_2 : KTy, (∀ a_2 : x_2 ∈ DBT.L o, (∀ s : SV, (∀ a_3 : s ∈ Enc.enc EK x_2, ((SV.isPure s : Bool) = (true))))))))) (And ((true : Bool) = true) (And (And ((true : Bool) = true) (And (DBT.c1 o = DBT.c1 i) (And (List.map (Enc.enc EM) (DBT.ms o) = List.map (Enc.enc EM) (DBT.ms i)) (∀ x_2 : MTy, (∀ a_2 : x_2 ∈ DBT.ms o, (∀ s : SV, (∀ a_3 : s ∈ Enc.enc EM x_2, ((SV.isPure s : Bool) = (true))))))))) (And ((true : Bool) = true) (And (And ((true : Bool) = true) (And (DBT.c2 o = cap2_1) (And (List.map (Enc.enc EBl) (DBT.bs o) = List.map (Enc.enc EBl) (DBT.bs i ++ castL (encRec [RK.sl (1 : Nat) [RK.int IntKind.u8]]) EBl (List.take (1 : Nat) (List.drop (0 : Nat) [Enc.of (encRec [RK.sl (1 : Nat) [RK.int IntKind.u8]]) ((x_1, l'), ())])))) (∀ x_2 : BTy, (∀ a_2 : x_2 ∈ DBT.bs o, (∀ s : SV, (∀ a_3 : s ∈ Enc.enc EBl x_2, ((SV.isPure s : Bool) = (true))))))))) (And ((true : Bool) = true) True)))))))) ((true : Bool) = true)))) True))))))) True))))))) True)))))))) True) True) (And (And (And (And ((0 : Nat) = (0 : Nat)) (And ((0 : Nat) = (0 : Nat)) (∃ ys : List Int, (And (List.map (Enc.enc (encInt IntKind.u8)) ys = List.map eB b) (And (((0 : Nat) + List.length ys) * (1 : Nat) ≤ (150000000000000 : Nat)) (∀ cap2 : Nat, (∀ a : (0 : Nat) + List.length ys ≤ cap2, (And (And ((0 : Nat) + List.length ([] ++ ys) ≤ List.length ([] ++ ys)) (And (List.length ([] ++ ys) ≤ cap2) (And (∀ y_1 : Int, ((true : Bool) = true)) (∀ x_1 : Value, (∃ l' : List (RK.TL [RK.int IntKind.u8]), (And (List.map (Enc.enc (encInt IntKind.u8)) (List.take (List.length ([] ++ ys)) (List.drop (0 : Nat) ([] ++ ys))) = List.map (RK.svs [RK.int IntKind.u8]) l') (And (And (List.length (DBT.bs i) = List.length (DBT.bs i)) (And (DBT.c2 i = DBT.c2 i) (And ((0 : Nat) + (1 : Nat) ≤ (1 : Nat)) (And ((List.length (DBT.bs i) + (1 : Nat)) * (24 : Nat) ≤ (150000000000000 : Nat)) (∀ cap2_1 : Nat, (∀ a_1 : List.length (DBT.bs i) + (1 : Nat) ≤ cap2_1, (And (∃ o : DBT (Prod.fst (IB.post x b)), (And (And (Prod.snd (IB.post x b) = (0 : Int)) True) (And (And (And (And ((true : Bool) = true) (And (List.length (DBT.L o) = List.length (DBT.L i)) (DBT.cp o = DBT.cp i))) (And (And ((true : Bool) = true) (And (List.length (DBT.ms o) = List.length (DBT.ms i)) (DBT.c1 o = DBT.c1 i))) (And (And ((true : Bool) = true) (And (List.length (DBT.bs o) = List.length (DBT.bs i ++ castL (encRec [RK.sl (1 : Nat) [RK.int IntKind.u8]]) EBl (List.take (1 : Nat) (List.drop (0 : Nat) [Enc.of (encRec [RK.sl (1 : Nat) [RK.int IntKind.u8]]) ((x_1, l'), ())])))) (DBT.c2 o = cap2_1))) (And (IB.N (Prod.fst (IB.post x b)) = IB.N x) True)))) (And ((true : Bool) = true) (And (And ((true : Bool) = true) (And (DBT.cp o = DBT.cp i) (And (List.map (Enc.enc EK) (DBT.L o) = List.map (Enc.enc EK) (DBT.L i)) (∀ x_2 : KTy, (∀ a_2 : x_2 ∈ DBT.L o, (∀ s : SV, (∀ a_3 : s ∈ Enc.enc EK x_2, ((SV.isPure s : Bool) = (true))))))))) (And ((true : Bool) = true) (And (And ((true : Bool) = true) (And (DBT.c1 o = DBT.c1 i) (And (List.map (Enc.enc EM) (DBT.ms o) = List.map (Enc.enc EM) (DBT.ms i)) (∀ x_2 : MTy, (∀ a_2 : x_2 ∈ DBT.ms o, (∀ s : SV, (∀ a_3 : s ∈ Enc.enc EM x_2, ((SV.isPure s : Bool) = (true))))))))) (And ((true : Bool) = true) (And (And ((true : Bool) = true) (And (DBT.c2 o = cap2_1) (And (List.map (Enc.enc EBl) (DBT.bs o) = List.map (Enc.enc EBl) (DBT.bs i ++ castL (encRec [RK.sl (1 : Nat) [RK.int IntKind.u8]]) EBl (List.take (1 : Nat) (List.drop (0 : Nat) [Enc.of (encRec [RK.sl (1 : Nat) [RK.int IntKind.u8]]) ((x_1, l'), ())])))) (∀ x_2 : BTy, (∀ a_2 : x_2 ∈ DBT.bs o, (∀ s : SV, (∀ a_3 : s ∈ Enc.enc EBl x_2, ((SV.isPure s : Bool) = (true))))))))) (And ((true : Bool) = true) True)))))))) ((true : Bool) = true)))) True))))))) True))))))) True)))))))) True) (And (And ((0 : Nat) = (0 : Nat)) (And ((0 : Nat) = (0 : Nat)) (∃ ys : List Int, (And (List.map (Enc.enc (encInt IntKind.u8)) ys = List.map eB b) (And (((0 : Nat) + List.length ys) * (1 : Nat) ≤ (150000000000000 : Nat)) (∀ cap2 : Nat, (∀ a : (0 : Nat) + List.length ys ≤ cap2, (And (And (And ((0 : Nat) + List.length ([] ++ ys) ≤ List.length ([] ++ ys)) (And (List.length ([] ++ ys) ≤ cap2) (And (∀ y_1 : Int, ((true : Bool) = true)) (∀ x_1 : Value, (∃ l' : List (RK.TL [RK.int IntKind.u8]), (And (List.map (Enc.enc (encInt IntKind.u8)) (List.take (List.length ([] ++ ys)) (List.drop (0 : Nat) ([] ++ ys))) = List.map (RK.svs [RK.int IntKind.u8]) l') (And (And (List.length (DBT.bs i) = List.length (DBT.bs i)) (And (DBT.c2 i = DBT.c2 i) (And ((0 : Nat) + (1 : Nat) ≤ (1 : Nat)) (And ((List.length (DBT.bs i) + (1 : Nat)) * (24 : Nat) ≤ (150000000000000 : Nat)) (∀ cap2_1 : Nat, (∀ a_1 : List.length (DBT.bs i) + (1 : Nat) ≤ cap2_1, (And (∃ o : DBT (Prod.fst (IB.post x b)), (And (And (Prod.snd (IB.post x b) = (0 : Int)) True) (And (And (And (And ((true : Bool) = true) (And (List.length (DBT.L o) = List.length (DBT.L i)) (DBT.cp o = DBT.cp i))) (And (And ((true : Bool) = true) (And (List.length (DBT.ms o) = List.length (DBT.ms i)) (DBT.c1 o = DBT.c1 i))) (And (And ((true : Bool) = true) (And (List.length (DBT.bs o) = List.length (DBT.bs i ++ castL (encRec [RK.sl (1 : Nat) [RK.int IntKind.u8]]) EBl (List.take (1 : Nat) (List.drop (0 : Nat) [Enc.of (encRec [RK.sl (1 : Nat) [RK.int IntKind.u8]]) ((x_1, l'), ())])))) (DBT.c2 o = cap2_1))) (And (IB.N (Prod.fst (IB.post x b)) = IB.N x) True)))) (And ((true : Bool) = true) (And (And ((true : Bool) = true) (And (DBT.cp o = DBT.cp i) (And (List.map (Enc.enc EK) (DBT.L o) = List.map (Enc.enc EK) (DBT.L i)) (∀ x_2 : KTy, (∀ a_2 : x_2 ∈ DBT.L o, (∀ s : SV, (∀ a_3 : s ∈ Enc.enc EK x_2, ((SV.isPure s : Bool) = (true))))))))) (And ((true : Bool) = true) (And (And ((true : Bool) = true) (And (DBT.c1 o = DBT.c1 i) (And (List.map (Enc.enc EM) (DBT.ms o) = List.map (Enc.enc EM) (DBT.ms i)) (∀ x_2 : MTy, (∀ a_2 : x_2 ∈ DBT.ms o, (∀ s : SV, (∀ a_3 : s ∈ Enc.enc EM x_2, ((SV.isPure s : Bool) = (true))))))))) (And ((true : Bool) = true) (And (And ((true : Bool) = true) (And (DBT.c2 o = cap2_1) (And (List.map (Enc.enc EBl) (DBT.bs o) = List.map (Enc.enc EBl) (DBT.bs i ++ castL (encRec [RK.sl (1 : Nat) [RK.int IntKind.u8]]) EBl (List.take (1 : Nat) (List.drop (0 : Nat) [Enc.of (encRec [RK.sl (1 : Nat) [RK.int IntKind.u8]]) ((x_1, l'), ())])))) (∀ x_2 : BTy, (∀ a_2 : x_2 ∈ DBT.bs o, (∀ s : SV, (∀ a_3 : s ∈ Enc.enc EBl x_2, ((SV.isPure s : Bool) = (true))))))))) (And ((true : Bool) = true) True)))))))) ((true : Bool) = true)))) True))))))) True))))))) True) (And (And ((0 : Nat) + List.length ([] ++ ys) ≤ List.length ([] ++ ys)) (And (List.length ([] ++ ys) ≤ cap2) (And (∀ y_1 : Int, ((true : Bool) = true)) (∀ x_1 : Value, (∃ l' : List (RK.TL [RK.int IntKind.u8]), (And (List.map (Enc.enc (encInt IntKind.u8)) (List.take (List.length ([] ++ ys)) (List.drop (0 : Nat) ([] ++ ys))) = List.map (RK.svs [RK.int IntKind.u8]) l') (And (And (List.length (DBT.bs i) = List.length (DBT.bs i)) (And (DBT.c2 i = DBT.c2 i) (And ((0 : Nat) + (1 : Nat) ≤ (1 : Nat)) (And ((List.length (DBT.bs i) + (1 : Nat)) * (24 : Nat) ≤ (150000000000000 : Nat)) (∀ cap2_1 : Nat, (∀ a_1 : List.length (DBT.bs i) + (1 : Nat) ≤ cap2_1, (And (∃ o : DBT (Prod.fst (IB.post x b)), (And (And (Prod.snd (IB.post x b) = (0 : Int)) True) (And (And (And (And ((true : Bool) = true) (And (List.length (DBT.L o) = List.length (DBT.L i)) (DBT.cp o = DBT.cp i))) (And (And ((true : Bool) = true) (And (List.length (DBT.ms o) = List.length (DBT.ms i)) (DBT.c1 o = DBT.c1 i))) (And (And ((true : Bool) = true) (And (List.length (DBT.bs o) = List.length (DBT.bs i ++ castL (encRec [RK.sl (1 : Nat) [RK.int IntKind.u8]]) EBl (List.take (1 : Nat) (List.drop (0 : Nat) [Enc.of (encRec [RK.sl (1 : Nat) [RK.int IntKind.u8]]) ((x_1, l'), ())])))) (DBT.c2 o = cap2_1))) (And (IB.N (Prod.fst (IB.post x b)) = IB.N x) True)))) (And ((true : Bool) = true) (And (And ((true : Bool) = true) (And (DBT.cp o = DBT.cp i) (And (List.map (Enc.enc EK) (DBT.L o) = List.map (Enc.enc EK) (DBT.L i)) (∀ x_2 : KTy, (∀ a_2 : x_2 ∈ DBT.L o, (∀ s : SV, (∀ a_3 : s ∈ Enc.enc EK x_2, ((SV.isPure s : Bool) = (true))))))))) (And ((true : Bool) = true) (And (And ((true : Bool) = true) (And (DBT.c1 o = DBT.c1 i) (And (List.map (Enc.enc EM) (DBT.ms o) = List.map (Enc.enc EM) (DBT.ms i)) (∀ x_2 : MTy, (∀ a_2 : x_2 ∈ DBT.ms o, (∀ s : SV, (∀ a_3 : s ∈ Enc.enc EM x_2, ((SV.isPure s : Bool) = (true))))))))) (And ((true : Bool) = true) (And (And ((true : Bool) = true) (And (DBT.c2 o = cap2_1) (And (List.map (Enc.enc EBl) (DBT.bs o) = List.map (Enc.enc EBl) (DBT.bs i ++ castL (encRec [RK.sl (1 : Nat) [RK.int IntKind.u8]]) EBl (List.take (1 : Nat) (List.drop (0 : Nat) [Enc.of (encRec [RK.sl (1 : Nat) [RK.int IntKind.u8]]) ((x_1, l'), ())])))) (∀ x_2 : BTy, (∀ a_2 : x_2 ∈ DBT.bs o, (∀ s : SV, (∀ a_3 : s ∈ Enc.enc EBl x_2, ((SV.isPure s : Bool) = (true))))))))) (And ((true : Bool) = true) True)))))))) ((true : Bool) = true)))) True))))))) True))))))) True))))))))) True)) True)) (∃ o : DBT (Prod.fst (IB.post x b)), (And (And (Prod.snd (IB.post x b) = (6 : Int)) True) (And (And (And (And ((true : Bool) = true) (And (List.length (DBT.L o) = List.length (DBT.L i)) (DBT.cp o = DBT.cp i))) (And (And ((true : Bool) = true) (And (List.length (DBT.ms o) = List.length (DBT.ms i)) (DBT.c1 o = DBT.c1 i))) (And (And ((true : Bool) = true) (And (List.length (DBT.bs o) = List.length (DBT.bs i)) (DBT.c2 o = DBT.c2 i))) (And (IB.N (Prod.fst (IB.post x b)) = IB.N x) True)))) (And ((true : Bool) = true) (And (And ((true : Bool) = true) (And (DBT.cp o = DBT.cp i) (And (List.map (Enc.enc EK) (DBT.L o) = List.map (Enc.enc EK) (DBT.L i)) (∀ x_1 : KTy, (∀ a : x_1 ∈ DBT.L o, (∀ s : SV, (∀ a_1 : s ∈ Enc.enc EK x_1, ((SV.isPure s : Bool) = (true))))))))) (And ((true : Bool) = true) (And (And ((true : Bool) = true) (And (DBT.c1 o = DBT.c1 i) (And (List.map (Enc.enc EM) (DBT.ms o) = List.map (Enc.enc EM) (DBT.ms i)) (∀ x_1 : MTy, (∀ a : x_1 ∈ DBT.ms o, (∀ s : SV, (∀ a_1 : s ∈ Enc.enc EM x_1, ((SV.isPure s : Bool) = (true))))))))) (And ((true : Bool) = true) (And (And ((true : Bool) = true) (And (DBT.c2 o = DBT.c2 i) (And (List.map (Enc.enc EBl) (DBT.bs o) = List.map (Enc.enc EBl) (DBT.bs i)) (∀ x_1 : BTy, (∀ a : x_1 ∈ DBT.bs o, (∀ s : SV, (∀ a_1 : s ∈ Enc.enc EBl x_1, ((SV.isPure s : Bool) = (true))))))))) (And ((true : Bool) = true) True)))))))) ((true : Bool) = true)))) (decide ((8 : Int) ≤ (↑(List.length (DBT.bs i)) : Int)))) (∃ o : DBT (Prod.fst (IB.post x b)), (And (And (Prod.snd (IB.post x b) = (6 : Int)) True) (And (And (And (And ((true : Bool) = true) (And (List.length (DBT.L o) = List.length (DBT.L i)) (DBT.cp o = DBT.cp i))) (And (And ((true : Bool) = true) (And (List.length (DBT.ms o) = List.length (DBT.ms i)) (DBT.c1 o = DBT.c1 i))) (And (And ((true : Bool) = true) (And (List.length (DBT.bs o) = List.length (DBT.bs i)) (DBT.c2 o = DBT.c2 i))) (And (IB.N (Prod.fst (IB.post x b)) = IB.N x) True)))) (And ((true : Bool) = true) (And (And ((true : Bool) = true) (And (DBT.cp o = DBT.cp i) (And (List.map (Enc.enc EK) (DBT.L o) = List.map (Enc.enc EK) (DBT.L i)) (∀ x_1 : KTy, (∀ a : x_1 ∈ DBT.L o, (∀ s : SV, (∀ a_1 : s ∈ Enc.enc EK x_1, ((SV.isPure s : Bool) = (true))))))))) (And ((true : Bool) = true) (And (And ((true : Bool) = true) (And (DBT.c1 o = DBT.c1 i) (And (List.map (Enc.enc EM) (DBT.ms o) = List.map (Enc.enc EM) (DBT.ms i)) (∀ x_1 : MTy, (∀ a : x_1 ∈ DBT.ms o, (∀ s : SV, (∀ a_1 : s ∈ Enc.enc EM x_1, ((SV.isPure s : Bool) = (true))))))))) (And ((true : Bool) = true) (And (And ((true : Bool) = true) (And (DBT.c2 o = DBT.c2 i) (And (List.map (Enc.enc EBl) (DBT.bs o) = List.map (Enc.enc EBl) (DBT.bs i)) (∀ x_1 : BTy, (∀ a : x_1 ∈ DBT.bs o, (∀ s : SV, (∀ a_1 : s ∈ Enc.enc EBl x_1, ((SV.isPure s : Bool) = (true))))))))) (And ((true : Bool) = true) True)))))))) ((true : Bool) = true)))) (decide ((4096 : Int) < (↑(List.length b) : Int))))) (by kernel_rfl) ?_
  have hlen : i.bs.length = x.B.length := by rw [← i.hb, List.length_map]
  have cB : ∀ z, castL (encRec [.sl 1 [.int .u8]]) EBl (List.take 1 (List.drop 0 [(encRec [.sl 1 [.int .u8]]).of ((z, mkL b), ())])) = [mkB z b] := fun z => castL_self _ _ rfl
  unfold IB.post
  refine bif_dec (fun g1 => ?_) (fun g1 => bif_dec (fun g2 => ?_) (fun g2 => ?_))
  · rw [if_pos (show 4096 < b.length by omega)]
    refine ⟨i, ?_⟩
    repeat' first | exact fun x _ => Enc.pures EK x | exact fun x _ => Enc.pures EM x | exact fun x _ => Enc.pures EBl x | exact trivial | refine And.intro ?_ ?_ | with_reducible refine bif_dt (by assumption) ?_ | with_reducible refine bif_df (by assumption) ?_ | with_reducible refine bif_dec (fun _ => ?_) (fun _ => ?_) | with_reducible refine bif_not ?_ | with_reducible refine bif_and ?_ | with_reducible refine bif_or ?_ | with_reducible refine bif_t (by assumption) ?_ | with_reducible refine bif_f (by assumption) ?_ | with_reducible refine bif_t (beq_self_eq_true _) ?_ | with_reducible refine bif_b (fun _ => ?_) (fun _ => ?_) | with_reducible refine ⟨_, Eq.refl (List.map _ _), ?_⟩ | (with_reducible refine Exists.intro (by omega) ?_) | rfl | (intro h0; omega) | omega
  · rw [if_neg (show ¬ 4096 < b.length by omega), if_neg (show ¬ x.B.length < 8 by omega)]
    refine ⟨i, ?_⟩
    repeat' first | exact fun x _ => Enc.pures EK x | exact fun x _ => Enc.pures EM x | exact fun x _ => Enc.pures EBl x | exact trivial | refine And.intro ?_ ?_ | with_reducible refine bif_dt (by assumption) ?_ | with_reducible refine bif_df (by assumption) ?_ | with_reducible refine bif_dec (fun _ => ?_) (fun _ => ?_) | with_reducible refine bif_not ?_ | with_reducible refine bif_and ?_ | with_reducible refine bif_or ?_ | with_reducible refine bif_t (by assumption) ?_ | with_reducible refine bif_f (by assumption) ?_ | with_reducible refine bif_t (beq_self_eq_true _) ?_ | with_reducible refine bif_b (fun _ => ?_) (fun _ => ?_) | with_reducible refine ⟨_, Eq.refl (List.map _ _), ?_⟩ | (with_reducible refine Exists.intro (by omega) ?_) | rfl | (intro h0; omega) | omega
  · rw [if_neg (show ¬ 4096 < b.length by omega), if_pos (show x.B.length < 8 by omega)]
    repeat' first | refine ⟨b, rfl, ?_⟩ | refine fun (cap2 : Nat) (k2 : 0 + b.length ≤ cap2) => ?_ | refine fun (cap3 : Nat) (k3 : i.bs.length + 1 ≤ cap3) => ?_ | exact Nat.le_trans (Nat.le_of_eq (Nat.zero_add _).symm) k2 | exact fun _ => rfl | refine fun z => ⟨mkL b, tkB b, ?_⟩ | refine ⟨⟨i.L, i.cp, i.ms, i.c1, i.bs ++ [mkB z b], cap3, i.hL, i.hm, by rw [List.map_append, i.hb, List.map_cons, bl_mk]; rfl, i.h0, i.h1, by rw [List.length_append]; exact k3⟩, ?_⟩ | exact congrArg (fun l => (i.bs ++ l).length) (cB z).symm | exact congrArg (fun l => List.map EBl.enc (i.bs ++ l)) (cB z).symm | exact fun x _ => Enc.pures EK x | exact fun x _ => Enc.pures EM x | exact fun x _ => Enc.pures EBl x | exact trivial | refine And.intro ?_ ?_ | with_reducible refine bif_dt (by assumption) ?_ | with_reducible refine bif_df (by assumption) ?_ | with_reducible refine bif_dec (fun _ => ?_) (fun _ => ?_) | with_reducible refine bif_not ?_ | with_reducible refine bif_and ?_ | with_reducible refine bif_or ?_ | with_reducible refine bif_t (by assumption) ?_ | with_reducible refine bif_f (by assumption) ?_ | with_reducible refine bif_t (beq_self_eq_true _) ?_ | with_reducible refine bif_b (fun _ => ?_) (fun _ => ?_) | with_reducible refine ⟨_, Eq.refl (List.map _ _), ?_⟩ | (with_reducible refine Exists.intro (by omega) ?_) | rfl | (intro h0; omega) | omega
theorem ddeposit_spec (m : Msg) (y : Value) {x : IB} (i : DBT x) (hb : x.D.length ≤ 8) : SMem Try.prog 18 [.one (.ptr 0 0), .agg (mA m.n m.s m.t m.v m.g y m.d)] 4 (doc i.L i.cp i.ms i.c1 i.bs i.c2 x.N)
    (fun o : DBT (x.deposit m).1 => ⟨5, .tup [u64 (x.deposit m).2.1, int (x.deposit m).2.2], dcs 1 4 3 o.L o.cp o.ms o.c1 o.bs o.c2 (x.deposit m).1.N⟩) := by
  refine SMem.inm [] SOK.nil [] MSOK.nil tok mixed [(34, ⟨Try.f34, true, [], []⟩)] (IOK.cons Try.func34 Try.call34 IOK.nil) true [] [] Try.call18 Try.func18 rfl (by rfl) ?_
  refine Eq.mp (α := (@Bool.rec (fun _ => Prop) (∃ o : DBT (Prod.fst (IB.deposit x m)), (And (And (And (Prod.fst (Prod.snd (IB.deposit x m)) = (0 : Int)) (And (Prod.snd (Prod.snd (IB.deposit x m)) = (1 : Int)) True)) True) (And (And (And (And ((true : Bool) = true) (And (List.length (DBT.L o) = List.length (DBT.L i)) (DBT.cp o = DBT.cp i))) (And (And ((true : Bool) = true) (And (List.length (DBT.ms o) = List.length (DBT.ms i)) (DBT.c1 o = DBT.c1 i))) (And (And ((true : Bool) = true) (And (List.length (DBT.bs o) = List.length (DBT.bs i)) (DBT.c2 o = DBT.c2 i))) (And (IB.N (Prod.fst (IB.deposit x m)) = IB.N x) True)))) (And ((true : Bool) = true) (And (And ((true : Bool) = true) (And (DBT.cp o = DBT.cp i) (And (List.map (Enc.enc EK) (DBT.L o) = List.map (Enc.enc EK) (DBT.L i)) (∀ x_1 : KTy, (∀ a : x_1 ∈ DBT.L o, (∀ s : SV, (∀ a_1 : s ∈ Enc.enc EK x_1, ((SV.isPure s : Bool) = (true))))))))) (And ((true : Bool) = true) (And (And ((true : Bool) = true) (And (DBT.c1 o = DBT.c1 i) (And (List.map (Enc.enc EM) (DBT.ms o) = List.map (Enc.enc EM) (DBT.ms i)) (∀ x_1 : MTy, (∀ a : x_1 ∈ DBT.ms o, (∀ s : SV, (∀ a_1 : s ∈ Enc.enc EM x_1, ((SV.isPure s : Bool) = (true))))))))) (And ((true : Bool) = true) (And (And ((true : Bool) = true) (And (DBT.c2 o = DBT.c2 i) (And (List.map (Enc.enc EBl) (DBT.bs o) = List.map (Enc.enc EBl) (DBT.bs i)) (∀ x_1 : BTy, (∀ a : x_1 ∈ DBT.bs o, (∀ s : SV, (∀ a_1 : s ∈ Enc.enc EBl x_1, ((SV.isPure s : Bool) = (true))))))))) (And ((true : Bool) = true) True)))))))) ((true : Bool) = true)))) (@Bool.rec (fun _ => Prop) (@Bool.rec (fun _ => Prop) (And ((0 : Nat) = (0 : Nat)) (And ((0 : Nat) = (0 : Nat)) (∃ ys : List Int, (And (List.map (Enc.enc (encInt IntKind.u8)) ys = List.map eB (Msg.d m)) (And (((0 : Nat) + List.length ys) * (1 : Nat) ≤ (150000000000000 : Nat)) (∀ cap2 : Nat, (∀ a : (0 : Nat) + List.length ys ≤ cap2, (And (And (And ((0 : Nat) + List.length ([] ++ ys) ≤ List.length ([] ++ ys)) (And (List.length ([] ++ ys) ≤ cap2) (And (∀ y_1 : Int, ((true : Bool) = true)) (∀ x_1 : Value, (∃ l' : List (RK.TL [RK.int IntKind.u8]), (And (List.map (Enc.enc (encInt IntKind.u8)) (List.take (List.length ([] ++ ys)) (List.drop (0 : Nat) ([] ++ ys))) = List.map (RK.svs [RK.int IntKind.u8]) l') (And (And (List.length (DBT.ms i) = List.length (DBT.ms i)) (And (DBT.c1 i = DBT.c1 i) (And ((0 : Nat) + (1 : Nat) ≤ (1 : Nat)) (And ((List.length (DBT.ms i) + (1 : Nat)) * (88 : Nat) ≤ (150000000000000 : Nat)) (∀ cap2_1 : Nat, (∀ a_1 : List.length (DBT.ms i) + (1 : Nat) ≤ cap2_1, (And (∃ o : DBT (Prod.fst (IB.deposit x m)), (And (And (And (Prod.fst (Prod.snd (IB.deposit x m)) = IB.N x) (And (Prod.snd (Prod.snd (IB.deposit x m)) = (0 : Int)) True)) True) (And (And (And (And ((true : Bool) = true) (And (List.length (DBT.L o) = List.length (DBT.L i)) (DBT.cp o = DBT.cp i))) (And (And ((true : Bool) = true) (And (List.length (DBT.ms o) = List.length (DBT.ms i ++ castL (encRec [RK.int IntKind.u64, RK.int IntKind.u64, RK.int IntKind.u64, RK.ints IntKind.u64 (4 : Nat), RK.int IntKind.u64, RK.sl (1 : Nat) [RK.int IntKind.u8]]) EM (List.take (1 : Nat) (List.drop (0 : Nat) [Enc.of (encRec [RK.int IntKind.u64, RK.int IntKind.u64, RK.int IntKind.u64, RK.ints IntKind.u64 (4 : Nat), RK.int IntKind.u64, RK.sl (1 : Nat) [RK.int IntKind.u8]]) (IB.N x, Msg.s m, Msg.t m, Msg.v m, Msg.g m, (x_1, l'), ())])))) (DBT.c1 o = cap2_1))) (And (And ((true : Bool) = true) (And (List.length (DBT.bs o) = List.length (DBT.bs i)) (DBT.c2 o = DBT.c2 i))) (And (IB.N (Prod.fst (IB.deposit x m)) = IntKind.wrap IntKind.u64 (IB.N x + (1 : Int))) True)))) (And ((true : Bool) = true) (And (And ((true : Bool) = true) (And (DBT.cp o = DBT.cp i) (And (List.map (Enc.enc EK) (DBT.L o) = List.map (Enc.enc EK) (DBT.L i)) (∀ x_2 : KTy, (∀ a_2 : x_2 ∈ DBT.L o, (∀ s : SV, (∀ a_3 : s ∈ Enc.enc EK x_2, ((SV.isPure s : Bool) = (true))))))))) (And ((true : Bool) = true) (And (And ((true : Bool) = true) (And (DBT.c1 o = cap2_1) (And (List.map (Enc.enc EM) (DBT.ms o) = List.map (Enc.enc EM) (DBT.ms i ++ castL (encRec [RK.int IntKind.u64, RK.int IntKind.u64, RK.int IntKind.u64, RK.ints IntKind.u64 (4 : Nat), RK.int IntKind.u64, RK.sl (1 : Nat) [RK.int IntKind.u8]]) EM (List.take (1 : Nat) (List.drop (0 : Nat) [Enc.of (encRec [RK.int IntKind.u64, RK.int IntKind.u64, RK.int IntKind.u64, RK.ints IntKind.u64 (4 : Nat), RK.int IntKind.u64, RK.sl (1 : Nat) [RK.int IntKind.u8]]) (IB.N x, Msg.s m, Msg.t m, Msg.v m, Msg.g m, (x_1, l'), ())])))) (∀ x_2 : MTy, (∀ a_2 : x_2 ∈ DBT.ms o, (∀ s : SV, (∀ a_3 : s ∈ Enc.enc EM x_2, ((SV.isPure s : Bool) = (true))))))))) (And ((true : Bool) = true) (And (And ((true : Bool) = true) (And (DBT.c2 o = DBT.c2 i) (And (List.map (Enc.enc EBl) (DBT.bs o) = List.map (Enc.enc EBl) (DBT.bs i)) (∀ x_2 : BTy, (∀ a_2 : x_2 ∈ DBT.bs o, (∀ s : SV, (∀ a_3 : s ∈ Enc.enc EBl x_2, ((SV.isPure s : Bool) = (true))))))))) (And ((true : Bool) = true) True)))))))) ((true : Bool) = true)))) True))))))) True))))))) True) (And (And ((0 : Nat) + List.length ([] ++ ys) ≤ List.length ([] ++ ys)) (And (List.length ([] ++ ys) ≤ cap2) (And (∀ y_1 : Int, ((true : Bool) = true)) (∀ x_1 : Value, (∃ l' : List (RK.TL [RK.int IntKind.u8]), (And (List.map (Enc.enc (encInt IntKind.u8)) (List.take (List.length ([] ++ ys)) (List.drop (0 : Nat) ([] ++ ys))) = List.map (RK.svs [RK.int IntKind.u8]) l') (And (And (List.length (DBT.ms i) = List.length (DBT.ms i)) (And (DBT.c1 i = DBT.c1 i) (And ((0 : Nat) + (1 : Nat) ≤ (1 : Nat)) (And ((List.length (DBT.ms i) + (1 : Nat)) * (88 : Nat) ≤ (150000000000000 : Nat)) (∀ cap2_1 : Nat, (∀ a_1 : List.length (DBT.ms i) + (1 : Nat) ≤ cap2_1, (And (∃ o : DBT (Prod.fst (IB.deposit x m)), (And (And (And (Prod.fst (Prod.snd (IB.deposit x m)) = IB.N x) (And (Prod.snd (Prod.snd (IB.deposit x m)) = (0 : Int)) True)) True) (And (And (And (And ((true : Bool) = true) (And (List.length (DBT.L o) = List.length (DBT.L i)) (DBT.cp o = DBT.cp i))) (And (And ((true : Bool) = true) (And (List.length (DBT.ms o) = List.length (DBT.ms i ++ castL (encRec [RK.int IntKind.u64, RK.int IntKind.u64, RK.int IntKind.u64, RK.ints IntKind.u64 (4 : Nat), RK.int IntKind.u64, RK.sl (1 : Nat) [RK.int IntKind.u8]]) EM (List.take (1 : Nat) (List.drop (0 : Nat) [Enc.of (encRec [RK.int IntKind.u64, RK.int IntKind.u64, RK.int IntKind.u64, RK.ints IntKind.u64 (4 : Nat), RK.int IntKind.u64, RK.sl (1 : Nat) [RK.int IntKind.u8]]) (IB.N x, Msg.s m, Msg.t m, Msg.v m, Msg.g m, (x_1, l'), ())])))) (DBT.c1 o = cap2_1))) (And (And ((true : Bool) = true) (And (List.length (DBT.bs o) = List.length (DBT.bs i)) (DBT.c2 o = DBT.c2 i))) (And (IB.N (Prod.fst (IB.deposit x m)) = IntKind.wrap IntKind.u64 (IB.N x + (1 : Int))) True)))) (And ((true : Bool) = true) (And (And ((true : Bool) = true) (And (DBT.cp o = DBT.cp i) (And (List.map (Enc.enc EK) (DBT.L o) = List.map (Enc.enc EK) (DBT.L i)) (∀ x_2 : KTy, (∀ a_2 : x_2 ∈ DBT.L o, (∀ s : SV, (∀ a_3 : s ∈ Enc.enc EK x_2, ((SV.isPure s : Bool) = (true))))))))) (And ((true : Bool) = true) (And (And ((true : Bool) = true) (And (DBT.c1 o = cap2_1) (And (List.map (Enc.enc EM) (DBT.ms o) = List.map (Enc.enc EM) (DBT.ms i ++ castL (encRec [RK.int IntKind.u64, RK.int IntKind.u64, RK.int IntKind.u64, RK.ints IntKind.u64 (4 : Nat), RK.int IntKind.u64, RK.sl (1 : Nat) [RK.int IntKind.u8]]) EM (List.take (1 : Nat) (List.drop (0 : Nat) [Enc.of (encRec [RK.int IntKind.u64, RK.int IntKind.u64, RK.int IntKind.u64, RK.ints IntKind.u64 (4 : Nat), RK.int IntKind.u64, RK.sl (1 : Nat) [RK.int IntKind.u8]]) (IB.N x, Msg.s m, Msg.t m, Msg.v m, Msg.g m, (x_1, l'), ())])))) (∀ x_2 : MTy, (∀ a_2 : x_2 ∈ DBT.ms o, (∀ s : SV, (∀ a_3 : s ∈ Enc.enc EM x_2, ((SV.isPure s : Bool) = (true))))))))) (And ((true : Bool) = true) (And (And ((true : Bool) = true) (And (DBT.c2 o = DBT.c2 i) (And (List.map (Enc.enc EBl) (DBT.bs o) = List.map (Enc.enc EBl) (DBT.bs i)) (∀ x_2 : BTy, (∀ a_2 : x_2 ∈ DBT.bs o, (∀ s : SV, (∀ a_3 : s ∈ Enc.enc EBl x_2, ((SV.isPure s : Bool) = (true))))))))) (And ((true : Bool) = true) True)))))))) ((true : Bool) = true)))) True))))))) True))))))) True))))))))) (∃ o : DBT (Prod.fst (IB.deposit x m)), (And (And (And (Prod.fst (Prod.snd (IB.deposit x m)) = (0 : Int)) (And (Prod.snd (Prod.snd (IB.deposit x m)) = (6 : Int)) True)) True) (And (And (And (And ((true : Bool) = true) (And (List.length (DBT.L o) = List.length (DBT.L i)) (DBT.cp o = DBT.cp i))) (And (And ((true : Bool) = true) (And (List.length (DBT.ms o) = List.length (DBT.ms i)) (DBT.c1 o = DBT.c1 i))) (And (And ((true : Bool) = true) (And (List.length (DBT.bs o) = List.length (DBT.bs i)) (DBT.c2 o = DBT.c2 i))) (And (IB.N (Prod.fst (IB.deposit x m)) = IB.N x) True)))) (And ((true : Bool) = true) (And (And ((true : Bool) = true) (And (DBT.cp o = DBT.cp i) (And (List.map (Enc.enc EK) (DBT.L o) = List.map (Enc.enc EK) (DBT.L i)) (∀ x_1 : KTy, (∀ a : x_1 ∈ DBT.L o, (∀ s : SV, (∀ a_1 : s ∈ Enc.enc EK x_1, ((SV.isPure s : Bool) = (true))))))))) (And ((true : Bool) = true) (And (And ((true : Bool) = true) (And (DBT.c1 o = DBT.c1 i) (And (List.map (Enc.enc EM) (DBT.ms o) = List.map (Enc.enc EM) (DBT.ms i)) (∀ x_1 : MTy, (∀ a : x_1 ∈ DBT.ms o, (∀ s : SV, (∀ a_1 : s ∈ Enc.enc EM x_1, ((SV.isPure s : Bool) = (true))))))))) (And ((true : Bool) = true) (And (And ((true : Bool) = true) (And (DBT.c2 o = DBT.c2 i) (And (List.map (Enc.enc EBl) (DBT.bs o) = List.map (Enc.enc EBl) (DBT.bs i)) (∀ x_1 : BTy, (∀ a : x_1 ∈ DBT.bs o, (∀ s : SV, (∀ a_1 : s ∈ Enc.enc EBl x_1, ((SV.isPure s : Bool) = (true))))))))) (And ((true : Bool) = true) True)))))))) ((true : Bool) = true)))) (decide ((8 : Int) ≤ (↑(List.length (DBT.ms i)) : Int)))) (∃ o : DBT (Prod.fst (IB.deposit x m)), (And (And (And (Prod.fst (Prod.snd (IB.deposit x m)) = (0 : Int)) (And (Prod.snd (Prod.snd (IB.deposit x m)) = (1 : Int)) True)) True) (And (And (And (And ((true : Bool) = true) (And (List.length (DBT.L o) = List.length (DBT.L i)) (DBT.cp o = DBT.cp i))) (And (And ((true : Bool) = true) (And (List.length (DBT.ms o) = List.length (DBT.ms i)) (DBT.c1 o = DBT.c1 i))) (And (And ((true : Bool) = true) (And (List.length (DBT.bs o) = List.length (DBT.bs i)) (DBT.c2 o = DBT.c2 i))) (And (IB.N (Prod.fst (IB.deposit x m)) = IB.N x) True)))) (And ((true : Bool) = true) (And (And ((true : Bool) = true) (And (DBT.cp o = DBT.cp i) (And (List.map (Enc.enc EK) (DBT.L o) = List.map (Enc.enc EK) (DBT.L i)) (∀ x_1 : KTy, (∀ a : x_1 ∈ DBT.L o, (∀ s : SV, (∀ a_1 : s ∈ Enc.enc EK x_1, ((SV.isPure s : Bool) = (true))))))))) (And ((true : Bool) = true) (And (And ((true : Bool) = true) (And (DBT.c1 o = DBT.c1 i) (And (List.map (Enc.enc EM) (DBT.ms o) = List.map (Enc.enc EM) (DBT.ms i)) (∀ x_1 : MTy, (∀ a : x_1 ∈ DBT.ms o, (∀ s : SV, (∀ a_1 : s ∈ Enc.enc EM x_1, ((SV.isPure s : Bool) = (true))))))))) (And ((true : Bool) = true) (And (And ((true : Bool) = true) (And (DBT.c2 o = DBT.c2 i) (And (List.map (Enc.enc EBl) (DBT.bs o) = List.map (Enc.enc EBl) (DBT.bs i)) (∀ x_1 : BTy, (∀ a : x_1 ∈ DBT.bs o, (∀ s : SV, (∀ a_1 : s ∈ Enc.enc EBl x_1, ((SV.isPure s : Bool) = (true))))))))) (And ((true : Bool) = true) True)))))))) ((true : Bool) = true)))) (!decide ((↑(List.length (Msg.d m)) : Int) ≤ (64 : Int)))) (decide (Msg.g m ≤ (65536 : Int))))) (by kernel_rfl) ?_
  have hlen : i.ms.length = x.D.length := by rw [← i.hm, List.length_map]
  have cM : ∀ z, castL (encRec [.int .u64, .int .u64, .int .u64, .ints .u64 4, .int .u64, .sl 1 [.int .u8]]) EM (List.take 1 (List.drop 0 [(encRec [.int .u64, .int .u64, .int .u64, .ints .u64 4, .int .u64, .sl 1 [.int .u8]]).of (x.N, m.s, m.t, m.v, m.g, (z, mkL m.d), ())])) = [mkM { m with n := x.N } z] := fun z => castL_self _ _ rfl
  unfold IB.deposit rightM
  refine bif_dec (fun g1 => ?_) (fun g1 => ?_)
  · rw [decide_eq_true g1, Bool.true_and, show decide ((m.d.length : Int) ≤ 64) = decide (m.d.length ≤ 64) from decide_eq_decide.2 (by omega)]
    refine bif_not (bif_dec (fun hd => bif_dec (fun h2 => ?_) (fun h2 => ?_)) (fun hd => ?_))
    · rw [if_pos (decide_eq_true hd), if_neg (show ¬ x.D.length < 8 by omega)]
      refine ⟨i, ?_⟩
      repeat' first | exact fun x _ => Enc.pures EK x | exact fun x _ => Enc.pures EM x | exact fun x _ => Enc.pures EBl x | exact trivial | refine And.intro ?_ ?_ | with_reducible refine bif_dt (by assumption) ?_ | with_reducible refine bif_df (by assumption) ?_ | with_reducible refine bif_dec (fun _ => ?_) (fun _ => ?_) | with_reducible refine bif_not ?_ | with_reducible refine bif_and ?_ | with_reducible refine bif_or ?_ | with_reducible refine bif_t (by assumption) ?_ | with_reducible refine bif_f (by assumption) ?_ | with_reducible refine bif_t (beq_self_eq_true _) ?_ | with_reducible refine bif_b (fun _ => ?_) (fun _ => ?_) | with_reducible refine ⟨_, Eq.refl (List.map _ _), ?_⟩ | (with_reducible refine Exists.intro (by omega) ?_) | rfl | (intro h0; omega) | omega
    · rw [if_pos (decide_eq_true hd), if_pos (show x.D.length < 8 by omega)]
      repeat' first | refine ⟨m.d, rfl, ?_⟩ | refine fun (cap2 : Nat) (k2 : 0 + m.d.length ≤ cap2) => ?_ | refine fun (cap3 : Nat) (k3 : i.ms.length + 1 ≤ cap3) => ?_ | exact Nat.le_trans (Nat.le_of_eq (Nat.zero_add _).symm) k2 | exact fun _ => rfl | refine fun z => ⟨mkL m.d, tkB m.d, ?_⟩ | refine ⟨⟨i.L, i.cp, i.ms ++ [mkM { m with n := x.N } z], cap3, i.bs, i.c2, i.hL, by rw [List.map_append, i.hm, List.map_cons, ml_mk]; rfl, i.hb, i.h0, by rw [List.length_append]; exact k3, i.h2⟩, ?_⟩ | exact congrArg (fun l => (i.ms ++ l).length) (cM z).symm | exact congrArg (fun l => List.map EM.enc (i.ms ++ l)) (cM z).symm | exact fun x _ => Enc.pures EK x | exact fun x _ => Enc.pures EM x | exact fun x _ => Enc.pures EBl x | exact trivial | refine And.intro ?_ ?_ | with_reducible refine bif_dt (by assumption) ?_ | with_reducible refine bif_df (by assumption) ?_ | with_reducible refine bif_dec (fun _ => ?_) (fun _ => ?_) | with_reducible refine bif_not ?_ | with_reducible refine bif_and ?_ | with_reducible refine bif_or ?_ | with_reducible refine bif_t (by assumption) ?_ | with_reducible refine bif_f (by assumption) ?_ | with_reducible refine bif_t (beq_self_eq_true _) ?_ | with_reducible refine bif_b (fun _ => ?_) (fun _ => ?_) | with_reducible refine ⟨_, Eq.refl (List.map _ _), ?_⟩ | (with_reducible refine Exists.intro (by omega) ?_) | rfl | (intro h0; omega) | omega
    · rw [if_neg (by rw [decide_eq_false hd]; decide)]
      refine ⟨i, ?_⟩
      repeat' first | exact fun x _ => Enc.pures EK x | exact fun x _ => Enc.pures EM x | exact fun x _ => Enc.pures EBl x | exact trivial | refine And.intro ?_ ?_ | with_reducible refine bif_dt (by assumption) ?_ | with_reducible refine bif_df (by assumption) ?_ | with_reducible refine bif_dec (fun _ => ?_) (fun _ => ?_) | with_reducible refine bif_not ?_ | with_reducible refine bif_and ?_ | with_reducible refine bif_or ?_ | with_reducible refine bif_t (by assumption) ?_ | with_reducible refine bif_f (by assumption) ?_ | with_reducible refine bif_t (beq_self_eq_true _) ?_ | with_reducible refine bif_b (fun _ => ?_) (fun _ => ?_) | with_reducible refine ⟨_, Eq.refl (List.map _ _), ?_⟩ | (with_reducible refine Exists.intro (by omega) ?_) | rfl | (intro h0; omega) | omega
  · rw [decide_eq_false g1, Bool.false_and, if_neg (by decide)]
    refine ⟨i, ?_⟩
    repeat' first | exact fun x _ => Enc.pures EK x | exact fun x _ => Enc.pures EM x | exact fun x _ => Enc.pures EBl x | exact trivial | refine And.intro ?_ ?_ | with_reducible refine bif_dt (by assumption) ?_ | with_reducible refine bif_df (by assumption) ?_ | with_reducible refine bif_dec (fun _ => ?_) (fun _ => ?_) | with_reducible refine bif_not ?_ | with_reducible refine bif_and ?_ | with_reducible refine bif_or ?_ | with_reducible refine bif_t (by assumption) ?_ | with_reducible refine bif_f (by assumption) ?_ | with_reducible refine bif_t (beq_self_eq_true _) ?_ | with_reducible refine bif_b (fun _ => ?_) (fun _ => ?_) | with_reducible refine ⟨_, Eq.refl (List.map _ _), ?_⟩ | (with_reducible refine Exists.intro (by omega) ?_) | rfl | (intro h0; omega) | omega
theorem dclose_spec {x : IB} (i : DBT x) (hl : x.L.length ≤ 4096) : SMem Try.prog 23 [.one (.ptr 0 0)] 4 (doc i.L i.cp i.ms i.c1 i.bs i.c2 x.N)
    (fun o : DBT x.close.1 => ⟨7, .tup [int x.close.2.1, int x.close.2.2], dcs 4 5 6 o.L o.cp o.ms o.c1 o.bs o.c2 x.close.1.N⟩) := by
  refine SMem.inm [] SOK.nil [] MSOK.nil tok mixed [] IOK.nil true [] [] Try.call23 Try.func23 rfl (by rfl) ?_
  refine Eq.mp (α := (@Bool.rec (fun _ => Prop) (And (And (And (List.length (DBT.ms i) ≤ List.length (DBT.ms i)) (And (List.length (DBT.ms i) ≤ DBT.c1 i) (And (DBT.c1 i = DBT.c1 i) (And (∀ y : MTy, ((true : Bool) = true)) (∀ x_1 : Value, (And (List.length (DBT.bs i) ≤ List.length (DBT.bs i)) (And (List.length (DBT.bs i) ≤ DBT.c2 i) (And (DBT.c2 i = DBT.c2 i) (And (∀ y : BTy, ((true : Bool) = true)) (∀ x_2 : Value, (∃ l' : List (RK.TL [RK.int IntKind.u64, RK.int IntKind.u64, RK.int IntKind.u64, RK.ints IntKind.u64 (4 : Nat), RK.int IntKind.u64, RK.sl (1 : Nat) [RK.int IntKind.u8]]), (And (List.map (Enc.enc EM) (List.take (List.length (DBT.ms i)) (DBT.ms i)) = List.map (RK.svs [RK.int IntKind.u64, RK.int IntKind.u64, RK.int IntKind.u64, RK.ints IntKind.u64 (4 : Nat), RK.int IntKind.u64, RK.sl (1 : Nat) [RK.int IntKind.u8]]) l') (∃ l'_1 : List (RK.TL [RK.sl (1 : Nat) [RK.int IntKind.u8]]), (And (List.map (Enc.enc EBl) (List.take (List.length (DBT.bs i)) (DBT.bs i)) = List.map (RK.svs [RK.sl (1 : Nat) [RK.int IntKind.u8]]) l'_1) (And (And (List.length (DBT.L i) = List.length (DBT.L i)) (And (DBT.cp i = DBT.cp i) (And ((0 : Nat) + (1 : Nat) ≤ (1 : Nat)) (And ((List.length (DBT.L i) + (1 : Nat)) * (48 : Nat) ≤ (150000000000000 : Nat)) (∀ cap2 : Nat, (∀ a : List.length (DBT.L i) + (1 : Nat) ≤ cap2, (And (∃ o : DBT (Prod.fst (IB.close x)), (And (And (And (Prod.fst (Prod.snd (IB.close x)) = (↑(List.length (DBT.L i ++ castL (encRec [RK.sl (9 : Nat) [RK.int IntKind.u64, RK.int IntKind.u64, RK.int IntKind.u64, RK.ints IntKind.u64 (4 : Nat), RK.int IntKind.u64, RK.sl (1 : Nat) [RK.int IntKind.u8]], RK.sl (1 : Nat) [RK.sl (1 : Nat) [RK.int IntKind.u8]]]) EK (List.take (1 : Nat) (List.drop (0 : Nat) [Enc.of (encRec [RK.sl (9 : Nat) [RK.int IntKind.u64, RK.int IntKind.u64, RK.int IntKind.u64, RK.ints IntKind.u64 (4 : Nat), RK.int IntKind.u64, RK.sl (1 : Nat) [RK.int IntKind.u8]], RK.sl (1 : Nat) [RK.sl (1 : Nat) [RK.int IntKind.u8]]]) ((x_1, l'), (x_2, l'_1), ())])))) : Int)) (And (Prod.snd (Prod.snd (IB.close x)) = (0 : Int)) True)) True) (And (And (And (And ((true : Bool) = true) (And (List.length (DBT.L o) = List.length (DBT.L i ++ castL (encRec [RK.sl (9 : Nat) [RK.int IntKind.u64, RK.int IntKind.u64, RK.int IntKind.u64, RK.ints IntKind.u64 (4 : Nat), RK.int IntKind.u64, RK.sl (1 : Nat) [RK.int IntKind.u8]], RK.sl (1 : Nat) [RK.sl (1 : Nat) [RK.int IntKind.u8]]]) EK (List.take (1 : Nat) (List.drop (0 : Nat) [Enc.of (encRec [RK.sl (9 : Nat) [RK.int IntKind.u64, RK.int IntKind.u64, RK.int IntKind.u64, RK.ints IntKind.u64 (4 : Nat), RK.int IntKind.u64, RK.sl (1 : Nat) [RK.int IntKind.u8]], RK.sl (1 : Nat) [RK.sl (1 : Nat) [RK.int IntKind.u8]]]) ((x_1, l'), (x_2, l'_1), ())])))) (DBT.cp o = cap2))) (And (And ((true : Bool) = true) (And (List.length (DBT.ms o) = (0 : Nat)) (DBT.c1 o = (0 : Nat)))) (And (And ((true : Bool) = true) (And (List.length (DBT.bs o) = (0 : Nat)) (DBT.c2 o = (0 : Nat)))) (And (IB.N (Prod.fst (IB.close x)) = IB.N x) True)))) (And ((true : Bool) = true) (And (And ((true : Bool) = true) (And (DBT.cp o = cap2) (And (List.map (Enc.enc EK) (DBT.L o) = List.map (Enc.enc EK) (DBT.L i ++ castL (encRec [RK.sl (9 : Nat) [RK.int IntKind.u64, RK.int IntKind.u64, RK.int IntKind.u64, RK.ints IntKind.u64 (4 : Nat), RK.int IntKind.u64, RK.sl (1 : Nat) [RK.int IntKind.u8]], RK.sl (1 : Nat) [RK.sl (1 : Nat) [RK.int IntKind.u8]]]) EK (List.take (1 : Nat) (List.drop (0 : Nat) [Enc.of (encRec [RK.sl (9 : Nat) [RK.int IntKind.u64, RK.int IntKind.u64, RK.int IntKind.u64, RK.ints IntKind.u64 (4 : Nat), RK.int IntKind.u64, RK.sl (1 : Nat) [RK.int IntKind.u8]], RK.sl (1 : Nat) [RK.sl (1 : Nat) [RK.int IntKind.u8]]]) ((x_1, l'), (x_2, l'_1), ())])))) (∀ x_3 : KTy, (∀ a_1 : x_3 ∈ DBT.L o, (∀ s : SV, (∀ a_2 : s ∈ Enc.enc EK x_3, ((SV.isPure s : Bool) = (true))))))))) (And ((true : Bool) = true) (And (And ((true : Bool) = true) (And (DBT.c1 o = (0 : Nat)) (And (List.map (Enc.enc EM) (DBT.ms o) = List.map (Enc.enc EM) []) (∀ x_3 : MTy, (∀ a_1 : x_3 ∈ DBT.ms o, (∀ s : SV, (∀ a_2 : s ∈ Enc.enc EM x_3, ((SV.isPure s : Bool) = (true))))))))) (And ((true : Bool) = true) (And (And ((true : Bool) = true) (And (DBT.c2 o = (0 : Nat)) (And (List.map (Enc.enc EBl) (DBT.bs o) = List.map (Enc.enc EBl) []) (∀ x_3 : BTy, (∀ a_1 : x_3 ∈ DBT.bs o, (∀ s : SV, (∀ a_2 : s ∈ Enc.enc EBl x_3, ((SV.isPure s : Bool) = (true))))))))) (And ((true : Bool) = true) True)))))))) ((true : Bool) = true)))) True))))))) True))))))))))))))) True) (And (And (List.length (DBT.ms i) ≤ List.length (DBT.ms i)) (And (List.length (DBT.ms i) ≤ DBT.c1 i) (And (DBT.c1 i = DBT.c1 i) (And (∀ y : MTy, ((true : Bool) = true)) (∀ x_1 : Value, (And (List.length (DBT.bs i) ≤ List.length (DBT.bs i)) (And (List.length (DBT.bs i) ≤ DBT.c2 i) (And (DBT.c2 i = DBT.c2 i) (And (∀ y : BTy, ((true : Bool) = true)) (∀ x_2 : Value, (∃ l' : List (RK.TL [RK.int IntKind.u64, RK.int IntKind.u64, RK.int IntKind.u64, RK.ints IntKind.u64 (4 : Nat), RK.int IntKind.u64, RK.sl (1 : Nat) [RK.int IntKind.u8]]), (And (List.map (Enc.enc EM) (List.take (List.length (DBT.ms i)) (DBT.ms i)) = List.map (RK.svs [RK.int IntKind.u64, RK.int IntKind.u64, RK.int IntKind.u64, RK.ints IntKind.u64 (4 : Nat), RK.int IntKind.u64, RK.sl (1 : Nat) [RK.int IntKind.u8]]) l') (∃ l'_1 : List (RK.TL [RK.sl (1 : Nat) [RK.int IntKind.u8]]), (And (List.map (Enc.enc EBl) (List.take (List.length (DBT.bs i)) (DBT.bs i)) = List.map (RK.svs [RK.sl (1 : Nat) [RK.int IntKind.u8]]) l'_1) (And (And (List.length (DBT.L i) = List.length (DBT.L i)) (And (DBT.cp i = DBT.cp i) (And ((0 : Nat) + (1 : Nat) ≤ (1 : Nat)) (And ((List.length (DBT.L i) + (1 : Nat)) * (48 : Nat) ≤ (150000000000000 : Nat)) (∀ cap2 : Nat, (∀ a : List.length (DBT.L i) + (1 : Nat) ≤ cap2, (And (∃ o : DBT (Prod.fst (IB.close x)), (And (And (And (Prod.fst (Prod.snd (IB.close x)) = (↑(List.length (DBT.L i ++ castL (encRec [RK.sl (9 : Nat) [RK.int IntKind.u64, RK.int IntKind.u64, RK.int IntKind.u64, RK.ints IntKind.u64 (4 : Nat), RK.int IntKind.u64, RK.sl (1 : Nat) [RK.int IntKind.u8]], RK.sl (1 : Nat) [RK.sl (1 : Nat) [RK.int IntKind.u8]]]) EK (List.take (1 : Nat) (List.drop (0 : Nat) [Enc.of (encRec [RK.sl (9 : Nat) [RK.int IntKind.u64, RK.int IntKind.u64, RK.int IntKind.u64, RK.ints IntKind.u64 (4 : Nat), RK.int IntKind.u64, RK.sl (1 : Nat) [RK.int IntKind.u8]], RK.sl (1 : Nat) [RK.sl (1 : Nat) [RK.int IntKind.u8]]]) ((x_1, l'), (x_2, l'_1), ())])))) : Int)) (And (Prod.snd (Prod.snd (IB.close x)) = (0 : Int)) True)) True) (And (And (And (And ((true : Bool) = true) (And (List.length (DBT.L o) = List.length (DBT.L i ++ castL (encRec [RK.sl (9 : Nat) [RK.int IntKind.u64, RK.int IntKind.u64, RK.int IntKind.u64, RK.ints IntKind.u64 (4 : Nat), RK.int IntKind.u64, RK.sl (1 : Nat) [RK.int IntKind.u8]], RK.sl (1 : Nat) [RK.sl (1 : Nat) [RK.int IntKind.u8]]]) EK (List.take (1 : Nat) (List.drop (0 : Nat) [Enc.of (encRec [RK.sl (9 : Nat) [RK.int IntKind.u64, RK.int IntKind.u64, RK.int IntKind.u64, RK.ints IntKind.u64 (4 : Nat), RK.int IntKind.u64, RK.sl (1 : Nat) [RK.int IntKind.u8]], RK.sl (1 : Nat) [RK.sl (1 : Nat) [RK.int IntKind.u8]]]) ((x_1, l'), (x_2, l'_1), ())])))) (DBT.cp o = cap2))) (And (And ((true : Bool) = true) (And (List.length (DBT.ms o) = (0 : Nat)) (DBT.c1 o = (0 : Nat)))) (And (And ((true : Bool) = true) (And (List.length (DBT.bs o) = (0 : Nat)) (DBT.c2 o = (0 : Nat)))) (And (IB.N (Prod.fst (IB.close x)) = IB.N x) True)))) (And ((true : Bool) = true) (And (And ((true : Bool) = true) (And (DBT.cp o = cap2) (And (List.map (Enc.enc EK) (DBT.L o) = List.map (Enc.enc EK) (DBT.L i ++ castL (encRec [RK.sl (9 : Nat) [RK.int IntKind.u64, RK.int IntKind.u64, RK.int IntKind.u64, RK.ints IntKind.u64 (4 : Nat), RK.int IntKind.u64, RK.sl (1 : Nat) [RK.int IntKind.u8]], RK.sl (1 : Nat) [RK.sl (1 : Nat) [RK.int IntKind.u8]]]) EK (List.take (1 : Nat) (List.drop (0 : Nat) [Enc.of (encRec [RK.sl (9 : Nat) [RK.int IntKind.u64, RK.int IntKind.u64, RK.int IntKind.u64, RK.ints IntKind.u64 (4 : Nat), RK.int IntKind.u64, RK.sl (1 : Nat) [RK.int IntKind.u8]], RK.sl (1 : Nat) [RK.sl (1 : Nat) [RK.int IntKind.u8]]]) ((x_1, l'), (x_2, l'_1), ())])))) (∀ x_3 : KTy, (∀ a_1 : x_3 ∈ DBT.L o, (∀ s : SV, (∀ a_2 : s ∈ Enc.enc EK x_3, ((SV.isPure s : Bool) = (true))))))))) (And ((true : Bool) = true) (And (And ((true : Bool) = true) (And (DBT.c1 o = (0 : Nat)) (And (List.map (Enc.enc EM) (DBT.ms o) = List.map (Enc.enc EM) []) (∀ x_3 : MTy, (∀ a_1 : x_3 ∈ DBT.ms o, (∀ s : SV, (∀ a_2 : s ∈ Enc.enc EM x_3, ((SV.isPure s : Bool) = (true))))))))) (And ((true : Bool) = true) (And (And ((true : Bool) = true) (And (DBT.c2 o = (0 : Nat)) (And (List.map (Enc.enc EBl) (DBT.bs o) = List.map (Enc.enc EBl) []) (∀ x_3 : BTy, (∀ a_1 : x_3 ∈ DBT.bs o, (∀ s : SV, (∀ a_2 : s ∈ Enc.enc EBl x_3, ((SV.isPure s : Bool) = (true))))))))) (And ((true : Bool) = true) True)))))))) ((true : Bool) = true)))) True))))))) True))))))))))))))) True)) (∃ o : DBT (Prod.fst (IB.close x)), (And (And (And (Prod.fst (Prod.snd (IB.close x)) = (0 : Int)) (And (Prod.snd (Prod.snd (IB.close x)) = (6 : Int)) True)) True) (And (And (And (And ((true : Bool) = true) (And (List.length (DBT.L o) = List.length (DBT.L i)) (DBT.cp o = DBT.cp i))) (And (And ((true : Bool) = true) (And (List.length (DBT.ms o) = List.length (DBT.ms i)) (DBT.c1 o = DBT.c1 i))) (And (And ((true : Bool) = true) (And (List.length (DBT.bs o) = List.length (DBT.bs i)) (DBT.c2 o = DBT.c2 i))) (And (IB.N (Prod.fst (IB.close x)) = IB.N x) True)))) (And ((true : Bool) = true) (And (And ((true : Bool) = true) (And (DBT.cp o = DBT.cp i) (And (List.map (Enc.enc EK) (DBT.L o) = List.map (Enc.enc EK) (DBT.L i)) (∀ x_1 : KTy, (∀ a : x_1 ∈ DBT.L o, (∀ s : SV, (∀ a_1 : s ∈ Enc.enc EK x_1, ((SV.isPure s : Bool) = (true))))))))) (And ((true : Bool) = true) (And (And ((true : Bool) = true) (And (DBT.c1 o = DBT.c1 i) (And (List.map (Enc.enc EM) (DBT.ms o) = List.map (Enc.enc EM) (DBT.ms i)) (∀ x_1 : MTy, (∀ a : x_1 ∈ DBT.ms o, (∀ s : SV, (∀ a_1 : s ∈ Enc.enc EM x_1, ((SV.isPure s : Bool) = (true))))))))) (And ((true : Bool) = true) (And (And ((true : Bool) = true) (And (DBT.c2 o = DBT.c2 i) (And (List.map (Enc.enc EBl) (DBT.bs o) = List.map (Enc.enc EBl) (DBT.bs i)) (∀ x_1 : BTy, (∀ a : x_1 ∈ DBT.bs o, (∀ s : SV, (∀ a_1 : s ∈ Enc.enc EBl x_1, ((SV.isPure s : Bool) = (true))))))))) (And ((true : Bool) = true) True)))))))) ((true : Bool) = true)))) (decide ((4096 : Int) ≤ (↑(List.length (DBT.L i)) : Int))))) (by kernel_rfl) ?_
  have hL := congrArg List.length i.hL
  rw [List.length_map] at hL
  unfold IB.close
  refine bif_dec (fun h => ?_) (fun h => ?_)
  · rw [if_pos (show 4096 ≤ x.L.length by omega)]
    refine ⟨i, ?_⟩
    repeat' first | exact fun x _ => Enc.pures EK x | exact fun x _ => Enc.pures EM x | exact fun x _ => Enc.pures EBl x | exact trivial | refine And.intro ?_ ?_ | with_reducible refine bif_dt (by assumption) ?_ | with_reducible refine bif_df (by assumption) ?_ | with_reducible refine bif_dec (fun _ => ?_) (fun _ => ?_) | with_reducible refine bif_not ?_ | with_reducible refine bif_and ?_ | with_reducible refine bif_or ?_ | with_reducible refine bif_t (by assumption) ?_ | with_reducible refine bif_f (by assumption) ?_ | with_reducible refine bif_t (beq_self_eq_true _) ?_ | with_reducible refine bif_b (fun _ => ?_) (fun _ => ?_) | with_reducible refine ⟨_, Eq.refl (List.map _ _), ?_⟩ | (with_reducible refine Exists.intro (by omega) ?_) | rfl | (intro h0; omega) | omega
  · rw [if_neg (show ¬ 4096 ≤ x.L.length by omega)]
    have hk : ∀ x1 x2 : Value, List.map kl (i.L ++ [mkK (List.take i.ms.length i.ms) (List.take i.bs.length i.bs) x1 x2]) = x.L ++ [(x.D, x.B)] := fun x1 x2 => by
      rw [List.map_append, i.hL, List.take_length, List.take_length, List.map_cons, kl_mk, i.hm, i.hb]
      rfl
    have hc : ∀ x1 x2 : Value, _ := fun x1 x2 => castK (mkK (List.take i.ms.length i.ms) (List.take i.bs.length i.bs) x1 x2)
    have hn : ∀ x1 x2 : Value, (i.L ++ [mkK (List.take i.ms.length i.ms) (List.take i.bs.length i.bs) x1 x2]).length = x.L.length + 1 := fun x1 x2 => by rw [List.length_append, hL]; rfl
    repeat' first | refine fun x1 => ⟨Nat.le_refl _, i.h2, rfl, fun _ => rfl, fun x2 => ⟨List.take i.ms.length i.ms, rfl, List.take i.bs.length i.bs, rfl, ?_⟩⟩ | refine ⟨Nat.le_refl _, i.h1, rfl, fun _ => rfl, ?_⟩ | refine fun (cap3 : Nat) (k3 : i.L.length + 1 ≤ cap3) => ?_ | refine ⟨⟨i.L ++ [mkK (List.take i.ms.length i.ms) (List.take i.bs.length i.bs) x1 x2], cap3, [], 0, [], 0, hk x1 x2, rfl, rfl, by rw [List.length_append]; exact k3, Nat.le_refl _, Nat.le_refl _⟩, ?_⟩ | exact congrArg (fun l => (i.L ++ l).length) (hc x1 x2).symm | exact congrArg (fun l => List.map EK.enc (i.L ++ l)) (hc x1 x2).symm | exact congrArg (fun n : Nat => (n : Int)) ((hn x1 x2).symm.trans (congrArg (fun l => (i.L ++ l).length) (hc x1 x2).symm)) | exact fun x _ => Enc.pures EK x | exact fun x _ => Enc.pures EM x | exact fun x _ => Enc.pures EBl x | exact trivial | refine And.intro ?_ ?_ | with_reducible refine bif_dt (by assumption) ?_ | with_reducible refine bif_df (by assumption) ?_ | with_reducible refine bif_dec (fun _ => ?_) (fun _ => ?_) | with_reducible refine bif_not ?_ | with_reducible refine bif_and ?_ | with_reducible refine bif_or ?_ | with_reducible refine bif_t (by assumption) ?_ | with_reducible refine bif_f (by assumption) ?_ | with_reducible refine bif_t (beq_self_eq_true _) ?_ | with_reducible refine bif_b (fun _ => ?_) (fun _ => ?_) | with_reducible refine ⟨_, Eq.refl (List.map _ _), ?_⟩ | (with_reducible refine Exists.intro (by omega) ?_) | rfl | (intro h0; omega) | omega
open Go Go.Sx

theorem dpost_row (y : Value) (b : List Int) {x : IB} {L : List KTy} {ms : List MTy} {bs : List BTy} {l1 k1 l2 k2 l3 k3 cp c1 c2 : Nat} (h : (l1 = L.length ∧ k1 = cp ∧ l2 = ms.length ∧ k2 = c1 ∧ l3 = bs.length ∧ k3 = c2) ∧ (L.length ≤ cp ∧ ms.length ≤ c1 ∧ bs.length ≤ c2) ∧ (L.map kl = x.L ∧ ms.map ml = x.D ∧ bs.map bl = x.B) ∧ x.B.length ≤ 8) :
    SMem Try.prog 21 [.one (.ptr 0 0), byV y b] 4 [(0, .cells [.nslc 1 2 l1 k1, .nslc 2 9 l2 k2, .nslc 3 1 l3 k3, .v (.int .u64 x.N)]), (1, .row 2 EK L cp), (2, .row 9 EM ms c1), (3, .row 1 EBl bs c2)] (fun o : DBT (x.post b).1 => ⟨5, int (x.post b).2, dcs 1 2 4 o.L o.cp o.ms o.c1 o.bs o.c2 (x.post b).1.N⟩) := by
  obtain ⟨⟨rfl, rfl, rfl, rfl, rfl, rfl⟩, ⟨h1, h2, h3⟩, ⟨h4, h5, h6⟩, h7⟩ := h
  exact dpost_spec y ⟨L, k1, ms, k2, bs, k3, h4, h5, h6, h1, h2, h3⟩ h7
theorem ddeposit_row (n_ s t : Int) (v : List Int) (g : Int) (y : Value) (d : List Int) {x : IB} {L : List KTy} {ms : List MTy} {bs : List BTy} {l1 k1 l2 k2 l3 k3 cp c1 c2 : Nat} (h : (l1 = L.length ∧ k1 = cp ∧ l2 = ms.length ∧ k2 = c1 ∧ l3 = bs.length ∧ k3 = c2) ∧ (L.length ≤ cp ∧ ms.length ≤ c1 ∧ bs.length ≤ c2) ∧ (L.map kl = x.L ∧ ms.map ml = x.D ∧ bs.map bl = x.B) ∧ x.D.length ≤ 8) :
    SMem Try.prog 18 [.one (.ptr 0 0), .agg (mA n_ s t v g y d)] 4 [(0, .cells [.nslc 1 2 l1 k1, .nslc 2 9 l2 k2, .nslc 3 1 l3 k3, .v (.int .u64 x.N)]), (1, .row 2 EK L cp), (2, .row 9 EM ms c1), (3, .row 1 EBl bs c2)]
    (fun o : DBT (x.deposit ⟨n_, s, t, v, g, d⟩).1 => ⟨5, .tup [u64 (x.deposit ⟨n_, s, t, v, g, d⟩).2.1, int (x.deposit ⟨n_, s, t, v, g, d⟩).2.2], dcs 1 4 3 o.L o.cp o.ms o.c1 o.bs o.c2 (x.deposit ⟨n_, s, t, v, g, d⟩).1.N⟩) := by
  obtain ⟨⟨rfl, rfl, rfl, rfl, rfl, rfl⟩, ⟨h1, h2, h3⟩, ⟨h4, h5, h6⟩, h7⟩ := h
  exact ddeposit_spec ⟨n_, s, t, v, g, d⟩ y ⟨L, k1, ms, k2, bs, k3, h4, h5, h6, h1, h2, h3⟩ h7
theorem dclose_row {x : IB} {L : List KTy} {ms : List MTy} {bs : List BTy} {l1 k1 l2 k2 l3 k3 cp c1 c2 : Nat} (h : (l1 = L.length ∧ k1 = cp ∧ l2 = ms.length ∧ k2 = c1 ∧ l3 = bs.length ∧ k3 = c2) ∧ (L.length ≤ cp ∧ ms.length ≤ c1 ∧ bs.length ≤ c2) ∧ (L.map kl = x.L ∧ ms.map ml = x.D ∧ bs.map bl = x.B) ∧ x.L.length ≤ 4096) :
    SMem Try.prog 23 [.one (.ptr 0 0)] 4 [(0, .cells [.nslc 1 2 l1 k1, .nslc 2 9 l2 k2, .nslc 3 1 l3 k3, .v (.int .u64 x.N)]), (1, .row 2 EK L cp), (2, .row 9 EM ms c1), (3, .row 1 EBl bs c2)]
    (fun o : DBT x.close.1 => ⟨7, .tup [int x.close.2.1, int x.close.2.2], dcs 4 5 6 o.L o.cp o.ms o.c1 o.bs o.c2 x.close.1.N⟩) := by
  obtain ⟨⟨rfl, rfl, rfl, rfl, rfl, rfl⟩, ⟨h1, h2, h3⟩, ⟨h4, h5, h6⟩, h7⟩ := h
  exact dclose_spec ⟨L, k1, ms, k2, bs, k3, h4, h5, h6, h1, h2, h3⟩ h7
def dpostT : MT := fun ms n h K => match ms with
  | [.one (.ptr P0 0), .one (.view vx0 ve0 en0 vl0)] => (match get h P0 with
    | some (.cells [.nslc P1 2 l1 k1, .nslc P2 9 l2 k2, .nslc P3 1 l3 k3, .v (.int .u64 q)]) => (match get h P1 with
    | some (.row we1 wn1 wl1 cp) => (match get h P2 with
    | some (.row we2 wn2 wl2 c1) => (match get h P3 with
    | some (.row we3 wn3 wl3 c2) => bif Nat.beq ve0 1 && Nat.beq we1 2 && Nat.beq we2 9 && Nat.beq we3 1 && noDup [P0, P1, P2, P3] then ∃ b : List (Int), vl0.map en0 = b.map eB ∧ ∃ L : List (KTy), wl1.map wn1.enc = L.map (EK).enc ∧ ∃ ms : List (MTy), wl2.map wn2.enc = ms.map (EM).enc ∧ ∃ bs : List (BTy), wl3.map wn3.enc = bs.map (EBl).enc ∧ ∃ (x : IB), ((q = x.N) ∧ (l1 = L.length ∧ k1 = cp ∧ l2 = ms.length ∧ k2 = c1 ∧ l3 = bs.length ∧ k3 = c2) ∧ (L.length ≤ cp ∧ ms.length ≤ c1 ∧ bs.length ≤ c2) ∧ (L.map kl = x.L ∧ ms.map ml = x.D ∧ bs.map bl = x.B) ∧ x.B.length ≤ 8) ∧ (∀ o : DBT (x.post b).1, K (n + 1) (int (x.post b).2) ([(P0, .cells [.nslc P1 2 o.L.length o.cp, .nslc P2 9 o.ms.length o.c1, .nslc n 1 o.bs.length o.c2, .v (.int .u64 (x.post b).1.N)]), (P1, .row 2 EK o.L o.cp), (P2, .row 9 EM o.ms o.c1), (n, .row 1 EBl o.bs o.c2)] ++ delL [P0, P1, P2, P3] h)) else False
    | _ => False)
    | _ => False)
    | _ => False)
    | _ => False)
  | _ => False
theorem dpost_mono : MMono dpostT := by
  intro ms n h K K' hkk hk
  unfold dpostT at hk ⊢
  split at hk
  · rename_i P0 vx0 ve0 va0 en0 vl0
    split at hk
    · rename_i P1 l1 k1 P2 l2 k2 P3 l3 k3 q hg0
      try simp only [hg0]
      split at hk
      · rename_i we1 wa1 wn1 wl1 cp hg1
        try simp only [hg1]
        split at hk
        · rename_i we2 wa2 wn2 wl2 c1 hg2
          try simp only [hg2]
          split at hk
          · rename_i we3 wa3 wn3 wl3 c2 hg3
            try simp only [hg3]
            obtain ⟨hb, y0, z0, y1, z1, y2, z2, y3, z3, q0, h1, h2⟩ := cond_false_elim hk
            rw [hb]
            exact ⟨y0, z0, y1, z1, y2, z2, y3, z3, q0, h1, fun o => hkk _ _ _ (h2 o)⟩
          · exact hk.elim
        · exact hk.elim
      · exact hk.elim
    · exact hk.elim
  · exact hk.elim
theorem dpost_ok : MOK Try.prog 21 dpostT := by
  refine ⟨?_, dpost_mono⟩
  intro ms n hB K hk
  unfold dpostT at hk
  split at hk
  · rename_i P0 vx0 ve0 va0 en0 vl0
    split at hk
    · rename_i P1 l1 k1 P2 l2 k2 P3 l3 k3 q hg0
      split at hk
      · rename_i we1 wa1 wn1 wl1 cp hg1
        split at hk
        · rename_i we2 wa2 wn2 wl2 c1 hg2
          split at hk
          · rename_i we3 wa3 wn3 wl3 c2 hg3
            obtain ⟨hb, b, he0, L, hl1, ms, hl2, bs, hl3, x, h, hk2⟩ := cond_false_elim hk
            clear hk
            obtain ⟨rfl, h⟩ := h
            simp only [Bool.and_eq_true] at hb
            obtain ⟨⟨⟨⟨hc0, hc1⟩, hc2⟩, hc3⟩, hnd⟩ := hb
            have hs0 := Nat.eq_of_beq_eq_true hc0
            subst hs0
            have hs1 := Nat.eq_of_beq_eq_true hc1
            subst hs1
            have hs2 := Nat.eq_of_beq_eq_true hc2
            subst hs2
            have hs3 := Nat.eq_of_beq_eq_true hc3
            subst hs3
            refine SCall.seen ?_ (.cons (.refl _) (.cons (.view he0) .nil))
            exact (dpost_row _ b h).use (fun j => match j with | 0 => P0 | 1 => P1 | 2 => P2 | 3 => P3 | _ => 0) rfl rfl ⟨by show (match get hB P0 with | some b0 => Blk.imp _ _ _ b0 | none => False); rw [hg0]; exact ⟨rfl, rfl⟩, rfl, ⟨by show (match get hB P1 with | some b0 => Blk.imp _ _ _ b0 | none => False); rw [hg1]; exact ⟨rfl, rfl, hl1.symm, fun y _ => Enc.pures _ y⟩, rfl, ⟨by show (match get hB P2 with | some b0 => Blk.imp _ _ _ b0 | none => False); rw [hg2]; exact ⟨rfl, rfl, hl2.symm, fun y _ => Enc.pures _ y⟩, rfl, ⟨by show (match get hB P3 with | some b0 => Blk.imp _ _ _ b0 | none => False); rw [hg3]; exact ⟨rfl, rfl, hl3.symm, fun y _ => Enc.pures _ y⟩, rfl, trivial⟩⟩⟩⟩ (by exact hnd) (fun j hj => by cases j with
                | zero => exact ⟨_, rfl⟩
                | succ j => cases j with
                 | zero => exact ⟨_, rfl⟩
                 | succ j => cases j with
                  | zero => exact ⟨_, rfl⟩
                  | succ j => cases j with
                   | zero => exact ⟨_, rfl⟩
                   | succ j => omega) (fun o => hk2 o)
          · exact hk.elim
        · exact hk.elim
      · exact hk.elim
    · exact hk.elim
  · exact hk.elim

def ddepositT : MT := fun ms n h K => match ms with
  | [.one (.ptr P0 0), .agg [.v (.int .u64 n_), .v (.int .u64 s), .v (.int .u64 t), .ints .u64 4 v, .v (.int .u64 g), .view vx0 ve0 en0 vl0]] => (match get h P0 with
    | some (.cells [.nslc P1 2 l1 k1, .nslc P2 9 l2 k2, .nslc P3 1 l3 k3, .v (.int .u64 q)]) => (match get h P1 with
    | some (.row we1 wn1 wl1 cp) => (match get h P2 with
    | some (.row we2 wn2 wl2 c1) => (match get h P3 with
    | some (.row we3 wn3 wl3 c2) => bif Nat.beq ve0 1 && Nat.beq we1 2 && Nat.beq we2 9 && Nat.beq we3 1 && noDup [P0, P1, P2, P3] then ∃ d : List (Int), vl0.map en0 = d.map eB ∧ ∃ L : List (KTy), wl1.map wn1.enc = L.map (EK).enc ∧ ∃ ms : List (MTy), wl2.map wn2.enc = ms.map (EM).enc ∧ ∃ bs : List (BTy), wl3.map wn3.enc = bs.map (EBl).enc ∧ ∃ (x : IB), ((q = x.N) ∧ (l1 = L.length ∧ k1 = cp ∧ l2 = ms.length ∧ k2 = c1 ∧ l3 = bs.length ∧ k3 = c2) ∧ (L.length ≤ cp ∧ ms.length ≤ c1 ∧ bs.length ≤ c2) ∧ (L.map kl = x.L ∧ ms.map ml = x.D ∧ bs.map bl = x.B) ∧ x.D.length ≤ 8) ∧ (∀ o : DBT (x.deposit ⟨n_, s, t, v, g, d⟩).1, K (n + 1) (.tup [u64 (x.deposit ⟨n_, s, t, v, g, d⟩).2.1, int (x.deposit ⟨n_, s, t, v, g, d⟩).2.2]) ([(P0, .cells [.nslc P1 2 o.L.length o.cp, .nslc n 9 o.ms.length o.c1, .nslc P3 1 o.bs.length o.c2, .v (.int .u64 (x.deposit ⟨n_, s, t, v, g, d⟩).1.N)]), (P1, .row 2 EK o.L o.cp), (n, .row 9 EM o.ms o.c1), (P3, .row 1 EBl o.bs o.c2)] ++ delL [P0, P1, P2, P3] h)) else False
    | _ => False)
    | _ => False)
    | _ => False)
    | _ => False)
  | _ => False
theorem ddeposit_mono : MMono ddepositT := by
  intro ms n h K K' hkk hk
  unfold ddepositT at hk ⊢
  split at hk
  · rename_i P0 n_ s t v g vx0 ve0 va0 en0 vl0
    split at hk
    · rename_i P1 l1 k1 P2 l2 k2 P3 l3 k3 q hg0
      try simp only [hg0]
      split at hk
      · rename_i we1 wa1 wn1 wl1 cp hg1
        try simp only [hg1]
        split at hk
        · rename_i we2 wa2 wn2 wl2 c1 hg2
          try simp only [hg2]
          split at hk
          · rename_i we3 wa3 wn3 wl3 c2 hg3
            try simp only [hg3]
            obtain ⟨hb, y0, z0, y1, z1, y2, z2, y3, z3, q0, h1, h2⟩ := cond_false_elim hk
            rw [hb]
            exact ⟨y0, z0, y1, z1, y2, z2, y3, z3, q0, h1, fun o => hkk _ _ _ (h2 o)⟩
          · exact hk.elim
        · exact hk.elim
      · exact hk.elim
    · exact hk.elim
  · exact hk.elim
theorem ddeposit_ok : MOK Try.prog 18 ddepositT := by
  refine ⟨?_, ddeposit_mono⟩
  intro ms n hB K hk
  unfold ddepositT at hk
  split at hk
  · rename_i P0 n_ s t v g vx0 ve0 va0 en0 vl0
    split at hk
    · rename_i P1 l1 k1 P2 l2 k2 P3 l3 k3 q hg0
      split at hk
      · rename_i we1 wa1 wn1 wl1 cp hg1
        split at hk
        · rename_i we2 wa2 wn2 wl2 c1 hg2
          split at hk
          · rename_i we3 wa3 wn3 wl3 c2 hg3
            obtain ⟨hb, d, he0, L, hl1, ms, hl2, bs, hl3, x, h, hk2⟩ := cond_false_elim hk
            clear hk
            obtain ⟨rfl, h⟩ := h
            simp only [Bool.and_eq_true] at hb
            obtain ⟨⟨⟨⟨hc0, hc1⟩, hc2⟩, hc3⟩, hnd⟩ := hb
            have hs0 := Nat.eq_of_beq_eq_true hc0
            subst hs0
            have hs1 := Nat.eq_of_beq_eq_true hc1
            subst hs1
            have hs2 := Nat.eq_of_beq_eq_true hc2
            subst hs2
            have hs3 := Nat.eq_of_beq_eq_true hc3
            subst hs3
            refine SCall.seen ?_ (.cons (.refl _) (.cons (.agg (.refl (.refl (.refl (.refl (.refl (.view he0 .nil))))))) .nil))
            exact (ddeposit_row n_ s t v g _ d h).use (fun j => match j with | 0 => P0 | 1 => P1 | 2 => P2 | 3 => P3 | _ => 0) rfl rfl ⟨by show (match get hB P0 with | some b0 => Blk.imp _ _ _ b0 | none => False); rw [hg0]; exact ⟨rfl, rfl⟩, rfl, ⟨by show (match get hB P1 with | some b0 => Blk.imp _ _ _ b0 | none => False); rw [hg1]; exact ⟨rfl, rfl, hl1.symm, fun y _ => Enc.pures _ y⟩, rfl, ⟨by show (match get hB P2 with | some b0 => Blk.imp _ _ _ b0 | none => False); rw [hg2]; exact ⟨rfl, rfl, hl2.symm, fun y _ => Enc.pures _ y⟩, rfl, ⟨by show (match get hB P3 with | some b0 => Blk.imp _ _ _ b0 | none => False); rw [hg3]; exact ⟨rfl, rfl, hl3.symm, fun y _ => Enc.pures _ y⟩, rfl, trivial⟩⟩⟩⟩ (by exact hnd) (fun j hj => by cases j with
                | zero => exact ⟨_, rfl⟩
                | succ j => cases j with
                 | zero => exact ⟨_, rfl⟩
                 | succ j => cases j with
                  | zero => exact ⟨_, rfl⟩
                  | succ j => cases j with
                   | zero => exact ⟨_, rfl⟩
                   | succ j => omega) (fun o => hk2 o)
          · exact hk.elim
        · exact hk.elim
      · exact hk.elim
    · exact hk.elim
  · exact hk.elim

def dcloseT : MT := fun ms n h K => match ms with
  | [.one (.ptr P0 0)] => (match get h P0 with
    | some (.cells [.nslc P1 2 l1 k1, .nslc P2 9 l2 k2, .nslc P3 1 l3 k3, .v (.int .u64 q)]) => (match get h P1 with
    | some (.row we1 wn1 wl1 cp) => (match get h P2 with
    | some (.row we2 wn2 wl2 c1) => (match get h P3 with
    | some (.row we3 wn3 wl3 c2) => bif Nat.beq we1 2 && Nat.beq we2 9 && Nat.beq we3 1 && noDup [P0, P1, P2, P3] then ∃ L : List (KTy), wl1.map wn1.enc = L.map (EK).enc ∧ ∃ ms : List (MTy), wl2.map wn2.enc = ms.map (EM).enc ∧ ∃ bs : List (BTy), wl3.map wn3.enc = bs.map (EBl).enc ∧ ∃ (x : IB), ((q = x.N) ∧ (l1 = L.length ∧ k1 = cp ∧ l2 = ms.length ∧ k2 = c1 ∧ l3 = bs.length ∧ k3 = c2) ∧ (L.length ≤ cp ∧ ms.length ≤ c1 ∧ bs.length ≤ c2) ∧ (L.map kl = x.L ∧ ms.map ml = x.D ∧ bs.map bl = x.B) ∧ x.L.length ≤ 4096) ∧ (∀ o : DBT x.close.1, K (n + 3) (.tup [int x.close.2.1, int x.close.2.2]) ([(P0, .cells [.nslc n 2 o.L.length o.cp, .nslc (n + 1) 9 o.ms.length o.c1, .nslc (n + 2) 1 o.bs.length o.c2, .v (.int .u64 x.close.1.N)]), (n, .row 2 EK o.L o.cp), (n + 1, .row 9 EM o.ms o.c1), (n + 2, .row 1 EBl o.bs o.c2)] ++ delL [P0, P1, P2, P3] h)) else False
    | _ => False)
    | _ => False)
    | _ => False)
    | _ => False)
  | _ => False
theorem dclose_mono : MMono dcloseT := by
  intro ms n h K K' hkk hk
  unfold dcloseT at hk ⊢
  split at hk
  · rename_i P0
    split at hk
    · rename_i P1 l1 k1 P2 l2 k2 P3 l3 k3 q hg0
      try simp only [hg0]
      split at hk
      · rename_i we1 wa1 wn1 wl1 cp hg1
        try simp only [hg1]
        split at hk
        · rename_i we2 wa2 wn2 wl2 c1 hg2
          try simp only [hg2]
          split at hk
          · rename_i we3 wa3 wn3 wl3 c2 hg3
            try simp only [hg3]
            obtain ⟨hb, y0, z0, y1, z1, y2, z2, q0, h1, h2⟩ := cond_false_elim hk
            rw [hb]
            exact ⟨y0, z0, y1, z1, y2, z2, q0, h1, fun o => hkk _ _ _ (h2 o)⟩
          · exact hk.elim
        · exact hk.elim
      · exact hk.elim
    · exact hk.elim
  · exact hk.elim
theorem dclose_ok : MOK Try.prog 23 dcloseT := by
  refine ⟨?_, dclose_mono⟩
  intro ms n hB K hk
  unfold dcloseT at hk
  split at hk
  · rename_i P0
    split at hk
    · rename_i P1 l1 k1 P2 l2 k2 P3 l3 k3 q hg0
      split at hk
      · rename_i we1 wa1 wn1 wl1 cp hg1
        split at hk
        · rename_i we2 wa2 wn2 wl2 c1 hg2
          split at hk
          · rename_i we3 wa3 wn3 wl3 c2 hg3
            obtain ⟨hb, L, hl1, ms, hl2, bs, hl3, x, h, hk2⟩ := cond_false_elim hk
            clear hk
            obtain ⟨rfl, h⟩ := h
            simp only [Bool.and_eq_true] at hb
            obtain ⟨⟨⟨hc0, hc1⟩, hc2⟩, hnd⟩ := hb
            have hs0 := Nat.eq_of_beq_eq_true hc0
            subst hs0
            have hs1 := Nat.eq_of_beq_eq_true hc1
            subst hs1
            have hs2 := Nat.eq_of_beq_eq_true hc2
            subst hs2
            refine SCall.seen ?_ (.cons (.refl _) .nil)
            exact (dclose_row h).use (fun j => match j with | 0 => P0 | 1 => P1 | 2 => P2 | 3 => P3 | _ => 0) rfl rfl ⟨by show (match get hB P0 with | some b0 => Blk.imp _ _ _ b0 | none => False); rw [hg0]; exact ⟨rfl, rfl⟩, rfl, ⟨by show (match get hB P1 with | some b0 => Blk.imp _ _ _ b0 | none => False); rw [hg1]; exact ⟨rfl, rfl, hl1.symm, fun y _ => Enc.pures _ y⟩, rfl, ⟨by show (match get hB P2 with | some b0 => Blk.imp _ _ _ b0 | none => False); rw [hg2]; exact ⟨rfl, rfl, hl2.symm, fun y _ => Enc.pures _ y⟩, rfl, ⟨by show (match get hB P3 with | some b0 => Blk.imp _ _ _ b0 | none => False); rw [hg3]; exact ⟨rfl, rfl, hl3.symm, fun y _ => Enc.pures _ y⟩, rfl, trivial⟩⟩⟩⟩ (by exact hnd) (fun j hj => by cases j with
                | zero => exact ⟨_, rfl⟩
                | succ j => cases j with
                 | zero => exact ⟨_, rfl⟩
                 | succ j => cases j with
                  | zero => exact ⟨_, rfl⟩
                  | succ j => cases j with
                   | zero => exact ⟨_, rfl⟩
                   | succ j => omega) (fun o => hk2 o)
          · exact hk.elim
        · exact hk.elim
      · exact hk.elim
    · exact hk.elim
  · exact hk.elim

theorem isameP_row (x y : Value) (A : List Nat) (P : List (Value × List Int)) {ms ms' : List MTy} {c1 c2 l1 k1 l2 k2 : Nat} {N : List (Value × List Int)} {bs : List BTy} (h : (l1 = ms.length ∧ k1 = c1 ∧ l2 = N.length ∧ k2 = c2) ∧ (ms.map ml = ms'.map ml ∧ N.map (·.2) = bs.map bl) ∧ (∀ e ∈ N, e ∈ P) ∧ (ms.length ≤ 1000 ∧ N.length ≤ 1000) ∧ (∀ m ∈ ms, (ml m).d.length ≤ 100000000) ∧ ms.length ≤ c1 ∧ N.length ≤ c2) :
    SMem Try.prog 28 [.agg [.nslc 1 9 l1 k1, .nslc 2 1 l2 k2], .agg (bkA x ms' y bs)] 3 [(0, pool A P), (1, .row 9 EM ms c1), (2, .row 1 ER (N.map rawR) c2)] (fun _ : Unit => ⟨3, bool true, [(0, pool A P), (1, .row 9 EM ms c1), (2, .row 1 ER (N.map rawR) c2)]⟩) := by
  obtain ⟨⟨rfl, rfl, rfl, rfl⟩, ⟨h1, h2⟩, h3, ⟨h4, h5⟩, h6, h7, h8⟩ := h
  have := isameP_spec x y A P h1 h2 h3 h4 h5 h6 h7 h8
  rwa [List.length_map] at this
def isamePT : MT := fun ms n h K => match ms with
  | [.agg [.nslc P1 9 l1 k1, .nslc P2 1 l2 k2], .agg [.view vx0 ve0 en0 vl0, .view vx1 ve1 en1 vl1]] => (match get h 0 with
    | some (.obj A [] (.own P)) => (match get h P1 with
    | some (.row we1 wn1 wl1 c1) => (match get h P2 with
    | some (.row we2 wn2 wl2 c2) => bif Nat.beq ve0 9 && Nat.beq ve1 1 && Nat.beq we1 9 && Nat.beq we2 1 && noDup [0, P1, P2] then ∃ ms2 : List (MTy), vl0.map en0 = ms2.map EM.enc ∧ ∃ bs : List (BTy), vl1.map en1 = bs.map EBl.enc ∧ ∃ ms : List (MTy), wl1.map wn1.enc = ms.map (EM).enc ∧ ∃ r : List (RTy), wl2.map wn2.enc = r.map (ER).enc ∧ ∃ (N : List (Value × List Int)), ((r = N.map rawR) ∧ (l1 = ms.length ∧ k1 = c1 ∧ l2 = N.length ∧ k2 = c2) ∧ (ms.map ml = ms2.map ml ∧ N.map (·.2) = bs.map bl) ∧ (∀ e ∈ N, e ∈ P) ∧ (ms.length ≤ 1000 ∧ N.length ≤ 1000) ∧ (∀ m ∈ ms, (ml m).d.length ≤ 100000000) ∧ ms.length ≤ c1 ∧ N.length ≤ c2) ∧ (∀ o : Unit, K (n + 0) (bool true) ([(0, pool A P), (P1, .row 9 EM ms c1), (P2, .row 1 ER (N.map rawR) c2)] ++ delL [0, P1, P2] h)) else False
    | _ => False)
    | _ => False)
    | _ => False)
  | _ => False
theorem isameP_mono : MMono isamePT := by
  intro ms n h K K' hkk hk
  unfold isamePT at hk ⊢
  split at hk
  · rename_i P1 l1 k1 P2 l2 k2 vx0 ve0 va0 en0 vl0 vx1 ve1 va1 en1 vl1
    split at hk
    · rename_i A P hg0
      try simp only [hg0]
      split at hk
      · rename_i we1 wa1 wn1 wl1 c1 hg1
        try simp only [hg1]
        split at hk
        · rename_i we2 wa2 wn2 wl2 c2 hg2
          try simp only [hg2]
          obtain ⟨hb, y0, z0, y1, z1, y2, z2, y3, z3, q0, h1, h2⟩ := cond_false_elim hk
          rw [hb]
          exact ⟨y0, z0, y1, z1, y2, z2, y3, z3, q0, h1, fun o => hkk _ _ _ (h2 o)⟩
        · exact hk.elim
      · exact hk.elim
    · exact hk.elim
  · exact hk.elim
theorem isameP_ok : MOK Try.prog 28 isamePT := by
  refine ⟨?_, isameP_mono⟩
  intro ms n hB K hk
  unfold isamePT at hk
  split at hk
  · rename_i P1 l1 k1 P2 l2 k2 vx0 ve0 va0 en0 vl0 vx1 ve1 va1 en1 vl1
    split at hk
    · rename_i A P hg0
      split at hk
      · rename_i we1 wa1 wn1 wl1 c1 hg1
        split at hk
        · rename_i we2 wa2 wn2 wl2 c2 hg2
          obtain ⟨hb, ms2, he0, bs, he1, ms, hl1, r, hl2, N, h, hk2⟩ := cond_false_elim hk
          clear hk
          obtain ⟨rfl, h⟩ := h
          simp only [Bool.and_eq_true] at hb
          obtain ⟨⟨⟨⟨hc0, hc1⟩, hc2⟩, hc3⟩, hnd⟩ := hb
          have hs0 := Nat.eq_of_beq_eq_true hc0
          subst hs0
          have hs1 := Nat.eq_of_beq_eq_true hc1
          subst hs1
          have hs2 := Nat.eq_of_beq_eq_true hc2
          subst hs2
          have hs3 := Nat.eq_of_beq_eq_true hc3
          subst hs3
          refine SCall.seen ?_ (.cons (.refl _) (.cons (.agg (.view he0 (.view he1 .nil))) .nil))
          exact (isameP_row _ _ A P h).use (fun j => match j with | 0 => 0 | 1 => P1 | 2 => P2 | _ => 0) rfl rfl ⟨by show (match get hB 0 with | some b0 => Blk.imp _ _ _ b0 | none => False); rw [hg0]; exact ⟨rfl, .inl ⟨rfl, rfl⟩, rfl⟩, rfl, ⟨by show (match get hB P1 with | some b0 => Blk.imp _ _ _ b0 | none => False); rw [hg1]; exact ⟨rfl, rfl, hl1.symm, fun y _ => Enc.pures _ y⟩, rfl, ⟨by show (match get hB P2 with | some b0 => Blk.imp _ _ _ b0 | none => False); rw [hg2]; exact ⟨rfl, rfl, hl2.symm, fun y _ => Enc.pures _ y⟩, rfl, trivial⟩⟩⟩ (by exact hnd) (fun j hj => by cases j with
              | zero => exact ⟨_, rfl⟩
              | succ j => cases j with
               | zero => exact ⟨_, rfl⟩
               | succ j => cases j with
                | zero => exact ⟨_, rfl⟩
                | succ j => omega) (fun o => hk2 o)
        · exact hk.elim
      · exact hk.elim
    · exact hk.elim
  · exact hk.elim

theorem clone_row {L : List KTy} {ms : List MTy} {bs : List BTy} {q : Int} {len cap cp c1 c2 : Nat} (h : (len = L.length ∧ cap = cp ∧ c1 = 8 ∧ c2 = 8 ∧ capOk L.length cp ∧ L.length ≤ 5000 ∧ ms.length ≤ 8 ∧ bs.length ≤ 8 ∧ (∀ m ∈ ms, (ml m).d.length ≤ 64) ∧ ∀ b ∈ bs, (bl b).length ≤ 4096)) :
    SMem Try.prog 24 [.one (.ptr 0 0)] 4 [(0, .cells [.nslc 3 2 len cap, .ch 1, .ch 2, .v (.int .u64 q)]), (1, .chan c1 true EM ms), (2, .chan c2 false EBl bs), (3, .row 2 EK L cp)]
      (fun o : C3T L ms bs => ⟨9, .one (.ptr 4 0), inH L cp ms bs q ++ [(4, .cells [.nslc 8 2 L.length o.c.cap, .ch 5, .ch 6, .v (.int .u64 q)]), (5, .chan 8 true EM o.r), (6, .chan 8 false EBl o.r2), (8, .row 2 EK L o.c.cap)]⟩) := by
  obtain ⟨rfl, rfl, rfl, rfl, h1, h2, h3, h4, h5, h6⟩ := h
  exact clone_spec h1 h2 h3 h4 h5 h6
def icloneT : MT := fun ms n h K => match ms with
  | [.one (.ptr P0 0)] => (match get h P0 with
    | some (.cells [.nslc P3 2 len cap, .ch P1, .ch P2, .v (.int .u64 q)]) => (match get h P1 with
    | some (.chan c1 true wn1 wl1) => (match get h P2 with
    | some (.chan c2 false wn2 wl2) => (match get h P3 with
    | some (.row we3 wn3 wl3 cp) => bif Nat.beq we3 2 && noDup [P0, P1, P2, P3] then ∃ ms : List (MTy), wl1.map wn1.enc = ms.map (EM).enc ∧ ∃ bs : List (BTy), wl2.map wn2.enc = bs.map (EBl).enc ∧ ∃ L : List (KTy), wl3.map wn3.enc = L.map (EK).enc ∧ ((len = L.length ∧ cap = cp ∧ c1 = 8 ∧ c2 = 8 ∧ capOk L.length cp ∧ L.length ≤ 5000 ∧ ms.length ≤ 8 ∧ bs.length ≤ 8 ∧ (∀ m ∈ ms, (ml m).d.length ≤ 64) ∧ ∀ b ∈ bs, (bl b).length ≤ 4096)) ∧ (∀ o : C3T L ms bs, K (n + 5) (.one (.ptr n 0)) ([(P0, .cells [.nslc P3 2 L.length cp, .ch P1, .ch P2, .v (.int .u64 q)]), (P1, .chan 8 true EM ms), (P2, .chan 8 false EBl bs), (P3, .row 2 EK L cp), (n, .cells [.nslc (n + 4) 2 L.length o.c.cap, .ch (n + 1), .ch (n + 2), .v (.int .u64 q)]), (n + 1, .chan 8 true EM o.r), (n + 2, .chan 8 false EBl o.r2), (n + 4, .row 2 EK L o.c.cap)] ++ delL [P0, P1, P2, P3] h)) else False
    | _ => False)
    | _ => False)
    | _ => False)
    | _ => False)
  | _ => False
theorem iclone_mono : MMono icloneT := by
  intro ms n h K K' hkk hk
  unfold icloneT at hk ⊢
  split at hk
  · rename_i P0
    split at hk
    · rename_i P3 len cap P1 P2 q hg0
      try simp only [hg0]
      split at hk
      · rename_i c1 wa1 wn1 wl1 hg1
        try simp only [hg1]
        split at hk
        · rename_i c2 wa2 wn2 wl2 hg2
          try simp only [hg2]
          split at hk
          · rename_i we3 wa3 wn3 wl3 cp hg3
            try simp only [hg3]
            obtain ⟨hb, y0, z0, y1, z1, y2, z2, h1, h2⟩ := cond_false_elim hk
            rw [hb]
            exact ⟨y0, z0, y1, z1, y2, z2, h1, fun o => hkk _ _ _ (h2 o)⟩
          · exact hk.elim
        · exact hk.elim
      · exact hk.elim
    · exact hk.elim
  · exact hk.elim
theorem iclone_ok : MOK Try.prog 24 icloneT := by
  refine ⟨?_, iclone_mono⟩
  intro ms n hB K hk
  unfold icloneT at hk
  split at hk
  · rename_i P0
    split at hk
    · rename_i P3 len cap P1 P2 q hg0
      split at hk
      · rename_i c1 wa1 wn1 wl1 hg1
        split at hk
        · rename_i c2 wa2 wn2 wl2 hg2
          split at hk
          · rename_i we3 wa3 wn3 wl3 cp hg3
            obtain ⟨hb, ms, hl1, bs, hl2, L, hl3, h, hk2⟩ := cond_false_elim hk
            clear hk
            simp only [Bool.and_eq_true] at hb
            obtain ⟨hc0, hnd⟩ := hb
            have hs0 := Nat.eq_of_beq_eq_true hc0
            subst hs0
            refine SCall.seen ?_ (.cons (.refl _) .nil)
            exact (clone_row h).use (fun j => match j with | 0 => P0 | 1 => P1 | 2 => P2 | 3 => P3 | _ => 0) rfl rfl ⟨by show (match get hB P0 with | some b0 => Blk.imp _ _ _ b0 | none => False); rw [hg0]; exact ⟨rfl, rfl⟩, rfl, ⟨by show (match get hB P1 with | some b0 => Blk.imp _ _ _ b0 | none => False); rw [hg1]; exact ⟨rfl, rfl, hl1.symm⟩, rfl, ⟨by show (match get hB P2 with | some b0 => Blk.imp _ _ _ b0 | none => False); rw [hg2]; exact ⟨rfl, rfl, hl2.symm⟩, rfl, ⟨by show (match get hB P3 with | some b0 => Blk.imp _ _ _ b0 | none => False); rw [hg3]; exact ⟨rfl, rfl, hl3.symm, fun y _ => Enc.pures _ y⟩, rfl, trivial⟩⟩⟩⟩ (by exact hnd) (fun j hj => by cases j with
                | zero => exact ⟨_, rfl⟩
                | succ j => cases j with
                 | zero => exact ⟨_, rfl⟩
                 | succ j => cases j with
                  | zero => exact ⟨_, rfl⟩
                  | succ j => cases j with
                   | zero => exact ⟨_, rfl⟩
                   | succ j => omega) (fun o => hk2 o)
          · exact hk.elim
        · exact hk.elim
      · exact hk.elim
    · exact hk.elim
  · exact hk.elim

def ib0 : IB := ⟨[], [], [], 0⟩
theorem ib0_ok : ib0.Ok := ⟨Nat.zero_le _, Nat.zero_le _, fun _ h => (nomatch h), fun _ h => (nomatch h), Nat.zero_le _, fun _ h => (nomatch h)⟩
theorem IB.Ok.deposit {x : IB} (h : x.Ok) (m : Msg) : (x.deposit m).1.Ok := by
  unfold IB.deposit
  split
  · rename_i hr
    have hd : m.d.length ≤ 64 := by
      unfold rightM at hr
      simp only [Bool.and_eq_true, decide_eq_true_eq] at hr
      exact hr.2
    split
    · rename_i h8
      refine ⟨?_, h.b, fun y hy => ?_, h.bb, h.l, h.ll⟩
      · show (x.D ++ [_]).length ≤ 8
        rw [List.length_append]
        exact h8
      · rcases List.mem_append.1 hy with hy | hy
        · exact h.dd y hy
        · rcases List.mem_singleton.1 hy with rfl
          exact hd
    · exact h
  · exact h
theorem IB.Ok.post {x : IB} (h : x.Ok) (b : List Int) : (x.post b).1.Ok := by
  unfold IB.post
  split
  · exact h
  · rename_i h4
    split
    · rename_i h8
      refine ⟨h.d, ?_, h.dd, fun y hy => ?_, h.l, h.ll⟩
      · show (x.B ++ [_]).length ≤ 8
        rw [List.length_append]
        exact h8
      · rcases List.mem_append.1 hy with hy | hy
        · exact h.bb y hy
        · rcases List.mem_singleton.1 hy with rfl
          exact Nat.le_of_not_lt h4
    · exact h
theorem IB.Ok.close {x : IB} (h : x.Ok) : x.close.1.Ok := by
  unfold IB.close
  split
  · exact h
  · rename_i h4
    refine ⟨Nat.zero_le _, Nat.zero_le _, fun _ h => (nomatch h), fun _ h => (nomatch h), ?_, fun k hk => ?_⟩
    · show (x.L ++ [_]).length ≤ 4096
      rw [List.length_append]
      exact Nat.lt_of_not_le h4
    · rcases List.mem_append.1 hk with hk | hk
      · exact h.ll k hk
      · rcases List.mem_singleton.1 hk with rfl
        exact ⟨h.d, h.b, h.dd, h.bb⟩
end Go.Proofs.Ytgbikcniediomaa
