/- Writers: rows of wide numbers, of hashes and of bytes. -/
import Derived.Test.YtjdlefkpoggocaaQ40
import Derived.Test.YtjdlefkpoggocaaSx24
namespace Go.Proofs.Ytjdlefkpoggocaa
open Go Go.Sx Go.Wide
set_option linter.unusedVariables false
set_option linter.unusedSimpArgs false
set_option maxRecDepth 100000
set_option maxHeartbeats 4000000

abbrev wV (x : Value) (l : List (List Int)) : M := .one (.view x 4 (encInts .u64 4).enc l)
abbrev hV (x : Value) (l : List (List Int)) : M := .one (.view x 32 (encInts .u8 32).enc l)
abbrev BE : Enc (RK.TL [.sl 1 [.int .u8]]) := encRec [.sl 1 [.int .u8]]
abbrev bV (x : Value) (l : List (RK.TL [.sl 1 [.int .u8]])) : M := .one (.view x 1 BE.enc l)
/-- A wide number's bytes. -/
def fW (a : List Int) : List Int := by32 (N a)
def fH (a : List Int) : List Int := a
/-- The bytes of a row's place. -/
def b1 (p : RK.TL [.int .u8]) : Int := Prod.fst (α := Int) (β := Unit) p
def bsl (y : RK.TL [.sl 1 [.int .u8]]) : List (RK.TL [.int .u8]) := y.1.2
def bl (y : RK.TL [.sl 1 [.int .u8]]) : List Int := (bsl y).map b1
def fB (y : RK.TL [.sl 1 [.int .u8]]) : List Int := be8 (bl y).length ++ bl y

theorem widew_spec (x : Value) {b : List Int} {l : List (List Int)} {len cap cap' : Nat} (h1 : len = b.length) (h2 : cap = cap') (h3 : b.length ≤ 65536) (h4 : b.length ≤ cap') (h5 : l.length * 32 ≤ 140737488351232) (h6 : ∀ a ∈ l, L4 a) :
    SMem Try.prog 68 [.one (.ptr 0 0), wV x l] 2 [(0, .cells [.nslc 1 1 len cap, .v (.bool true), .v (.int .i64 0)]), (1, .row 1 (encInt .u8) b cap')]
    (fun c : CapT (putL b (l.flatMap fW)).length => ⟨3, int (putE b (l.flatMap fW)), [(0, .cells [.nslc 2 1 (putL b (l.flatMap fW)).length c.cap, .v (.bool true), .v (.int .i64 0)]), (2, .row 1 (encInt .u8) (putL b (l.flatMap fW)) c.cap)]⟩) := by
  subst h1
  subst h2
  refine SMem.inm [] SOK.nil [(22, bytesT), (63, allT)] (MSOK.cons bytes_ok (MSOK.cons all_ok MSOK.nil)) tok mixed [] IOK.nil false [(3, ⟨FlT fW l, fun p => ⟨3, [(0, .one (.ptr 0 0)), (1, wV x l), (4, int 0), (5, .one (.nslc 2 1 ((l.take p.i).flatMap fW).length p.cap)), (8, wV x l), (9, int l.length), (10, int p.i)], [(0, .cells [.nslc 1 1 b.length cap, .v (.bool true), .v (.int .i64 0)]), (1, .row 1 (encInt .u8) b cap), (2, .row 1 (encInt .u8) ((l.take p.i).flatMap fW) p.cap)]⟩, fun p => l.length - p.i, fun _ _ => True⟩)] [] Try.call68 Try.func68 rfl (by rfl) ?_
  refine Eq.mp (α := (∃ i0 : FlT fW l, (And (And True (And (And (And ((true : Bool) = true) ((0 : Nat) = (0 : Nat))) (And (SV.view x (4 : Nat) (Enc.enc (encInts IntKind.u64 (4 : Nat))) l = SV.view x (4 : Nat) (Enc.enc (encInts IntKind.u64 (4 : Nat))) l) (And ((0 : Int) = (0 : Int)) (And (And ((true : Bool) = true) (And (List.length (List.flatMap fW (List.take (FlT.i i0) l)) = (0 : Nat)) (FlT.cap i0 = (0 : Nat)))) (And (SV.view x (4 : Nat) (Enc.enc (encInts IntKind.u64 (4 : Nat))) l = SV.view x (4 : Nat) (Enc.enc (encInts IntKind.u64 (4 : Nat))) l) (And ((↑(List.length l) : Int) = (↑(List.length l) : Int)) (And ((↑(FlT.i i0) : Int) = (0 : Int)) True))))))) (And (And (And (And ((true : Bool) = true) (And (List.length b = List.length b) (cap = cap))) (And ((true : Bool) = true) (And ((0 : Int) = (0 : Int)) True))) (And ((true : Bool) = true) (And (And ((true : Bool) = true) (And (cap = cap) (And (List.map (Enc.enc (encInt IntKind.u8)) b = List.map (Enc.enc (encInt IntKind.u8)) b) (∀ x_1 : Int, (∀ a : x_1 ∈ b, (∀ s : SV, (∀ a_1 : s ∈ Enc.enc (encInt IntKind.u8) x_1, ((SV.isPure s : Bool) = true)))))))) (And ((true : Bool) = true) (And (And ((true : Bool) = true) (And (FlT.cap i0 = (0 : Nat)) (And (List.map (Enc.enc (encInt IntKind.u8)) (List.flatMap fW (List.take (FlT.i i0) l)) = List.map (Enc.enc (encInt IntKind.u8)) []) (∀ x_1 : Int, (∀ a : x_1 ∈ List.flatMap fW (List.take (FlT.i i0) l), (∀ s : SV, (∀ a_1 : s ∈ Enc.enc (encInt IntKind.u8) x_1, ((SV.isPure s : Bool) = true)))))))) (And ((true : Bool) = true) True)))))) ((true : Bool) = true)))) (∀ i : FlT fW l, (∀ a : True, (@Bool.rec (fun _ => Prop) (And (List.length (List.flatMap fW (List.take (FlT.i i) l)) ≤ List.length (List.flatMap fW (List.take (FlT.i i) l))) (And (List.length (List.flatMap fW (List.take (FlT.i i) l)) ≤ FlT.cap i) (And (FlT.cap i = FlT.cap i) (And (∀ y : Int, ((true : Bool) = true)) (∀ x_1 : Value, (∃ l_1 : List Int, (And (List.map (Enc.enc (encInt IntKind.u8)) (List.take (List.length (List.flatMap fW (List.take (FlT.i i) l))) (List.flatMap fW (List.take (FlT.i i) l))) = List.map eB l_1) (∃ b_1 : List Int, (And (List.map (Enc.enc (encInt IntKind.u8)) b = List.map (Enc.enc (encInt IntKind.u8)) b_1) (And (And (List.length b = List.length b_1) (And (cap = cap) (And (List.length b_1 ≤ (65536 : Nat)) (List.length b_1 ≤ cap)))) (∀ c : CapT (List.length (putL b_1 l_1)), (∃ o : CapT (List.length (putL b (List.flatMap fW l))), (And (And (putE b (List.flatMap fW l) = putE b_1 l_1) True) (And (And (And (And ((true : Bool) = true) (And (List.length (putL b (List.flatMap fW l)) = List.length (putL b_1 l_1)) (CapT.cap o = CapT.cap c))) (And ((true : Bool) = true) (And ((0 : Int) = (0 : Int)) True))) (And ((true : Bool) = true) (And (And ((true : Bool) = true) (And (CapT.cap o = CapT.cap c) (And (List.map (Enc.enc (encInt IntKind.u8)) (putL b (List.flatMap fW l)) = List.map (Enc.enc (encInt IntKind.u8)) (putL b_1 l_1)) (∀ x_2 : Int, (∀ a_1 : x_2 ∈ putL b (List.flatMap fW l), (∀ s : SV, (∀ a_2 : s ∈ Enc.enc (encInt IntKind.u8) x_2, ((SV.isPure s : Bool) = true)))))))) (And ((true : Bool) = true) True)))) ((true : Bool) = true))))))))))))))) (And ((0 : Int) ≤ (↑(FlT.i i) : Int)) (∃ hk : Int.toNat (↑(FlT.i i) : Int) < List.length l, (And (And (List.length l[Int.toNat (↑(FlT.i i) : Int)] = (4 : Nat)) (∀ x_1 : Int, (∀ a_1 : x_1 ∈ l[Int.toNat (↑(FlT.i i) : Int)], (And ((0 : Int) ≤ x_1) (x_1 < (↑N64 : Int)))))) (∀ o : Unit, (And (List.length (List.flatMap fW (List.take (FlT.i i) l)) = List.length (List.flatMap fW (List.take (FlT.i i) l))) (And (FlT.cap i = FlT.cap i) (And ((0 : Nat) + (32 : Nat) ≤ (32 : Nat)) (And ((List.length (List.flatMap fW (List.take (FlT.i i) l)) + (32 : Nat)) * (1 : Nat) ≤ (150000000000000 : Nat)) (∀ cap2 : Nat, (∀ a_1 : List.length (List.flatMap fW (List.take (FlT.i i) l)) + (32 : Nat) ≤ cap2, (∃ i' : FlT fW l, (And (And (List.length l - FlT.i i' < List.length l - FlT.i i) True) (And (And (And ((true : Bool) = true) ((0 : Nat) = (0 : Nat))) (And (SV.view x (4 : Nat) (Enc.enc (encInts IntKind.u64 (4 : Nat))) l = SV.view x (4 : Nat) (Enc.enc (encInts IntKind.u64 (4 : Nat))) l) (And ((0 : Int) = (0 : Int)) (And (And ((true : Bool) = true) (And (List.length (List.flatMap fW (List.take (FlT.i i') l)) = List.length (List.flatMap fW (List.take (FlT.i i) l) ++ castL (encInt IntKind.u8) (encInt IntKind.u8) (List.take (32 : Nat) (List.drop (0 : Nat) (by32 (N l[Int.toNat (↑(FlT.i i) : Int)])))))) (FlT.cap i' = cap2))) (And (SV.view x (4 : Nat) (Enc.enc (encInts IntKind.u64 (4 : Nat))) l = SV.view x (4 : Nat) (Enc.enc (encInts IntKind.u64 (4 : Nat))) l) (And ((↑(List.length l) : Int) = (↑(List.length l) : Int)) (And ((↑(FlT.i i') : Int) = IntKind.wrap IntKind.i64 ((↑(FlT.i i) : Int) + (1 : Int))) True))))))) (And (And (And (And ((true : Bool) = true) (And (List.length b = List.length b) (cap = cap))) (And ((true : Bool) = true) (And ((0 : Int) = (0 : Int)) True))) (And ((true : Bool) = true) (And (And ((true : Bool) = true) (And (cap = cap) (And (List.map (Enc.enc (encInt IntKind.u8)) b = List.map (Enc.enc (encInt IntKind.u8)) b) (∀ x_1 : Int, (∀ a_2 : x_1 ∈ b, (∀ s : SV, (∀ a_3 : s ∈ Enc.enc (encInt IntKind.u8) x_1, ((SV.isPure s : Bool) = true)))))))) (And ((true : Bool) = true) (And (And ((true : Bool) = true) (And (FlT.cap i' = cap2) (And (List.map (Enc.enc (encInt IntKind.u8)) (List.flatMap fW (List.take (FlT.i i') l)) = List.map (Enc.enc (encInt IntKind.u8)) (List.flatMap fW (List.take (FlT.i i) l) ++ castL (encInt IntKind.u8) (encInt IntKind.u8) (List.take (32 : Nat) (List.drop (0 : Nat) (by32 (N l[Int.toNat (↑(FlT.i i) : Int)])))))) (∀ x_1 : Int, (∀ a_2 : x_1 ∈ List.flatMap fW (List.take (FlT.i i') l), (∀ s : SV, (∀ a_3 : s ∈ Enc.enc (encInt IntKind.u8) x_1, ((SV.isPure s : Bool) = true)))))))) (And ((true : Bool) = true) True)))))) ((true : Bool) = true))))))))))))))) (decide ((↑(FlT.i i) : Int) < (↑(List.length l) : Int))))))))) (by kernel_rfl) ?_
  refine ⟨⟨0, 0, Nat.zero_le _, Nat.le_refl _⟩, ?_, ?_⟩
  ·
    repeat' first | exact encB_pure _ | exact trivial | refine And.intro ?_ ?_ | with_reducible refine bif_dt (by assumption) ?_ | with_reducible refine bif_df (by assumption) ?_ | with_reducible refine bif_dec (fun _ => ?_) (fun _ => ?_) | with_reducible refine bif_not ?_ | with_reducible refine bif_and ?_ | with_reducible refine bif_or ?_ | with_reducible refine bif_t (by assumption) ?_ | with_reducible refine bif_f (by assumption) ?_ | with_reducible refine bif_t (beq_self_eq_true _) ?_ | with_reducible refine bif_b (fun _ => ?_) (fun _ => ?_) | with_reducible refine ⟨_, Eq.refl (List.map _ _), ?_⟩ | (with_reducible refine Exists.intro (by omega) ?_) | rfl | (intro h0; omega) | omega
  rintro ⟨i, cap1, hi, hc⟩ -
  dsimp only
  have hl8 : ∀ i, ((l.take i).flatMap fW).length = 32 * (l.take i).length := fun i => flat_mul fun a _ => by32_length (N a)
  have hm := hl8 i
  rw [List.length_take, Nat.min_eq_left hi] at hm
  refine bif_dec (fun h => ?_) (fun h => ?_)
  · have hi' : i < l.length := by omega
    have hft := flat_take fW l hi'
    simp only [fW] at hft
    simp only [Int.toNat_natCast, t32, castB, inext2 (show i < 9223372036854775807 by omega)]
    repeat (with_reducible refine And.intro (by first | exact trivial | omega | decide) ?_)
    refine ⟨hi', h6 _ (List.getElem_mem hi'), fun o => ?_⟩
    repeat (with_reducible refine And.intro (by first | exact trivial | omega | decide) ?_)
    intro cap2 hc2
    have hm2 : ((l.take (i + 1)).flatMap fW).length = ((l.take i).flatMap fW).length + 32 := by rw [← flat_take fW l hi', List.length_append]; show _ + (by32 _).length = _; rw [by32_length]
    refine ⟨⟨i + 1, cap2, hi', by omega⟩, ⟨show l.length - (i + 1) < l.length - i by omega, trivial⟩, ?_⟩
    simp only [← flat_take fW l hi']
    repeat' first | exact encB_pure _ | exact trivial | refine And.intro ?_ ?_ | with_reducible refine bif_dt (by assumption) ?_ | with_reducible refine bif_df (by assumption) ?_ | with_reducible refine bif_dec (fun _ => ?_) (fun _ => ?_) | with_reducible refine bif_not ?_ | with_reducible refine bif_and ?_ | with_reducible refine bif_or ?_ | with_reducible refine bif_t (by assumption) ?_ | with_reducible refine bif_f (by assumption) ?_ | with_reducible refine bif_t (beq_self_eq_true _) ?_ | with_reducible refine bif_b (fun _ => ?_) (fun _ => ?_) | with_reducible refine ⟨_, Eq.refl (List.map _ _), ?_⟩ | (with_reducible refine Exists.intro (by omega) ?_) | rfl | (intro h0; omega) | omega
  · have hil : i = l.length := by omega
    subst hil
    rw [flat_all fW l (Nat.le_refl _)] at hc ⊢
    repeat (with_reducible refine And.intro (by first | exact trivial | omega | decide | exact fun _ => rfl | exact fun _ => trivial) ?_)
    intro x1
    refine ⟨_, List.take_length ▸ rfl, b, rfl, ?_, fun c => ⟨c, ?_⟩⟩
    · exact ⟨rfl, rfl, h3, h4⟩
    repeat' first | exact encB_pure _ | exact trivial | refine And.intro ?_ ?_ | with_reducible refine bif_dt (by assumption) ?_ | with_reducible refine bif_df (by assumption) ?_ | with_reducible refine bif_dec (fun _ => ?_) (fun _ => ?_) | with_reducible refine bif_not ?_ | with_reducible refine bif_and ?_ | with_reducible refine bif_or ?_ | with_reducible refine bif_t (by assumption) ?_ | with_reducible refine bif_f (by assumption) ?_ | with_reducible refine bif_t (beq_self_eq_true _) ?_ | with_reducible refine bif_b (fun _ => ?_) (fun _ => ?_) | with_reducible refine ⟨_, Eq.refl (List.map _ _), ?_⟩ | (with_reducible refine Exists.intro (by omega) ?_) | rfl | (intro h0; omega) | omega

theorem hashw_spec (x : Value) {b : List Int} {l : List (List Int)} {len cap cap' : Nat} (h1 : len = b.length) (h2 : cap = cap') (h3 : b.length ≤ 65536) (h4 : b.length ≤ cap') (h5 : l.length * 32 ≤ 140737488351232) (h6 : ∀ a ∈ l, a.length = 32) :
    SMem Try.prog 69 [.one (.ptr 0 0), hV x l] 2 [(0, .cells [.nslc 1 1 len cap, .v (.bool true), .v (.int .i64 0)]), (1, .row 1 (encInt .u8) b cap')]
    (fun c : CapT (putL b (l.flatMap fH)).length => ⟨3, int (putE b (l.flatMap fH)), [(0, .cells [.nslc 2 1 (putL b (l.flatMap fH)).length c.cap, .v (.bool true), .v (.int .i64 0)]), (2, .row 1 (encInt .u8) (putL b (l.flatMap fH)) c.cap)]⟩) := by
  subst h1
  subst h2
  refine SMem.inm [] SOK.nil [(63, allT)] (MSOK.cons all_ok MSOK.nil) tok mixed [] IOK.nil false [(3, ⟨FlT fH l, fun p => ⟨3, [(0, .one (.ptr 0 0)), (1, hV x l), (4, int 0), (5, .one (.nslc 2 1 ((l.take p.i).flatMap fH).length p.cap)), (8, hV x l), (9, int l.length), (10, int p.i)], [(0, .cells [.nslc 1 1 b.length cap, .v (.bool true), .v (.int .i64 0)]), (1, .row 1 (encInt .u8) b cap), (2, .row 1 (encInt .u8) ((l.take p.i).flatMap fH) p.cap)]⟩, fun p => l.length - p.i, fun _ _ => True⟩)] [] Try.call69 Try.func69 rfl (by rfl) ?_
  refine Eq.mp (α := (∃ i0 : FlT fH l, (And (And True (And (And (And ((true : Bool) = true) ((0 : Nat) = (0 : Nat))) (And (SV.view x (32 : Nat) (Enc.enc (encInts IntKind.u8 (32 : Nat))) l = SV.view x (32 : Nat) (Enc.enc (encInts IntKind.u8 (32 : Nat))) l) (And ((0 : Int) = (0 : Int)) (And (And ((true : Bool) = true) (And (List.length (List.flatMap fH (List.take (FlT.i i0) l)) = (0 : Nat)) (FlT.cap i0 = (0 : Nat)))) (And (SV.view x (32 : Nat) (Enc.enc (encInts IntKind.u8 (32 : Nat))) l = SV.view x (32 : Nat) (Enc.enc (encInts IntKind.u8 (32 : Nat))) l) (And ((↑(List.length l) : Int) = (↑(List.length l) : Int)) (And ((↑(FlT.i i0) : Int) = (0 : Int)) True))))))) (And (And (And (And ((true : Bool) = true) (And (List.length b = List.length b) (cap = cap))) (And ((true : Bool) = true) (And ((0 : Int) = (0 : Int)) True))) (And ((true : Bool) = true) (And (And ((true : Bool) = true) (And (cap = cap) (And (List.map (Enc.enc (encInt IntKind.u8)) b = List.map (Enc.enc (encInt IntKind.u8)) b) (∀ x_1 : Int, (∀ a : x_1 ∈ b, (∀ s : SV, (∀ a_1 : s ∈ Enc.enc (encInt IntKind.u8) x_1, ((SV.isPure s : Bool) = true)))))))) (And ((true : Bool) = true) (And (And ((true : Bool) = true) (And (FlT.cap i0 = (0 : Nat)) (And (List.map (Enc.enc (encInt IntKind.u8)) (List.flatMap fH (List.take (FlT.i i0) l)) = List.map (Enc.enc (encInt IntKind.u8)) []) (∀ x_1 : Int, (∀ a : x_1 ∈ List.flatMap fH (List.take (FlT.i i0) l), (∀ s : SV, (∀ a_1 : s ∈ Enc.enc (encInt IntKind.u8) x_1, ((SV.isPure s : Bool) = true)))))))) (And ((true : Bool) = true) True)))))) ((true : Bool) = true)))) (∀ i : FlT fH l, (∀ a : True, (@Bool.rec (fun _ => Prop) (And (List.length (List.flatMap fH (List.take (FlT.i i) l)) ≤ List.length (List.flatMap fH (List.take (FlT.i i) l))) (And (List.length (List.flatMap fH (List.take (FlT.i i) l)) ≤ FlT.cap i) (And (FlT.cap i = FlT.cap i) (And (∀ y : Int, ((true : Bool) = true)) (∀ x_1 : Value, (∃ l_1 : List Int, (And (List.map (Enc.enc (encInt IntKind.u8)) (List.take (List.length (List.flatMap fH (List.take (FlT.i i) l))) (List.flatMap fH (List.take (FlT.i i) l))) = List.map eB l_1) (∃ b_1 : List Int, (And (List.map (Enc.enc (encInt IntKind.u8)) b = List.map (Enc.enc (encInt IntKind.u8)) b_1) (And (And (List.length b = List.length b_1) (And (cap = cap) (And (List.length b_1 ≤ (65536 : Nat)) (List.length b_1 ≤ cap)))) (∀ c : CapT (List.length (putL b_1 l_1)), (∃ o : CapT (List.length (putL b (List.flatMap fH l))), (And (And (putE b (List.flatMap fH l) = putE b_1 l_1) True) (And (And (And (And ((true : Bool) = true) (And (List.length (putL b (List.flatMap fH l)) = List.length (putL b_1 l_1)) (CapT.cap o = CapT.cap c))) (And ((true : Bool) = true) (And ((0 : Int) = (0 : Int)) True))) (And ((true : Bool) = true) (And (And ((true : Bool) = true) (And (CapT.cap o = CapT.cap c) (And (List.map (Enc.enc (encInt IntKind.u8)) (putL b (List.flatMap fH l)) = List.map (Enc.enc (encInt IntKind.u8)) (putL b_1 l_1)) (∀ x_2 : Int, (∀ a_1 : x_2 ∈ putL b (List.flatMap fH l), (∀ s : SV, (∀ a_2 : s ∈ Enc.enc (encInt IntKind.u8) x_2, ((SV.isPure s : Bool) = true)))))))) (And ((true : Bool) = true) True)))) ((true : Bool) = true))))))))))))))) (And ((0 : Int) ≤ (↑(FlT.i i) : Int)) (∃ hk : Int.toNat (↑(FlT.i i) : Int) < List.length l, (And ((0 : Nat) ≤ (32 : Nat)) (And ((32 : Nat) ≤ (32 : Nat)) (And ((32 : Nat) ≤ (32 : Nat)) (And (List.length (List.flatMap fH (List.take (FlT.i i) l)) = List.length (List.flatMap fH (List.take (FlT.i i) l))) (And (FlT.cap i = FlT.cap i) (And ((if (32 : Nat) = (0 : Nat) then (0 : Nat) else (0 : Nat)) + ((32 : Nat) - (0 : Nat)) ≤ (32 : Nat)) (And ((List.length (List.flatMap fH (List.take (FlT.i i) l)) + List.length (castL (encInt IntKind.u8) (encInt IntKind.u8) (List.take ((32 : Nat) - (0 : Nat)) (List.drop (if (32 : Nat) = (0 : Nat) then (0 : Nat) else (0 : Nat)) l[Int.toNat (↑(FlT.i i) : Int)])))) * (1 : Nat) ≤ (150000000000000 : Nat)) (∀ cap2 : Nat, (∀ a_1 : List.length (List.flatMap fH (List.take (FlT.i i) l)) + List.length (castL (encInt IntKind.u8) (encInt IntKind.u8) (List.take ((32 : Nat) - (0 : Nat)) (List.drop (if (32 : Nat) = (0 : Nat) then (0 : Nat) else (0 : Nat)) l[Int.toNat (↑(FlT.i i) : Int)]))) ≤ cap2, (∃ i' : FlT fH l, (And (And (List.length l - FlT.i i' < List.length l - FlT.i i) True) (And (And (And ((true : Bool) = true) ((0 : Nat) = (0 : Nat))) (And (SV.view x (32 : Nat) (Enc.enc (encInts IntKind.u8 (32 : Nat))) l = SV.view x (32 : Nat) (Enc.enc (encInts IntKind.u8 (32 : Nat))) l) (And ((0 : Int) = (0 : Int)) (And (And ((true : Bool) = true) (And (List.length (List.flatMap fH (List.take (FlT.i i') l)) = List.length (List.flatMap fH (List.take (FlT.i i) l) ++ castL (encInt IntKind.u8) (encInt IntKind.u8) (List.take ((32 : Nat) - (0 : Nat)) (List.drop (if (32 : Nat) = (0 : Nat) then (0 : Nat) else (0 : Nat)) l[Int.toNat (↑(FlT.i i) : Int)])))) (FlT.cap i' = cap2))) (And (SV.view x (32 : Nat) (Enc.enc (encInts IntKind.u8 (32 : Nat))) l = SV.view x (32 : Nat) (Enc.enc (encInts IntKind.u8 (32 : Nat))) l) (And ((↑(List.length l) : Int) = (↑(List.length l) : Int)) (And ((↑(FlT.i i') : Int) = IntKind.wrap IntKind.i64 ((↑(FlT.i i) : Int) + (1 : Int))) True))))))) (And (And (And (And ((true : Bool) = true) (And (List.length b = List.length b) (cap = cap))) (And ((true : Bool) = true) (And ((0 : Int) = (0 : Int)) True))) (And ((true : Bool) = true) (And (And ((true : Bool) = true) (And (cap = cap) (And (List.map (Enc.enc (encInt IntKind.u8)) b = List.map (Enc.enc (encInt IntKind.u8)) b) (∀ x_1 : Int, (∀ a_2 : x_1 ∈ b, (∀ s : SV, (∀ a_3 : s ∈ Enc.enc (encInt IntKind.u8) x_1, ((SV.isPure s : Bool) = true)))))))) (And ((true : Bool) = true) (And (And ((true : Bool) = true) (And (FlT.cap i' = cap2) (And (List.map (Enc.enc (encInt IntKind.u8)) (List.flatMap fH (List.take (FlT.i i') l)) = List.map (Enc.enc (encInt IntKind.u8)) (List.flatMap fH (List.take (FlT.i i) l) ++ castL (encInt IntKind.u8) (encInt IntKind.u8) (List.take ((32 : Nat) - (0 : Nat)) (List.drop (if (32 : Nat) = (0 : Nat) then (0 : Nat) else (0 : Nat)) l[Int.toNat (↑(FlT.i i) : Int)])))) (∀ x_1 : Int, (∀ a_2 : x_1 ∈ List.flatMap fH (List.take (FlT.i i') l), (∀ s : SV, (∀ a_3 : s ∈ Enc.enc (encInt IntKind.u8) x_1, ((SV.isPure s : Bool) = true)))))))) (And ((true : Bool) = true) True)))))) ((true : Bool) = true)))))))))))))))) (decide ((↑(FlT.i i) : Int) < (↑(List.length l) : Int))))))))) (by kernel_rfl) ?_
  refine ⟨⟨0, 0, Nat.zero_le _, Nat.le_refl _⟩, ?_, ?_⟩
  ·
    repeat' first | exact encB_pure _ | exact trivial | refine And.intro ?_ ?_ | with_reducible refine bif_dt (by assumption) ?_ | with_reducible refine bif_df (by assumption) ?_ | with_reducible refine bif_dec (fun _ => ?_) (fun _ => ?_) | with_reducible refine bif_not ?_ | with_reducible refine bif_and ?_ | with_reducible refine bif_or ?_ | with_reducible refine bif_t (by assumption) ?_ | with_reducible refine bif_f (by assumption) ?_ | with_reducible refine bif_t (beq_self_eq_true _) ?_ | with_reducible refine bif_b (fun _ => ?_) (fun _ => ?_) | with_reducible refine ⟨_, Eq.refl (List.map _ _), ?_⟩ | (with_reducible refine Exists.intro (by omega) ?_) | rfl | (intro h0; omega) | omega
  rintro ⟨i, cap1, hi, hc⟩ -
  dsimp only
  have hl8 : ∀ i, ((l.take i).flatMap fH).length = 32 * (l.take i).length := fun i => flat_mul fun a ha => h6 a (List.mem_of_mem_take ha)
  have hm := hl8 i
  rw [List.length_take, Nat.min_eq_left hi] at hm
  refine bif_dec (fun h => ?_) (fun h => ?_)
  · have hi' : i < l.length := by omega
    have ha := h6 _ (List.getElem_mem hi')
    have e0 : List.take 32 (List.drop 0 l[i]) = fH l[i] := by rw [List.drop_zero, List.take_of_length_le (by omega)]; rfl
    have hal : (fH l[i]).length = 32 := ha
    simp only [Int.toNat_natCast, if_neg (show ¬ (32 : Nat) = 0 by decide), Nat.sub_zero, e0, hal, castB, inext2 (show i < 9223372036854775807 by omega), flat_take fH l hi']
    repeat (with_reducible refine And.intro (by first | exact trivial | omega | decide) ?_)
    refine ⟨hi', ?_⟩
    repeat (with_reducible refine And.intro (by first | exact trivial | omega | decide) ?_)
    intro cap2 hc2
    have hm2 : ((l.take (i + 1)).flatMap fH).length = ((l.take i).flatMap fH).length + 32 := by rw [← flat_take fH l hi', List.length_append, hal]
    refine ⟨⟨i + 1, cap2, hi', by omega⟩, ⟨show l.length - (i + 1) < l.length - i by omega, trivial⟩, ?_⟩
    repeat' first | exact encB_pure _ | exact trivial | refine And.intro ?_ ?_ | with_reducible refine bif_dt (by assumption) ?_ | with_reducible refine bif_df (by assumption) ?_ | with_reducible refine bif_dec (fun _ => ?_) (fun _ => ?_) | with_reducible refine bif_not ?_ | with_reducible refine bif_and ?_ | with_reducible refine bif_or ?_ | with_reducible refine bif_t (by assumption) ?_ | with_reducible refine bif_f (by assumption) ?_ | with_reducible refine bif_t (beq_self_eq_true _) ?_ | with_reducible refine bif_b (fun _ => ?_) (fun _ => ?_) | with_reducible refine ⟨_, Eq.refl (List.map _ _), ?_⟩ | (with_reducible refine Exists.intro (by omega) ?_) | rfl | (intro h0; omega) | omega
  · have hil : i = l.length := by omega
    subst hil
    rw [flat_all fH l (Nat.le_refl _)] at hc ⊢
    repeat (with_reducible refine And.intro (by first | exact trivial | omega | decide | exact fun _ => rfl | exact fun _ => trivial) ?_)
    intro x1
    refine ⟨_, List.take_length ▸ rfl, b, rfl, ?_, fun c => ⟨c, ?_⟩⟩
    · exact ⟨rfl, rfl, h3, h4⟩
    repeat' first | exact encB_pure _ | exact trivial | refine And.intro ?_ ?_ | with_reducible refine bif_dt (by assumption) ?_ | with_reducible refine bif_df (by assumption) ?_ | with_reducible refine bif_dec (fun _ => ?_) (fun _ => ?_) | with_reducible refine bif_not ?_ | with_reducible refine bif_and ?_ | with_reducible refine bif_or ?_ | with_reducible refine bif_t (by assumption) ?_ | with_reducible refine bif_f (by assumption) ?_ | with_reducible refine bif_t (beq_self_eq_true _) ?_ | with_reducible refine bif_b (fun _ => ?_) (fun _ => ?_) | with_reducible refine ⟨_, Eq.refl (List.map _ _), ?_⟩ | (with_reducible refine Exists.intro (by omega) ?_) | rfl | (intro h0; omega) | omega

structure BlT (l : List (RK.TL [.sl 1 [.int .u8]])) where
  i : Nat
  cap : Nat
  hi : i ≤ l.length
  hc : ((l.take i).flatMap fB).length ≤ cap
  hs : ((l.take i).flatMap fB).length ≤ 65536
theorem fB_len : ∀ l : List (RK.TL [.sl 1 [.int .u8]]), 8 * l.length ≤ (l.flatMap fB).length
  | [] => Nat.zero_le _
  | y :: r => by
    have := fB_len r
    rw [List.flatMap_cons, List.length_append, List.length_cons]
    have : 8 ≤ (fB y).length := by unfold fB; rw [List.length_append, be8_length]; omega
    omega
theorem bl_length (y : RK.TL [.sl 1 [.int .u8]]) : (bl y).length = y.1.2.length := by
  unfold bl
  exact List.length_map _
theorem enc_b1 : (encInt .u8).enc ∘ b1 = RK.svs [.int .u8] := rfl
theorem bl_enc (y : RK.TL [.sl 1 [.int .u8]]) : List.map (encInt .u8).enc (bl y) = List.map (RK.svs [.int .u8]) (bsl y) := by
  unfold bl
  rw [List.map_map, enc_b1]
theorem blobw_spec (x : Value) {b : List Int} {l : List (RK.TL [.sl 1 [.int .u8]])} {len cap cap' : Nat} (h1 : len = b.length) (h2 : cap = cap') (h3 : b.length ≤ 65536) (h4 : b.length ≤ cap') (h5 : ∀ y ∈ l, y.1.2.length ≤ 140737488351232) :
    SMem Try.prog 41 [.one (.ptr 0 0), bV x l] 2 [(0, .cells [.nslc 1 1 len cap, .v (.bool true), .v (.int .i64 0)]), (1, .row 1 (encInt .u8) b cap')]
    (fun c : CapT (putL b (l.flatMap fB)).length => ⟨3, int (putE b (l.flatMap fB)), [(0, .cells [.nslc 2 1 (putL b (l.flatMap fB)).length c.cap, .v (.bool true), .v (.int .i64 0)]), (2, .row 1 (encInt .u8) (putL b (l.flatMap fB)) c.cap)]⟩) := by
  subst h1
  subst h2
  refine SMem.inm [] SOK.nil [(62, eightT), (63, allT)] (MSOK.cons eight_ok (MSOK.cons all_ok MSOK.nil)) tok mixed [] IOK.nil false [(3, ⟨BlT l, fun p => ⟨3, [(0, .one (.ptr 0 0)), (1, bV x l), (4, int 0), (5, .one (.nslc 2 1 ((l.take p.i).flatMap fB).length p.cap)), (8, bV x l), (9, int l.length), (10, int p.i)], [(0, .cells [.nslc 1 1 b.length cap, .v (.bool true), .v (.int .i64 0)]), (1, .row 1 (encInt .u8) b cap), (2, .row 1 (encInt .u8) ((l.take p.i).flatMap fB) p.cap)]⟩, fun p => l.length - p.i, fun _ _ => True⟩)] [] Try.call41 Try.func41 rfl (by rfl) ?_
  refine Eq.mp (α := (∃ i0 : BlT l, (And (And True (And (And (And ((true : Bool) = true) ((0 : Nat) = (0 : Nat))) (And (SV.view x (1 : Nat) (Enc.enc BE) l = SV.view x (1 : Nat) (Enc.enc BE) l) (And ((0 : Int) = (0 : Int)) (And (And ((true : Bool) = true) (And (List.length (List.flatMap fB (List.take (BlT.i i0) l)) = (0 : Nat)) (BlT.cap i0 = (0 : Nat)))) (And (SV.view x (1 : Nat) (Enc.enc BE) l = SV.view x (1 : Nat) (Enc.enc BE) l) (And ((↑(List.length l) : Int) = (↑(List.length l) : Int)) (And ((↑(BlT.i i0) : Int) = (0 : Int)) True))))))) (And (And (And (And ((true : Bool) = true) (And (List.length b = List.length b) (cap = cap))) (And ((true : Bool) = true) (And ((0 : Int) = (0 : Int)) True))) (And ((true : Bool) = true) (And (And ((true : Bool) = true) (And (cap = cap) (And (List.map (Enc.enc (encInt IntKind.u8)) b = List.map (Enc.enc (encInt IntKind.u8)) b) (∀ x_1 : Int, (∀ a : x_1 ∈ b, (∀ s : SV, (∀ a_1 : s ∈ Enc.enc (encInt IntKind.u8) x_1, ((SV.isPure s : Bool) = true)))))))) (And ((true : Bool) = true) (And (And ((true : Bool) = true) (And (BlT.cap i0 = (0 : Nat)) (And (List.map (Enc.enc (encInt IntKind.u8)) (List.flatMap fB (List.take (BlT.i i0) l)) = List.map (Enc.enc (encInt IntKind.u8)) []) (∀ x_1 : Int, (∀ a : x_1 ∈ List.flatMap fB (List.take (BlT.i i0) l), (∀ s : SV, (∀ a_1 : s ∈ Enc.enc (encInt IntKind.u8) x_1, ((SV.isPure s : Bool) = true)))))))) (And ((true : Bool) = true) True)))))) ((true : Bool) = true)))) (∀ i : BlT l, (∀ a : True, (@Bool.rec (fun _ => Prop) (And (List.length (List.flatMap fB (List.take (BlT.i i) l)) ≤ List.length (List.flatMap fB (List.take (BlT.i i) l))) (And (List.length (List.flatMap fB (List.take (BlT.i i) l)) ≤ BlT.cap i) (And (BlT.cap i = BlT.cap i) (And (∀ y : Int, ((true : Bool) = true)) (∀ x_1 : Value, (∃ l_1 : List Int, (And (List.map (Enc.enc (encInt IntKind.u8)) (List.take (List.length (List.flatMap fB (List.take (BlT.i i) l))) (List.flatMap fB (List.take (BlT.i i) l))) = List.map eB l_1) (∃ b_1 : List Int, (And (List.map (Enc.enc (encInt IntKind.u8)) b = List.map (Enc.enc (encInt IntKind.u8)) b_1) (And (And (List.length b = List.length b_1) (And (cap = cap) (And (List.length b_1 ≤ (65536 : Nat)) (List.length b_1 ≤ cap)))) (∀ c : CapT (List.length (putL b_1 l_1)), (∃ o : CapT (List.length (putL b (List.flatMap fB l))), (And (And (putE b (List.flatMap fB l) = putE b_1 l_1) True) (And (And (And (And ((true : Bool) = true) (And (List.length (putL b (List.flatMap fB l)) = List.length (putL b_1 l_1)) (CapT.cap o = CapT.cap c))) (And ((true : Bool) = true) (And ((0 : Int) = (0 : Int)) True))) (And ((true : Bool) = true) (And (And ((true : Bool) = true) (And (CapT.cap o = CapT.cap c) (And (List.map (Enc.enc (encInt IntKind.u8)) (putL b (List.flatMap fB l)) = List.map (Enc.enc (encInt IntKind.u8)) (putL b_1 l_1)) (∀ x_2 : Int, (∀ a_1 : x_2 ∈ putL b (List.flatMap fB l), (∀ s : SV, (∀ a_2 : s ∈ Enc.enc (encInt IntKind.u8) x_2, ((SV.isPure s : Bool) = true)))))))) (And ((true : Bool) = true) True)))) ((true : Bool) = true))))))))))))))) (And ((0 : Int) ≤ (↑(BlT.i i) : Int)) (∃ hk : Int.toNat (↑(BlT.i i) : Int) < List.length l, (And True (∀ o : Unit, (And (List.length (List.flatMap fB (List.take (BlT.i i) l)) = List.length (List.flatMap fB (List.take (BlT.i i) l))) (And (BlT.cap i = BlT.cap i) (And ((0 : Nat) + (8 : Nat) ≤ (8 : Nat)) (And ((List.length (List.flatMap fB (List.take (BlT.i i) l)) + (8 : Nat)) * (1 : Nat) ≤ (150000000000000 : Nat)) (∀ cap2 : Nat, (∀ a_1 : List.length (List.flatMap fB (List.take (BlT.i i) l)) + (8 : Nat) ≤ cap2, (And (List.length (List.flatMap fB (List.take (BlT.i i) l) ++ castL (encInt IntKind.u8) (encInt IntKind.u8) (List.take (8 : Nat) (List.drop (0 : Nat) (be8 (IntKind.wrap IntKind.u64 (↑(List.length (Prod.snd (Prod.fst l[Int.toNat (↑(BlT.i i) : Int)]))) : Int)))))) = List.length (List.flatMap fB (List.take (BlT.i i) l) ++ castL (encInt IntKind.u8) (encInt IntKind.u8) (List.take (8 : Nat) (List.drop (0 : Nat) (be8 (IntKind.wrap IntKind.u64 (↑(List.length (Prod.snd (Prod.fst l[Int.toNat (↑(BlT.i i) : Int)]))) : Int))))))) (And (cap2 = cap2) (∃ ys : List Int, (And (List.map (Enc.enc (encInt IntKind.u8)) ys = List.map (RK.svs._f [RK.int IntKind.u8] ⟨⟨RK.sv._f (RK.int IntKind.u8) PUnit.unit, PUnit.unit⟩, RK.svs._f [] PUnit.unit, PUnit.unit⟩) (Prod.snd (Prod.fst l[Int.toNat (↑(BlT.i i) : Int)]))) (And ((List.length (List.flatMap fB (List.take (BlT.i i) l) ++ castL (encInt IntKind.u8) (encInt IntKind.u8) (List.take (8 : Nat) (List.drop (0 : Nat) (be8 (IntKind.wrap IntKind.u64 (↑(List.length (Prod.snd (Prod.fst l[Int.toNat (↑(BlT.i i) : Int)]))) : Int)))))) + List.length ys) * (1 : Nat) ≤ (150000000000000 : Nat)) (∀ cap2_1 : Nat, (∀ a_2 : List.length (List.flatMap fB (List.take (BlT.i i) l) ++ castL (encInt IntKind.u8) (encInt IntKind.u8) (List.take (8 : Nat) (List.drop (0 : Nat) (be8 (IntKind.wrap IntKind.u64 (↑(List.length (Prod.snd (Prod.fst l[Int.toNat (↑(BlT.i i) : Int)]))) : Int)))))) + List.length ys ≤ cap2_1, (@Bool.rec (fun _ => Prop) (∃ i' : BlT l, (And (And (List.length l - BlT.i i' < List.length l - BlT.i i) True) (And (And (And ((true : Bool) = true) ((0 : Nat) = (0 : Nat))) (And (SV.view x (1 : Nat) (Enc.enc BE) l = SV.view x (1 : Nat) (Enc.enc BE) l) (And ((0 : Int) = (0 : Int)) (And (And ((true : Bool) = true) (And (List.length (List.flatMap fB (List.take (BlT.i i') l)) = List.length (List.flatMap fB (List.take (BlT.i i) l) ++ castL (encInt IntKind.u8) (encInt IntKind.u8) (List.take (8 : Nat) (List.drop (0 : Nat) (be8 (IntKind.wrap IntKind.u64 (↑(List.length (Prod.snd (Prod.fst l[Int.toNat (↑(BlT.i i) : Int)]))) : Int))))) ++ ys)) (BlT.cap i' = cap2_1))) (And (SV.view x (1 : Nat) (Enc.enc BE) l = SV.view x (1 : Nat) (Enc.enc BE) l) (And ((↑(List.length l) : Int) = (↑(List.length l) : Int)) (And ((↑(BlT.i i') : Int) = IntKind.wrap IntKind.i64 ((↑(BlT.i i) : Int) + (1 : Int))) True))))))) (And (And (And (And ((true : Bool) = true) (And (List.length b = List.length b) (cap = cap))) (And ((true : Bool) = true) (And ((0 : Int) = (0 : Int)) True))) (And ((true : Bool) = true) (And (And ((true : Bool) = true) (And (cap = cap) (And (List.map (Enc.enc (encInt IntKind.u8)) b = List.map (Enc.enc (encInt IntKind.u8)) b) (∀ x_1 : Int, (∀ a_3 : x_1 ∈ b, (∀ s : SV, (∀ a_4 : s ∈ Enc.enc (encInt IntKind.u8) x_1, ((SV.isPure s : Bool) = true)))))))) (And ((true : Bool) = true) (And (And ((true : Bool) = true) (And (BlT.cap i' = cap2_1) (And (List.map (Enc.enc (encInt IntKind.u8)) (List.flatMap fB (List.take (BlT.i i') l)) = List.map (Enc.enc (encInt IntKind.u8)) (List.flatMap fB (List.take (BlT.i i) l) ++ castL (encInt IntKind.u8) (encInt IntKind.u8) (List.take (8 : Nat) (List.drop (0 : Nat) (be8 (IntKind.wrap IntKind.u64 (↑(List.length (Prod.snd (Prod.fst l[Int.toNat (↑(BlT.i i) : Int)]))) : Int))))) ++ ys)) (∀ x_1 : Int, (∀ a_3 : x_1 ∈ List.flatMap fB (List.take (BlT.i i') l), (∀ s : SV, (∀ a_4 : s ∈ Enc.enc (encInt IntKind.u8) x_1, ((SV.isPure s : Bool) = true)))))))) (And ((true : Bool) = true) True)))))) ((true : Bool) = true))))) (And (List.length (List.flatMap fB (List.take (BlT.i i) l) ++ castL (encInt IntKind.u8) (encInt IntKind.u8) (List.take (8 : Nat) (List.drop (0 : Nat) (be8 (IntKind.wrap IntKind.u64 (↑(List.length (Prod.snd (Prod.fst l[Int.toNat (↑(BlT.i i) : Int)]))) : Int))))) ++ ys) ≤ List.length (List.flatMap fB (List.take (BlT.i i) l) ++ castL (encInt IntKind.u8) (encInt IntKind.u8) (List.take (8 : Nat) (List.drop (0 : Nat) (be8 (IntKind.wrap IntKind.u64 (↑(List.length (Prod.snd (Prod.fst l[Int.toNat (↑(BlT.i i) : Int)]))) : Int))))) ++ ys)) (And (List.length (List.flatMap fB (List.take (BlT.i i) l) ++ castL (encInt IntKind.u8) (encInt IntKind.u8) (List.take (8 : Nat) (List.drop (0 : Nat) (be8 (IntKind.wrap IntKind.u64 (↑(List.length (Prod.snd (Prod.fst l[Int.toNat (↑(BlT.i i) : Int)]))) : Int))))) ++ ys) ≤ cap2_1) (And (cap2_1 = cap2_1) (And (∀ y : Int, ((true : Bool) = true)) (∀ x_1 : Value, (∃ l_1 : List Int, (And (List.map (Enc.enc (encInt IntKind.u8)) (List.take (List.length (List.flatMap fB (List.take (BlT.i i) l) ++ castL (encInt IntKind.u8) (encInt IntKind.u8) (List.take (8 : Nat) (List.drop (0 : Nat) (be8 (IntKind.wrap IntKind.u64 (↑(List.length (Prod.snd (Prod.fst l[Int.toNat (↑(BlT.i i) : Int)]))) : Int))))) ++ ys)) (List.flatMap fB (List.take (BlT.i i) l) ++ castL (encInt IntKind.u8) (encInt IntKind.u8) (List.take (8 : Nat) (List.drop (0 : Nat) (be8 (IntKind.wrap IntKind.u64 (↑(List.length (Prod.snd (Prod.fst l[Int.toNat (↑(BlT.i i) : Int)]))) : Int))))) ++ ys)) = List.map eB l_1) (∃ b_1 : List Int, (And (List.map (Enc.enc (encInt IntKind.u8)) b = List.map (Enc.enc (encInt IntKind.u8)) b_1) (And (And (List.length b = List.length b_1) (And (cap = cap) (And (List.length b_1 ≤ (65536 : Nat)) (List.length b_1 ≤ cap)))) (∀ c : CapT (List.length (putL b_1 l_1)), (∃ o_1 : CapT (List.length (putL b (List.flatMap fB l))), (And (And (putE b (List.flatMap fB l) = putE b_1 l_1) True) (And (And (And (And ((true : Bool) = true) (And (List.length (putL b (List.flatMap fB l)) = List.length (putL b_1 l_1)) (CapT.cap o_1 = CapT.cap c))) (And ((true : Bool) = true) (And ((0 : Int) = (0 : Int)) True))) (And ((true : Bool) = true) (And (And ((true : Bool) = true) (And (CapT.cap o_1 = CapT.cap c) (And (List.map (Enc.enc (encInt IntKind.u8)) (putL b (List.flatMap fB l)) = List.map (Enc.enc (encInt IntKind.u8)) (putL b_1 l_1)) (∀ x_2 : Int, (∀ a_3 : x_2 ∈ putL b (List.flatMap fB l), (∀ s : SV, (∀ a_4 : s ∈ Enc.enc (encInt IntKind.u8) x_2, ((SV.isPure s : Bool) = true)))))))) (And ((true : Bool) = true) True)))) ((true : Bool) = true))))))))))))))) (decide ((65536 : Int) < (↑(List.length (List.flatMap fB (List.take (BlT.i i) l) ++ castL (encInt IntKind.u8) (encInt IntKind.u8) (List.take (8 : Nat) (List.drop (0 : Nat) (be8 (IntKind.wrap IntKind.u64 (↑(List.length (Prod.snd (Prod.fst l[Int.toNat (↑(BlT.i i) : Int)]))) : Int))))) ++ ys)) : Int))))))))))))))))))))) (decide ((↑(BlT.i i) : Int) < (↑(List.length l) : Int))))))))) (by kernel_rfl) ?_
  refine ⟨⟨0, 0, Nat.zero_le _, Nat.le_refl _, Nat.zero_le _⟩, ?_, ?_⟩
  ·
    repeat' first | exact encB_pure _ | exact trivial | refine And.intro ?_ ?_ | with_reducible refine bif_dt (by assumption) ?_ | with_reducible refine bif_df (by assumption) ?_ | with_reducible refine bif_dec (fun _ => ?_) (fun _ => ?_) | with_reducible refine bif_not ?_ | with_reducible refine bif_and ?_ | with_reducible refine bif_or ?_ | with_reducible refine bif_t (by assumption) ?_ | with_reducible refine bif_f (by assumption) ?_ | with_reducible refine bif_t (beq_self_eq_true _) ?_ | with_reducible refine bif_b (fun _ => ?_) (fun _ => ?_) | with_reducible refine ⟨_, Eq.refl (List.map _ _), ?_⟩ | (with_reducible refine Exists.intro (by omega) ?_) | rfl | (intro h0; omega) | omega
  rintro ⟨i, cap1, hi, hc, hs⟩ -
  dsimp only
  refine bif_dec (fun h => ?_) (fun h => ?_)
  · have hi' : i < l.length := by omega
    have h8 := fB_len (l.take i)
    rw [List.length_take, Nat.min_eq_left hi] at h8
    have hy := h5 _ (List.getElem_mem hi')
    have hw : IntKind.u64.wrap (l[i].1.2.length : Int) = ((bl l[i]).length : Int) := by rw [bl_length, wrap_u64]; omega
    have hft : (l.take i).flatMap fB ++ be8 ((bl l[i]).length : Int) ++ bl l[i] = (l.take (i + 1)).flatMap fB := by rw [← flat_take fB l hi', List.append_assoc]; rfl
    have hm2 : ((l.take (i + 1)).flatMap fB).length = ((l.take i).flatMap fB).length + 8 + (bl l[i]).length := by rw [← hft, List.length_append, List.length_append, be8_length]
    have hbl := bl_length l[i]
    simp only [Int.toNat_natCast, t8, castB, inext2 (show i < 9223372036854775807 by omega), hw]
    repeat (with_reducible refine And.intro (by first | exact trivial | omega | decide) ?_)
    refine ⟨hi', trivial, fun _ => ?_⟩
    repeat (with_reducible refine And.intro (by first | exact trivial | omega | decide) ?_)
    intro cap2 hc2
    repeat (with_reducible refine And.intro (by first | exact trivial | omega | decide) ?_)
    refine ⟨bl l[i], bl_enc _, ?_, ?_⟩
    · rw [List.length_append, be8_length]; omega
    rw [hft, List.length_append, be8_length]
    intro cap3 hc3
    refine bif_dec (fun hb => ?_) (fun hb => ?_)
    · have hbig : 65536 < ((l.take (i + 1)).flatMap fB).length := by omega
      have e1 := putL_big (b := b) (Nat.lt_of_lt_of_le hbig (flat_mono fB l (i + 1))) hbig
      have e2 := putE_big (b := b) (Nat.lt_of_lt_of_le hbig (flat_mono fB l (i + 1))) hbig
      repeat (with_reducible refine And.intro (by first | exact trivial | omega | decide | exact fun _ => rfl | exact fun _ => trivial) ?_)
      intro x1
      refine ⟨(l.take (i + 1)).flatMap fB, by rw [List.take_length], b, rfl, ?_, fun c => ⟨⟨c.cap, Nat.le_trans (Nat.le_of_eq (congrArg List.length e1)) c.h⟩, ?_⟩⟩
      · exact ⟨rfl, trivial, h3, h4⟩
      repeat' first | exact encB_pure _ | exact e2 | exact congrArg List.length e1 | exact congrArg (List.map (encInt .u8).enc) e1 | exact trivial | refine And.intro ?_ ?_ | with_reducible refine bif_dt (by assumption) ?_ | with_reducible refine bif_df (by assumption) ?_ | with_reducible refine bif_dec (fun _ => ?_) (fun _ => ?_) | with_reducible refine bif_not ?_ | with_reducible refine bif_and ?_ | with_reducible refine bif_or ?_ | with_reducible refine bif_t (by assumption) ?_ | with_reducible refine bif_f (by assumption) ?_ | with_reducible refine bif_t (beq_self_eq_true _) ?_ | with_reducible refine bif_b (fun _ => ?_) (fun _ => ?_) | with_reducible refine ⟨_, Eq.refl (List.map _ _), ?_⟩ | (with_reducible refine Exists.intro (by omega) ?_) | rfl | (intro h0; omega) | omega
    · refine ⟨⟨i + 1, cap3, hi', by omega, by omega⟩, ⟨show l.length - (i + 1) < l.length - i by omega, trivial⟩, ?_⟩
      simp only [hft]
      repeat' first | exact encB_pure _ | exact trivial | refine And.intro ?_ ?_ | with_reducible refine bif_dt (by assumption) ?_ | with_reducible refine bif_df (by assumption) ?_ | with_reducible refine bif_dec (fun _ => ?_) (fun _ => ?_) | with_reducible refine bif_not ?_ | with_reducible refine bif_and ?_ | with_reducible refine bif_or ?_ | with_reducible refine bif_t (by assumption) ?_ | with_reducible refine bif_f (by assumption) ?_ | with_reducible refine bif_t (beq_self_eq_true _) ?_ | with_reducible refine bif_b (fun _ => ?_) (fun _ => ?_) | with_reducible refine ⟨_, Eq.refl (List.map _ _), ?_⟩ | (with_reducible refine Exists.intro (by omega) ?_) | rfl | (intro h0; omega) | omega
  · have hil : i = l.length := by omega
    subst hil
    rw [flat_all fB l (Nat.le_refl _)] at hc ⊢
    repeat (with_reducible refine And.intro (by first | exact trivial | omega | decide | exact fun _ => rfl | exact fun _ => trivial) ?_)
    intro x1
    refine ⟨_, List.take_length ▸ rfl, b, rfl, ?_, fun c => ⟨c, ?_⟩⟩
    · exact ⟨rfl, rfl, h3, h4⟩
    repeat' first | exact encB_pure _ | exact trivial | refine And.intro ?_ ?_ | with_reducible refine bif_dt (by assumption) ?_ | with_reducible refine bif_df (by assumption) ?_ | with_reducible refine bif_dec (fun _ => ?_) (fun _ => ?_) | with_reducible refine bif_not ?_ | with_reducible refine bif_and ?_ | with_reducible refine bif_or ?_ | with_reducible refine bif_t (by assumption) ?_ | with_reducible refine bif_f (by assumption) ?_ | with_reducible refine bif_t (beq_self_eq_true _) ?_ | with_reducible refine bif_b (fun _ => ?_) (fun _ => ?_) | with_reducible refine ⟨_, Eq.refl (List.map _ _), ?_⟩ | (with_reducible refine Exists.intro (by omega) ?_) | rfl | (intro h0; omega) | omega
abbrev eU : Int → List SV := (encInt .u64).enc
abbrev eW : List Int → List SV := (encInts .u64 4).enc
abbrev eH : List Int → List SV := (encInts .u8 32).enc
abbrev BTy : Type := RK.TL [.sl 1 [.int .u8]]
abbrev eBl : BTy → List SV := BE.enc
def uintwT : MT := fun ms n h K => match ms with
  | [.one (.ptr P0 0), .one (.view vx1 ve1 en1 vl1)] => (match get h P0 with
    | some (.cells [.nslc P1 1 len cap, .v (.bool true), .v (.int .i64 0)]) => (match get h P1 with
    | some (.row we1 wn1 wl1 cap2) => bif Nat.beq ve1 1 && Nat.beq we1 1 && noDup [P0, P1] then ∃ l : List (Int), vl1.map en1 = l.map eU ∧ ∃ b : List (Int), wl1.map wn1.enc = b.map ((encInt .u8)).enc ∧ ((len = b.length ∧ cap = cap2 ∧ b.length ≤ 65536 ∧ b.length ≤ cap2 ∧ l.length * 8 ≤ 140737488351232)) ∧ (∀ c : CapT (putL b (l.flatMap be8)).length, K (n + 1) (int (putE b (l.flatMap be8))) ([(P0, .cells [.nslc n 1 (putL b (l.flatMap be8)).length c.cap, .v (.bool true), .v (.int .i64 0)]), (n, .row 1 (encInt .u8) (putL b (l.flatMap be8)) c.cap)] ++ delL [P0, P1] h)) else False
    | _ => False)
    | _ => False)
  | _ => False
theorem uintw_mono : MMono uintwT := by
  intro ms n h K K' hkk hk
  unfold uintwT at hk ⊢
  split at hk
  · rename_i P0 vx1 ve1 va1 en1 vl1
    split at hk
    · rename_i P1 len cap hg0
      try simp only [hg0]
      split at hk
      · rename_i we1 wa1 wn1 wl1 cap2 hg1
        try simp only [hg1]
        obtain ⟨hb, y0, z0, y1, z1, h1, h2⟩ := cond_false_elim hk
        rw [hb]
        exact ⟨y0, z0, y1, z1, h1, fun o => hkk _ _ _ (h2 o)⟩
      · exact hk.elim
    · exact hk.elim
  · exact hk.elim
theorem uintw_ok : MOK Try.prog 67 uintwT := by
  refine ⟨?_, uintw_mono⟩
  intro ms n hB K hk
  unfold uintwT at hk
  split at hk
  · rename_i P0 vx1 ve1 va1 en1 vl1
    split at hk
    · rename_i P1 len cap hg0
      split at hk
      · rename_i we1 wa1 wn1 wl1 cap2 hg1
        obtain ⟨hb, l, he1, b, hl1, h, hk2⟩ := cond_false_elim hk
        clear hk
        simp only [Bool.and_eq_true] at hb
        obtain ⟨⟨hc0, hc1⟩, hnd⟩ := hb
        have hs0 := Nat.eq_of_beq_eq_true hc0
        subst hs0
        have hs1 := Nat.eq_of_beq_eq_true hc1
        subst hs1
        refine SCall.seen ?_ (.cons (.refl _) (.cons (.view he1) .nil))
        exact (uint_spec _ h.1 h.2.1 h.2.2.1 h.2.2.2.1 h.2.2.2.2).use (fun j => match j with | 0 => P0 | 1 => P1 | _ => 0) rfl rfl ⟨by show (match get hB P0 with | some b0 => Blk.imp _ _ _ b0 | none => False); rw [hg0]; exact ⟨rfl, rfl⟩, rfl, ⟨by show (match get hB P1 with | some b0 => Blk.imp _ _ _ b0 | none => False); rw [hg1]; exact ⟨rfl, rfl, hl1.symm, fun y _ => Enc.pures _ y⟩, rfl, trivial⟩⟩ hnd (fun j hj => by cases j with
            | zero => exact ⟨_, rfl⟩
            | succ j => cases j with
             | zero => exact ⟨_, rfl⟩
             | succ j => omega) (fun o => hk2 o)
      · exact hk.elim
    · exact hk.elim
  · exact hk.elim

def widewT : MT := fun ms n h K => match ms with
  | [.one (.ptr P0 0), .one (.view vx1 ve1 en1 vl1)] => (match get h P0 with
    | some (.cells [.nslc P1 1 len cap, .v (.bool true), .v (.int .i64 0)]) => (match get h P1 with
    | some (.row we1 wn1 wl1 cap2) => bif Nat.beq ve1 4 && Nat.beq we1 1 && noDup [P0, P1] then ∃ l : List (List Int), vl1.map en1 = l.map eW ∧ ∃ b : List (Int), wl1.map wn1.enc = b.map ((encInt .u8)).enc ∧ ((len = b.length ∧ cap = cap2 ∧ b.length ≤ 65536 ∧ b.length ≤ cap2 ∧ l.length * 32 ≤ 140737488351232 ∧ ∀ a ∈ l, L4 a)) ∧ (∀ c : CapT (putL b (l.flatMap fW)).length, K (n + 1) (int (putE b (l.flatMap fW))) ([(P0, .cells [.nslc n 1 (putL b (l.flatMap fW)).length c.cap, .v (.bool true), .v (.int .i64 0)]), (n, .row 1 (encInt .u8) (putL b (l.flatMap fW)) c.cap)] ++ delL [P0, P1] h)) else False
    | _ => False)
    | _ => False)
  | _ => False
theorem widew_mono : MMono widewT := by
  intro ms n h K K' hkk hk
  unfold widewT at hk ⊢
  split at hk
  · rename_i P0 vx1 ve1 va1 en1 vl1
    split at hk
    · rename_i P1 len cap hg0
      try simp only [hg0]
      split at hk
      · rename_i we1 wa1 wn1 wl1 cap2 hg1
        try simp only [hg1]
        obtain ⟨hb, y0, z0, y1, z1, h1, h2⟩ := cond_false_elim hk
        rw [hb]
        exact ⟨y0, z0, y1, z1, h1, fun o => hkk _ _ _ (h2 o)⟩
      · exact hk.elim
    · exact hk.elim
  · exact hk.elim
theorem widew_ok : MOK Try.prog 68 widewT := by
  refine ⟨?_, widew_mono⟩
  intro ms n hB K hk
  unfold widewT at hk
  split at hk
  · rename_i P0 vx1 ve1 va1 en1 vl1
    split at hk
    · rename_i P1 len cap hg0
      split at hk
      · rename_i we1 wa1 wn1 wl1 cap2 hg1
        obtain ⟨hb, l, he1, b, hl1, h, hk2⟩ := cond_false_elim hk
        clear hk
        simp only [Bool.and_eq_true] at hb
        obtain ⟨⟨hc0, hc1⟩, hnd⟩ := hb
        have hs0 := Nat.eq_of_beq_eq_true hc0
        subst hs0
        have hs1 := Nat.eq_of_beq_eq_true hc1
        subst hs1
        refine SCall.seen ?_ (.cons (.refl _) (.cons (.view he1) .nil))
        exact (widew_spec _ h.1 h.2.1 h.2.2.1 h.2.2.2.1 h.2.2.2.2.1 h.2.2.2.2.2).use (fun j => match j with | 0 => P0 | 1 => P1 | _ => 0) rfl rfl ⟨by show (match get hB P0 with | some b0 => Blk.imp _ _ _ b0 | none => False); rw [hg0]; exact ⟨rfl, rfl⟩, rfl, ⟨by show (match get hB P1 with | some b0 => Blk.imp _ _ _ b0 | none => False); rw [hg1]; exact ⟨rfl, rfl, hl1.symm, fun y _ => Enc.pures _ y⟩, rfl, trivial⟩⟩ hnd (fun j hj => by cases j with
            | zero => exact ⟨_, rfl⟩
            | succ j => cases j with
             | zero => exact ⟨_, rfl⟩
             | succ j => omega) (fun o => hk2 o)
      · exact hk.elim
    · exact hk.elim
  · exact hk.elim

def hashwT : MT := fun ms n h K => match ms with
  | [.one (.ptr P0 0), .one (.view vx1 ve1 en1 vl1)] => (match get h P0 with
    | some (.cells [.nslc P1 1 len cap, .v (.bool true), .v (.int .i64 0)]) => (match get h P1 with
    | some (.row we1 wn1 wl1 cap2) => bif Nat.beq ve1 32 && Nat.beq we1 1 && noDup [P0, P1] then ∃ l : List (List Int), vl1.map en1 = l.map eH ∧ ∃ b : List (Int), wl1.map wn1.enc = b.map ((encInt .u8)).enc ∧ ((len = b.length ∧ cap = cap2 ∧ b.length ≤ 65536 ∧ b.length ≤ cap2 ∧ l.length * 32 ≤ 140737488351232 ∧ ∀ a ∈ l, a.length = 32)) ∧ (∀ c : CapT (putL b (l.flatMap fH)).length, K (n + 1) (int (putE b (l.flatMap fH))) ([(P0, .cells [.nslc n 1 (putL b (l.flatMap fH)).length c.cap, .v (.bool true), .v (.int .i64 0)]), (n, .row 1 (encInt .u8) (putL b (l.flatMap fH)) c.cap)] ++ delL [P0, P1] h)) else False
    | _ => False)
    | _ => False)
  | _ => False
theorem hashw_mono : MMono hashwT := by
  intro ms n h K K' hkk hk
  unfold hashwT at hk ⊢
  split at hk
  · rename_i P0 vx1 ve1 va1 en1 vl1
    split at hk
    · rename_i P1 len cap hg0
      try simp only [hg0]
      split at hk
      · rename_i we1 wa1 wn1 wl1 cap2 hg1
        try simp only [hg1]
        obtain ⟨hb, y0, z0, y1, z1, h1, h2⟩ := cond_false_elim hk
        rw [hb]
        exact ⟨y0, z0, y1, z1, h1, fun o => hkk _ _ _ (h2 o)⟩
      · exact hk.elim
    · exact hk.elim
  · exact hk.elim
theorem hashw_ok : MOK Try.prog 69 hashwT := by
  refine ⟨?_, hashw_mono⟩
  intro ms n hB K hk
  unfold hashwT at hk
  split at hk
  · rename_i P0 vx1 ve1 va1 en1 vl1
    split at hk
    · rename_i P1 len cap hg0
      split at hk
      · rename_i we1 wa1 wn1 wl1 cap2 hg1
        obtain ⟨hb, l, he1, b, hl1, h, hk2⟩ := cond_false_elim hk
        clear hk
        simp only [Bool.and_eq_true] at hb
        obtain ⟨⟨hc0, hc1⟩, hnd⟩ := hb
        have hs0 := Nat.eq_of_beq_eq_true hc0
        subst hs0
        have hs1 := Nat.eq_of_beq_eq_true hc1
        subst hs1
        refine SCall.seen ?_ (.cons (.refl _) (.cons (.view he1) .nil))
        exact (hashw_spec _ h.1 h.2.1 h.2.2.1 h.2.2.2.1 h.2.2.2.2.1 h.2.2.2.2.2).use (fun j => match j with | 0 => P0 | 1 => P1 | _ => 0) rfl rfl ⟨by show (match get hB P0 with | some b0 => Blk.imp _ _ _ b0 | none => False); rw [hg0]; exact ⟨rfl, rfl⟩, rfl, ⟨by show (match get hB P1 with | some b0 => Blk.imp _ _ _ b0 | none => False); rw [hg1]; exact ⟨rfl, rfl, hl1.symm, fun y _ => Enc.pures _ y⟩, rfl, trivial⟩⟩ hnd (fun j hj => by cases j with
            | zero => exact ⟨_, rfl⟩
            | succ j => cases j with
             | zero => exact ⟨_, rfl⟩
             | succ j => omega) (fun o => hk2 o)
      · exact hk.elim
    · exact hk.elim
  · exact hk.elim

def blobwT : MT := fun ms n h K => match ms with
  | [.one (.ptr P0 0), .one (.view vx1 ve1 en1 vl1)] => (match get h P0 with
    | some (.cells [.nslc P1 1 len cap, .v (.bool true), .v (.int .i64 0)]) => (match get h P1 with
    | some (.row we1 wn1 wl1 cap2) => bif Nat.beq ve1 1 && Nat.beq we1 1 && noDup [P0, P1] then ∃ l : List (BTy), vl1.map en1 = l.map eBl ∧ ∃ b : List (Int), wl1.map wn1.enc = b.map ((encInt .u8)).enc ∧ ((len = b.length ∧ cap = cap2 ∧ b.length ≤ 65536 ∧ b.length ≤ cap2 ∧ ∀ y ∈ l, y.1.2.length ≤ 140737488351232)) ∧ (∀ c : CapT (putL b (l.flatMap fB)).length, K (n + 1) (int (putE b (l.flatMap fB))) ([(P0, .cells [.nslc n 1 (putL b (l.flatMap fB)).length c.cap, .v (.bool true), .v (.int .i64 0)]), (n, .row 1 (encInt .u8) (putL b (l.flatMap fB)) c.cap)] ++ delL [P0, P1] h)) else False
    | _ => False)
    | _ => False)
  | _ => False
theorem blobw_mono : MMono blobwT := by
  intro ms n h K K' hkk hk
  unfold blobwT at hk ⊢
  split at hk
  · rename_i P0 vx1 ve1 va1 en1 vl1
    split at hk
    · rename_i P1 len cap hg0
      try simp only [hg0]
      split at hk
      · rename_i we1 wa1 wn1 wl1 cap2 hg1
        try simp only [hg1]
        obtain ⟨hb, y0, z0, y1, z1, h1, h2⟩ := cond_false_elim hk
        rw [hb]
        exact ⟨y0, z0, y1, z1, h1, fun o => hkk _ _ _ (h2 o)⟩
      · exact hk.elim
    · exact hk.elim
  · exact hk.elim
theorem blobw_ok : MOK Try.prog 41 blobwT := by
  refine ⟨?_, blobw_mono⟩
  intro ms n hB K hk
  unfold blobwT at hk
  split at hk
  · rename_i P0 vx1 ve1 va1 en1 vl1
    split at hk
    · rename_i P1 len cap hg0
      split at hk
      · rename_i we1 wa1 wn1 wl1 cap2 hg1
        obtain ⟨hb, l, he1, b, hl1, h, hk2⟩ := cond_false_elim hk
        clear hk
        simp only [Bool.and_eq_true] at hb
        obtain ⟨⟨hc0, hc1⟩, hnd⟩ := hb
        have hs0 := Nat.eq_of_beq_eq_true hc0
        subst hs0
        have hs1 := Nat.eq_of_beq_eq_true hc1
        subst hs1
        refine SCall.seen ?_ (.cons (.refl _) (.cons (.view he1) .nil))
        exact (blobw_spec _ h.1 h.2.1 h.2.2.1 h.2.2.2.1 h.2.2.2.2).use (fun j => match j with | 0 => P0 | 1 => P1 | _ => 0) rfl rfl ⟨by show (match get hB P0 with | some b0 => Blk.imp _ _ _ b0 | none => False); rw [hg0]; exact ⟨rfl, rfl⟩, rfl, ⟨by show (match get hB P1 with | some b0 => Blk.imp _ _ _ b0 | none => False); rw [hg1]; exact ⟨rfl, rfl, hl1.symm, fun y _ => Enc.pures _ y⟩, rfl, trivial⟩⟩ hnd (fun j hj => by cases j with
            | zero => exact ⟨_, rfl⟩
            | succ j => cases j with
             | zero => exact ⟨_, rfl⟩
             | succ j => omega) (fun o => hk2 o)
      · exact hk.elim
    · exact hk.elim
  · exact hk.elim

end Go.Proofs.Ytjdlefkpoggocaa
