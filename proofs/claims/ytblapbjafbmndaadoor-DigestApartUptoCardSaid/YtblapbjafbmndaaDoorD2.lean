/- SHA-256 of bytes: what is behind them, block by block, and the digest's bytes. -/
import Derived.Test.YtblapbjafbmndaaDoorD1
namespace Go.Sha
open Go Go.Sx
set_option linter.unusedSimpArgs false
set_option linter.unusedVariables false

/-- A number's eight bytes. -/
def be8 (x : Int) : List Int := [x / 72057594037927936 % 256, x / 281474976710656 % 256, x / 1099511627776 % 256, x / 4294967296 % 256, x / 16777216 % 256, x / 65536 % 256, x / 256 % 256, x % 256]
theorem be8_length (x : Int) : (be8 x).length = 8 := rfl
theorem be8_By (x : Int) : By (be8 x) := by
  intro y hy
  simp only [be8, List.mem_cons, List.not_mem_nil, or_false] at hy
  omega

/-- How long with what is behind it. -/
def padN (n : Nat) : Nat := n + 9 + (64 - (n + 9) % 64) % 64
/-- How many bits, in a word of 64. -/
def bitN (n : Nat) : Int := 8 * (n : Int) % 18446744073709551616
def padF (b : List Int) : List Int := b ++ 128 :: (List.replicate (padN b.length - b.length - 9) 0 ++ be8 (bitN b.length))

theorem By.app {a b : List Int} (ha : By a) (hb : By b) : By (a ++ b) := fun x hx => by
  rcases List.mem_append.1 hx with h | h
  · exact ha x h
  · exact hb x h
theorem By.drop {b : List Int} (h : By b) (i : Nat) : By (b.drop i) := fun x hx => h x (List.mem_of_mem_drop hx)
theorem By.take {b : List Int} (h : By b) (i : Nat) : By (b.take i) := fun x hx => h x (List.mem_of_mem_take hx)
theorem By.rep (n : Nat) : By (List.replicate n 0) := fun x hx => by rw [List.eq_of_mem_replicate hx]; exact ⟨by decide, by decide⟩
/-- Block by block. -/
def foldF (k s p : List Int) : Nat → List Int
  | 0 => s
  | i + 1 => blockF k (foldF k s p i) (p.drop (64 * i))
theorem foldF_length {k s p : List Int} (h : s.length = 8) : ∀ i, (foldF k s p i).length = 8
  | 0 => h
  | _ + 1 => rfl
/-- The digest's bytes, as far as they are there. -/
def outL (s : List Int) : Nat → List Int
  | 0 => List.replicate 32 0
  | i + 1 => (outL s i).set i (IntKind.u8.wrap (shr .u32 (s.getD (i / 4) 0) ((24 - 8 * (i % 4) : Nat) : Int)))
theorem wrap_u8 (x : Int) : IntKind.u8.wrap x = x % 256 := by
  simp [IntKind.wrap, IntKind.bits, IntKind.signed]
/-- The digest. -/
def sumF (k s b : List Int) : List Int := outL (foldF k s (padF b) (padN b.length / 64)) 32
/-- What the program lays behind the last whole block. -/
def endF (rest : List Int) (n : Nat) (w : List Int) : List Int := lay ((lay (List.replicate 128 0) 0 128 rest).set (min rest.length 128) 128) (n - 8) (128 - (n - 8)) w

theorem endF_eq (rest w : List Int) (n : Nat) (hw : w.length = 8) (h1 : rest.length + 9 ≤ n) (h2 : n ≤ 128) :
    ∃ T, endF rest n w = (rest ++ 128 :: (List.replicate (n - rest.length - 9) 0 ++ w)) ++ T := by
  have e1 : lay (List.replicate 128 0) 0 128 rest = rest ++ List.replicate (128 - rest.length) 0 := by
    unfold lay
    rw [List.take_zero, List.nil_append, List.take_of_length_le (by omega), List.drop_replicate, show 128 - (0 + min rest.length 128) = 128 - rest.length by omega]
  have e2 : (rest ++ List.replicate (128 - rest.length) (0 : Int)).set (min rest.length 128) 128 = rest ++ 128 :: List.replicate (127 - rest.length) 0 := by
    rw [show min rest.length 128 = rest.length by omega, List.set_append_right _ _ (Nat.le_refl _), Nat.sub_self, show 128 - rest.length = (127 - rest.length) + 1 by omega, List.replicate_succ, List.set_cons_zero]
  unfold endF
  rw [e1, e2]
  unfold lay
  rw [List.take_of_length_le (show w.length ≤ 128 - (n - 8) by omega), List.take_append, List.take_of_length_le (show rest.length ≤ n - 8 by omega), show n - 8 - rest.length = (n - rest.length - 9) + 1 by omega,
    List.take_succ_cons, List.take_replicate, show min (n - rest.length - 9) (127 - rest.length) = n - rest.length - 9 by omega]
  exact ⟨List.drop (n - 8 + min w.length (128 - (n - 8))) (rest ++ 128 :: List.replicate (127 - rest.length) 0), by simp only [List.append_assoc, List.cons_append]⟩
theorem endF_length (rest w : List Int) (n : Nat) (h1 : 8 ≤ n) (h2 : n ≤ 128) : (endF rest n w).length = 128 := by
  unfold endF
  have hl : (lay (List.replicate 128 (0 : Int)) 0 128 rest).length = 128 := by rw [lay_length] <;> simp
  rw [lay_length (by rw [List.length_set, hl]; omega), List.length_set, hl]
theorem lay_By {a b : List Int} (ha : By a) (hb : By b) (i n : Nat) : By (lay a i n b) := (ha.take i).app ((hb.take n).app (ha.drop _))
theorem set_By {a : List Int} (ha : By a) (i : Nat) {v : Int} (hv : 0 ≤ v ∧ v < 256) : By (a.set i v) := fun x hx => by
  rcases List.mem_or_eq_of_mem_set hx with hx | rfl
  · exact ha x hx
  · exact hv
theorem endF_By {rest w : List Int} (h1 : By rest) (h2 : By w) (n : Nat) : By (endF rest n w) :=
  lay_By (set_By (lay_By (By.rep _) h1 _ _) _ ⟨by decide, by decide⟩) h2 _ _

theorem getD_append_left {a b : List Int} {j : Nat} (h : j < a.length) : (a ++ b).getD j 0 = a.getD j 0 := by
  rw [List.getD_eq_getElem?_getD, List.getD_eq_getElem?_getD, List.getElem?_append_left h]
theorem getD_drop (a : List Int) (i j : Nat) : (a.drop i).getD j 0 = a.getD (i + j) 0 := by
  rw [List.getD_eq_getElem?_getD, List.getD_eq_getElem?_getD, List.getElem?_drop]
theorem foldF_congr {k s p q : List Int} : ∀ (m : Nat), (∀ j, j < 64 * m → p.getD j 0 = q.getD j 0) → foldF k s p m = foldF k s q m
  | 0, _ => rfl
  | m + 1, h => by
    simp only [foldF, foldF_congr m fun j hj => h j (by omega)]
    exact blockF_congr fun j hj => by rw [getD_drop, getD_drop, h _ (by omega)]

theorem padF_drop (b : List Int) (m : Nat) (h : 64 * m ≤ b.length) : (padF b).drop (64 * m) = b.drop (64 * m) ++ 128 :: (List.replicate (padN b.length - b.length - 9) 0 ++ be8 (bitN b.length)) := by
  unfold padF
  rw [List.drop_append_of_le_length h]

/-- The last block, where it has room for the length. -/
theorem fold_one (k s b : List Int) (m : Nat) (h : 64 * m ≤ b.length) (hr : b.length - 64 * m < 56) :
    foldF k s (padF b) (padN b.length / 64) = blockF k (foldF k s b m) (endF (b.drop (64 * m)) 64 (be8 (bitN b.length))) := by
  have hN : padN b.length = 64 * m + 64 := by unfold padN; omega
  rw [show padN b.length / 64 = m + 1 by omega]
  simp only [foldF]
  rw [foldF_congr (q := b) m fun j hj => by unfold padF; exact getD_append_left (by omega)]
  refine blockF_congr fun j hj => ?_
  have hl : (b.drop (64 * m)).length = b.length - 64 * m := List.length_drop
  obtain ⟨T, hT⟩ := endF_eq (b.drop (64 * m)) (be8 (bitN b.length)) 64 rfl (by omega) (by decide)
  rw [hT, padF_drop b m h, show padN b.length - b.length - 9 = 64 - (b.drop (64 * m)).length - 9 by omega]
  exact (getD_append_left (by simp [be8_length]; omega)).symm
/-- .. where it has none. -/
theorem fold_two (k s b : List Int) (m : Nat) (h : 64 * m ≤ b.length) (hr : 56 ≤ b.length - 64 * m) (hr2 : b.length - 64 * m < 64) :
    foldF k s (padF b) (padN b.length / 64) = blockF k (blockF k (foldF k s b m) (endF (b.drop (64 * m)) 128 (be8 (bitN b.length)))) ((endF (b.drop (64 * m)) 128 (be8 (bitN b.length))).drop 64) := by
  have hN : padN b.length = 64 * m + 128 := by unfold padN; omega
  rw [show padN b.length / 64 = m + 1 + 1 by omega]
  simp only [foldF]
  rw [foldF_congr (q := b) m fun j hj => by unfold padF; exact getD_append_left (by omega)]
  have hl : (b.drop (64 * m)).length = b.length - 64 * m := List.length_drop
  obtain ⟨T, hT⟩ := endF_eq (b.drop (64 * m)) (be8 (bitN b.length)) 128 rfl (by omega) (by decide)
  have key : ∀ j, j < 128 → ((padF b).drop (64 * m)).getD j 0 = (endF (b.drop (64 * m)) 128 (be8 (bitN b.length))).getD j 0 := fun j hj => by
    rw [hT, padF_drop b m h, show padN b.length - b.length - 9 = 128 - (b.drop (64 * m)).length - 9 by omega]
    exact (getD_append_left (by simp [be8_length]; omega)).symm
  rw [blockF_congr (s := foldF k s b m) fun j hj => key j (by omega)]
  refine blockF_congr fun j hj => ?_
  rw [getD_drop, getD_drop, ← key (64 + j) (by omega), getD_drop]
  congr 1
  omega
end Go.Sha
