/- Primes and their roots, as the document computes them. -/
import Derived.Test.YtblapbjafbmndaaDoorD3
namespace Go.Sha
open Go Go.Sx
set_option linter.unusedSimpArgs false
set_option linter.unusedVariables false

/-- One limb of a product. -/
def lsum (a : Nat) (p : List Nat) (i : Nat) (s : List Nat × Nat) (j : Nat) : Nat := ((s.2 + s.1.getD (i + j) 0) % 18446744073709551616 + a * p.getD j 0 % 18446744073709551616) % 18446744073709551616
def mC (a : Nat) (p : List Nat) (i : Nat) (t : List Nat) : Nat → List Nat × Nat
  | 0 => (t, 0)
  | j + 1 => let s := mC a p i t j; let x := lsum a p i s j; (s.1.set (i + j) (x % 4294967296), x / 4294967296)
def limb (x i : Nat) : Nat := if i = 0 then x % 4294967296 else x / 4294967296
def mB (x : Nat) (p : List Nat) : Nat → List Nat
  | 0 => [0, 0, 0, 0, 0, 0]
  | i + 1 => (mC (limb x i) p i (mB x p i) (6 - i)).1
def mA (x : Nat) : Nat → List Nat
  | 0 => [1, 0, 0, 0, 0, 0]
  | j + 1 => mB x (mA x j) 2
def leF (a b : List Nat) : Nat → Bool
  | 0 => true
  | w + 1 => if a.getD w 0 = b.getD w 0 then leF a b w else decide (a.getD w 0 < b.getD w 0)
def wantF (p k : Nat) : List Nat := [0, 0, 0, 0, 0, 0].set k p
def rt (p k : Nat) : Nat → Nat
  | 0 => 0
  | s + 1 => let r := rt p k s; let c := (r + 2 ^ (37 - s)) % 18446744073709551616; bif leF (mA c k) (wantF p k) 6 then c else r
def rootN (p k : Nat) : Nat := rt p k 38 % 4294967296
def pstep (s : List Nat) (n : Nat) : List Nat := bif s.all (fun p => n % p != 0) then s ++ [n] else s
def prN : Nat → List Nat
  | 0 => []
  | k + 1 => pstep (prN k) (k + 2)
theorem pr310 : prN 310 = [2, 3, 5, 7, 11, 13, 17, 19, 23, 29, 31, 37, 41, 43, 47, 53, 59, 61, 67, 71, 73, 79, 83, 89, 97, 101, 103, 107, 109, 113, 127, 131, 137, 139, 149, 151, 157, 163, 167, 173, 179, 181, 191, 193, 197, 199, 211, 223, 227, 229, 233, 239, 241, 251, 257, 263, 269, 271, 277, 281, 283, 293, 307, 311] := by decide +kernel
theorem cube0 : (List.map (fun p => rootN p 3) [2, 3, 5, 7, 11, 13, 17, 19]) = [1116352408, 1899447441, 3049323471, 3921009573, 961987163, 1508970993, 2453635748, 2870763221] := by decide +kernel
theorem cube1 : (List.map (fun p => rootN p 3) [23, 29, 31, 37, 41, 43, 47, 53]) = [3624381080, 310598401, 607225278, 1426881987, 1925078388, 2162078206, 2614888103, 3248222580] := by decide +kernel
theorem cube2 : (List.map (fun p => rootN p 3) [59, 61, 67, 71, 73, 79, 83, 89]) = [3835390401, 4022224774, 264347078, 604807628, 770255983, 1249150122, 1555081692, 1996064986] := by decide +kernel
theorem cube3 : (List.map (fun p => rootN p 3) [97, 101, 103, 107, 109, 113, 127, 131]) = [2554220882, 2821834349, 2952996808, 3210313671, 3336571891, 3584528711, 113926993, 338241895] := by decide +kernel
theorem cube4 : (List.map (fun p => rootN p 3) [137, 139, 149, 151, 157, 163, 167, 173]) = [666307205, 773529912, 1294757372, 1396182291, 1695183700, 1986661051, 2177026350, 2456956037] := by decide +kernel
theorem cube5 : (List.map (fun p => rootN p 3) [179, 181, 191, 193, 197, 199, 211, 223]) = [2730485921, 2820302411, 3259730800, 3345764771, 3516065817, 3600352804, 4094571909, 275423344] := by decide +kernel
theorem cube6 : (List.map (fun p => rootN p 3) [227, 229, 233, 239, 241, 251, 257, 263]) = [430227734, 506948616, 659060556, 883997877, 958139571, 1322822218, 1537002063, 1747873779] := by decide +kernel
theorem cube7 : (List.map (fun p => rootN p 3) [269, 271, 277, 281, 283, 293, 307, 311]) = [1955562222, 2024104815, 2227730452, 2361852424, 2428436474, 2756734187, 3204031479, 3329325298] := by decide +kernel
end Go.Sha
