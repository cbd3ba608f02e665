/- Products. -/
import Derived.Test.YtjdlefkpoggocaaQ22
import Derived.Test.YtjdlefkpoggocaaSx22
namespace Go.Proofs.Ytjdlefkpoggocaa
open Go Go.Sx Go.Wide
set_option linter.unusedVariables false
set_option linter.unusedSimpArgs false
set_option maxRecDepth 100000
set_option maxHeartbeats 4000000

theorem shr32 (n : Nat) : shr .u64 (n : Int) 32 = ((n / 4294967296 : Nat) : Int) := shr_nat n 32 (by decide)
theorem and32 {n : Nat} (h : n < 18446744073709551616) : Sx.bits .and .u64 (n : Int) 4294967295 = ((n % 4294967296 : Nat) : Int) := and_mask (k := 32) h (by decide)

theorem mul64_spec {x y : Int} (hx : Wd x) (hy : Wd y) : SFun Try.prog 53 [u64 x, u64 y] (.tup [u64 (((x.toNat * y.toNat / N64 : Nat) : Int)), u64 ((x.toNat * y.toNat % N64 : Nat) : Int)]) := by
  refine SFun.inl [] SOK.nil tok mixed [] IOK.nil true [] [] Try.call53 Try.func53 rfl (by rfl) ?_
  refine Eq.mp (α := (And ((0 : Int) ≤ (32 : Int)) (And ((0 : Int) ≤ (32 : Int)) (And ((0 : Int) ≤ (32 : Int)) (And ((0 : Int) ≤ (32 : Int)) (And ((0 : Int) ≤ (32 : Int)) (And (M.tup [M.one (SV.v (Value.int IntKind.u64 (IntKind.wrap IntKind.u64 (IntKind.wrap IntKind.u64 (IntKind.wrap IntKind.u64 (shr IntKind.u64 x (32 : Int) * shr IntKind.u64 y (32 : Int)) + shr IntKind.u64 (IntKind.wrap IntKind.u64 (IntKind.wrap IntKind.u64 (shr IntKind.u64 x (32 : Int) * Sx.bits BinOp.and IntKind.u64 y (4294967295 : Int)) + shr IntKind.u64 (IntKind.wrap IntKind.u64 (Sx.bits BinOp.and IntKind.u64 x (4294967295 : Int) * Sx.bits BinOp.and IntKind.u64 y (4294967295 : Int))) (32 : Int))) (32 : Int)) + shr IntKind.u64 (IntKind.wrap IntKind.u64 (Sx.bits BinOp.and IntKind.u64 (IntKind.wrap IntKind.u64 (IntKind.wrap IntKind.u64 (shr IntKind.u64 x (32 : Int) * Sx.bits BinOp.and IntKind.u64 y (4294967295 : Int)) + shr IntKind.u64 (IntKind.wrap IntKind.u64 (Sx.bits BinOp.and IntKind.u64 x (4294967295 : Int) * Sx.bits BinOp.and IntKind.u64 y (4294967295 : Int))) (32 : Int))) (4294967295 : Int) + IntKind.wrap IntKind.u64 (Sx.bits BinOp.and IntKind.u64 x (4294967295 : Int) * shr IntKind.u64 y (32 : Int)))) (32 : Int))))), M.one (SV.v (Value.int IntKind.u64 (IntKind.wrap IntKind.u64 (x * y))))] = M.tup [M.one (SV.v (Value.int IntKind.u64 (↑(Int.toNat x * Int.toNat y / N64) : Int))), M.one (SV.v (Value.int IntKind.u64 (↑(Int.toNat x * Int.toNat y % N64) : Int)))]) ((true : Bool) = true)))))))) (by kernel_rfl) ?_
  obtain ⟨X, rfl, hX⟩ := nat_word hx
  obtain ⟨Y, rfl, hY⟩ := nat_word hy
  have hx0 : X % 4294967296 < 4294967296 := Nat.mod_lt _ (by decide)
  have hx1 : X / 4294967296 < 4294967296 := by omega
  have hy0 : Y % 4294967296 < 4294967296 := Nat.mod_lt _ (by decide)
  have hy1 : Y / 4294967296 < 4294967296 := by omega
  have hm := mul_halves _ _ _ _ hx0 hx1 hy0 hy1
  rw [Nat.div_add_mod' X, Nat.div_add_mod' Y] at hm
  simp only [shr32, and32 hX, and32 hY, ← Int.natCast_mul, ← Int.natCast_add, wrap_nat, and32 (Nat.mod_lt _ (by decide)), Int.toNat_natCast]
  have b1 : X / 4294967296 * (Y / 4294967296) ≤ 4294967295 * 4294967295 := Nat.mul_le_mul (by omega) (by omega)
  have b2 : X / 4294967296 * (Y % 4294967296) ≤ 4294967295 * 4294967295 := Nat.mul_le_mul (by omega) (by omega)
  have b3 : X % 4294967296 * (Y / 4294967296) ≤ 4294967295 * 4294967295 := Nat.mul_le_mul (by omega) (by omega)
  have b4 : X % 4294967296 * (Y % 4294967296) ≤ 4294967295 * 4294967295 := Nat.mul_le_mul (by omega) (by omega)
  refine ⟨by decide, by decide, by decide, by decide, by decide, ?_, trivial⟩
  refine congrArg (fun z : Nat => M.tup [M.one (SV.v (Value.int IntKind.u64 (z : Int))), M.one (SV.v (Value.int IntKind.u64 ((X * Y % 18446744073709551616 : Nat) : Int)))]) ?_
  show _ = X * Y / 18446744073709551616
  rw [← hm]
  generalize X / 4294967296 * (Y / 4294967296) = p at *
  generalize X / 4294967296 * (Y % 4294967296) = q at *
  generalize X % 4294967296 * (Y / 4294967296) = r at *
  generalize X % 4294967296 * (Y % 4294967296) = t at *
  have e1 : t % 18446744073709551616 = t := Nat.mod_eq_of_lt (by omega)
  have e2 : q % 18446744073709551616 = q := Nat.mod_eq_of_lt (by omega)
  have e3 : r % 18446744073709551616 = r := Nat.mod_eq_of_lt (by omega)
  have e4 : p % 18446744073709551616 = p := Nat.mod_eq_of_lt (by omega)
  omega
def mul64T : List M → (M → Prop) → Prop
  | [.one (.v (.int .u64 x)), .one (.v (.int .u64 y))], K => (Wd x ∧ Wd y) ∧ K (.tup [u64 ((x.toNat * y.toNat / N64 : Nat) : Int), u64 ((x.toNat * y.toNat % N64 : Nat) : Int)])
  | _, _ => False
theorem mul64_ok : POK Try.prog 53 mul64T := by
  intro ms K h
  unfold mul64T at h ⊢
  split at h
  · exact ⟨_, h.2, (mul64_spec h.1.1 h.1.2), rfl, fun _ hk => ⟨h.1, hk⟩⟩
  · exact h.elim

end Go.Proofs.Ytjdlefkpoggocaa
