/- Contracts of functions of the package wide that the claims of its layer share. -/
import Derived.Test.YtjdlefkpoggocaaTab2
import Derived.Test.YtjdlefkpoggocaaW0
import Derived.Test.YtjdlefkpoggocaaSx22
import Derived.Laws.Externs
namespace Go.Proofs.Ytjdlefkpoggocaa
open Go Go.Sx Go.Wide
set_option linter.unusedVariables false
set_option linter.unusedSimpArgs false
set_option maxRecDepth 100000
set_option maxHeartbeats 4000000

abbrev u64 (x : Int) : M := .one (.v (.int .u64 x))
abbrev int (x : Int) : M := .one (.v (.int .i64 x))
abbrev bool (b : Bool) : M := .one (.v (.bool b))
abbrev wide (a b c d : Int) : M := .agg [.ints .u64 4 [a, b, c, d]]

theorem is54 : (Extern.find Try.f54).isSome = true := by kernel_rfl
theorem is74 : (Extern.find Try.f74).isSome = true := by kernel_rfl
theorem run54 (x y : Int) (w : World) : (((Extern.find Try.f54).get is54) #[.int .u64 x, .int .u64 y, .int .u64 0]).run Try.prog w = .ok (.tuple #[.int .u64 (Int.ofNat ((x.toNat + y.toNat + 0) % 18446744073709551616)), .int .u64 (Int.ofNat ((x.toNat + y.toNat + 0) / 18446744073709551616))]) w ∧
    (((Extern.find Try.f54).get is54) #[.int .u64 x, .int .u64 y, .int .u64 1]).run Try.prog w = .ok (.tuple #[.int .u64 (Int.ofNat ((x.toNat + y.toNat + 1) % 18446744073709551616)), .int .u64 (Int.ofNat ((x.toNat + y.toNat + 1) / 18446744073709551616))]) w :=
  ⟨by kernel_rfl, by kernel_rfl⟩
theorem run74 (x y : Int) (w : World) : (((Extern.find Try.f74).get is74) #[.int .u64 x, .int .u64 y, .int .u64 0]).run Try.prog w = .ok (.tuple #[.int .u64 (Int.ofNat ((x.toNat + 18446744073709551616 - y.toNat - 0) % 18446744073709551616)), .int .u64 (Int.ofNat (if x.toNat < y.toNat + 0 then 1 else 0))]) w ∧
    (((Extern.find Try.f74).get is74) #[.int .u64 x, .int .u64 y, .int .u64 1]).run Try.prog w = .ok (.tuple #[.int .u64 (Int.ofNat ((x.toNat + 18446744073709551616 - y.toNat - 1) % 18446744073709551616)), .int .u64 (Int.ofNat (if x.toNat < y.toNat + 1 then 1 else 0))]) w :=
  ⟨by kernel_rfl, by kernel_rfl⟩

theorem add64_spec {x y c : Int} (hx : Wd x) (hy : Wd y) (hc : 0 ≤ c ∧ c ≤ 1) : SFun Try.prog 54 [u64 x, u64 y, u64 c] (.tup [u64 ((x + y + c) % T64), u64 ((x + y + c) / T64)]) := by
  refine SFun.ext (fun σ w => ?_) rfl (fun w av n => .tup fun m hm => ?_)
  · rw [run_callFunc_extern Try.func54 (by kernel_rfl) (by kernel_rfl) (by kernel_rfl) (Option.some_get is54).symm]
    show Result.andThen ((((Extern.find Try.f54).get is54) #[.int .u64 x, .int .u64 y, .int .u64 c]).run Try.prog w) (fun v w' => Result.ok (Next.value v) w') = Result.ok (Next.value (.tuple #[.int .u64 ((x + y + c) % T64), .int .u64 ((x + y + c) / T64)])) w
    obtain ⟨hx0, hx1⟩ := hx
    obtain ⟨hy0, hy1⟩ := hy
    have hc' : c = 0 ∨ c = 1 := by omega
    rcases hc' with rfl | rfl
    · have e1 : Int.ofNat ((x.toNat + y.toNat + 0) % 18446744073709551616) = (x + y + 0) % T64 := by simp only [Int.ofNat_eq_natCast, T64]; omega
      have e2 : Int.ofNat ((x.toNat + y.toNat + 0) / 18446744073709551616) = (x + y + 0) / T64 := by simp only [Int.ofNat_eq_natCast, T64]; omega
      rw [(run54 x y w).1, Result.andThen_ok, e1, e2]
    · have e1 : Int.ofNat ((x.toNat + y.toNat + 1) % 18446744073709551616) = (x + y + 1) % T64 := by simp only [Int.ofNat_eq_natCast, T64]; omega
      have e2 : Int.ofNat ((x.toNat + y.toNat + 1) / 18446744073709551616) = (x + y + 1) / T64 := by simp only [Int.ofNat_eq_natCast, T64]; omega
      rw [(run54 x y w).2, Result.andThen_ok, e1, e2]
  · simp only [List.mem_cons, List.not_mem_nil, or_false] at hm
    rcases hm with rfl | rfl <;> exact .one rfl (.v rfl)

/-- What is borrowed. -/
def brw (x y c : Int) : Int := if x < y + c then 1 else 0
theorem sub64_spec {x y c : Int} (hx : Wd x) (hy : Wd y) (hc : 0 ≤ c ∧ c ≤ 1) : SFun Try.prog 74 [u64 x, u64 y, u64 c] (.tup [u64 ((x - y - c) % T64), u64 (brw x y c)]) := by
  refine SFun.ext (fun σ w => ?_) rfl (fun w av n => .tup fun m hm => ?_)
  · rw [run_callFunc_extern Try.func74 (by kernel_rfl) (by kernel_rfl) (by kernel_rfl) (Option.some_get is74).symm]
    show Result.andThen ((((Extern.find Try.f74).get is74) #[.int .u64 x, .int .u64 y, .int .u64 c]).run Try.prog w) (fun v w' => Result.ok (Next.value v) w') = Result.ok (Next.value (.tuple #[.int .u64 ((x - y - c) % T64), .int .u64 (brw x y c)])) w
    obtain ⟨hx0, hx1⟩ := hx
    obtain ⟨hy0, hy1⟩ := hy
    have hc' : c = 0 ∨ c = 1 := by omega
    have e1 : ∀ b c : Int, 0 ≤ c → c ≤ 1 → (Int.ofNat (if x.toNat < y.toNat + c.toNat then 1 else 0)) = brw x y c := by
      intro b c h0 h1
      unfold brw
      by_cases h : x < y + c
      · rw [if_pos h, if_pos (by omega)]; rfl
      · rw [if_neg h, if_neg (by omega)]; rfl
    rcases hc' with rfl | rfl
    · rw [(run74 x y w).1, Result.andThen_ok]
      have e2 := e1 0 0 (by omega) (by omega)
      simp only [Int.toNat_zero] at e2
      rw [e2]
      congr 6
      simp only [Int.ofNat_eq_natCast, T64]
      omega
    · rw [(run74 x y w).2, Result.andThen_ok]
      have e2 := e1 0 1 (by omega) (by omega)
      simp only [Int.toNat_one] at e2
      rw [e2]
      congr 6
      simp only [Int.ofNat_eq_natCast, T64]
      omega
  · simp only [List.mem_cons, List.not_mem_nil, or_false] at hm
    rcases hm with rfl | rfl <;> exact .one rfl (.v rfl)
def add64T : List M → (M → Prop) → Prop
  | [.one (.v (.int .u64 x)), .one (.v (.int .u64 y)), .one (.v (.int .u64 c))], K => (Wd x ∧ Wd y ∧ 0 ≤ c ∧ c ≤ 1) ∧ K (.tup [u64 ((x + y + c) % T64), u64 ((x + y + c) / T64)])
  | _, _ => False
theorem add64_ok : POK Try.prog 54 add64T := by
  intro ms K h
  unfold add64T at h ⊢
  split at h
  · exact ⟨_, h.2, (add64_spec h.1.1 h.1.2.1 h.1.2.2), rfl, fun _ hk => ⟨h.1, hk⟩⟩
  · exact h.elim

def sub64T : List M → (M → Prop) → Prop
  | [.one (.v (.int .u64 x)), .one (.v (.int .u64 y)), .one (.v (.int .u64 c))], K => (Wd x ∧ Wd y ∧ 0 ≤ c ∧ c ≤ 1) ∧ K (.tup [u64 ((x - y - c) % T64), u64 (brw x y c)])
  | _, _ => False
theorem sub64_ok : POK Try.prog 74 sub64T := by
  intro ms K h
  unfold sub64T at h ⊢
  split at h
  · exact ⟨_, h.2, (sub64_spec h.1.1 h.1.2.1 h.1.2.2), rfl, fun _ hk => ⟨h.1, hk⟩⟩
  · exact h.elim

end Go.Proofs.Ytjdlefkpoggocaa
