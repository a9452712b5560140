/- Walks of the law's helpers: near, tame. -/
import Derived.Test.YtpkegeblfdlibaaRefB
namespace Go.Proofs.Ytpkegeblfdlibaa
open Go Go.RowKit
set_option linter.unusedVariables false
set_option linter.unusedSimpArgs false

def nearP (t : Int) (n : Nat) (m : Bool) : Int := if m then (if 0 ≤ t then t else t + 18446744073709551616) % ((n : Int) + 2) - 1 else t
theorem near_bd (t : Int) (n : Nat) (h : i64 t) (hn : n ≤ 20000) (m : Bool) : i64 (nearP t n m) := by
  cases m
  · simpa [nearP] using h
  · have h1 := Int.emod_nonneg (if 0 ≤ t then t else t + 18446744073709551616) (b := (n : Int) + 2) (by omega)
    have h2 := Int.emod_lt_of_pos (if 0 ≤ t then t else t + 18446744073709551616) (b := (n : Int) + 2) (by omega)
    simp only [nearP, if_true, i64]
    omega
theorem wrap_neg {t : Int} (h : t < 0) (h1 : -9223372036854775808 ≤ t) : IntKind.u64.wrap t = t + 18446744073709551616 := by
  simp [IntKind.wrap, IntKind.bits, IntKind.signed]
  omega
theorem near_val {x : Int} {n : Nat} (hx : 0 ≤ x) (hn : n ≤ 20000) : RowKit.wrap64 (RowKit.wrap64 (x % ((n : Int) + 2)) - 1) = x % ((n : Int) + 2) - 1 := by
  simp only [RowKit.wrap64]
  have h1 := Int.emod_nonneg x (b := (n : Int) + 2) (by omega)
  have h2 := Int.emod_lt_of_pos x (b := (n : Int) + 2) (by omega)
  omega

set_option maxHeartbeats 1000000 in
theorem near_ok (t : Int) (n : Nat) (m : Bool) (w : World) (ht : i64 t) (hn : n ≤ 20000) : Calls Try.prog 10 #[.int .i64 t, .int .i64 n, .bool m] w fun e w' => e = .returned (.int .i64 (nearP t n m)) ∧ w' = w := by
  obtain ⟨h1, h2⟩ := ht
  cases m
  · go_enter Try.func10, Try.ntmps10
    go_wp2
    go_ret
    exact ⟨by simp [nearP], rfl⟩
  · by_cases hp : 0 ≤ t
    · go_enter Try.func10, Try.ntmps10
      go_wp2
      go_ret
      refine ⟨?_, rfl⟩
      show Ending.returned (.int .i64 _) = _
      rw [near_val hp hn]
      simp [nearP, hp]
    · have hq : ¬ (0 ≤ t) := hp
      have hnv : nearP t n true = (t + 18446744073709551616) % ((n : Int) + 2) - 1 := by simp [nearP, hq]
      go_enter Try.func10, Try.ntmps10
      go_wp2
      go_ret
      refine ⟨?_, rfl⟩
      show Ending.returned (.int .i64 _) = _
      rw [wrap_neg (by omega) h1, Int.tmod_eq_emod_of_nonneg (by omega), near_val (by omega) hn]
end Go.Proofs.Ytpkegeblfdlibaa
