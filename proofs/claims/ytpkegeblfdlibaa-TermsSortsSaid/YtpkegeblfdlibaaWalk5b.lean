/- Walks of the small arithmetic: bound, digits.Add. -/
import Derived.Test.YtpkegeblfdlibaaWalk1
namespace Go.Proofs.Ytpkegeblfdlibaa
open Go Go.RowKit
set_option linter.unusedVariables false
set_option linter.unusedSimpArgs false

theorem bound_ok (n : Int) (w : World) : Calls Try.prog 45 #[.int .i64 n] w fun e w' => e = .returned (.bool (boundB n)) ∧ w = w' := by
  by_cases c1 : (-4611686018427387903) ≤ n
  · have d1 : decide ((-4611686018427387903) ≤ n) = true := decide_eq_true c1
    have HB : Pk (boundB n = decide (n ≤ 4611686018427387903)) := Pk.mk (by unfold boundB; rw [d1]; rfl)
    clear c1
    go_enter Try.func45, Try.ntmps45
    go_wp2
    go_ret
    exact ⟨by rw [HB.out]; rfl, rfl⟩
  · have d1 : decide ((-4611686018427387903) ≤ n) = false := decide_eq_false c1
    have HB : Pk (boundB n = false) := Pk.mk (by unfold boundB; rw [d1]; rfl)
    clear c1
    go_enter Try.func45, Try.ntmps45
    go_wp2
    go_ret
    exact ⟨by rw [HB.out]; rfl, rfl⟩

def addV (a b : Int) : Int := if -9223372036854775808 ≤ a + b ∧ a + b ≤ 9223372036854775807 then a + b else 0
def addO (a b : Int) : Bool := decide (-9223372036854775808 ≤ a + b ∧ a + b ≤ 9223372036854775807)
theorem w64_eq (x : Int) : wrap64 x = (x + 9223372036854775808) % 18446744073709551616 - 9223372036854775808 := by unfold wrap64; rfl
theorem add_neg (a b : Int) (ha : i64 a) (hb : i64 b) : decide (wrap64 (a + b) < 0) = (if (decide (a < 0) == decide (b < 0)) = true then (if addO a b then decide (a < 0) else !decide (a < 0)) else decide (a + b < 0)) ∧ (¬ (decide (a < 0) == decide (b < 0)) = true → addO a b = true) ∧ (addO a b = true → wrap64 (a + b) = a + b) := by
  obtain ⟨a1, a2⟩ := ha
  obtain ⟨b1, b2⟩ := hb
  refine ⟨?_, ?_, ?_⟩
  · rw [w64_eq]
    by_cases h1 : a < 0 <;> by_cases h2 : b < 0 <;> by_cases h3 : addO a b = true <;> simp [h1, h2, h3] <;> simp [addO] at h3 <;> omega
  · intro h
    by_cases h1 : a < 0 <;> by_cases h2 : b < 0 <;> simp [h1, h2] at h <;> simp [addO] <;> omega
  · intro h
    simp [addO] at h
    rw [w64_eq]; omega

set_option maxHeartbeats 1000000 in
theorem add_ok (a b : Int) (w : World) (ha : i64 a) (hb : i64 b) : Calls Try.prog 46 #[.int .i64 a, .int .i64 b] w fun e w' => e = .returned (.tuple #[.int .i64 (addV a b), .bool (addO a b)]) ∧ w = w' := by
  obtain ⟨h1, h2, h3⟩ := add_neg a b ha hb
  by_cases hs : (decide (a < 0) == decide (b < 0)) = true
  · rw [if_pos hs] at h1
    by_cases ho : addO a b = true
    · have HV : Pk (addV a b = wrap64 (a + b) ∧ addO a b = true) := Pk.mk ⟨by rw [h3 ho]; simp [addO] at ho; simp [addV, ho], ho⟩
      rw [if_pos ho] at h1
      have hd : (decide (wrap64 (a + b) < 0) == decide (a < 0)) = true := by rw [h1]; simp
      clear h1 h2 h3 ho ha hb
      go_enter Try.func46, Try.ntmps46
      go_wp2
      go_ret2
      exact ⟨by rw [HV.out.1, HV.out.2]; rfl, rfl⟩
    · have HV : Pk (addV a b = 0 ∧ addO a b = false) := Pk.mk ⟨by simp [addO] at ho; simp [addV]; omega, by simpa using ho⟩
      rw [if_neg ho] at h1
      have hd : (decide (wrap64 (a + b) < 0) == decide (a < 0)) = false := by rw [h1]; cases decide (a < 0) <;> rfl
      clear h1 h2 h3 ho ha hb
      go_enter Try.func46, Try.ntmps46
      go_wp2
      go_ret2
      exact ⟨by rw [HV.out.1, HV.out.2]; rfl, rfl⟩
  · have ho := h2 hs
    have HV : Pk (addV a b = wrap64 (a + b) ∧ addO a b = true) := Pk.mk ⟨by rw [h3 ho]; simp [addO] at ho; simp [addV, ho], ho⟩
    rw [Bool.not_eq_true] at hs
    clear h1 h2 h3 ho ha hb
    go_enter Try.func46, Try.ntmps46
    go_wp2
    go_ret2
    exact ⟨by rw [HV.out.1, HV.out.2]; rfl, rfl⟩
end Go.Proofs.Ytpkegeblfdlibaa
