/- Walk of the law's helper known: a sum that comes back. -/
import Derived.Test.YtpkegeblfdlibaaWalkA
namespace Go.Proofs.Ytpkegeblfdlibaa
open Go Go.RowKit
set_option linter.unusedVariables false
set_option linter.unusedSimpArgs false

def L1 : List Nd := L0 ++ [⟨5, 0, 0, 1, []⟩]
def L2 : List Nd := L1 ++ [⟨4, 0, 2, 1, [3]⟩]
theorem app1 : appP L0 0 1 [] = (L1, 3, 0) := by decide
theorem plus1 : plusP L1 3 2 = (L2, 4, 0) := by decide
theorem plus2 : plusP L2 4 (-2) = (L2, 3, 0) := by decide
theorem le1 : leP L2 4 3 1 = (L2, 1, 0) := by decide

set_option maxHeartbeats 1000000 in
theorem known_st (w : World) : Calls Try.prog 7 #[] w fun e w' => e = .returned (.bool true) ∧ Below w.heap.size w w' := by
  go_enter Try.func7, Try.ntmps7
  go_wp2_with fail
  refine (new_st w).mono ?_
  rintro e w1 ⟨p, F, rfl, hst, hb, hF⟩
  have HST := Pk.mk hst
  have HB := Pk.mk hb
  have HF := Pk.mk hF
  clear hst hb hF
  go_wp2_with fail
  refine (app_st 0 1 [] none 0 p L0 F 300000 w1 HST.out (by omega) ⟨by omega, by omega⟩ ⟨by omega, by omega⟩ (by simp) (by simp) (IntsAt.nil _ _) (by simp) (by simp)).mono ?_
  rintro e w2 ⟨F2, rfl, hst, hup⟩
  rw [app1] at hst ⊢
  have HST2 := Pk.mk hst
  have HUP2 := Pk.mk hup
  clear hst hup
  go_wp2_with fail
  refine (plus_st 3 2 p L1 F2 _ w2 HST2.out (by omega) ⟨by omega, by omega⟩ ⟨by omega, by omega⟩).mono ?_
  rintro e w3 ⟨F3, rfl, hst, hup⟩
  rw [plus1] at hst ⊢
  have HST3 := Pk.mk hst
  have HUP3 := Pk.mk (HUP2.out.trans hup)
  clear hst hup
  go_wp2_with fail
  refine (plus_st 4 (-2) p L2 F3 _ w3 HST3.out (by omega) ⟨by omega, by omega⟩ ⟨by omega, by omega⟩).mono ?_
  rintro e w4 ⟨F4, rfl, hst, hup⟩
  rw [plus2] at hst ⊢
  have HST4 := Pk.mk hst
  have HUP4 := Pk.mk (HUP3.out.trans hup)
  clear hst hup
  go_wp2_with fail
  refine (le_st 4 3 1 p L2 F4 _ w4 HST4.out (by omega) ⟨by omega, by omega⟩ ⟨by omega, by omega⟩ ⟨by omega, by omega⟩).mono ?_
  rintro e w5 ⟨F5, rfl, hst, hup⟩
  rw [le1] at hst ⊢
  have HUP5 := Pk.mk (HUP4.out.trans hup)
  clear hst hup
  go_wp2
  go_ret
  exact ⟨rfl, HB.out.trans (HUP5.out.fr.below (fun i hi => HF.out i (.inl hi)) HB.out.size)⟩
end Go.Proofs.Ytpkegeblfdlibaa
