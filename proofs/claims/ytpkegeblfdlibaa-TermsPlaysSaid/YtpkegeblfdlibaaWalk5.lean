/- Walks of the calls that make terms. -/
import Derived.Test.YtpkegeblfdlibaaWalk4
namespace Go.Proofs.Ytpkegeblfdlibaa
open Go Go.RowKit
set_option linter.unusedVariables false
set_option linter.unusedSimpArgs false

theorem NdOk.mk' {op fn num sort : Int} {args : List Int} (h1 : 0 ≤ op ∧ op ≤ 255) (h2 : i64 fn) (h3 : bnd num) (h4 : i64 sort) (h5 : ∀ a ∈ args, i64 a) (h6 : args.length ≤ 100000) (h7 : op = 4 → args ≠ []) : NdOk ⟨op, fn, num, sort, args⟩ := ⟨h1, h2, h3, h4, h5, h6, h7⟩
theorem bnd_0 : bnd 0 := ⟨by omega, by omega⟩
theorem i64_0 : i64 0 := ⟨by omega, by omega⟩
theorem thereE_yes {n : Nat} {l : List Int} (h : thereB n l = true) : thereE n l = 0 := by simp [thereE, h]
theorem thereE_no {n : Nat} {l : List Int} (h : ¬ thereB n l = true) : thereE n l = 7 := by simp [thereE, h]

set_option maxHeartbeats 2000000 in
theorem not_st (a : Int) (p : Nat) (L : List Nd) (F : Foot) (N : Nat) (w : World) (hs : StoreAt w p L F N) (hN : N ≤ 1000000000000) (ha : i64 a) :
   Calls Try.prog 21 #[.pointer (some ⟨p, 0, none⟩), .int .i64 a] w (Made w p F N (notP L a)) := by
  have HS := Pk.mk hs
  have HI := Pk.mk ha
  have HLT := Pk.mk hs.lt
  clear hs ha
  go_enter Try.func21, Try.ntmps21
  go_wp2_with fail
  refine (there_st p 1 L F N _ [a] _ (by simp) (HS.out.below (below_alloc _ _)) (ints_new _ _ _ [a] _ rfl)).mono ?_
  rintro e w1 ⟨rfl, hb⟩
  have HB := Pk.mk (below_then (below_alloc w _) hb)
  clear hb
  by_cases hr : thereB L.length [a] = true
  · rw [thereE_yes hr]
    have HR := Pk.mk hr
    clear hr
    go_wp2_with fail
    refine (of_st 0 p 1 L F N _ [a] _ (by simp) ((HS.out.below HB.out).below (below_alloc _ _)) (ints_new _ _ _ [a] _ rfl) HR.out).mono ?_
    rintro e w2 ⟨rfl, hb2⟩
    have HB2 := Pk.mk (below_then HB.out (below_then (below_alloc w1 _) hb2))
    clear hb2
    by_cases ho : ofB L 0 [a] = true
    · have HP : Pk (notP L a = putP L ⟨9, 0, 0, 0, [a]⟩) := Pk.mk (by simp [notP, HR.out, ho])
      rw [ho]
      clear ho
      go_wp2_with fail
      refine (put_st p 1 L F N ⟨9, 0, 0, 0, [a]⟩ _ _ ((HS.out.below HB2.out).below (below_alloc _ _)) (NdOk.mk' (by omega) i64_0 bnd_0 i64_0 (by simpa using HI.out) (by simp) (by omega)) hN (ints_new _ _ _ [a] _ rfl) (by simp) ?_).mono ?_
      · rintro ad h hf
        cases h
        have := HLT.out _ (.inl hf)
        have := HB2.out.size
        simp at *
        omega
      rintro e w3 ⟨F', rfl, hst, hup⟩
      have HST := Pk.mk hst
      have HUP := Pk.mk hup
      clear hst hup
      go_wp2
      go_ret2
      exact Made.after (below_then HB2.out (below_alloc _ _)) HP.out HST.out HUP.out
    · have HP : Pk (notP L a = (L, 0, 60)) := Pk.mk (by simp [notP, HR.out, ho])
      rw [Bool.not_eq_true] at ho
      rw [ho]
      clear ho
      go_wp2
      go_ret2
      exact Made.same HS.out HB2.out HP.out
  · have HP : Pk (notP L a = (L, 0, 7)) := Pk.mk (by simp [notP, hr])
    rw [thereE_no hr]
    clear hr
    go_wp2
    go_ret2
    exact Made.same HS.out HB.out HP.out
end Go.Proofs.Ytpkegeblfdlibaa
