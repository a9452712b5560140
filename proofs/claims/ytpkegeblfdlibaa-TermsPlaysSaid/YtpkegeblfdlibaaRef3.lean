/- Walks of the reference's calls that make terms. -/
import Derived.Test.YtpkegeblfdlibaaRef2
namespace Go.Proofs.Ytpkegeblfdlibaa
open Go Go.RowKit
set_option linter.unusedVariables false
set_option linter.unusedSimpArgs false

set_option maxHeartbeats 2000000 in
theorem rnot_st (a : Int) (p : Nat) (L : List Nd) (F : Foot) (w : World) (hs : RefAt w p L F) (ha : i64 a) :
   Calls Try.prog 22 #[.pointer (some ⟨p, 0, none⟩), .int .i64 a] w (MadeR w p F (notP L a)) := by
  have HS := Pk.mk hs
  have HI := Pk.mk ha
  have HLT := Pk.mk hs.lt
  clear hs ha
  go_enter Try.func22, Try.ntmps22
  go_wp2_with fail
  refine (rthere_st p 1 L F _ [a] _ (by simp) (HS.out.below (below_alloc _ _)) (ints_new _ _ _ [a] _ rfl)).mono ?_
  rintro e w1 ⟨rfl, hb⟩
  have HA1 := Pk.mk ((ints_new w 30 (0, 0) [a] _ rfl).below hb)
  have HB := Pk.mk (below_then (below_alloc w _) hb)
  clear hb
  by_cases hr : thereB L.length [a] = true
  · rw [hr]
    have HR := Pk.mk hr
    clear hr
    go_wp2_with fail
    refine (rof_st 0 p 1 L F _ [a] _ (by simp) (HS.out.below HB.out) HA1.out HR.out).mono ?_
    rintro e w2 ⟨rfl, hb2⟩
    have HA2 := Pk.mk (HA1.out.below hb2)
    have HB2 := Pk.mk (below_then HB.out hb2)
    clear hb2
    by_cases ho : ofB L 0 [a] = true
    · have HP : Pk (notP L a = putP L ⟨9, 0, 0, 0, [a]⟩) := Pk.mk (by simp [notP, HR.out, ho])
      rw [ho]
      clear ho
      go_wp2_with fail
      refine (rput_st p 1 L F ⟨9, 0, 0, 0, [a]⟩ _ _ (HS.out.below HB2.out) (NdOk.mk' (by omega) i64_0 bnd_0 i64_0 (by simpa using HI.out) (by simp) (by omega)) HA2.out ?_ (by simp)).mono ?_
      · rintro ad h hf
        cases h
        have := HLT.out _ (.inl hf)
        simp at this
      rintro e w3 ⟨F', rfl, hst, hup⟩
      have HST := Pk.mk hst
      have HUP := Pk.mk hup
      clear hst hup
      go_wp2
      go_ret2
      exact MadeR.after HB2.out HP.out HST.out HUP.out
    · have HP : Pk (notP L a = (L, 0, 60)) := Pk.mk (by simp [notP, HR.out, ho])
      rw [Bool.not_eq_true] at ho
      rw [ho]
      clear ho
      go_wp2
      go_ret2
      exact MadeR.same HS.out HB2.out HP.out
  · have HP : Pk (notP L a = (L, 0, 7)) := Pk.mk (by simp [notP, hr])
    rw [Bool.not_eq_true] at hr
    rw [hr]
    clear hr
    go_wp2
    go_ret2
    exact MadeR.same HS.out HB.out HP.out

set_option maxHeartbeats 4000000 in
theorem rmany_st (op no : Int) (l : List Int) (B : Option Addr) (c p : Nat) (L : List Nd) (F : Foot) (w : World) (hs : RefAt w p L F) (hop : 5 ≤ op ∧ op ≤ 255)
   (hl : ∀ a ∈ l, i64 a) (hll : l.length ≤ 100000) (hB : IntsAt w B l) (hc : B = none → c = 0) (hF : ∀ ad, B = some ad → ¬ F.m ad.block) :
   Calls Try.prog 52 #[.pointer (some ⟨p, 0, none⟩), .int .u8 op, .int .i64 no, .slice B l.length c] w (MadeR w p F (manyP L op no l)) := by
  have HS := Pk.mk hs
  have HL := Pk.mk hl
  have HB0 := Pk.mk hB
  have HC := Pk.mk hc
  have HF := Pk.mk hF
  clear hs hl hB hc hF
  go_enter Try.func52, Try.ntmps52
  go_wp2_with fail
  refine (rthere_st p c L F _ l _ (by omega) HS.out HB0.out).mono ?_
  rintro e w1 ⟨rfl, hb⟩
  have HB := Pk.mk hb
  clear hb
  by_cases hr : thereB L.length l = true
  · rw [hr]
    have HR := Pk.mk hr
    clear hr
    by_cases h20 : 2000 < l.length
    · have HP : Pk (manyP L op no l = (L, 0, 3)) := Pk.mk (by simp [manyP, HR.out, h20])
      go_wp2
      go_ret2
      exact MadeR.same HS.out HB.out HP.out
    · go_wp2_with fail
      refine (rof_st 0 p c L F _ l _ (by omega) (HS.out.below HB.out) (HB0.out.below HB.out) HR.out).mono ?_
      rintro e w2 ⟨rfl, hb2⟩
      have HB2 := Pk.mk (below_then HB.out hb2)
      clear hb2
      by_cases ho : ofB L 0 l = true
      · rw [ho]
        have HO := Pk.mk ho
        clear ho
        rcases l with _ | ⟨x, _ | ⟨y, r⟩⟩
        · have HP : Pk (manyP L op no [] = (L, no, 0)) := Pk.mk (by simp [manyP, HR.out, HO.out])
          go_wp2
          go_ret2
          exact MadeR.same HS.out HB2.out HP.out
        · have HP : Pk (manyP L op no [x] = (L, x, 0)) := Pk.mk (by simp [manyP, HR.out, HO.out])
          obtain ⟨ad, rfl, hca⟩ := (HB0.out.below HB2.out) 0 x rfl
          rw [add_zero_] at hca
          go_wp2
          go_ret2
          exact MadeR.same HS.out HB2.out HP.out
        · have HP : Pk (manyP L op no (x :: y :: r) = putP L ⟨op, 0, 0, 0, x :: y :: r⟩) := Pk.mk (by
            simp only [manyP, HR.out, HO.out]
            rw [if_neg (by simp), if_neg h20, if_neg (by simp)])
          have hl2 : 2 ≤ (x :: y :: r).length := by simp
          have e0 : (((x :: y :: r).length : Int) == 0) = false := by simp; omega
          have e1 : (((x :: y :: r).length : Int) == 1) = false := by simp; omega
          generalize hlr : x :: y :: r = l' at *
          go_wp2_with fail
          refine (rput_st p c L F ⟨op, 0, 0, 0, l'⟩ B _ (HS.out.below HB2.out) (NdOk.mk' (by omega) i64_0 bnd_0 i64_0 HL.out hll (by omega)) (HB0.out.below HB2.out) HF.out HC.out).mono ?_
          rintro e w3 ⟨F', rfl, hst, hup⟩
          have HST := Pk.mk hst
          have HUP := Pk.mk hup
          clear hst hup
          go_wp2
          go_ret2
          exact MadeR.after HB2.out HP.out HST.out HUP.out
      · have HP : Pk (manyP L op no l = (L, 0, 60)) := Pk.mk (by simp [manyP, HR.out, h20, ho])
        rw [Bool.not_eq_true] at ho
        rw [ho]
        clear ho
        go_wp2
        go_ret2
        exact MadeR.same HS.out HB2.out HP.out
  · have HP : Pk (manyP L op no l = (L, 0, 7)) := Pk.mk (by simp [manyP, hr])
    rw [Bool.not_eq_true] at hr
    rw [hr]
    clear hr
    go_wp2
    go_ret2
    exact MadeR.same HS.out HB.out HP.out

theorem rand_st (l : List Int) (B : Option Addr) (c p : Nat) (L : List Nd) (F : Foot) (w : World) (hs : RefAt w p L F)
   (hl : ∀ a ∈ l, i64 a) (hll : l.length ≤ 100000) (hB : IntsAt w B l) (hc : B = none → c = 0) (hF : ∀ ad, B = some ad → ¬ F.m ad.block) :
   Calls Try.prog 24 #[.pointer (some ⟨p, 0, none⟩), .slice B l.length c] w (MadeR w p F (manyP L 10 0 l)) := by
  have H := Pk.mk (rmany_st 10 0 l B c p L F w hs (by omega) hl hll hB hc hF)
  clear hs hl hB hc hF
  go_enter Try.func24, Try.ntmps24
  go_wp2_with fail
  refine H.out.mono ?_
  rintro e w3 ⟨F', rfl, hst, hup⟩
  have HST := Pk.mk hst
  have HUP := Pk.mk hup
  clear hst hup
  go_wp2
  go_ret2
  exact MadeR.after (Below.refl _ _) rfl HST.out HUP.out
theorem ror_st (l : List Int) (B : Option Addr) (c p : Nat) (L : List Nd) (F : Foot) (w : World) (hs : RefAt w p L F)
   (hl : ∀ a ∈ l, i64 a) (hll : l.length ≤ 100000) (hB : IntsAt w B l) (hc : B = none → c = 0) (hF : ∀ ad, B = some ad → ¬ F.m ad.block) :
   Calls Try.prog 26 #[.pointer (some ⟨p, 0, none⟩), .slice B l.length c] w (MadeR w p F (manyP L 11 1 l)) := by
  have H := Pk.mk (rmany_st 11 1 l B c p L F w hs (by omega) hl hll hB hc hF)
  clear hs hl hB hc hF
  go_enter Try.func26, Try.ntmps26
  go_wp2_with fail
  refine H.out.mono ?_
  rintro e w3 ⟨F', rfl, hst, hup⟩
  have HST := Pk.mk hst
  have HUP := Pk.mk hup
  clear hst hup
  go_wp2
  go_ret2
  exact MadeR.after (Below.refl _ _) rfl HST.out HUP.out

set_option maxHeartbeats 2000000 in
theorem rnum_st (n : Int) (p : Nat) (L : List Nd) (F : Foot) (w : World) (hs : RefAt w p L F) (hn : i64 n) :
   Calls Try.prog 33 #[.pointer (some ⟨p, 0, none⟩), .int .i64 n] w (MadeR w p F (numP L n)) := by
  have HS := Pk.mk hs
  have HI := Pk.mk hn
  clear hs hn
  go_enter Try.func33, Try.ntmps33
  go_wp2_with fail
  refine (rbound_ok n _).mono ?_
  rintro e w1 ⟨rfl, rfl⟩
  by_cases hb : boundB n = true
  · have HBN : Pk (bnd n) := Pk.mk (by simpa [boundB, bnd] using hb)
    have HP : Pk (numP L n = putP L ⟨3, 0, n, 1, []⟩) := Pk.mk (by simp [numP, hb])
    rw [hb]
    clear hb
    go_wp2_with fail
    refine (rput_st p 0 L F ⟨3, 0, n, 1, []⟩ none _ HS.out (NdOk.mk' (by omega) i64_0 HBN.out ⟨by omega, by omega⟩ (by simp) (by simp) (by omega)) (IntsAt.nil _ _) (by simp) (by simp)).mono ?_
    rintro e w3 ⟨F', rfl, hst, hup⟩
    have HST := Pk.mk hst
    have HUP := Pk.mk hup
    clear hst hup
    go_wp2
    go_ret2
    exact MadeR.after (Below.refl _ _) HP.out HST.out HUP.out
  · have HP : Pk (numP L n = (L, 0, 6)) := Pk.mk (by simp [numP, hb])
    rw [Bool.not_eq_true] at hb
    rw [hb]
    clear hb
    go_wp2
    go_ret2
    exact MadeR.same HS.out (Below.refl _ _) HP.out

set_option maxHeartbeats 2000000 in
theorem rapp_st (fn sort : Int) (l : List Int) (B : Option Addr) (c p : Nat) (L : List Nd) (F : Foot) (w : World) (hs : RefAt w p L F) (hfn : i64 fn) (hso : i64 sort)
   (hl : ∀ a ∈ l, i64 a) (hll : l.length ≤ 100000) (hB : IntsAt w B l) (hc : B = none → c = 0) (hF : ∀ ad, B = some ad → ¬ F.m ad.block) :
   Calls Try.prog 31 #[.pointer (some ⟨p, 0, none⟩), .int .i64 fn, .int .i64 sort, .slice B l.length c] w (MadeR w p F (appP L fn sort l)) := by
  have HS := Pk.mk hs
  have HI := Pk.mk hfn
  have HJ := Pk.mk hso
  have HL := Pk.mk hl
  have HB0 := Pk.mk hB
  have HC := Pk.mk hc
  have HF := Pk.mk hF
  clear hs hfn hso hl hB hc hF
  by_cases hneg : fn < 0 ∨ sort < 0
  · have HP : Pk (appP L fn sort l = (L, 0, 2)) := Pk.mk (by simp [appP, hneg])
    by_cases hf0 : fn < 0
    · have d1 : decide (fn < 0) = true := decide_eq_true hf0
      clear hneg hf0
      go_enter Try.func31, Try.ntmps31
      go_wp2
      go_ret2
      exact MadeR.same HS.out (Below.refl _ _) HP.out
    · have d1 : decide (fn < 0) = false := decide_eq_false hf0
      have d2 : decide (sort < 0) = true := decide_eq_true (by omega)
      clear hneg hf0
      go_enter Try.func31, Try.ntmps31
      go_wp2
      go_ret2
      exact MadeR.same HS.out (Below.refl _ _) HP.out
  · have d1 : decide (fn < 0) = false := decide_eq_false (by omega)
    have d2 : decide (sort < 0) = false := decide_eq_false (by omega)
    have HNG := Pk.mk hneg
    clear hneg
    go_enter Try.func31, Try.ntmps31
    go_wp2_with fail
    refine (rthere_st p c L F _ l _ (by omega) HS.out HB0.out).mono ?_
    rintro e w1 ⟨rfl, hb⟩
    have HB := Pk.mk hb
    clear hb
    by_cases hr : thereB L.length l = true
    · rw [hr]
      by_cases h20 : 20 < l.length
      · have HP : Pk (appP L fn sort l = (L, 0, 3)) := Pk.mk (by simp [appP, HNG.out, hr, h20])
        clear hr
        go_wp2
        go_ret2
        exact MadeR.same HS.out HB.out HP.out
      · have HP : Pk (appP L fn sort l = putP L ⟨5, fn, 0, sort, l⟩) := Pk.mk (by simp [appP, HNG.out, hr, h20])
        clear hr
        go_wp2_with fail
        refine (rput_st p c L F ⟨5, fn, 0, sort, l⟩ B _ (HS.out.below HB.out) (NdOk.mk' (by omega) HI.out bnd_0 HJ.out HL.out hll (by omega)) (HB0.out.below HB.out) HF.out HC.out).mono ?_
        rintro e w3 ⟨F', rfl, hst, hup⟩
        have HST := Pk.mk hst
        have HUP := Pk.mk hup
        clear hst hup
        go_wp2
        go_ret2
        exact MadeR.after HB.out HP.out HST.out HUP.out
    · have HP : Pk (appP L fn sort l = (L, 0, 7)) := Pk.mk (by simp [appP, HNG.out, hr])
      rw [Bool.not_eq_true] at hr
      rw [hr]
      clear hr
      go_wp2
      go_ret2
      exact MadeR.same HS.out HB.out HP.out
end Go.Proofs.Ytpkegeblfdlibaa
