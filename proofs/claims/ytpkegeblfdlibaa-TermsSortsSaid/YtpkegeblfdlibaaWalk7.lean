/- Walks of Ite, many, And, Or. -/
import Derived.Test.YtpkegeblfdlibaaWalk6
namespace Go.Proofs.Ytpkegeblfdlibaa
open Go Go.RowKit
set_option linter.unusedVariables false
set_option linter.unusedSimpArgs false

set_option maxHeartbeats 4000000 in
theorem ite_st (c a b : Int) (p : Nat) (L : List Nd) (F : Foot) (N : Nat) (w : World) (hs : StoreAt w p L F N) (hN : N ≤ 1000000000000) (hc : i64 c) (ha : i64 a) (hb : i64 b) :
   Calls Try.prog 29 #[.pointer (some ⟨p, 0, none⟩), .int .i64 c, .int .i64 a, .int .i64 b] w (Made w p F N (iteP L c a b)) := by
  have HS := Pk.mk hs
  have HC := Pk.mk hc
  have HI := Pk.mk ha
  have HJ := Pk.mk hb
  have HLT := Pk.mk hs.lt
  clear hs ha hb hc
  go_enter Try.func29, Try.ntmps29
  go_wp2_with fail
  refine (there_st p 3 L F N _ [c, a, b] _ (by simp) (HS.out.below (below_alloc _ _)) (ints_new _ _ _ [c, a, b] _ rfl)).mono ?_
  rintro e w1 ⟨rfl, hb⟩
  have HB := Pk.mk (below_then (below_alloc w _) hb)
  clear hb
  by_cases hr : thereB L.length [c, a, b] = true
  · rw [thereE_yes hr]
    have HR := Pk.mk hr
    obtain ⟨hx0, hx1⟩ := there_mem hr (x := a) (by simp)
    have HRb : Pk (thereB L.length [b] = true) := Pk.mk (by
      have := there_mem hr (x := b) (by simp)
      simp [thereB]; omega)
    have HRc : Pk (thereB L.length [c] = true) := Pk.mk (by
      have := there_mem hr (x := c) (by simp)
      simp [thereB]; omega)
    clear hr
    obtain ⟨g, cap, c0, c3, hp, hg, hxl, hl, hso⟩ := (HS.out.below HB.out).sort_cell hx0 hx1
    have HSO := Pk.mk hso
    clear hso
    go_wp2_with fail
    refine (of_st 0 p 1 L F N _ [c] _ (by simp) ((HS.out.below HB.out).below (below_alloc _ _)) (ints_new _ _ _ [c] _ rfl) HRc.out).mono ?_
    rintro e w2 ⟨rfl, hb2⟩
    have HB2 := Pk.mk (below_then HB.out (below_then (below_alloc w1 _) hb2))
    clear hb2 c0 c3
    by_cases ho : ofB L 0 [c] = true
    · rw [ho]
      have HO := Pk.mk ho
      clear ho
      go_wp2_with fail
      refine (of_st (sortOf L a) p 1 L F N _ [b] _ (by simp) ((HS.out.below HB2.out).below (below_alloc _ _)) (ints_new _ _ _ [b] _ rfl) HRb.out).mono ?_
      rintro e w3 ⟨rfl, hb3⟩
      have HB3 := Pk.mk (below_then HB2.out (below_then (below_alloc w2 _) hb3))
      clear hb3
      by_cases ho : ofB L (sortOf L a) [b] = true
      · have HP : Pk (iteP L c a b = putP L ⟨6, 0, 0, sortOf L a, [c, a, b]⟩) := Pk.mk (by simp [iteP, HR.out, ho, HO.out])
        rw [ho]
        clear ho
        go_wp2_with fail
        refine (put_st p 3 L F N ⟨6, 0, 0, sortOf L a, [c, a, b]⟩ _ _ ((HS.out.below HB3.out).below (below_alloc _ _)) (NdOk.mk' (by omega) i64_0 bnd_0 HSO.out (by simp; exact ⟨HC.out, HI.out, HJ.out⟩) (by simp) (by omega)) hN (ints_new _ _ _ [c, a, b] _ rfl) (by simp) ?_).mono ?_
        · rintro ad h hf
          cases h
          have := HLT.out _ (.inl hf)
          have := HB3.out.size
          simp at *
          omega
        rintro e w3 ⟨F', rfl, hst, hup⟩
        have HST := Pk.mk hst
        have HUP := Pk.mk hup
        clear hst hup
        go_wp2
        go_ret2
        exact Made.after (below_then HB3.out (below_alloc _ _)) HP.out HST.out HUP.out
      · have HP : Pk (iteP L c a b = (L, 0, 60)) := Pk.mk (by simp [iteP, HR.out, ho])
        rw [Bool.not_eq_true] at ho
        rw [ho]
        clear ho
        go_wp2
        go_ret2
        exact Made.same HS.out HB3.out HP.out
    · have HP : Pk (iteP L c a b = (L, 0, 60)) := Pk.mk (by simp [iteP, HR.out, ho])
      rw [Bool.not_eq_true] at ho
      rw [ho]
      clear ho
      go_wp2
      go_ret2
      exact Made.same HS.out HB2.out HP.out
  · have HP : Pk (iteP L c a b = (L, 0, 7)) := Pk.mk (by simp [iteP, hr])
    rw [thereE_no hr]
    clear hr
    go_wp2
    go_ret2
    exact Made.same HS.out HB.out HP.out

set_option maxHeartbeats 4000000 in
theorem many_st (op no : Int) (l : List Int) (B : Option Addr) (c p : Nat) (L : List Nd) (F : Foot) (N : Nat) (w : World) (hs : StoreAt w p L F N) (hN : N ≤ 1000000000000) (hop : 5 ≤ op ∧ op ≤ 255)
   (hl : ∀ a ∈ l, i64 a) (hll : l.length ≤ 100000) (hB : IntsAt w B l) (hc : B = none → c = 0) (hF : ∀ ad, B = some ad → ¬ F.m ad.block) :
   Calls Try.prog 51 #[.pointer (some ⟨p, 0, none⟩), .int .u8 op, .int .i64 no, .slice B l.length c] w (Made w p F N (manyP L op no l)) := by
  have HS := Pk.mk hs
  have HL := Pk.mk hl
  have HB0 := Pk.mk hB
  have HC := Pk.mk hc
  have HF := Pk.mk hF
  clear hs hl hB hc hF
  go_enter Try.func51, Try.ntmps51
  go_wp2_with fail
  refine (there_st p c L F N _ l _ (by omega) HS.out HB0.out).mono ?_
  rintro e w1 ⟨rfl, hb⟩
  have HB := Pk.mk hb
  clear hb
  by_cases hr : thereB L.length l = true
  · rw [thereE_yes hr]
    have HR := Pk.mk hr
    clear hr
    by_cases h20 : 2000 < l.length
    · have HP : Pk (manyP L op no l = (L, 0, 3)) := Pk.mk (by simp [manyP, HR.out, h20])
      go_wp2
      go_ret2
      exact Made.same HS.out HB.out HP.out
    · go_wp2_with fail
      refine (of_st 0 p c L F N _ l _ (by omega) (HS.out.below HB.out) (HB0.out.below HB.out) HR.out).mono ?_
      rintro e w2 ⟨rfl, hb2⟩
      have HB2 := Pk.mk (below_then HB.out hb2)
      clear hb2
      by_cases ho : ofB L 0 l = true
      · rw [ho]
        have HO := Pk.mk ho
        clear ho
        rcases l with _ | ⟨x, _ | ⟨y, r⟩⟩
        · have HP : Pk (manyP L op no [] = (L, no, 0)) := Pk.mk (by simp [manyP, HR.out, HO.out])
          go_wp2
          go_ret2
          exact Made.same HS.out HB2.out HP.out
        · have HP : Pk (manyP L op no [x] = (L, x, 0)) := Pk.mk (by simp [manyP, HR.out, HO.out])
          obtain ⟨ad, rfl, hca⟩ := (HB0.out.below HB2.out) 0 x rfl
          rw [add_zero_] at hca
          go_wp2
          go_ret2
          exact Made.same HS.out HB2.out HP.out
        · have HP : Pk (manyP L op no (x :: y :: r) = putP L ⟨op, 0, 0, 0, x :: y :: r⟩) := Pk.mk (by
            simp only [manyP, HR.out, HO.out]
            rw [if_neg (by simp), if_neg h20, if_neg (by simp)])
          have hl2 : 2 ≤ (x :: y :: r).length := by simp
          have e0 : (((x :: y :: r).length : Int) == 0) = false := by simp; omega
          have e1 : (((x :: y :: r).length : Int) == 1) = false := by simp; omega
          generalize hlr : x :: y :: r = l' at *
          go_wp2_with fail
          refine (put_st p c L F N ⟨op, 0, 0, 0, l'⟩ B _ (HS.out.below HB2.out) (NdOk.mk' (by omega) i64_0 bnd_0 i64_0 HL.out hll (by omega)) hN (HB0.out.below HB2.out) HC.out HF.out).mono ?_
          rintro e w3 ⟨F', rfl, hst, hup⟩
          have HST := Pk.mk hst
          have HUP := Pk.mk hup
          clear hst hup
          go_wp2
          go_ret2
          exact Made.after HB2.out HP.out HST.out HUP.out
      · have HP : Pk (manyP L op no l = (L, 0, 60)) := Pk.mk (by simp [manyP, HR.out, h20, ho])
        rw [Bool.not_eq_true] at ho
        rw [ho]
        clear ho
        go_wp2
        go_ret2
        exact Made.same HS.out HB2.out HP.out
  · have HP : Pk (manyP L op no l = (L, 0, 7)) := Pk.mk (by simp [manyP, hr])
    rw [thereE_no hr]
    clear hr
    go_wp2
    go_ret2
    exact Made.same HS.out HB.out HP.out

theorem and_st (l : List Int) (B : Option Addr) (c p : Nat) (L : List Nd) (F : Foot) (N : Nat) (w : World) (hs : StoreAt w p L F N) (hN : N ≤ 1000000000000)
   (hl : ∀ a ∈ l, i64 a) (hll : l.length ≤ 100000) (hB : IntsAt w B l) (hc : B = none → c = 0) (hF : ∀ ad, B = some ad → ¬ F.m ad.block) :
   Calls Try.prog 23 #[.pointer (some ⟨p, 0, none⟩), .slice B l.length c] w (Made w p F N (manyP L 10 0 l)) := by
  have H := Pk.mk (many_st 10 0 l B c p L F N w hs hN (by omega) hl hll hB hc hF)
  clear hs hl hB hc hF
  go_enter Try.func23, Try.ntmps23
  go_wp2_with fail
  refine H.out.mono ?_
  rintro e w3 ⟨F', rfl, hst, hup⟩
  have HST := Pk.mk hst
  have HUP := Pk.mk hup
  clear hst hup
  go_wp2
  go_ret2
  exact Made.after (Below.refl _ _) rfl HST.out HUP.out
theorem or_st (l : List Int) (B : Option Addr) (c p : Nat) (L : List Nd) (F : Foot) (N : Nat) (w : World) (hs : StoreAt w p L F N) (hN : N ≤ 1000000000000)
   (hl : ∀ a ∈ l, i64 a) (hll : l.length ≤ 100000) (hB : IntsAt w B l) (hc : B = none → c = 0) (hF : ∀ ad, B = some ad → ¬ F.m ad.block) :
   Calls Try.prog 25 #[.pointer (some ⟨p, 0, none⟩), .slice B l.length c] w (Made w p F N (manyP L 11 1 l)) := by
  have H := Pk.mk (many_st 11 1 l B c p L F N w hs hN (by omega) hl hll hB hc hF)
  clear hs hl hB hc hF
  go_enter Try.func25, Try.ntmps25
  go_wp2_with fail
  refine H.out.mono ?_
  rintro e w3 ⟨F', rfl, hst, hup⟩
  have HST := Pk.mk hst
  have HUP := Pk.mk hup
  clear hst hup
  go_wp2
  go_ret2
  exact Made.after (Below.refl _ _) rfl HST.out HUP.out
end Go.Proofs.Ytpkegeblfdlibaa
