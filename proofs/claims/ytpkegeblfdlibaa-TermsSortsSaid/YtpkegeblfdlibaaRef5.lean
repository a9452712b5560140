/- Walk of the reference's Le. -/
import Derived.Test.YtpkegeblfdlibaaRef4
namespace Go.Proofs.Ytpkegeblfdlibaa
open Go Go.RowKit
set_option linter.unusedVariables false
set_option linter.unusedSimpArgs false

theorem tdiv4 (x : Int) (h : -4611686018427387903 ≤ x ∧ x ≤ 4611686018427387903) : (-1152921504606846976 ≤ x.tdiv 4 ∧ x.tdiv 4 ≤ 1152921504606846976) ∧ (-3 ≤ x.tmod 4 ∧ x.tmod 4 ≤ 3) ∧ x.tdiv 4 * 4 + x.tmod 4 = x := by
  have e := Int.mul_tdiv_add_tmod x 4
  have h1 : x.tmod 4 < 4 := Int.tmod_lt_of_pos x (by omega)
  have h2 : -4 < x.tmod 4 := by
    have := Int.lt_tmod_of_pos x (b := 4) (by omega)
    omega
  omega

set_option maxHeartbeats 4000000 in
set_option maxRecDepth 100000 in
theorem rle_st (a b n : Int) (p : Nat) (L : List Nd) (F : Foot) (w : World) (hs : RefAt w p L F) (ha : i64 a) (hb : i64 b) (hn : i64 n) :
   Calls Try.prog 35 #[.pointer (some ⟨p, 0, none⟩), .int .i64 a, .int .i64 b, .int .i64 n] w (MadeR w p F (leP L a b n)) := by
  have HS := Pk.mk hs
  have HLT := Pk.mk hs.lt
  obtain ⟨x, po, er, hsp⟩ : ∃ b' o e, splitP L a = (b', o, e) := ⟨_, _, _, rfl⟩
  have HSP := Pk.mk hsp
  obtain ⟨hbs, ho1, ho2⟩ := split_bnd hs.ok ha hsp
  obtain ⟨y, qo, fr, hsq⟩ : ∃ b' o e, splitP L b = (b', o, e) := ⟨_, _, _, rfl⟩
  have HSQ := Pk.mk hsq
  obtain ⟨hbt, hq1, hq2⟩ := split_bnd hs.ok hb hsq
  have HX := Pk.mk hbs
  have HY := Pk.mk hbt
  have HN0 := Pk.mk hn
  clear hs ha hb hn hsp hbs hsq hbt
  go_enter Try.func35, Try.ntmps35
  go_wp2_with fail
  refine (rthere_st p 2 L F _ [a, b] _ (by simp) (HS.out.below (below_alloc _ _)) (ints_new _ _ _ [a, b] _ rfl)).mono ?_
  rintro e w1 ⟨rfl, hb⟩
  have HB := Pk.mk (below_then (below_alloc w _) hb)
  clear hb
  by_cases hr : thereB L.length [a, b] = true
  · rw [hr]
    have HR := Pk.mk hr
    clear hr
    go_wp2_with fail
    refine (rsplit_st a p L F _ (HS.out.below HB.out)).mono ?_
    rintro e w2 ⟨rfl, hb2⟩
    rw [HSP.out]
    unfold SplitE
    have HB2 := Pk.mk (below_then HB.out hb2)
    clear hb2
    go_wp2_with fail
    refine (rsplit_st b p L F _ (HS.out.below HB2.out)).mono ?_
    rintro e w3 ⟨rfl, hb3⟩
    rw [HSQ.out]
    unfold SplitE
    have HB3 := Pk.mk (below_then HB2.out hb3)
    clear hb3
    by_cases he : er = 0
    · by_cases hf : fr = 0
      · subst he hf
        go_wp2_with fail
        refine (rbound_ok n _).mono ?_
        rintro e w4 ⟨rfl, rfl⟩
        by_cases hb : boundB n = true
        · have hb12 : -4611686018427387903 ≤ n ∧ n ≤ 4611686018427387903 := by simpa [boundB] using hb
          have HBN := Pk.mk hb
          rw [hb]
          clear hb
          obtain ⟨⟨n1, n2⟩, ⟨n3, n4⟩, n5⟩ := tdiv4 n hb12
          obtain ⟨⟨p1, p2⟩, ⟨p3, p4⟩, p5⟩ := tdiv4 po ⟨ho1, ho2⟩
          obtain ⟨⟨q1, q2⟩, ⟨q3, q4⟩, q5⟩ := tdiv4 qo ⟨hq1, hq2⟩
          obtain ⟨hb1, hb2⟩ := hb12
          have HCV : Pk ((n.tdiv 4 - po.tdiv 4 + qo.tdiv 4) * 4 + (n.tmod 4 - po.tmod 4 + qo.tmod 4) = n + (qo - po)) := Pk.mk (by omega)
          clear n5 p5 q5
          by_cases hlo : n.tdiv 4 - po.tdiv 4 + qo.tdiv 4 < -1152921504606846980
          · have d1 : decide (n.tdiv 4 - po.tdiv 4 + qo.tdiv 4 < -1152921504606846980) = true := decide_eq_true hlo
            have HP : Pk (leP L a b n = (L, 0, 6)) := Pk.mk (by
              have hb : boundB (n + (qo - po)) = false := by rw [← HCV.out]; simp [boundB]; omega
              simp [leP, HR.out, HSP.out, HSQ.out, hb])
            clear hlo
            go_wp2
            go_ret2
            exact MadeR.same HS.out HB3.out HP.out
          · have d1 : decide (n.tdiv 4 - po.tdiv 4 + qo.tdiv 4 < -1152921504606846980) = false := decide_eq_false hlo
            by_cases hhi : 1152921504606846980 < n.tdiv 4 - po.tdiv 4 + qo.tdiv 4
            · have d2 : decide (1152921504606846980 < n.tdiv 4 - po.tdiv 4 + qo.tdiv 4) = true := decide_eq_true hhi
              have HP : Pk (leP L a b n = (L, 0, 6)) := Pk.mk (by
                have hb : boundB (n + (qo - po)) = false := by rw [← HCV.out]; simp [boundB]; omega
                simp [leP, HR.out, HSP.out, HSQ.out, hb])
              clear hhi hlo
              go_wp2
              go_ret2
              exact MadeR.same HS.out HB3.out HP.out
            · have d2 : decide (1152921504606846980 < n.tdiv 4 - po.tdiv 4 + qo.tdiv 4) = false := decide_eq_false hhi
              go_wp2_with fail
              refine (rbound_ok ((n.tdiv 4 - po.tdiv 4 + qo.tdiv 4) * 4 + (n.tmod 4 - po.tmod 4 + qo.tmod 4)) _).mono ?_
              rintro e w4 ⟨rfl, rfl⟩
              by_cases hb : boundB ((n.tdiv 4 - po.tdiv 4 + qo.tdiv 4) * 4 + (n.tmod 4 - po.tmod 4 + qo.tmod 4)) = true
              · have HBO : Pk (boundB (n + (qo - po)) = true) := Pk.mk (by rw [← HCV.out]; exact hb)
                have HBD : Pk (bnd (n + (qo - po))) := Pk.mk (by have := HBO.out; simpa [boundB, bnd] using this)
                rw [hb]
                clear hb
                by_cases hxy : x = y
                · have hxyb : (x == y) = true := by simp [hxy]
                  by_cases hc : 0 ≤ (n.tdiv 4 - po.tdiv 4 + qo.tdiv 4) * 4 + (n.tmod 4 - po.tmod 4 + qo.tmod 4)
                  · have hcb : decide (0 ≤ (n.tdiv 4 - po.tdiv 4 + qo.tdiv 4) * 4 + (n.tmod 4 - po.tmod 4 + qo.tmod 4)) = true := decide_eq_true hc
                    have HP : Pk (leP L a b n = (L, 0, 0)) := Pk.mk (by
                      rw [HCV.out] at hc
                      simp [leP, HR.out, HSP.out, HSQ.out, HBN.out, HBO.out, hxy, hc])
                    clear hxy hc
                    go_wp2
                    go_ret2
                    exact MadeR.same HS.out HB3.out HP.out
                  · have hcb : decide (0 ≤ (n.tdiv 4 - po.tdiv 4 + qo.tdiv 4) * 4 + (n.tmod 4 - po.tmod 4 + qo.tmod 4)) = false := decide_eq_false hc
                    have HP : Pk (leP L a b n = (L, 1, 0)) := Pk.mk (by
                      rw [HCV.out] at hc
                      simp [leP, HR.out, HSP.out, HSQ.out, HBN.out, HBO.out, hxy]; omega)
                    clear hxy hc
                    go_wp2
                    go_ret2
                    exact MadeR.same HS.out HB3.out HP.out
                · have hxyb : (x == y) = false := by simp [hxy]
                  have HP : Pk (leP L a b n = putP L ⟨8, 0, (n.tdiv 4 - po.tdiv 4 + qo.tdiv 4) * 4 + (n.tmod 4 - po.tmod 4 + qo.tmod 4), 0, [x, y]⟩) := Pk.mk (by
                    rw [HCV.out]
                    simp [leP, HR.out, HSP.out, HSQ.out, HBN.out, HBO.out, hxy])
                  clear hxy
                  go_wp2_with fail
                  refine (rput_st p 2 L F ⟨8, 0, (n.tdiv 4 - po.tdiv 4 + qo.tdiv 4) * 4 + (n.tmod 4 - po.tmod 4 + qo.tmod 4), 0, [x, y]⟩ _ _ ((HS.out.below HB3.out).below (below_alloc _ _)) (NdOk.mk' (by omega) i64_0 (by rw [HCV.out]; exact HBD.out) i64_0 (by simp; exact ⟨HX.out, HY.out⟩) (by simp) (by omega)) (ints_new _ _ _ [x, y] _ rfl) ?_ (by simp)).mono ?_
                  · rintro ad h hf
                    cases h
                    have := HLT.out _ (.inl hf)
                    have := HB3.out.size
                    simp at *
                    omega
                  rintro e w5 ⟨F', rfl, hst, hup⟩
                  have HST := Pk.mk hst
                  have HUP := Pk.mk hup
                  clear hst hup
                  go_wp2
                  go_ret2
                  exact MadeR.after (below_then HB3.out (below_alloc _ _)) HP.out HST.out HUP.out
              · have HP : Pk (leP L a b n = (L, 0, 6)) := Pk.mk (by
                  rw [HCV.out] at hb
                  simp [leP, HR.out, HSP.out, HSQ.out, hb])
                rw [Bool.not_eq_true] at hb
                rw [hb]
                clear hb
                go_wp2
                go_ret2
                exact MadeR.same HS.out HB3.out HP.out
        · have HP : Pk (leP L a b n = (L, 0, 6)) := Pk.mk (by simp [leP, HR.out, HSP.out, HSQ.out, hb])
          rw [Bool.not_eq_true] at hb
          rw [hb]
          clear hb
          go_wp2
          go_ret2
          exact MadeR.same HS.out HB3.out HP.out
      · have hfb : (fr != 0) = true := by simp [hf]
        have heb : (er != 0) = false := by simp [he]
        have HP : Pk (leP L a b n = (L, 0, 60)) := Pk.mk (by simp [leP, HR.out, HSP.out, HSQ.out, hf])
        clear hf he
        go_wp2
        go_ret2
        exact MadeR.same HS.out HB3.out HP.out
    · have heb : (er != 0) = true := by simp [he]
      have HP : Pk (leP L a b n = (L, 0, 60)) := Pk.mk (by simp [leP, HR.out, HSP.out, HSQ.out, he])
      clear he
      go_wp2
      go_ret2
      exact MadeR.same HS.out HB3.out HP.out
  · have HP : Pk (leP L a b n = (L, 0, 7)) := Pk.mk (by simp [leP, hr])
    rw [Bool.not_eq_true] at hr
    rw [hr]
    clear hr
    go_wp2
    go_ret2
    exact MadeR.same HS.out HB.out HP.out
end Go.Proofs.Ytpkegeblfdlibaa
