/- Walks of Plus, Le. -/
import Derived.Test.YtpkegeblfdlibaaWalk7
namespace Go.Proofs.Ytpkegeblfdlibaa
open Go Go.RowKit
set_option linter.unusedVariables false
set_option linter.unusedSimpArgs false

theorem StoreAt.node_ok {w : World} {p : Nat} {L : List Nd} {F : Foot} {N : Nat} (h : StoreAt w p L F N) : ∀ nd ∈ L, NdOk nd := by
  obtain ⟨⟨v, mt, ml, cs, T, ft, fl, h1, h2, h3, h4, h5, h6, h7, h8, r⟩, hlt, hsep, hlen⟩ := h
  exact h8.ok
theorem split_bnd {L : List Nd} (h : ∀ nd ∈ L, NdOk nd) {a b o e : Int} (ha : i64 a) (hs : splitP L a = (b, o, e)) : i64 b ∧ bnd o := by
  unfold splitP at hs
  split at hs
  · simp only [Prod.mk.injEq] at hs; obtain ⟨rfl, rfl, _⟩ := hs; exact ⟨i64_0, bnd_0⟩
  · rename_i ht
    have hm : nodeAt L a ∈ L := by
      simp only [Bool.not_eq_false] at ht
      have := there_mem ht (x := a) (by simp)
      have hl : a.toNat < L.length := by omega
      simp [nodeAt, List.getD_eq_getElem?_getD, hl]
    have hok := h _ hm
    split at hs
    · simp only [Prod.mk.injEq] at hs; obtain ⟨rfl, rfl, _⟩ := hs; exact ⟨i64_0, bnd_0⟩
    · split at hs
      · simp only [Prod.mk.injEq] at hs; obtain ⟨rfl, rfl, _⟩ := hs; exact ⟨⟨by omega, by omega⟩, hok.num⟩
      · split at hs
        · rename_i h4
          simp only [Prod.mk.injEq] at hs; obtain ⟨rfl, rfl, _⟩ := hs
          refine ⟨?_, hok.num⟩
          have hne := hok.plus h4
          rcases hx : (nodeAt L a).args with _ | ⟨y, r⟩
          · exact absurd hx hne
          · have : argAt (nodeAt L a) 0 = y := by simp [argAt, hx]
            rw [this]; exact hok.args y (by rw [hx]; simp)
        · simp only [Prod.mk.injEq] at hs; obtain ⟨rfl, rfl, _⟩ := hs; exact ⟨ha, bnd_0⟩

set_option maxHeartbeats 4000000 in
theorem plus_st (a n : Int) (p : Nat) (L : List Nd) (F : Foot) (N : Nat) (w : World) (hs : StoreAt w p L F N) (hN : N ≤ 1000000000000) (ha : i64 a) (hn : i64 n) :
   Calls Try.prog 18 #[.pointer (some ⟨p, 0, none⟩), .int .i64 a, .int .i64 n] w (Made w p F N (plusP L a n)) := by
  have HS := Pk.mk hs
  have HLT := Pk.mk hs.lt
  obtain ⟨bs, of, er, hsp⟩ : ∃ b o e, splitP L a = (b, o, e) := ⟨_, _, _, rfl⟩
  have HSP := Pk.mk hsp
  obtain ⟨hbs, ho1, ho2⟩ := split_bnd hs.node_ok ha hsp
  have HBS := Pk.mk hbs
  have HN0 := Pk.mk hn
  clear hs ha hn hsp hbs
  go_enter Try.func18, Try.ntmps18
  go_wp2_with fail
  refine (split_st a p L F N _ HS.out).mono ?_
  rintro e w1 ⟨rfl, hb⟩
  rw [HSP.out]
  have HB := Pk.mk hb
  clear hb
  unfold SplitE
  by_cases he : er = 0
  · subst he
    go_wp2_with fail
    refine (bound_ok n _).mono ?_
    rintro e w1 ⟨rfl, rfl⟩
    by_cases hb : boundB n = true
    · have hb12 : -4611686018427387903 ≤ n ∧ n ≤ 4611686018427387903 := by simpa [boundB] using hb
      obtain ⟨hb1, hb2⟩ := hb12
      have HBN := Pk.mk hb
      rw [hb]
      clear hb
      go_wp2_with fail
      refine (bound_ok (of + n) _).mono ?_
      rintro e w1 ⟨rfl, rfl⟩
      by_cases hb : boundB (of + n) = true
      · have HBO := Pk.mk hb
        have HBD : Pk (bnd (of + n)) := Pk.mk (by simpa [boundB, bnd] using hb)
        rw [hb]
        clear hb
        by_cases hz : bs = 2
        · have hzb : (bs == 2) = true := by simp [hz]
          have HP : Pk (plusP L a n = numP L (of + n)) := Pk.mk (by simp [plusP, HSP.out, HBN.out, HBO.out, hz])
          clear hz
          go_wp2_with fail
          refine (num_st (of + n) p L F N _ (HS.out.below HB.out) hN ⟨by omega, by omega⟩).mono ?_
          rintro e w3 ⟨F', rfl, hst, hup⟩
          have HST := Pk.mk hst
          have HUP := Pk.mk hup
          clear hst hup
          go_wp2
          go_ret2
          exact Made.after HB.out HP.out HST.out HUP.out
        · have hzb : (bs == 2) = false := by simp [hz]
          by_cases hy : of + n = 0
          · have hyb : (of + n == 0) = true := by simp [hy]
            have HP : Pk (plusP L a n = (L, bs, 0)) := Pk.mk (by
              have h0 := HBO.out
              rw [hy] at h0
              simp [plusP, HSP.out, HBN.out, hz, hy, h0])
            clear hz hy
            go_wp2
            go_ret2
            exact Made.same HS.out HB.out HP.out
          · have hyb : (of + n == 0) = false := by simp [hy]
            have HP : Pk (plusP L a n = putP L ⟨4, 0, of + n, 1, [bs]⟩) := Pk.mk (by simp [plusP, HSP.out, HBN.out, HBO.out, hz, hy])
            clear hz hy
            go_wp2_with fail
            refine (put_st p 1 L F N ⟨4, 0, of + n, 1, [bs]⟩ _ _ ((HS.out.below HB.out).below (below_alloc _ _)) (NdOk.mk' (by omega) i64_0 HBD.out ⟨by omega, by omega⟩ (by simp; exact HBS.out) (by simp) (by simp)) hN (ints_new _ _ _ [bs] _ rfl) (by simp) ?_).mono ?_
            · rintro ad h hf
              cases h
              have := HLT.out _ (.inl hf)
              have := HB.out.size
              simp at *
              omega
            rintro e w3 ⟨F', rfl, hst, hup⟩
            have HST := Pk.mk hst
            have HUP := Pk.mk hup
            clear hst hup
            go_wp2
            go_ret2
            exact Made.after (below_then HB.out (below_alloc _ _)) HP.out HST.out HUP.out
      · have HP : Pk (plusP L a n = (L, 0, 6)) := Pk.mk (by simp [plusP, HSP.out, hb])
        rw [Bool.not_eq_true] at hb
        rw [hb]
        clear hb
        go_wp2
        go_ret2
        exact Made.same HS.out HB.out HP.out
    · have HP : Pk (plusP L a n = (L, 0, 6)) := Pk.mk (by simp [plusP, HSP.out, hb])
      rw [Bool.not_eq_true] at hb
      rw [hb]
      clear hb
      go_wp2
      go_ret2
      exact Made.same HS.out HB.out HP.out
  · have heb : (er != 0) = true := by simp [he]
    have HP : Pk (plusP L a n = (L, 0, er)) := Pk.mk (by simp [plusP, HSP.out, he])
    clear he
    go_wp2
    go_ret2
    exact Made.same HS.out HB.out HP.out

set_option maxHeartbeats 4000000 in
theorem le_st (a b n : Int) (p : Nat) (L : List Nd) (F : Foot) (N : Nat) (w : World) (hs : StoreAt w p L F N) (hN : N ≤ 1000000000000) (ha : i64 a) (hb : i64 b) (hn : i64 n) :
   Calls Try.prog 19 #[.pointer (some ⟨p, 0, none⟩), .int .i64 a, .int .i64 b, .int .i64 n] w (Made w p F N (leP L a b n)) := by
  have HS := Pk.mk hs
  have HLT := Pk.mk hs.lt
  obtain ⟨x, po, er, hsp⟩ : ∃ b' o e, splitP L a = (b', o, e) := ⟨_, _, _, rfl⟩
  have HSP := Pk.mk hsp
  obtain ⟨hbs, ho1, ho2⟩ := split_bnd hs.node_ok ha hsp
  obtain ⟨y, qo, fr, hsq⟩ : ∃ b' o e, splitP L b = (b', o, e) := ⟨_, _, _, rfl⟩
  have HSQ := Pk.mk hsq
  obtain ⟨hbt, hq1, hq2⟩ := split_bnd hs.node_ok hb hsq
  have HX := Pk.mk hbs
  have HY := Pk.mk hbt
  have HN0 := Pk.mk hn
  clear hs ha hb hn hsp hbs hsq hbt
  go_enter Try.func19, Try.ntmps19
  go_wp2_with fail
  refine (there_st p 2 L F N _ [a, b] _ (by simp) (HS.out.below (below_alloc _ _)) (ints_new _ _ _ [a, b] _ rfl)).mono ?_
  rintro e w1 ⟨rfl, hb⟩
  have HB := Pk.mk (below_then (below_alloc w _) hb)
  clear hb
  by_cases hr : thereB L.length [a, b] = true
  · rw [thereE_yes hr]
    have HR := Pk.mk hr
    clear hr
    go_wp2_with fail
    refine (split_st a p L F N _ (HS.out.below HB.out)).mono ?_
    rintro e w2 ⟨rfl, hb2⟩
    rw [HSP.out]
    unfold SplitE
    have HB2 := Pk.mk (below_then HB.out hb2)
    clear hb2
    go_wp2_with fail
    refine (split_st b p L F N _ (HS.out.below HB2.out)).mono ?_
    rintro e w3 ⟨rfl, hb3⟩
    rw [HSQ.out]
    unfold SplitE
    have HB3 := Pk.mk (below_then HB2.out hb3)
    clear hb3
    by_cases he : er = 0
    · by_cases hf : fr = 0
      · subst he hf
        go_wp2_with fail
        refine (add_ok n (qo - po) _ HN0.out ⟨by omega, by omega⟩).mono ?_
        rintro e w4 ⟨rfl, rfl⟩
        go_wp2_with fail
        refine (bound_ok n _).mono ?_
        rintro e w4 ⟨rfl, rfl⟩
        by_cases hb : boundB n = true
        · have hb12 : -4611686018427387903 ≤ n ∧ n ≤ 4611686018427387903 := by simpa [boundB] using hb
          have HBN := Pk.mk hb
          rw [hb]
          clear hb
          by_cases hok : addO n (qo - po) = true
          · have hv : addV n (qo - po) = n + (qo - po) := by simp [addO] at hok; simp [addV, hok]
            rw [hok, hv]
            clear hok hv
            go_wp2_with fail
            refine (bound_ok (n + (qo - po)) _).mono ?_
            rintro e w4 ⟨rfl, rfl⟩
            by_cases hb : boundB (n + (qo - po)) = true
            · have HBO := Pk.mk hb
              have HBD : Pk (bnd (n + (qo - po))) := Pk.mk (by simpa [boundB, bnd] using hb)
              rw [hb]
              clear hb
              generalize hcv : n + (qo - po) = cv at *
              have HCV := Pk.mk hcv
              clear hcv
              by_cases hxy : x = y
              · have hxyb : (x == y) = true := by simp [hxy]
                by_cases hc : 0 ≤ cv
                · have hcb : decide (0 ≤ cv) = true := decide_eq_true hc
                  have HP : Pk (leP L a b n = (L, 0, 0)) := Pk.mk (by simp [leP, HR.out, HSP.out, HSQ.out, HBN.out, HCV.out, HBO.out, hxy, hc])
                  clear hxy hc
                  go_wp2
                  go_ret2
                  exact Made.same HS.out HB3.out HP.out
                · have hcb : decide (0 ≤ cv) = false := decide_eq_false hc
                  have HP : Pk (leP L a b n = (L, 1, 0)) := Pk.mk (by simp [leP, HR.out, HSP.out, HSQ.out, HBN.out, HCV.out, HBO.out, hxy]; omega)
                  clear hxy hc
                  go_wp2
                  go_ret2
                  exact Made.same HS.out HB3.out HP.out
              · have hxyb : (x == y) = false := by simp [hxy]
                have HP : Pk (leP L a b n = putP L ⟨8, 0, cv, 0, [x, y]⟩) := Pk.mk (by simp [leP, HR.out, HSP.out, HSQ.out, HBN.out, HCV.out, HBO.out, hxy])
                clear hxy
                go_wp2_with fail
                refine (put_st p 2 L F N ⟨8, 0, cv, 0, [x, y]⟩ _ _ ((HS.out.below HB3.out).below (below_alloc _ _)) (NdOk.mk' (by omega) i64_0 HBD.out i64_0 (by simp; exact ⟨HX.out, HY.out⟩) (by simp) (by omega)) hN (ints_new _ _ _ [x, y] _ rfl) (by simp) ?_).mono ?_
                · rintro ad h hf
                  cases h
                  have := HLT.out _ (.inl hf)
                  have := HB3.out.size
                  simp at *
                  omega
                rintro e w5 ⟨F', rfl, hst, hup⟩
                have HST := Pk.mk hst
                have HUP := Pk.mk hup
                clear hst hup
                go_wp2
                go_ret2
                exact Made.after (below_then HB3.out (below_alloc _ _)) HP.out HST.out HUP.out
            · have HP : Pk (leP L a b n = (L, 0, 6)) := Pk.mk (by simp [leP, HR.out, HSP.out, HSQ.out, hb])
              rw [Bool.not_eq_true] at hb
              rw [hb]
              clear hb
              go_wp2
              go_ret2
              exact Made.same HS.out HB3.out HP.out
          · have hb : ¬ boundB (n + (qo - po)) = true := by
              simp [addO] at hok; simp [boundB]; omega
            have HP : Pk (leP L a b n = (L, 0, 6)) := Pk.mk (by simp [leP, HR.out, HSP.out, HSQ.out, hb])
            rw [Bool.not_eq_true] at hok
            rw [hok]
            clear hok hb
            go_wp2
            go_ret2
            exact Made.same HS.out HB3.out HP.out
        · have HP : Pk (leP L a b n = (L, 0, 6)) := Pk.mk (by simp [leP, HR.out, HSP.out, HSQ.out, hb])
          rw [Bool.not_eq_true] at hb
          rw [hb]
          clear hb
          go_wp2
          go_ret2
          exact Made.same HS.out HB3.out HP.out
      · have hfb : (fr != 0) = true := by simp [hf]
        have heb : (er != 0) = false := by simp [he]
        have HP : Pk (leP L a b n = (L, 0, 60)) := Pk.mk (by simp [leP, HR.out, HSP.out, HSQ.out, hf])
        clear hf he
        go_wp2
        go_ret2
        exact Made.same HS.out HB3.out HP.out
    · have heb : (er != 0) = true := by simp [he]
      have HP : Pk (leP L a b n = (L, 0, 60)) := Pk.mk (by simp [leP, HR.out, HSP.out, HSQ.out, he])
      clear he
      go_wp2
      go_ret2
      exact Made.same HS.out HB3.out HP.out
  · have HP : Pk (leP L a b n = (L, 0, 7)) := Pk.mk (by simp [leP, hr])
    rw [thereE_no hr]
    clear hr
    go_wp2
    go_ret2
    exact Made.same HS.out HB.out HP.out
end Go.Proofs.Ytpkegeblfdlibaa
