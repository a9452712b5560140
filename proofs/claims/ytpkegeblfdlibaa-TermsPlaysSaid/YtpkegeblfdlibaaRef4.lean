/- Walks of the reference's Eq, Ite, Plus, Le. -/
import Derived.Test.YtpkegeblfdlibaaRef3
namespace Go.Proofs.Ytpkegeblfdlibaa
open Go Go.RowKit
set_option linter.unusedVariables false
set_option linter.unusedSimpArgs false

set_option maxHeartbeats 4000000 in
theorem rplus_st (a n : Int) (p : Nat) (L : List Nd) (F : Foot) (w : World) (hs : RefAt w p L F) (ha : i64 a) (hn : i64 n) :
   Calls Try.prog 34 #[.pointer (some ⟨p, 0, none⟩), .int .i64 a, .int .i64 n] w (MadeR w p F (plusP L a n)) := by
  have HS := Pk.mk hs
  have HLT := Pk.mk hs.lt
  obtain ⟨bs, of, er, hsp⟩ : ∃ b o e, splitP L a = (b, o, e) := ⟨_, _, _, rfl⟩
  have HSP := Pk.mk hsp
  obtain ⟨hbs, ho1, ho2⟩ := split_bnd hs.ok ha hsp
  have HBS := Pk.mk hbs
  have HN0 := Pk.mk hn
  clear hs ha hn hsp hbs
  go_enter Try.func34, Try.ntmps34
  go_wp2_with fail
  refine (rsplit_st a p L F _ HS.out).mono ?_
  rintro e w1 ⟨rfl, hb⟩
  rw [HSP.out]
  have HB := Pk.mk hb
  clear hb
  unfold SplitE
  by_cases he : er = 0
  · subst he
    go_wp2_with fail
    refine (rbound_ok n _).mono ?_
    rintro e w1 ⟨rfl, rfl⟩
    by_cases hb : boundB n = true
    · have hb12 : -4611686018427387903 ≤ n ∧ n ≤ 4611686018427387903 := by simpa [boundB] using hb
      obtain ⟨hb1, hb2⟩ := hb12
      have HBN := Pk.mk hb
      rw [hb]
      clear hb
      go_wp2_with fail
      refine (rbound_ok (of + n) _).mono ?_
      rintro e w1 ⟨rfl, rfl⟩
      by_cases hb : boundB (of + n) = true
      · have HBO := Pk.mk hb
        have HBD : Pk (bnd (of + n)) := Pk.mk (by simpa [boundB, bnd] using hb)
        rw [hb]
        clear hb
        by_cases hz : bs = 2
        · have hzb : (bs == 2) = true := by simp [hz]
          have HP : Pk (plusP L a n = numP L (of + n)) := Pk.mk (by simp [plusP, HSP.out, HBN.out, HBO.out, hz])
          clear hz
          go_wp2_with fail
          refine (rnum_st (of + n) p L F _ (HS.out.below HB.out) ⟨by omega, by omega⟩).mono ?_
          rintro e w3 ⟨F', rfl, hst, hup⟩
          have HST := Pk.mk hst
          have HUP := Pk.mk hup
          clear hst hup
          go_wp2
          go_ret2
          exact MadeR.after HB.out HP.out HST.out HUP.out
        · have hzb : (bs == 2) = false := by simp [hz]
          by_cases hy : of + n = 0
          · have hyb : (of + n == 0) = true := by simp [hy]
            have HP : Pk (plusP L a n = (L, bs, 0)) := Pk.mk (by
              have h0 := HBO.out
              rw [hy] at h0
              simp [plusP, HSP.out, HBN.out, hz, hy, h0])
            clear hz hy
            go_wp2
            go_ret2
            exact MadeR.same HS.out HB.out HP.out
          · have hyb : (of + n == 0) = false := by simp [hy]
            have HP : Pk (plusP L a n = putP L ⟨4, 0, of + n, 1, [bs]⟩) := Pk.mk (by simp [plusP, HSP.out, HBN.out, HBO.out, hz, hy])
            clear hz hy
            go_wp2_with fail
            refine (rput_st p 1 L F ⟨4, 0, of + n, 1, [bs]⟩ _ _ ((HS.out.below HB.out).below (below_alloc _ _)) (NdOk.mk' (by omega) i64_0 HBD.out ⟨by omega, by omega⟩ (by simp; exact HBS.out) (by simp) (by simp)) (ints_new _ _ _ [bs] _ rfl) ?_ (by simp)).mono ?_
            · rintro ad h hf
              cases h
              have := HLT.out _ (.inl hf)
              have := HB.out.size
              simp at *
              omega
            rintro e w3 ⟨F', rfl, hst, hup⟩
            have HST := Pk.mk hst
            have HUP := Pk.mk hup
            clear hst hup
            go_wp2
            go_ret2
            exact MadeR.after (below_then HB.out (below_alloc _ _)) HP.out HST.out HUP.out
      · have HP : Pk (plusP L a n = (L, 0, 6)) := Pk.mk (by simp [plusP, HSP.out, hb])
        rw [Bool.not_eq_true] at hb
        rw [hb]
        clear hb
        go_wp2
        go_ret2
        exact MadeR.same HS.out HB.out HP.out
    · have HP : Pk (plusP L a n = (L, 0, 6)) := Pk.mk (by simp [plusP, HSP.out, hb])
      rw [Bool.not_eq_true] at hb
      rw [hb]
      clear hb
      go_wp2
      go_ret2
      exact MadeR.same HS.out HB.out HP.out
  · have heb : (er != 0) = true := by simp [he]
    have HP : Pk (plusP L a n = (L, 0, er)) := Pk.mk (by simp [plusP, HSP.out, he])
    clear he
    go_wp2
    go_ret2
    exact MadeR.same HS.out HB.out HP.out


theorem of_one (L : List Nd) (s x : Int) : ofB L s [x] = decide (sortOf L x = s) := by simp [ofB]
set_option maxHeartbeats 2000000 in
theorem req_st (a b : Int) (p : Nat) (L : List Nd) (F : Foot) (w : World) (hs : RefAt w p L F) (ha : i64 a) (hb : i64 b) :
   Calls Try.prog 28 #[.pointer (some ⟨p, 0, none⟩), .int .i64 a, .int .i64 b] w (MadeR w p F (eqP L a b)) := by
  have HS := Pk.mk hs
  have HI := Pk.mk ha
  have HJ := Pk.mk hb
  have HLT := Pk.mk hs.lt
  clear hs ha hb
  go_enter Try.func28, Try.ntmps28
  go_wp2_with fail
  refine (rthere_st p 2 L F _ [a, b] _ (by simp) (HS.out.below (below_alloc _ _)) (ints_new _ _ _ [a, b] _ rfl)).mono ?_
  rintro e w1 ⟨rfl, hb⟩
  have HA1 := Pk.mk ((ints_new w 30 (0, 0) [a, b] _ rfl).below hb)
  have HB := Pk.mk (below_then (below_alloc w _) hb)
  clear hb
  by_cases hr : thereB L.length [a, b] = true
  · rw [hr]
    have HR := Pk.mk hr
    obtain ⟨hx0, hx1⟩ := there_mem hr (x := a) (by simp)
    obtain ⟨hy0, hy1⟩ := there_mem hr (x := b) (by simp)
    clear hr
    obtain ⟨g, cap, c0, c3, hp, hg, hxl, hl, _⟩ := (HS.out.below HB.out).sort_cell hx0 hx1
    obtain ⟨g', cap', c0', c3', _, hg', hyl, _, _⟩ := (HS.out.below HB.out).sort_cell hy0 hy1
    obtain ⟨rfl, rfl⟩ : g = g' ∧ cap = cap' := by rw [c0] at c0'; simpa using c0'
    clear c0'
    by_cases ho : sortOf L a = sortOf L b
    · have HP : Pk (eqP L a b = putP L ⟨7, 0, 0, 0, [a, b]⟩) := Pk.mk (by simp [eqP, HR.out, of_one, ho])
      have d0 : (sortOf L a != sortOf L b) = false := by simp [ho]
      have d1 : (sortOf L a == sortOf L b) = true := by simp [ho]
      clear ho
      generalize sortOf L a = sa at *
      generalize sortOf L b = sb at *
      go_wp2
      go_quiet (fail)
      go_wp2_with fail
      refine (rput_st p 2 L F ⟨7, 0, 0, 0, [a, b]⟩ _ _ (HS.out.below (below_dr HB.out _)) (NdOk.mk' (by omega) i64_0 bnd_0 i64_0 (by simp; exact ⟨HI.out, HJ.out⟩) (by simp) (by omega)) (HA1.out.below (below_drewN _ _)) ?_ (by simp)).mono ?_
      · rintro ad h hf
        cases h
        have := HLT.out _ (.inl hf)
        simp at this
      rintro e w3 ⟨F', rfl, hst, hup⟩
      have HST := Pk.mk hst
      have HUP := Pk.mk hup
      clear hst hup
      go_wp2
      go_ret2
      exact MadeR.after (below_dr HB.out _) HP.out HST.out HUP.out
    · have HP : Pk (eqP L a b = (L, 0, 60)) := Pk.mk (by simp [eqP, HR.out, of_one]; intro h; exact absurd h.symm ho)
      have d0 : (sortOf L a != sortOf L b) = true := by simp [ho]
      have d1 : (sortOf L a == sortOf L b) = false := by simp [ho]
      clear ho
      generalize sortOf L a = sa at *
      generalize sortOf L b = sb at *
      go_wp2
      go_quiet (fail)
      go_wp2
      go_ret2
      exact MadeR.same HS.out (below_dr HB.out _) HP.out
  · have HP : Pk (eqP L a b = (L, 0, 7)) := Pk.mk (by simp [eqP, hr])
    rw [Bool.not_eq_true] at hr
    rw [hr]
    clear hr
    go_wp2
    go_ret2
    exact MadeR.same HS.out HB.out HP.out

set_option maxHeartbeats 4000000 in
theorem rite_st (c a b : Int) (p : Nat) (L : List Nd) (F : Foot) (w : World) (hs : RefAt w p L F) (hc : i64 c) (ha : i64 a) (hb : i64 b) :
   Calls Try.prog 30 #[.pointer (some ⟨p, 0, none⟩), .int .i64 c, .int .i64 a, .int .i64 b] w (MadeR w p F (iteP L c a b)) := by
  have HS := Pk.mk hs
  have HC := Pk.mk hc
  have HI := Pk.mk ha
  have HJ := Pk.mk hb
  have HLT := Pk.mk hs.lt
  clear hs ha hb hc
  go_enter Try.func30, Try.ntmps30
  go_wp2_with fail
  refine (rthere_st p 3 L F _ [c, a, b] _ (by simp) (HS.out.below (below_alloc _ _)) (ints_new _ _ _ [c, a, b] _ rfl)).mono ?_
  rintro e w1 ⟨rfl, hb⟩
  have HA1 := Pk.mk ((ints_new w 30 (0, 0) [c, a, b] _ rfl).below hb)
  have HB := Pk.mk (below_then (below_alloc w _) hb)
  clear hb
  by_cases hr : thereB L.length [c, a, b] = true
  · rw [hr]
    have HR := Pk.mk hr
    obtain ⟨hx0, hx1⟩ := there_mem hr (x := a) (by simp)
    obtain ⟨hy0, hy1⟩ := there_mem hr (x := b) (by simp)
    obtain ⟨hz0, hz1⟩ := there_mem hr (x := c) (by simp)
    clear hr
    obtain ⟨g, cap, c0, c3, hp, hg, hxl, hl, hso⟩ := (HS.out.below HB.out).sort_cell hx0 hx1
    obtain ⟨g', cap', c0', c3', _, hg', hyl, _, _⟩ := (HS.out.below HB.out).sort_cell hy0 hy1
    obtain ⟨rfl, rfl⟩ : g = g' ∧ cap = cap' := by rw [c0] at c0'; simpa using c0'
    clear c0'
    obtain ⟨g', cap', c0', c3'', _, hg'', hzl, _, _⟩ := (HS.out.below HB.out).sort_cell hz0 hz1
    obtain ⟨rfl, rfl⟩ : g = g' ∧ cap = cap' := by rw [c0] at c0'; simpa using c0'
    clear c0'
    have HSO := Pk.mk hso
    clear hso
    by_cases hoc : sortOf L c = 0
    · have dc : (sortOf L c != 0) = false := by simp [hoc]
      have dc' : (sortOf L c == 0) = true := by simp [hoc]
      by_cases ho : sortOf L a = sortOf L b
      · have HP : Pk (iteP L c a b = putP L ⟨6, 0, 0, sortOf L a, [c, a, b]⟩) := Pk.mk (by simp [iteP, HR.out, of_one, ho, hoc])
        have d0 : (sortOf L a != sortOf L b) = false := by simp [ho]
        have d1 : (sortOf L a == sortOf L b) = true := by simp [ho]
        clear ho hoc
        generalize sortOf L a = sa at *
        generalize sortOf L b = sb at *
        generalize sortOf L c = sc at *
        go_wp2
        go_quiet (fail)
        go_wp2_with fail
        refine (rput_st p 3 L F ⟨6, 0, 0, sa, [c, a, b]⟩ _ _ (HS.out.below (below_dr HB.out _)) (NdOk.mk' (by omega) i64_0 bnd_0 HSO.out (by simp; exact ⟨HC.out, HI.out, HJ.out⟩) (by simp) (by omega)) (HA1.out.below (below_drewN _ _)) ?_ (by simp)).mono ?_
        · rintro ad h hf
          cases h
          have := HLT.out _ (.inl hf)
          simp at this
        rintro e w3 ⟨F', rfl, hst, hup⟩
        have HST := Pk.mk hst
        have HUP := Pk.mk hup
        clear hst hup
        go_wp2
        go_ret2
        exact MadeR.after (below_dr HB.out _) HP.out HST.out HUP.out
      · have HP : Pk (iteP L c a b = (L, 0, 60)) := Pk.mk (by simp [iteP, HR.out, of_one]; intro _ h; exact absurd h.symm ho)
        have d0 : (sortOf L a != sortOf L b) = true := by simp [ho]
        have d1 : (sortOf L a == sortOf L b) = false := by simp [ho]
        clear ho hoc
        generalize sortOf L a = sa at *
        generalize sortOf L b = sb at *
        generalize sortOf L c = sc at *
        go_wp2
        go_quiet (fail)
        go_wp2
        go_ret2
        exact MadeR.same HS.out (below_dr HB.out _) HP.out
    · have dc : (sortOf L c != 0) = true := by simp [hoc]
      have dc' : (sortOf L c == 0) = false := by simp [hoc]
      have HP : Pk (iteP L c a b = (L, 0, 60)) := Pk.mk (by simp [iteP, HR.out, of_one, hoc])
      clear hoc
      generalize sortOf L a = sa at *
      generalize sortOf L b = sb at *
      generalize sortOf L c = sc at *
      go_wp2
      go_quiet (fail)
      go_wp2
      go_ret2
      exact MadeR.same HS.out (below_dr HB.out _) HP.out
  · have HP : Pk (iteP L c a b = (L, 0, 7)) := Pk.mk (by simp [iteP, hr])
    rw [Bool.not_eq_true] at hr
    rw [hr]
    clear hr
    go_wp2
    go_ret2
    exact MadeR.same HS.out HB.out HP.out
end Go.Proofs.Ytpkegeblfdlibaa
