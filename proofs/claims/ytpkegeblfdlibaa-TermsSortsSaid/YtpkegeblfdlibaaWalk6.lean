/- Walks of the calls that make terms, the others. -/
import Derived.Test.YtpkegeblfdlibaaWalk5
import Derived.Test.YtpkegeblfdlibaaWalk5b
namespace Go.Proofs.Ytpkegeblfdlibaa
open Go Go.RowKit
set_option linter.unusedVariables false
set_option linter.unusedSimpArgs false

theorem StoreAt.sort_cell {w : World} {p : Nat} {L : List Nd} {F : Foot} {N : Nat} (h : StoreAt w p L F N) {x : Int} (h0 : 0 ≤ x) (hx : x < L.length) : ∃ g cap, w.cell? ⟨p, 0, none⟩ = some (.slice (some ⟨g, 0, none⟩) L.length cap) ∧ w.cell? ⟨g, x.toNat * 5 + 3, none⟩ = some (.int .i64 (sortOf L x)) ∧ p < w.heap.size ∧ g < w.heap.size ∧ x.toNat < L.length ∧ L.length ≤ 20000 ∧ i64 (sortOf L x) := by
  obtain ⟨A, cap, m, c0, c1, hp, hn⟩ := h.read
  have hxl : x.toNat < L.length := by omega
  obtain ⟨g, B, cc, rfl, hc, ho, hB, hcc, hok⟩ := hn x.toNat L[x.toNat] (by simp [hxl])
  have he := sortOf_eq L x L[x.toNat] (by simp [hxl])
  have hc3 : w.cell? ⟨g, x.toNat * 5 + 3, none⟩ = some (.int .i64 (sortOf L x)) := by
    rw [hc 3 (by omega), he]; rfl
  exact ⟨g, cap, c0, hc3, hp, World.block_lt_of_cell? w _ hc3, hxl, h.len, by rw [he]; exact hok.sort⟩
theorem there_mem {n : Nat} {l : List Int} (h : thereB n l = true) {x : Int} (hx : x ∈ l) : 0 ≤ x ∧ x < n := by
  have h1 := List.all_eq_true.1 h x hx
  simpa using h1

set_option maxHeartbeats 2000000 in
theorem eq_st (a b : Int) (p : Nat) (L : List Nd) (F : Foot) (N : Nat) (w : World) (hs : StoreAt w p L F N) (hN : N ≤ 1000000000000) (ha : i64 a) (hb : i64 b) :
   Calls Try.prog 27 #[.pointer (some ⟨p, 0, none⟩), .int .i64 a, .int .i64 b] w (Made w p F N (eqP L a b)) := by
  have HS := Pk.mk hs
  have HI := Pk.mk ha
  have HJ := Pk.mk hb
  have HLT := Pk.mk hs.lt
  clear hs ha hb
  go_enter Try.func27, Try.ntmps27
  go_wp2_with fail
  refine (there_st p 2 L F N _ [a, b] _ (by simp) (HS.out.below (below_alloc _ _)) (ints_new _ _ _ [a, b] _ rfl)).mono ?_
  rintro e w1 ⟨rfl, hb⟩
  have HB := Pk.mk (below_then (below_alloc w _) hb)
  clear hb
  by_cases hr : thereB L.length [a, b] = true
  · rw [thereE_yes hr]
    have HR := Pk.mk hr
    obtain ⟨hx0, hx1⟩ := there_mem hr (x := a) (by simp)
    have HRb : Pk (thereB L.length [b] = true) := Pk.mk (by
      have := there_mem hr (x := b) (by simp)
      simp [thereB]; omega)
    clear hr
    obtain ⟨g, cap, c0, c3, hp, hg, hxl, hl, _⟩ := (HS.out.below HB.out).sort_cell hx0 hx1
    go_wp2_with fail
    refine (of_st (sortOf L a) p 1 L F N _ [b] _ (by simp) ((HS.out.below HB.out).below (below_alloc _ _)) (ints_new _ _ _ [b] _ rfl) HRb.out).mono ?_
    rintro e w2 ⟨rfl, hb2⟩
    have HB2 := Pk.mk (below_then HB.out (below_then (below_alloc w1 _) hb2))
    clear hb2 c0 c3
    by_cases ho : ofB L (sortOf L a) [b] = true
    · have HP : Pk (eqP L a b = putP L ⟨7, 0, 0, 0, [a, b]⟩) := Pk.mk (by simp [eqP, HR.out, ho])
      rw [ho]
      clear ho
      go_wp2_with fail
      refine (put_st p 2 L F N ⟨7, 0, 0, 0, [a, b]⟩ _ _ ((HS.out.below HB2.out).below (below_alloc _ _)) (NdOk.mk' (by omega) i64_0 bnd_0 i64_0 (by simp; exact ⟨HI.out, HJ.out⟩) (by simp) (by omega)) hN (ints_new _ _ _ [a, b] _ rfl) (by simp) ?_).mono ?_
      · rintro ad h hf
        cases h
        have := HLT.out _ (.inl hf)
        have := HB2.out.size
        simp at *
        omega
      rintro e w3 ⟨F', rfl, hst, hup⟩
      have HST := Pk.mk hst
      have HUP := Pk.mk hup
      clear hst hup
      go_wp2
      go_ret2
      exact Made.after (below_then HB2.out (below_alloc _ _)) HP.out HST.out HUP.out
    · have HP : Pk (eqP L a b = (L, 0, 60)) := Pk.mk (by simp [eqP, HR.out, ho])
      rw [Bool.not_eq_true] at ho
      rw [ho]
      clear ho
      go_wp2
      go_ret2
      exact Made.same HS.out HB2.out HP.out
  · have HP : Pk (eqP L a b = (L, 0, 7)) := Pk.mk (by simp [eqP, hr])
    rw [thereE_no hr]
    clear hr
    go_wp2
    go_ret2
    exact Made.same HS.out HB.out HP.out

set_option maxHeartbeats 2000000 in
theorem num_st (n : Int) (p : Nat) (L : List Nd) (F : Foot) (N : Nat) (w : World) (hs : StoreAt w p L F N) (hN : N ≤ 1000000000000) (hn : i64 n) :
   Calls Try.prog 32 #[.pointer (some ⟨p, 0, none⟩), .int .i64 n] w (Made w p F N (numP L n)) := by
  obtain ⟨A, cap, m, c0, c1, hp, _⟩ := hs.read
  have HS := Pk.mk hs
  have HI := Pk.mk hn
  have C1 := Pk.mk c1
  clear hs hn c0 c1
  go_enter Try.func32, Try.ntmps32
  go_wp2_with fail
  refine (none_ok p m _ C1.out).mono ?_
  rintro e w1 ⟨rfl, rfl⟩
  go_wp2_with fail
  refine (bound_ok n _).mono ?_
  rintro e w1 ⟨rfl, rfl⟩
  by_cases hb : boundB n = true
  · have HBN : Pk (bnd n) := Pk.mk (by simpa [boundB, bnd] using hb)
    have HP : Pk (numP L n = putP L ⟨3, 0, n, 1, []⟩) := Pk.mk (by simp [numP, hb])
    rw [hb]
    clear hb
    go_wp2_with fail
    refine (put_st p 0 L F N ⟨3, 0, n, 1, []⟩ none _ HS.out (NdOk.mk' (by omega) i64_0 HBN.out ⟨by omega, by omega⟩ (by simp) (by simp) (by omega)) hN (IntsAt.nil _ _) (by simp) (by simp)).mono ?_
    rintro e w3 ⟨F', rfl, hst, hup⟩
    have HST := Pk.mk hst
    have HUP := Pk.mk hup
    clear hst hup
    go_wp2
    go_ret2
    exact Made.after (Below.refl _ _) HP.out HST.out HUP.out
  · have HP : Pk (numP L n = (L, 0, 6)) := Pk.mk (by simp [numP, hb])
    rw [Bool.not_eq_true] at hb
    rw [hb]
    clear hb
    go_wp2
    go_ret2
    exact Made.same HS.out (Below.refl _ _) HP.out

set_option maxHeartbeats 2000000 in
theorem app_st (fn sort : Int) (l : List Int) (B : Option Addr) (c p : Nat) (L : List Nd) (F : Foot) (N : Nat) (w : World) (hs : StoreAt w p L F N) (hN : N ≤ 1000000000000) (hfn : i64 fn) (hso : i64 sort)
   (hl : ∀ a ∈ l, i64 a) (hll : l.length ≤ 100000) (hB : IntsAt w B l) (hc : B = none → c = 0) (hF : ∀ ad, B = some ad → ¬ F.m ad.block) :
   Calls Try.prog 16 #[.pointer (some ⟨p, 0, none⟩), .int .i64 fn, .int .i64 sort, .slice B l.length c] w (Made w p F N (appP L fn sort l)) := by
  obtain ⟨A, cap, m, c0, c1, hp, _⟩ := hs.read
  have HS := Pk.mk hs
  have HI := Pk.mk hfn
  have HJ := Pk.mk hso
  have HL := Pk.mk hl
  have HB0 := Pk.mk hB
  have HC := Pk.mk hc
  have HF := Pk.mk hF
  have C1 := Pk.mk c1
  clear hs hfn hso hl hB hc hF c0 c1
  by_cases hneg : fn < 0 ∨ sort < 0
  · have HP : Pk (appP L fn sort l = (L, 0, 2)) := Pk.mk (by simp [appP, hneg])
    by_cases hf0 : fn < 0
    · have d1 : decide (fn < 0) = true := decide_eq_true hf0
      clear hneg hf0
      go_enter Try.func16, Try.ntmps16
      go_wp2_with fail
      refine (none_ok p m _ C1.out).mono ?_
      rintro e w1 ⟨rfl, rfl⟩
      go_wp2
      go_ret2
      exact Made.same HS.out (Below.refl _ _) HP.out
    · have d1 : decide (fn < 0) = false := decide_eq_false hf0
      have d2 : decide (sort < 0) = true := decide_eq_true (by omega)
      clear hneg hf0
      go_enter Try.func16, Try.ntmps16
      go_wp2_with fail
      refine (none_ok p m _ C1.out).mono ?_
      rintro e w1 ⟨rfl, rfl⟩
      go_wp2
      go_ret2
      exact Made.same HS.out (Below.refl _ _) HP.out
  · have d1 : decide (fn < 0) = false := decide_eq_false (by omega)
    have d2 : decide (sort < 0) = false := decide_eq_false (by omega)
    have HNG := Pk.mk hneg
    clear hneg
    go_enter Try.func16, Try.ntmps16
    go_wp2_with fail
    refine (none_ok p m _ C1.out).mono ?_
    rintro e w1 ⟨rfl, rfl⟩
    go_wp2_with fail
    refine (there_st p c L F N _ l _ (by omega) HS.out HB0.out).mono ?_
    rintro e w1 ⟨rfl, hb⟩
    have HB := Pk.mk hb
    clear hb
    by_cases hr : thereB L.length l = true
    · rw [thereE_yes hr]
      by_cases h20 : 20 < l.length
      · have HP : Pk (appP L fn sort l = (L, 0, 3)) := Pk.mk (by simp [appP, HNG.out, hr, h20])
        clear hr
        go_wp2
        go_ret2
        exact Made.same HS.out HB.out HP.out
      · have HP : Pk (appP L fn sort l = putP L ⟨5, fn, 0, sort, l⟩) := Pk.mk (by simp [appP, HNG.out, hr, h20])
        clear hr
        go_wp2_with fail
        refine (put_st p c L F N ⟨5, fn, 0, sort, l⟩ B _ (HS.out.below HB.out) (NdOk.mk' (by omega) HI.out bnd_0 HJ.out HL.out hll (by omega)) hN (HB0.out.below HB.out) HC.out HF.out).mono ?_
        rintro e w3 ⟨F', rfl, hst, hup⟩
        have HST := Pk.mk hst
        have HUP := Pk.mk hup
        clear hst hup
        go_wp2
        go_ret2
        exact Made.after HB.out HP.out HST.out HUP.out
    · have HP : Pk (appP L fn sort l = (L, 0, 7)) := Pk.mk (by simp [appP, HNG.out, hr])
      rw [thereE_no hr]
      clear hr
      go_wp2
      go_ret2
      exact Made.same HS.out HB.out HP.out
end Go.Proofs.Ytpkegeblfdlibaa
