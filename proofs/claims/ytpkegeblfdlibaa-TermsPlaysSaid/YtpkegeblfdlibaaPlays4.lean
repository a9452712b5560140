/- Walk of the law TermsPlays. -/
import Derived.Test.YtpkegeblfdlibaaPlays3
namespace Go.Proofs.Ytpkegeblfdlibaa
open Go Go.RowKit
set_option linter.unusedVariables false
set_option linter.unusedSimpArgs false

/-- a copy in the old one's place, which was spoilt -/
theorem Two.copied {w1 w wc w2 : World} {ps pr N : Nat} {L : List Nd} {F G : Foot} (h : Two w1 w ps pr N L (fun k => (F.m k ∨ F.r k) ∨ (G.m k ∨ G.r k))) (hs : StoreAt w ps L F N) (hg : RefAt w pr L G) (hsep : ∀ k, F.m k ∨ F.r k → ¬ (G.m k ∨ G.r k))
    {p' : Nat} {F' : Foot} (hc : StoreAt wc p' L F' N) (hb : Below w.heap.size w wc) (hm : ∀ k, F'.m k → w.heap.size ≤ k) (hr : F'.r = F.r) (hu : Fr F.m wc w2) :
    Two w1 w2 p' pr N L (fun k => (F'.m k ∨ F'.r k) ∨ (G.m k ∨ G.r k)) := by
  have hs1 := h.below.size
  have hs2 := hb.size
  have hFl := hs.lt
  refine ⟨⟨F', G, hc.fr hu ?_, (hg.below hb).fr hu (fun k hk hf => hsep k (.inl hf) hk), ?_, fun k => Iff.rfl⟩, ?_, ?_⟩
  · rintro k (hk | hk) hf
    · have := hm k hk; have := hFl k (.inl hf); omega
    · rw [hr] at hk; exact hs.sep k hk hf
  · rintro k (hk | hk) hf
    · have := hm k hk; have := hg.lt k hf; omega
    · rw [hr] at hk; exact hsep k (.inr hk) hf
  · rintro k ((hk | hk) | hk)
    · have := hm k hk; omega
    · rw [hr] at hk; exact h.hb k (.inl (.inr hk))
    · exact h.hb k (.inr hk)
  · exact (h.below.trans (hb.mono hs1)).trans (hu.below (fun k hk => h.hb k (.inl (.inl hk))) (by omega))

set_option maxRecDepth 100000 in
set_option maxHeartbeats 4000000 in
theorem plays_st (A : Option Addr) (c : Nat) (ops : List OpV) (w : World) (hA : OpsAt w A ops) (hl : ops.length ≤ maxLen) : Calls Try.prog 5 #[.slice A ops.length c] w fun e w' => e = .returned (.bool true) ∧ Below w.heap.size w w' := by
  have HA := Pk.mk hA
  have hl' : ops.length ≤ 9223372036854775807 := hl
  clear hA hl
  go_enter Try.func5, Try.ntmps5
  go_wp2_with fail
  refine (tame_st A c 200 ops w HA.out (by omega) hl').mono ?_
  rintro e w1 ⟨rfl, rfl⟩
  by_cases ht : tameP ops 200 = true
  · rw [ht]
    obtain ⟨hlen, hok⟩ := tame_ok HA.out ht
    have HOK := Pk.mk hok
    clear ht hok
    go_wp2_with fail
    refine (new_st w1).mono ?_
    rintro e w2 ⟨ps, F, rfl, hst, hb, hF⟩
    have HST := Pk.mk hst
    have HB := Pk.mk hb
    have HF := Pk.mk hF
    clear hst hb hF
    go_wp2_with fail
    refine (rnew_st w2).mono ?_
    rintro e w3 ⟨pr, G, rfl, hst, hb, hG⟩
    have hsz := HB.out.size
    obtain ⟨H0, HINV⟩ : ∃ H0, Pk (Two w1 w3 ps pr 300000 L0 H0) := ⟨fun k => (F.m k ∨ F.r k) ∨ (G.m k ∨ G.r k), ⟨⟨F, G, HST.out.below hb, hst, by
      rintro k hk hg
      have h1 := HST.out.lt k hk
      have h2 := hG k hg
      omega, fun k => Iff.rfl⟩, by
      rintro k (h | h)
      · exact HF.out k h
      · have := hG k h; omega, below_then HB.out hb⟩⟩
    clear hb hG HST HB HF hst hsz
    go_wp2_with fail
    go_loopw [3, 5] (fun v3 v5 wr => ∃ (k ps : Nat), v3 = .pointer (some ⟨ps, 0, none⟩) ∧ v5 = .int .i64 k ∧ k ≤ ops.length ∧ Pk (∃ L H, Two w1 wr ps pr (300000 + k * 100000) L H ∧ Good L)) (fun _ v5 _ => ops.length - (intOf v5).toNat)
    case atStart => exact ⟨0, ps, rfl, rfl, by omega, ⟨_, _, HINV.out, good0⟩⟩
    case round =>
      obtain ⟨wq, rfl⟩ : ∃ wq, wq = wr := ⟨wr, rfl⟩
      obtain ⟨k, ps, rfl, rfl, hk, HQ⟩ := hrel
      obtain ⟨L, H, hI, hso⟩ := HQ.out
      have HI := Pk.mk hI
      have HSO := Pk.mk hso
      clear HQ hI hso HINV
      by_cases hlt : k < ops.length
      · skip
        have HOL := Pk.mk (HOK.out _ (List.getElem_mem hlt))
        obtain ⟨ad, B, cc, rfl, hc, hB⟩ := HA.out.rd k ops[k] (by simp [hlt])
        have HBA := Pk.mk hB
        have HC1 := Pk.mk hc
        have c0 : wq.cell? (ad.add (k * 9)) = some (.int .i64 ops[k].kind) := cell_below HI.out.below (hc 0 _ rfl)
        generalize ops[k] = o at *
        clear hc hB
        obtain ⟨F2, G2, hF2, hG2, hsp2, hH2⟩ := HI.out.two
        obtain rfl : H = fun k => (F2.m k ∨ F2.r k) ∨ (G2.m k ∨ G2.r k) := funext fun k => propext (hH2 k)
        have HF2 := Pk.mk hF2
        have HG2 := Pk.mk hG2
        have HS2 := Pk.mk hsp2
        clear hF2 hG2 hsp2 hH2
        have hN2 : 300000 + k * 100000 ≤ 1000000000000 := by omega
        by_cases hk9 : o.kind = 9
        case' pos =>
          have d9 : (o.kind == 9) = true := by simp [hk9]
          clear hk9
          go_wp2_with fail
          refine (copy_st ps L F2 _ wq HF2.out (by have := HSO.out.three; omega)).mono ?_
          rintro e wc ⟨p', F', rfl, hst, hb, hm, hr⟩
          have HST := Pk.mk hst
          have HB := Pk.mk hb
          have HM := Pk.mk hm
          have HR := Pk.mk hr
          clear hst hb hm hr c0
          go_wp2_with fail
          refine (app_st 77 0 [] none 0 ps L F2 _ wc (HF2.out.below HB.out) hN2 ⟨by omega, by omega⟩ ⟨by omega, by omega⟩ (by simp) (by simp) (IntsAt.nil _ _) (by simp) (by simp)).mono ?_
          rintro e wz ⟨F3, rfl, hst3, hup⟩
          have HT : Pk (∃ H', Two w1 wz p' pr (300000 + k * 100000) L H') := Pk.mk ⟨_, HI.out.copied HF2.out HG2.out HS2.out HST.out HB.out HM.out HR.out hup.fr⟩
          clear hst3 hup
          go_upto_region 12 with fail
        case' neg =>
          have d9 : (o.kind == 9) = false := by simp [hk9]
          clear hk9
          have HT : Pk (∃ H', Two w1 wq ps pr (300000 + k * 100000) L H') := Pk.mk ⟨_, HI.out⟩
          go_upto_region 12 with fail
          clear c0
          obtain ⟨wz, rfl⟩ : ∃ wz, wz = wq := ⟨_, rfl⟩
          obtain ⟨p', rfl⟩ : ∃ p', p' = ps := ⟨_, rfl⟩
        all_goals
          clear HI HF2 HG2 HS2 d9
          obtain ⟨H, hI⟩ := HT.out
          have HI := Pk.mk hI
          have HBZ := Pk.mk (HBA.out.below hI.below)
          have hc' (j : Nat) (v : Value) (hj : (opCells o (.slice B o.l.length cc))[j]? = some v) := cell_below hI.below (HC1.out j v hj)
          clear HT hI
          have c0 : wz.cell? (ad.add (k * 9)) = some (.int .i64 o.kind) := hc' 0 _ rfl
          have c1 : wz.cell? ⟨(ad.add (k * 9)).block, (ad.add (k * 9)).off + 1, none⟩ = some (.int .i64 o.a) := hc' 1 _ rfl
          have c2 : wz.cell? ⟨(ad.add (k * 9)).block, (ad.add (k * 9)).off + 2, none⟩ = some (.int .i64 o.b) := hc' 2 _ rfl
          have c3 : wz.cell? ⟨(ad.add (k * 9)).block, (ad.add (k * 9)).off + 3, none⟩ = some (.int .i64 o.c) := hc' 3 _ rfl
          have c4 : wz.cell? ⟨(ad.add (k * 9)).block, (ad.add (k * 9)).off + 4, none⟩ = some (.slice B o.l.length cc) := hc' 4 _ rfl
          have c5 : wz.cell? ⟨(ad.add (k * 9)).block, (ad.add (k * 9)).off + 5, none⟩ = some (.int .i64 o.fn) := hc' 5 _ rfl
          have c6 : wz.cell? ⟨(ad.add (k * 9)).block, (ad.add (k * 9)).off + 6, none⟩ = some (.int .i64 o.sort) := hc' 6 _ rfl
          have c7 : wz.cell? ⟨(ad.add (k * 9)).block, (ad.add (k * 9)).off + 7, none⟩ = some (.int .i64 o.n) := hc' 7 _ rfl
          have c8 : wz.cell? ⟨(ad.add (k * 9)).block, (ad.add (k * 9)).off + 8, none⟩ = some (.bool o.md) := hc' 8 _ rfl
          clear hc'
          obtain ⟨F2, G2, hF2, hG2, hsp2, hH2⟩ := HI.out.two
          obtain rfl : H = fun k => (F2.m k ∨ F2.r k) ∨ (G2.m k ∨ G2.r k) := funext fun k => propext (hH2 k)
          have HF2 := Pk.mk hF2
          have HG2 := Pk.mk hG2
          have HS2 := Pk.mk hsp2
          clear hF2 hG2 hsp2 hH2
          go_wp2_with fail
          refine (made_st o B cc p' pr L F2 G2 _ wz HF2.out HG2.out HS2.out hN2 HOL.out HBZ.out).mono ?_
          rintro e w7 ⟨rfl, hmt⟩
          obtain ⟨H7, hI7⟩ := HI.out.made hmt
          clear hmt c0 c1 c2 c3 c4 c5 c6 c7 c8
          have HI7 := Pk.mk hI7
          have HG7 := Pk.mk (good_call HSO.out (toldP L.length o))
          clear hI7
          by_cases h7 : (k : Int) % 8 = 7
          · have d7 : ((k : Int) % 8 == 7) = true := by simp [h7]
            clear h7
            go_wp2_with fail
            obtain ⟨F4, G4, hF4, hG4, hsp4, hH4⟩ := HI7.out.two
            refine (same_st p' pr _ F4 G4 _ w7 hF4 hG4).mono ?_
            rintro e w8 ⟨rfl, hb⟩
            have HEND : Pk (∃ L H, Two w1 w8 p' pr (300000 + (k + 1) * 100000) L H ∧ Good L) := Pk.mk ⟨_, H7, by
              have h := HI7.out.step hb
              rwa [show 300000 + k * 100000 + 100000 = 300000 + (k + 1) * 100000 by omega] at h, HG7.out⟩
            clear hF4 hG4 hsp4 hH4 hb
            go_wp2_with fail
            go_roundw
            case rel => exact ⟨k + 1, p', rfl, by go_num, by omega, HEND⟩
            case measure => simp [intOf]; omega
          · have d7 : ((k : Int) % 8 == 7) = false := by simp [h7]
            clear h7
            have HEND : Pk (∃ L H, Two w1 w7 p' pr (300000 + (k + 1) * 100000) L H ∧ Good L) := Pk.mk ⟨_, H7, by
              have h := HI7.out
              rwa [show 300000 + k * 100000 + 100000 = 300000 + (k + 1) * 100000 by omega] at h, HG7.out⟩
            go_wp2_with fail
            go_roundw
            case rel => exact ⟨k + 1, p', rfl, by go_num, by omega, HEND⟩
            case measure => simp [intOf]; omega
      · --OUT1
        obtain ⟨F4, G4, hF4, hG4, hsp4, hH4⟩ := HI.out.two
        have HF4 := Pk.mk hF4
        have HG4 := Pk.mk hG4
        have HBW := Pk.mk HI.out.below
        clear hF4 hG4 hsp4 hH4 HI
        go_wp2_with fail
        refine (same_st ps pr L F4 G4 _ wq HF4.out HG4.out).mono ?_
        rintro e w7 ⟨rfl, hb⟩
        have HB7 := Pk.mk (HBW.out.trans (hb.mono HBW.out.size))
        clear hb
        go_wp2_with fail
        refine (known_st w7).mono ?_
        rintro e w6 ⟨rfl, hb⟩
        have HB6 := Pk.mk (HB7.out.trans (hb.mono HB7.out.size))
        clear hb
        go_wp2
        go_ret
        exact ⟨rfl, HB6.out⟩
  · rw [Bool.not_eq_true] at ht
    rw [ht]
    clear ht
    go_wp2_with fail
    refine (known_st w1).mono ?_
    rintro e w2 ⟨rfl, hb⟩
    have HB := Pk.mk hb
    clear hb
    go_wp2
    go_ret
    exact ⟨rfl, HB.out⟩
end Go.Proofs.Ytpkegeblfdlibaa
