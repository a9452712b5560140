/- Walk of the law TermsOnce. -/
import Derived.Test.YtpkegeblfdlibaaOnce0
namespace Go.Proofs.Ytpkegeblfdlibaa
open Go Go.RowKit
set_option linter.unusedVariables false
set_option linter.unusedSimpArgs false

set_option maxRecDepth 100000 in
set_option maxHeartbeats 4000000 in
theorem once_st (A : Option Addr) (c : Nat) (ops : List OpV) (w : World) (hA : OpsAt w A ops) (hl : ops.length ≤ maxLen) : Calls Try.prog 3 #[.slice A ops.length c] w fun e w' => e = .returned (.bool true) ∧ Below w.heap.size w w' := by
  have HA := Pk.mk hA
  have hl' : ops.length ≤ 9223372036854775807 := hl
  clear hA hl
  go_enter Try.func3, Try.ntmps3
  go_wp2_with fail
  refine (tame_st A c 100 ops w HA.out (by omega) hl').mono ?_
  rintro e w1 ⟨rfl, rfl⟩
  by_cases ht : tameP ops 100 = true
  · rw [ht]
    obtain ⟨hlen, hok⟩ := tame_ok HA.out ht
    have HOK := Pk.mk hok
    clear ht hok
    go_wp2_with fail
    refine (new_st w1).mono ?_
    rintro e w2 ⟨ps, F, rfl, hst, hb, hF⟩
    have HST := Pk.mk hst
    have HB := Pk.mk hb
    have HF := Pk.mk hF
    clear hst hb hF
    go_wp2_with fail
    refine (rnew_st w2).mono ?_
    rintro e w3 ⟨pr, G, rfl, hst, hb, hG⟩
    have hsz := HB.out.size
    obtain ⟨H0, HINV⟩ : ∃ H0, Pk (Inv w1 w3 ps pr 300000 L0 H0 (fun _ => False) (.slice none 0 0) (.slice none 0 0) [] [] []) := ⟨fun k => (F.m k ∨ F.r k) ∨ (G.m k ∨ G.r k), ⟨⟨F, G, HST.out.below hb, hst, by
      rintro k hk hg
      have h1 := HST.out.lt k hk
      have h2 := hG k hg
      omega, fun k => Iff.rfl⟩, good0, by
      rintro k (h | h)
      · exact HF.out k h
      · have := hG k h; omega, by simp, World.ownsRow_nil _ _ _ _, World.ownsRow_nil _ _ _ _, ⟨rfl, by simp⟩, by simp [Value.ownBlock], by simp [Value.ownBlock], rfl, by simp, below_then HB.out hb⟩⟩
    clear hb hG HST HB HF hst hsz
    go_wp2_with fail
    go_loopw [5, 6, 7] (fun v5 v6 v7 wr => ∃ k : Nat, v7 = .int .i64 k ∧ k ≤ ops.length ∧ Pk (∃ L H M xs os cs, Inv w1 wr ps pr (300000 + k * 100000) L H M v5 v6 xs os cs ∧ os.length ≤ k)) (fun _ _ v7 _ => ops.length - (intOf v7).toNat)
    case atStart => exact ⟨0, rfl, by omega, ⟨_, _, _, _, _, _, HINV.out, by simp⟩⟩
    case round =>
      obtain ⟨wq, rfl⟩ : ∃ wq, wq = wr := ⟨wr, rfl⟩
      obtain ⟨k, rfl, hk, HQ⟩ := hrel
      obtain ⟨L, H, M, xs, os, cs, hI, hosk⟩ := HQ.out
      have HI := Pk.mk hI
      clear HQ hI
      by_cases hlt : k < ops.length
      · skip
        --<R1
        have HOL := Pk.mk (HOK.out _ (List.getElem_mem hlt))
        obtain ⟨ad, B, cc, rfl, hc, hB⟩ := HA.out.rd k ops[k] (by simp [hlt])
        have HBA := Pk.mk hB
        have hc' (j : Nat) (v : Value) (hj : (opCells ops[k] (.slice B ops[k].l.length cc))[j]? = some v) := cell_below HI.out.below (hc j v hj)
        generalize ops[k] = o at *
        have c0 : wq.cell? (ad.add (k * 9)) = some (.int .i64 o.kind) := hc' 0 _ rfl
        have c1 : wq.cell? ⟨(ad.add (k * 9)).block, (ad.add (k * 9)).off + 1, none⟩ = some (.int .i64 o.a) := hc' 1 _ rfl
        have c2 : wq.cell? ⟨(ad.add (k * 9)).block, (ad.add (k * 9)).off + 2, none⟩ = some (.int .i64 o.b) := hc' 2 _ rfl
        have c3 : wq.cell? ⟨(ad.add (k * 9)).block, (ad.add (k * 9)).off + 3, none⟩ = some (.int .i64 o.c) := hc' 3 _ rfl
        have c4 : wq.cell? ⟨(ad.add (k * 9)).block, (ad.add (k * 9)).off + 4, none⟩ = some (.slice B o.l.length cc) := hc' 4 _ rfl
        have c5 : wq.cell? ⟨(ad.add (k * 9)).block, (ad.add (k * 9)).off + 5, none⟩ = some (.int .i64 o.fn) := hc' 5 _ rfl
        have c6 : wq.cell? ⟨(ad.add (k * 9)).block, (ad.add (k * 9)).off + 6, none⟩ = some (.int .i64 o.sort) := hc' 6 _ rfl
        have c7 : wq.cell? ⟨(ad.add (k * 9)).block, (ad.add (k * 9)).off + 7, none⟩ = some (.int .i64 o.n) := hc' 7 _ rfl
        have c8 : wq.cell? ⟨(ad.add (k * 9)).block, (ad.add (k * 9)).off + 8, none⟩ = some (.bool o.md) := hc' 8 _ rfl
        clear hc hc' hB
        obtain ⟨F1, G1, hF1, hG1, _⟩ := HI.out.two
        obtain ⟨A1, cap1, p0, hp0, _⟩ := hG1.read
        have hL := hF1.len
        clear hF1 hG1
        go_wp2_with fail
        obtain ⟨wa, hwa⟩ : ∃ wa, wa = wq.alloc (.cells #[.int .i64 o.kind, .int .i64 o.a, .int .i64 o.b, .int .i64 o.c, .slice B o.l.length cc, .int .i64 o.fn, .int .i64 o.sort, .int .i64 o.n, .bool o.md] 33) := ⟨_, rfl⟩
        rw [← hwa]
        have HBA' : Pk (Below wq.heap.size wq wa) := Pk.mk (by rw [hwa]; exact below_alloc _ _)
        have HBX : Pk (wa.heap[wq.heap.size]? = some (.cells #[.int .i64 o.kind, .int .i64 o.a, .int .i64 o.b, .int .i64 o.c, .slice B o.l.length cc, .int .i64 o.fn, .int .i64 o.sort, .int .i64 o.n, .bool o.md] 33 (0, 0))) := Pk.mk (by rw [hwa]; exact (MapKept.heap_alloc wq _).1)
        clear hwa c0 c1 c2 c3 c5 c6 c7 p0
        have q1 : wa.cell? ⟨wq.heap.size, 1, none⟩ = some (.int .i64 o.a) := cell_of_heap HBX.out rfl
        have q2 : wa.cell? ⟨wq.heap.size, 2, none⟩ = some (.int .i64 o.b) := cell_of_heap HBX.out rfl
        have q3 : wa.cell? ⟨wq.heap.size, 3, none⟩ = some (.int .i64 o.c) := cell_of_heap HBX.out rfl
        have q8 : wa.cell? ⟨wq.heap.size, 8, none⟩ = some (.bool o.md) := cell_of_heap HBX.out rfl
        have y1 : wa.frozen? ⟨wq.heap.size, 1, none⟩ = false := frozen_of_heap HBX.out _
        have y2 : wa.frozen? ⟨wq.heap.size, 2, none⟩ = false := frozen_of_heap HBX.out _
        have y3 : wa.frozen? ⟨wq.heap.size, 3, none⟩ = false := frozen_of_heap HBX.out _
        have HX1 : Pk (i64 o.a) := Pk.mk HOL.out.a
        have HX2 : Pk (i64 o.b) := Pk.mk HOL.out.b
        have HX3 : Pk (i64 o.c) := Pk.mk HOL.out.c
        obtain ⟨wd, hwd⟩ : ∃ wd, wd = wa.drew := ⟨_, rfl⟩
        have HWD := Pk.mk hwd
        have HBD : Pk (Below wa.heap.size wa wd) := Pk.mk (by rw [hwd]; exact below_drewN _ 1)
        clear hwd
        have HBXd := Pk.mk (heap_below HBD.out HBX.out)
        clear q1 q2 q3 q8 y1 y2 y3
        have q1 : wd.cell? ⟨wq.heap.size, 1, none⟩ = some (.int .i64 o.a) := cell_of_heap HBXd.out rfl
        have q2 : wd.cell? ⟨wq.heap.size, 2, none⟩ = some (.int .i64 o.b) := cell_of_heap HBXd.out rfl
        have q3 : wd.cell? ⟨wq.heap.size, 3, none⟩ = some (.int .i64 o.c) := cell_of_heap HBXd.out rfl
        have q8 : wd.cell? ⟨wq.heap.size, 8, none⟩ = some (.bool o.md) := cell_of_heap HBXd.out rfl
        refine region_tail 19 (by kernel_rfl) (by kernel_rfl) wd HWD.out ?_
        simp only [List.take_succ_cons, List.take_zero, List.drop_succ_cons, List.drop_zero]
        repeat still_step
        still_call (near_ok o.a L.length o.md _ HX1.out hL)
        repeat still_step
        still_call (near_ok o.b L.length o.md _ HX2.out hL)
        repeat still_step
        still_call (near_ok o.c L.length o.md _ HX3.out hL)
        repeat still_step
        refine wpStill_nil ?_
        have y1 : wd.frozen? ⟨wq.heap.size, 1, none⟩ = false := frozen_of_heap HBXd.out _
        have y2 : wd.frozen? ⟨wq.heap.size, 2, none⟩ = false := frozen_of_heap HBXd.out _
        have y3 : wd.frozen? ⟨wq.heap.size, 3, none⟩ = false := frozen_of_heap HBXd.out _
        have q4 : wd.cell? ⟨wq.heap.size, 4, none⟩ = some (.slice B o.l.length cc) := cell_of_heap HBXd.out rfl
        have y4 : wd.frozen? ⟨wq.heap.size, 4, none⟩ = false := frozen_of_heap HBXd.out _
        go_wp2_with fail
        obtain ⟨wb, hwb⟩ : ∃ wb, wb = (((wd.setCell ⟨wq.heap.size, 1, none⟩ (.int .i64 (nearP o.a L.length o.md))).setCell ⟨wq.heap.size, 2, none⟩ (.int .i64 (nearP o.b L.length o.md))).setCell ⟨wq.heap.size, 3, none⟩ (.int .i64 (nearP o.c L.length o.md))).setCell ⟨wq.heap.size, 4, none⟩ (.slice none 0 0) := ⟨_, rfl⟩
        rw [← hwb]
        have HBb : Pk (Below wq.heap.size wq wb) := Pk.mk (by
          rw [hwb]
          exact ((((below_then HBA'.out HBD.out).setCell (p := ⟨wq.heap.size, 1, none⟩) (Nat.le_refl _) _).setCell (p := ⟨wq.heap.size, 2, none⟩) (Nat.le_refl _) _).setCell (p := ⟨wq.heap.size, 3, none⟩) (Nat.le_refl _) _).setCell (p := ⟨wq.heap.size, 4, none⟩) (Nat.le_refl _) _)
        have HXb : Pk (wb.heap[wq.heap.size]? = some (.cells #[.int .i64 o.kind, .int .i64 (nearP o.a L.length o.md), .int .i64 (nearP o.b L.length o.md), .int .i64 (nearP o.c L.length o.md), .slice none 0 0, .int .i64 o.fn, .int .i64 o.sort, .int .i64 o.n, .bool o.md] 33 (0, 0))) := Pk.mk (by
          rw [hwb]
          exact heap_setCell_same (heap_setCell_same (heap_setCell_same (heap_setCell_same HBXd.out _) _) _) _)
        clear hwb q1 q2 q3 q4 q8 y1 y2 y3 y4
        obtain ⟨la, hla⟩ : ∃ la, la = o.l.map (nearP · L.length o.md) := ⟨_, rfl⟩
        have HLA := Pk.mk hla
        clear hla
        have hol := HOL.out.len
        have C4 := Pk.mk c4
        have C8 := Pk.mk c8
        clear c4 c8
        go_loopw [10] (fun v10 wx => ∃ j : Nat, v10 = .int .i64 j ∧ j ≤ o.l.length ∧ Pk (∃ vk, wx.heap[wq.heap.size]? = some (.cells #[.int .i64 o.kind, .int .i64 (nearP o.a L.length o.md), .int .i64 (nearP o.b L.length o.md), .int .i64 (nearP o.c L.length o.md), vk, .int .i64 o.fn, .int .i64 o.sort, .int .i64 o.n, .bool o.md] 33 (0, 0)) ∧ wx.ownsRow 0 30 1 vk j (nums (la.take j)) ∧ (∀ i, vk.ownBlock = some i → wq.heap.size < i) ∧ Below wq.heap.size wq wx)) (fun v10 _ => o.l.length - (intOf v10).toNat)
        case atStart => exact ⟨0, rfl, by omega, ⟨_, HXb.out, World.ownsRow_nil _ _ _ _, by simp [Value.ownBlock], HBb.out⟩⟩
        case round =>
          obtain ⟨j, rfl, hj, HR⟩ := hrel
          obtain ⟨vk, hx1, hx2, hx3, hx4⟩ := HR.out
          clear HR
          obtain ⟨A4, cap4, rfl, _, _, hcap4, _, _⟩ : ∃ A4 cap4, vk = .slice A4 j cap4 ∧ True ∧ True ∧ j ≤ cap4 ∧ True ∧ True := by
            rcases hx2.2 with ⟨rfl, h0⟩ | ⟨g, cap4, cur, rfl, _, _, h1, _⟩
            · exact ⟨none, 0, by rw [h0], trivial, trivial, by omega, trivial, trivial⟩
            · exact ⟨_, cap4, rfl, trivial, trivial, h1, trivial, trivial⟩
          have HX1' := Pk.mk hx1
          have HX2' := Pk.mk hx2
          have HX3' := Pk.mk hx3
          have HX4' := Pk.mk hx4
          have hsz4 := hx4.size
          have bsz := lt_of_heap hx1
          clear hx1 hx2 hx3 hx4
          have q4 : wr.cell? ⟨wq.heap.size, 4, none⟩ = some (.slice A4 j cap4) := cell_of_heap HX1'.out rfl
          have y4 : wr.frozen? ⟨wq.heap.size, 4, none⟩ = false := frozen_of_heap HX1'.out _
          have c4 := cell_below HX4'.out C4.out
          have c8 := cell_below HX4'.out C8.out
          by_cases hltj : j < o.l.length
          · skip
            --<R2
            have HXj : Pk (i64 o.l[j]) := Pk.mk (HOL.out.l _ (List.getElem_mem hltj))
            obtain ⟨bd, rfl, hcl⟩ := HBA.out j o.l[j] (by simp [hltj])
            have hcl' : wr.cell? (bd.add j) = some (.int .i64 o.l[j]) := cell_below (HI.out.below.trans (HX4'.out.mono HI.out.below.size)) hcl
            clear hcl
            have HTK : Pk (la.take (j + 1) = la.take j ++ [nearP o.l[j] L.length o.md]) := Pk.mk (by
              rw [HLA.out, List.take_succ_eq_append_getElem (by simpa using hltj)]; simp)
            generalize o.l[j] = x at *
            obtain ⟨i0, hi, hzz⟩ := Option.map_eq_some_iff.1 info30
            simp only [Prod.mk.injEq] at hzz
            obtain ⟨hz0, hz1, hz2⟩ := hzz
            have HII := Pk.mk hi
            have HZ0 := Pk.mk hz0
            have HZ1 := Pk.mk hz1
            have HZ2 := Pk.mk hz2
            clear hi hz0 hz1 hz2
            have hml1 : j + 1 ≤ maxLen := by simp only [maxLen]; omega
            have hml2 : (j + 1) * 8 ≤ 140737488355328 := by omega
            have HNC : Pk (∀ i u, ([Value.int .i64 (nearP x L.length o.md)] : List Value)[i]? = some u → (wr.alloc (.cells #[.int .i64 (nearP x L.length o.md)] 30)).cell? ((⟨wr.heap.size, 0, none⟩ : Addr).add i) = some u) := Pk.mk (by
              intro i u hu
              rw [add_plain]
              exact cell_of_heap (MapKept.heap_alloc wr _).1 (by simpa using hu))
            have HN1 : Pk (∀ u ∈ ([Value.int .i64 (nearP x L.length o.md)] : List Value), u.oneCell' = true) := Pk.mk (by
              intro u hu
              simp only [List.mem_cons, List.not_mem_nil, or_false] at hu
              subst hu; rfl)
            have HRA := Pk.mk (HX2'.out.alloc (.cells #[.int .i64 (nearP x L.length o.md)] 30))
            go_wp2_with fail
            go_region_law (first
              | (refine step_append rfl (.tmp 79) (.tmp 95) 29 rfl 30 i0 _ 1 8 Try.underlying29 HII.out HZ0.out HZ1.out HZ2.out rfl (by decide) (.slice A4 j cap4) j _ rfl HRA.out ⟨wr.heap.size, 0, none⟩ 1 1 [Value.int .i64 (nearP x L.length o.md)] rfl rfl HNC.out HN1.out hml1 hml2 ?_; intro v3 w3 hown3 hg3 hat3; obtain ⟨g3, cap3, rfl⟩ := own_form hown3 (by omega); have HO3 := Pk.mk hown3; have HG3 := Pk.mk hg3; have HA3' := Pk.mk hat3; have K3 := Pk.mk ((hg3.block _ (by simp; omega) (fun e => absurd (HX3'.out _ e.symm) (Nat.lt_irrefl _))).trans (heap_alloc HX1'.out _)); have k4 : w3.cell? ⟨wq.heap.size, 4, none⟩ = some (.slice A4 j cap4) := cell_of_heap K3.out rfl; have z4 : w3.frozen? ⟨wq.heap.size, 4, none⟩ = false := frozen_of_heap K3.out _; clear hown3 hg3 hat3)
              | (go_simp; go_at_call 10; refine (near_ok x L.length o.md _ HXj.out hL).mono ?_; rintro e w1 ⟨rfl, rfl⟩))
            all_goals
              obtain ⟨w4, hw4⟩ : ∃ w4, w4 = w3.setCell ⟨wq.heap.size, 4, none⟩ (.slice (some ⟨g3, 0, none⟩) (j + 1) cap3) := ⟨_, rfl⟩
              rw [← hw4]
              have HNX : Pk (∃ vk, w4.heap[wq.heap.size]? = some (.cells #[.int .i64 o.kind, .int .i64 (nearP o.a L.length o.md), .int .i64 (nearP o.b L.length o.md), .int .i64 (nearP o.c L.length o.md), vk, .int .i64 o.fn, .int .i64 o.sort, .int .i64 o.n, .bool o.md] 33 (0, 0)) ∧ w4.ownsRow 0 30 1 vk (j + 1) (nums (la.take (j + 1))) ∧ (∀ i, vk.ownBlock = some i → wq.heap.size < i) ∧ Below wq.heap.size wq w4) := Pk.mk (by
                have hgg : ∀ i, (Value.slice (some ⟨g3, 0, none⟩) (j + 1) cap3).ownBlock = some i → wq.heap.size < i := by
                  intro i hi
                  rcases HA3'.out with h | h
                  · rw [h] at hi; exact HX3'.out i hi
                  · rw [h] at hi; simp at hi; omega
                refine ⟨.slice (some ⟨g3, 0, none⟩) (j + 1) cap3, ?_, ?_, hgg, ?_⟩
                · rw [hw4]; exact heap_setCell_same K3.out _
                · rw [hw4, HTK.out, nums_append]
                  exact ((Fr.refl (fun b => b = wq.heap.size) w3).setCell (p := ⟨wq.heap.size, 4, none⟩) (.inl rfl) _).own HO3.out (fun i hi e => by have := hgg i hi; omega)
                · rw [hw4]
                  refine Below.setCell (Below.grown ((HX4'.out.drew).alloc (by simpa using hsz4) _) HG3.out (by simp; omega) (fun i hi => Nat.le_of_lt (HX3'.out i hi))) (p := ⟨wq.heap.size, 4, none⟩) (Nat.le_refl _) _)
              clear hw4 HO3 HG3 HA3' K3 k4 z4
              go_wp2
              go_roundw
              case rel => exact ⟨j + 1, by go_num, by omega, HNX⟩
              case measure => simp [intOf]; omega
            --R2>
          · --OUT2
            have hjl : j = o.l.length := by omega
            have hlal : la.length = o.l.length := by rw [HLA.out]; simp
            have HRow : Pk (wr.ownsRow 0 30 1 (.slice A4 la.length cap4) la.length (nums la)) := Pk.mk (by
              have h := HX2'.out
              rw [List.take_of_length_le (by omega)] at h
              rw [hlal, ← hjl]; exact h)
            have HLL := Pk.mk hlal
            have HJ := Pk.mk hjl
            have HA4 : Pk (∀ i, (Value.slice A4 la.length cap4).ownBlock = some i → wq.heap.size < i) := Pk.mk (fun i hi => HX3'.out i (by rw [← hi]; cases A4 <;> rfl))
            clear HX2' hlal hjl c8 q4 y4
            have q0 : wr.cell? ⟨wq.heap.size, 0, none⟩ = some (.int .i64 o.kind) := cell_of_heap HX1'.out rfl
            have q8 : wr.cell? ⟨wq.heap.size, 8, none⟩ = some (.bool o.md) := cell_of_heap HX1'.out rfl
            have y8 : wr.frozen? ⟨wq.heap.size, 8, none⟩ = false := frozen_of_heap HX1'.out _
            go_upto_region 19 with fail
            obtain ⟨w5, hw5⟩ : ∃ w5, w5 = wr.setCell ⟨wq.heap.size, 8, none⟩ (.bool false) := ⟨_, rfl⟩
            rw [← hw5]
            have HX5 : Pk (w5.heap[wq.heap.size]? = some (.cells (opCells (toldP L.length o) (.slice A4 la.length cap4)) 33 (0, 0))) := Pk.mk (by
              have h := heap_setCell_same (j := 8) HX1'.out (.bool false)
              rw [← hw5] at h
              rw [HJ.out, ← HLL.out] at h
              exact h)
            have HB5 : Pk (Below wq.heap.size wq w5) := Pk.mk (by rw [hw5]; exact HX4'.out.setCell (p := ⟨wq.heap.size, 8, none⟩) (Nat.le_refl _) _)
            have HRow5 : Pk (w5.ownsRow 0 30 1 (.slice A4 la.length cap4) la.length (nums la)) := Pk.mk (by
              rw [hw5]
              refine ((Fr.refl (fun b => b = wq.heap.size) wr).setCell (p := ⟨wq.heap.size, 8, none⟩) (.inl rfl) _).own HRow.out (fun i hi e => ?_)
              have := HA4.out i hi
              omega)
            clear hw5 q0 q8 y8 c4
            obtain ⟨w6, rfl⟩ : ∃ w6, w6 = w5 := ⟨w5, rfl⟩
            have HI6 := Pk.mk (HI.out.step HB5.out)
            obtain ⟨F2, G2, hF2, hG2, hsp2, hH2⟩ := HI6.out.two
            obtain rfl : H = fun k => (F2.m k ∨ F2.r k) ∨ (G2.m k ∨ G2.r k) := funext fun k => propext (hH2 k)
            have HF2 := Pk.mk hF2
            have HG2 := Pk.mk hG2
            have HS2 := Pk.mk hsp2
            have HTO : Pk (OpOk (toldP L.length o)) := Pk.mk (told_ok HOL.out hL)
            have HIA : Pk (IntsAt w6 A4 la) := Pk.mk (by
              obtain ⟨A', c', e, _, _, _, hi, _⟩ := own_ints HRow5.out
              cases e
              exact hi)
            clear hF2 hG2 hsp2 hH2
            have q0 : w6.cell? ⟨wq.heap.size, 0, none⟩ = some (.int .i64 o.kind) := cell_of_heap HX5.out rfl
            have q1 : w6.cell? ⟨wq.heap.size, 1, none⟩ = some (.int .i64 (nearP o.a L.length o.md)) := cell_of_heap HX5.out rfl
            have q2 : w6.cell? ⟨wq.heap.size, 2, none⟩ = some (.int .i64 (nearP o.b L.length o.md)) := cell_of_heap HX5.out rfl
            have q3 : w6.cell? ⟨wq.heap.size, 3, none⟩ = some (.int .i64 (nearP o.c L.length o.md)) := cell_of_heap HX5.out rfl
            have q4 : w6.cell? ⟨wq.heap.size, 4, none⟩ = some (.slice A4 la.length cap4) := cell_of_heap HX5.out rfl
            have q5 : w6.cell? ⟨wq.heap.size, 5, none⟩ = some (.int .i64 o.fn) := cell_of_heap HX5.out rfl
            have q6 : w6.cell? ⟨wq.heap.size, 6, none⟩ = some (.int .i64 o.sort) := cell_of_heap HX5.out rfl
            have q7 : w6.cell? ⟨wq.heap.size, 7, none⟩ = some (.int .i64 o.n) := cell_of_heap HX5.out rfl
            have q8 : w6.cell? ⟨wq.heap.size, 8, none⟩ = some (.bool false) := cell_of_heap HX5.out rfl
            have hk2 : 300000 + k * 100000 ≤ 1000000000000 := by omega
            go_wp2_with fail
            have HMADE := made_st (toldP L.length o) A4 cap4 ps pr L F2 G2 (300000 + k * 100000) w6 HF2.out HG2.out HS2.out hk2 HTO.out (by show IntsAt w6 A4 (o.l.map (nearP · L.length o.md)); rw [← HLA.out]; exact HIA.out)
            rw [told_told hL] at HMADE
            have HLA2 : (toldP L.length o).l.length = la.length := by rw [HLA.out]; rfl
            rw [HLA2] at HMADE
            refine HMADE.mono ?_
            rintro e w7 ⟨rfl, hmt⟩
            clear HMADE HLA2 q1 q2 q3 q4 q5 q6 q7 q8
            have HBN : Pk (¬ ((F2.m wq.heap.size ∨ F2.r wq.heap.size) ∨ (G2.m wq.heap.size ∨ G2.r wq.heap.size))) := Pk.mk (fun h => Nat.lt_irrefl _ (HI.out.two.lt _ h))
            obtain ⟨H7, hI7, hF7, hH7⟩ := HI6.out.made hmt (call_pre L _) (good_call HI6.out.good _)
            have HX7 : Pk (w7.heap[wq.heap.size]? = some (.cells (opCells (toldP L.length o) (.slice A4 la.length cap4)) 33 (0, 0))) := Pk.mk (hF7.heap HX5.out HBN.out)
            have HA4N : Pk (∀ i, (Value.slice A4 la.length cap4).ownBlock = some i → ¬ ((F2.m i ∨ F2.r i) ∨ (G2.m i ∨ G2.r i))) := Pk.mk (fun i hi h => by
              have h1 := HA4.out i hi
              have h2 := HI.out.two.lt _ h
              omega)
            have HRow7 : Pk (w7.ownsRow 0 30 1 (.slice A4 la.length cap4) la.length (nums la)) := Pk.mk (hF7.own HRow5.out HA4N.out)
            have HI7 := Pk.mk hI7
            have hs7 : w6.heap.size ≤ w7.heap.size := hF7.size
            have hs6 : wq.heap.size < w6.heap.size := lt_of_heap HX5.out
            have HA7 : Pk (∀ i, (Value.slice A4 la.length cap4).ownBlock = some i → w1.heap.size ≤ i ∧ ¬ H7 i ∧ ¬ u5.ownBlock = some i) := Pk.mk (fun i hi => by
              have h1 := HA4.out i hi
              have h2 := HI.out.below.size
              have h3 := (HRow5.out.lt i hi).2
              refine ⟨by omega, fun h => ?_, fun h => ?_⟩
              · rcases hH7 i h with h4 | h4
                · exact HA4N.out i hi h4
                · omega
              · have := (HI.out.row5.lt i h).2
                omega)
            clear hmt hI7 hF7 hH7
            obtain ⟨L7, t7, e7, hr⟩ : ∃ L7 t7 e7, callP L (toldP L.length o) = (L7, t7, e7) := ⟨_, _, _, rfl⟩
            rw [hr] at HI7 ⊢
            have HRr := Pk.mk hr
            clear hr
            have q0 : w7.cell? ⟨wq.heap.size, 0, none⟩ = some (.int .i64 o.kind) := cell_of_heap HX7.out rfl
            have HEND : Pk (∃ L H M xs os cs, Inv w1 w7 ps pr (300000 + (k + 1) * 100000) L H M u5 u6 xs os cs ∧ os.length ≤ k + 1) := Pk.mk ⟨L7, H7, M, xs, os, cs, by
              have h := HI7.out
              rwa [show 300000 + k * 100000 + 100000 = 300000 + (k + 1) * 100000 by omega] at h, by omega⟩
            by_cases he : e7 = 0
            · subst he
              by_cases hk0 : 0 ≤ o.kind
              · by_cases hk8 : o.kind ≤ 8
                · have HK := Pk.mk (And.intro hk0 hk8)
                  have d0 : decide (0 ≤ o.kind) = true := decide_eq_true hk0
                  have d8 : decide (o.kind ≤ 8) = true := decide_eq_true hk8
                  clear hk0 hk8
                  obtain ⟨i0, hi, hzz⟩ := Option.map_eq_some_iff.1 info30
                  simp only [Prod.mk.injEq] at hzz
                  obtain ⟨hz0, hz1, hz2⟩ := hzz
                  have HII := Pk.mk hi
                  have HZ0 := Pk.mk hz0
                  have HZ1 := Pk.mk hz1
                  have HZ2 := Pk.mk hz2
                  clear hi hz0 hz1 hz2
                  have hxl : xs.length ≤ 100 := by have := HI7.out.len; omega
                  have HT1 := Pk.mk (ints_new w7 30 (0, 0) [t7] #[.int .i64 t7] rfl)
                  have HR5 := Pk.mk (HI7.out.row5.alloc (.cells #[.int .i64 t7] 30))
                  go_wp2_with (at_builtin; refine wpList_append_ints rfl (.tmp 121) (.tmp 123) 29 rfl 30 i0 8 Try.underlying29 HII.out HZ0.out HZ1.out HZ2.out u5 xs rfl HR5.out (some ⟨w7.heap.size, 0, none⟩) 1 [t7] rfl HT1.out ?c1 ?c2 ?_)
                  case c1 => simp only [maxLen, List.length_cons, List.length_nil]; omega
                  case c2 => simp only [List.length_cons, List.length_nil]; omega
                  intro v8 w8 hv8 hg8 hat8
                  have HV8 := Pk.mk hv8
                  have HFR8 : Pk (Fr (fun b => u5.ownBlock = some b) w7 w8) := Pk.mk (((Fr.refl _ w7).alloc _).grown hg8 (fun i hi => .inl hi))
                  have HAT8 : Pk (∀ i, v8.ownBlock = some i → u5.ownBlock = some i ∨ w7.heap.size ≤ i) := Pk.mk (fun i hi => by
                    rcases hat8 with h | h
                    · rw [h] at hi; exact .inl hi
                    · rw [h] at hi; simp at hi; omega)
                  have HN8 : Pk (¬ u5.ownBlock = some wq.heap.size) := Pk.mk (fun h => by
                    obtain ⟨cur, hc⟩ := own_block HI7.out.row5 h
                    rw [HX7.out] at hc
                    cases hc)
                  have HX8 := Pk.mk (HFR8.out.heap HX7.out HN8.out)
                  have hs8 : w7.heap.size ≤ w8.heap.size := HFR8.out.size
                  clear hv8 hg8 hat8 q0
                  have q0 : w8.cell? ⟨wq.heap.size, 0, none⟩ = some (.int .i64 o.kind) := cell_of_heap HX8.out rfl
                  have q1 : w8.cell? ⟨wq.heap.size, 1, none⟩ = some (.int .i64 (nearP o.a L.length o.md)) := cell_of_heap HX8.out rfl
                  have q2 : w8.cell? ⟨wq.heap.size, 2, none⟩ = some (.int .i64 (nearP o.b L.length o.md)) := cell_of_heap HX8.out rfl
                  have q3 : w8.cell? ⟨wq.heap.size, 3, none⟩ = some (.int .i64 (nearP o.c L.length o.md)) := cell_of_heap HX8.out rfl
                  have q4 : w8.cell? ⟨wq.heap.size, 4, none⟩ = some (.slice A4 la.length cap4) := cell_of_heap HX8.out rfl
                  have q5 : w8.cell? ⟨wq.heap.size, 5, none⟩ = some (.int .i64 o.fn) := cell_of_heap HX8.out rfl
                  have q6 : w8.cell? ⟨wq.heap.size, 6, none⟩ = some (.int .i64 o.sort) := cell_of_heap HX8.out rfl
                  have q7 : w8.cell? ⟨wq.heap.size, 7, none⟩ = some (.int .i64 o.n) := cell_of_heap HX8.out rfl
                  have q8 : w8.cell? ⟨wq.heap.size, 8, none⟩ = some (.bool false) := cell_of_heap HX8.out rfl
                  have hos : os.length ≤ 100 := by omega
                  have HR6 : Pk ((w8.alloc (.cells (opCells (toldP L.length o) (.slice A4 la.length cap4)) 33)).ownsRow 0 33 9 u6 os.length cs) := Pk.mk ((HFR8.out.own HI7.out.row6 (fun i hi h5 => by
                    obtain ⟨c1, hc1⟩ := own_block HI7.out.row5 h5
                    obtain ⟨c2, hc2⟩ := own_block HI7.out.row6 hi
                    rw [hc1] at hc2
                    cases hc2)).alloc _)
                  have HNC9 : Pk (∀ i u, (opCells (toldP L.length o) (.slice A4 la.length cap4)).toList[i]? = some u → (w8.alloc (.cells (opCells (toldP L.length o) (.slice A4 la.length cap4)) 33)).cell? ((⟨w8.heap.size, 0, none⟩ : Addr).add i) = some u) := Pk.mk (by
                    intro i u hu
                    rw [add_plain]
                    exact cell_of_heap (MapKept.heap_alloc w8 _).1 (by simpa using hu))
                  have HN9 : Pk (∀ u ∈ (opCells (toldP L.length o) (.slice A4 la.length cap4)).toList, u.oneCell' = true) := Pk.mk (by
                    intro u hu
                    simp only [opCells, List.mem_cons, List.not_mem_nil, or_false] at hu
                    rcases hu with rfl | rfl | rfl | rfl | rfl | rfl | rfl | rfl | rfl <;> rfl)
                  obtain ⟨j0, hi, hzz⟩ := Option.map_eq_some_iff.1 info33
                  simp only [Prod.mk.injEq] at hzz
                  obtain ⟨hz0, hz1, hz2⟩ := hzz
                  have HJJ := Pk.mk hi
                  have HY0 := Pk.mk hz0
                  have HY1 := Pk.mk hz1
                  have HY2 := Pk.mk hz2
                  clear hi hz0 hz1 hz2
                  go_wp2_with (at_builtin; refine Go.wpList_append_own_at _ rfl (.tmp 125) (.tmp 127) 22 rfl 0 33 j0 _ 9 88 Try.underlying22 HJJ.out HY0.out HY1.out HY2.out rfl (by decide) u6 os.length cs rfl HR6.out ⟨w8.heap.size, 0, none⟩ 1 1 _ rfl rfl HNC9.out HN9.out ?d1 ?d2 (Nat.zero_le _) ?_)
                  case d1 => simp only [maxLen]; omega
                  case d2 => omega
                  intro v9 w9 hv9 hg9 _ hat9
                  obtain ⟨M9, hI9⟩ := HI7.out.push (t := t7) (o := toldP L.length o) (va := .slice A4 la.length cap4) HFR8.out HV8.out HAT8.out (((Fr.refl _ w8).alloc _).grown hg9 (fun i hi => .inl hi)) hv9 (fun i hi => by
                    rcases hat9 with h | h
                    · rw [h] at hi; exact .inl hi
                    · rw [h] at hi; simp at hi; omega) (by
                    have h := HRow7.out
                    rw [HLA.out] at h ⊢
                    simpa [toldP] using h) HA7.out ⟨HK.out, rfl, HTO.out, L, L7, HRr.out, List.prefix_refl _⟩
                  have HEND9 : Pk (∃ L H M xs os cs, Inv w1 w9 ps pr (300000 + (k + 1) * 100000) L H M v8 v9 xs os cs ∧ os.length ≤ k + 1) := Pk.mk ⟨L7, H7, M9, xs ++ [t7], os ++ [toldP L.length o], _, by
                    have h := hI9
                    rwa [show 300000 + k * 100000 + 100000 = 300000 + (k + 1) * 100000 by omega] at h, by simp; omega⟩
                  clear hv9 hg9 hat9 hI9 q0 q1 q2 q3 q4 q5 q6 q7 q8
                  go_wp2_with fail
                  go_roundw
                  case rel => exact ⟨k + 1, by go_num, by omega, HEND9⟩
                  case measure => simp [intOf]; omega
                · have d0 : decide (0 ≤ o.kind) = true := decide_eq_true hk0
                  have d8 : decide (o.kind ≤ 8) = false := decide_eq_false hk8
                  go_wp2_with fail
                  go_roundw
                  case rel => exact ⟨k + 1, by go_num, by omega, HEND⟩
                  case measure => simp [intOf]; omega
              · have d0 : decide (0 ≤ o.kind) = false := decide_eq_false hk0
                go_wp2_with fail
                go_roundw
                case rel => exact ⟨k + 1, by go_num, by omega, HEND⟩
                case measure => simp [intOf]; omega
            · have hd : (e7 == 0) = false := by simp [he]
              go_wp2_with fail
              go_roundw
              case rel => exact ⟨k + 1, by go_num, by omega, HEND⟩
              case measure => simp [intOf]; omega
        --R1>
      · --OUT1
        have hkb : k ≤ 100 := by omega
        obtain ⟨F, G, hF, hG, _, _⟩ := HI.out.two
        have HF := Pk.mk hF
        have hL := hF.len
        clear hF hG
        obtain ⟨A6, cap6, rfl⟩ := slice_form HI.out.row6
        obtain ⟨A5, cap5, h5, _⟩ := own_ints HI.out.row5
        subst h5
        have HXO := Pk.mk HI.out.len
        rw [HXO.out] at HI ⊢
        obtain ⟨N, hN, HN⟩ : ∃ N, N ≤ 10300000 ∧ Pk (Inv w1 wq ps pr N L H M (.slice A5 os.length cap5) (.slice A6 os.length cap6) xs os cs) := ⟨_, by omega, HI⟩
        clear HI HA HOK
        go_wp2_with fail
        refine (len_st ps L F _ wq HF.out).mono ?_
        rintro e w2 ⟨rfl, hb⟩
        have HI2 := Pk.mk (HN.out.step hb)
        clear HN HF hb
        go_wp2_with fail
        go_loopw [15] (fun v15 wr => ∃ j : Nat, v15 = .int .i64 j ∧ j ≤ os.length ∧ Pk (∃ H, Inv w1 wr ps pr (N + j * 100000) L H M (.slice A5 os.length cap5) (.slice A6 os.length cap6) xs os cs)) (fun v15 _ => os.length - (intOf v15).toNat)
        case atStart => exact ⟨0, rfl, by omega, ⟨_, by simpa using HI2.out⟩⟩
        case round =>
          obtain ⟨wp, rfl⟩ : ∃ wp, wp = wr := ⟨wr, rfl⟩
          obtain ⟨j, rfl, hj, HQ⟩ := hrel
          obtain ⟨H, hI⟩ := HQ.out
          have HI := Pk.mk hI
          clear HQ hI HI2
          by_cases hltj : j < os.length
          · skip
            --<R3
            obtain ⟨g6, c6, h6⟩ := own_form HI.out.row6 (by omega)
            obtain ⟨rfl, _⟩ : A6 = some ⟨g6, 0, none⟩ ∧ True := by cases h6; simp
            obtain ⟨v, hc, hv, _⟩ := HI.out.calls.2 j os[j] (by simp [hltj])
            obtain ⟨A7, c7, rfl, _, _, _, hA7, _⟩ := own_ints hv
            have hltx : j < xs.length := by rw [HXO.out]; exact hltj
            have hx5 : xs[j]? = some xs[j] := by simp [hltx]
            obtain ⟨g5, c5, h5⟩ := own_form HI.out.row5 (by omega)
            obtain ⟨rfl, _⟩ : A5 = some ⟨g5, 0, none⟩ ∧ True := by simp only [Value.slice.injEq] at h5; exact ⟨h5.1, trivial⟩
            have HX5 := Pk.mk hx5
            obtain ⟨hkd, hmd, hok, Lj, Lj', hcall, hpre⟩ := HI.out.told j os[j] xs[j] (by simp [hltj]) hx5
            have HCA := Pk.mk (call_again hcall hpre hkd)
            have HOK := Pk.mk hok
            have HMD := Pk.mk hmd
            have HA7 := Pk.mk hA7
            generalize xs[j] = x at *
            generalize os[j] = o at *
            have hcell : ∀ i u, i < 9 → (opCells o (.slice A7 o.l.length c7))[i]? = some u → wp.cell? ⟨g6, j * 9 + i, none⟩ = some u := fun i u hi hu => by
              have h := HI.out.row6.cells (g := g6) rfl (j * 9 + i) u (by rw [hc i hi, hu])
              rwa [add_plain] at h
            have c0 : wp.cell? ⟨g6, j * 9, none⟩ = some (.int .i64 o.kind) := hcell 0 _ (by omega) rfl
            have c1 : wp.cell? ⟨g6, j * 9 + 1, none⟩ = some (.int .i64 o.a) := hcell 1 _ (by omega) rfl
            have c2 : wp.cell? ⟨g6, j * 9 + 2, none⟩ = some (.int .i64 o.b) := hcell 2 _ (by omega) rfl
            have c3 : wp.cell? ⟨g6, j * 9 + 3, none⟩ = some (.int .i64 o.c) := hcell 3 _ (by omega) rfl
            have c4 : wp.cell? ⟨g6, j * 9 + 4, none⟩ = some (.slice A7 o.l.length c7) := hcell 4 _ (by omega) rfl
            have c5' : wp.cell? ⟨g6, j * 9 + 5, none⟩ = some (.int .i64 o.fn) := hcell 5 _ (by omega) rfl
            have c6 : wp.cell? ⟨g6, j * 9 + 6, none⟩ = some (.int .i64 o.sort) := hcell 6 _ (by omega) rfl
            have c7' : wp.cell? ⟨g6, j * 9 + 7, none⟩ = some (.int .i64 o.n) := hcell 7 _ (by omega) rfl
            have c8 : wp.cell? ⟨g6, j * 9 + 8, none⟩ = some (.bool o.md) := hcell 8 _ (by omega) rfl
            clear hcell hc hv hcall hpre hkd hmd hok hA7 hx5 h6 hltx h5
            obtain ⟨F2, G2, hF2, hG2, hsp2, hH2⟩ := HI.out.two
            obtain rfl : H = fun k => (F2.m k ∨ F2.r k) ∨ (G2.m k ∨ G2.r k) := funext fun k => propext (hH2 k)
            have HF2 := Pk.mk hF2
            have HG2 := Pk.mk hG2
            have HS2 := Pk.mk hsp2
            clear hF2 hG2 hsp2 hH2
            have hN2 : N + j * 100000 ≤ 1000000000000 := by omega
            go_wp2_with fail
            have HMADE := made_st o A7 c7 ps pr L F2 G2 _ wp HF2.out HG2.out HS2.out hN2 HOK.out HA7.out
            rw [told_self HMD.out, HCA.out] at HMADE
            refine HMADE.mono ?_
            rintro e w7 ⟨rfl, hmt⟩
            obtain ⟨H7, hI7, _⟩ := HI.out.made hmt (List.prefix_refl _) HI.out.good
            clear HMADE hmt c0 c1 c2 c3 c4 c5' c6 c7' c8
            have c5 : w7.cell? ⟨g5, j, none⟩ = some (.int .i64 x) := by
              have h := hI7.row5.cells (g := g5) rfl j (.int .i64 x) (by simp [nums, HX5.out])
              rwa [add_plain] at h
            have HEND : Pk (∃ H, Inv w1 w7 ps pr (N + (j + 1) * 100000) L H M (.slice (some ⟨g5, 0, none⟩) os.length cap5) (.slice (some ⟨g6, 0, none⟩) os.length cap6) xs os cs) := Pk.mk ⟨H7, by
              rwa [show N + j * 100000 + 100000 = N + (j + 1) * 100000 by omega] at hI7⟩
            clear hI7
            go_wp2_with fail
            go_roundw
            case rel => exact ⟨j + 1, by go_num, by omega, HEND⟩
            case measure => simp [intOf]; omega
            --R3>
          · --OUT3
            have HGOOD := Pk.mk HI.out.good
            obtain ⟨H', M', v', hAll⟩ : ∃ (F : Foot) (N : Nat) (M : Nat → Prop), Pk (All w1 wp ps N L F M (.slice none 0 0) 0 []) := by
              obtain ⟨F2, G2, hF2, hG2, hsp2, hH2⟩ := HI.out.two
              exact ⟨F2, _, fun _ => False, Pk.mk ⟨hF2, World.ownsRow_nil _ _ _ _, NodesAt.nil _ _, fun k hk => HI.out.hb k ((hH2 k).2 (.inl hk)), by simp, by simp [Value.ownBlock], HI.out.below⟩⟩
            obtain ⟨F2, rfl⟩ : ∃ F2, F2 = H' := ⟨_, rfl⟩
            obtain ⟨N2, rfl⟩ : ∃ N2, N2 = M' := ⟨_, rfl⟩
            clear HI
            go_wp2_with fail
            refine (len_st ps L F2 _ wp hAll.out.st).mono ?_
            rintro e w4 ⟨rfl, hb⟩
            have HALL := Pk.mk (hAll.out.step hb)
            clear hAll hb
            go_wp2_with fail
            go_loopw [19, 20] (fun v19 v20 wr => ∃ i : Nat, v20 = .int .i64 i ∧ i ≤ L.length ∧ Pk (∃ M cs, All w1 wr ps N2 L F2 M v19 i cs)) (fun _ v20 _ => L.length - (intOf v20).toNat)
            case atStart => exact ⟨0, rfl, by omega, ⟨_, _, HALL.out⟩⟩
            case round =>
              obtain ⟨wx, rfl⟩ : ∃ wx, wx = wr := ⟨wr, rfl⟩
              obtain ⟨i, rfl, hi, HQ⟩ := hrel
              obtain ⟨M, cs4, hI⟩ := HQ.out
              have HI := Pk.mk hI
              clear HQ hI HALL
              by_cases hlti : i < L.length
              · have HLI : Pk (L[i]? = some L[i]) := Pk.mk (by simp [hlti])
                generalize L[i] = nd at *
                go_wp2_with fail
                refine (node_st i ps L F2 _ wx HI.out.st).mono ?_
                rw [nodeP_in HLI.out]
                rintro e w5 ⟨va, rfl, hva, hb, hvb⟩
                simp only at hva ⊢
                obtain ⟨B, cb, rfl, _, _, _, hB, _⟩ := own_ints hva
                have hargs : nd.args.length ≤ 100000 := by
                  obtain ⟨A, cap, m, _, _, _, hr⟩ := HI.out.st.read
                  obtain ⟨_, _, _, _, _, _, _, _, hok⟩ := hr i nd HLI.out
                  exact hok.len
                have HI5 := Pk.mk (HI.out.step hb)
                have HVA := Pk.mk hva
                have HVB := Pk.mk hvb
                have HB5 := Pk.mk hB
                have hs5 := hb.size
                clear hva hb hvb hB
                go_wp2_with fail
                obtain ⟨w6, hw6⟩ : ∃ w6, w6 = w5.alloc (.cells #[.int .u8 nd.op, .int .i64 nd.fn, .int .i64 nd.num, .int .i64 nd.sort, .slice B nd.args.length cb] 44) := ⟨_, rfl⟩
                rw [← hw6]
                have HM6 : Pk (w6.heap[w5.heap.size]? = some (.cells #[.int .u8 nd.op, .int .i64 nd.fn, .int .i64 nd.num, .int .i64 nd.sort, .slice B nd.args.length cb] 44 (0, 0))) := Pk.mk (by rw [hw6]; exact (MapKept.heap_alloc w5 _).1)
                have HA6 : Pk (Below w5.heap.size w5 w6) := Pk.mk (by rw [hw6]; exact below_alloc _ _)
                have HI6 := Pk.mk (HI5.out.step HA6.out)
                have HB6 := Pk.mk (HB5.out.below HA6.out)
                have HVA6 := Pk.mk ((Fr.of_below (F := fun _ => False) HA6.out).own HVA.out (fun _ _ h => h))
                have hsz6 : wx.heap.size ≤ w6.heap.size := Nat.le_trans hs5 HA6.out.size
                clear hw6 HI5 HB5 HVA
                have m4 : w6.cell? ⟨w5.heap.size, 4, none⟩ = some (.slice B nd.args.length cb) := cell_of_heap HM6.out rfl
                go_loop [23] (fun v23 => ∃ q : Nat, v23 = .int .i64 q ∧ q ≤ nd.args.length) (fun v23 => nd.args.length - (intOf v23).toNat)
                case atStart => exact ⟨0, rfl, by omega⟩
                case round =>
                  obtain ⟨q, rfl, hq⟩ := hrel
                  by_cases hltq : q < nd.args.length
                  · obtain ⟨ad, rfl, hcl⟩ := HB6.out q nd.args[q] (by simp [hltq])
                    obtain ⟨hx0, hx1⟩ := HGOOD.out.small i nd HLI.out nd.args[q] (List.getElem_mem hltq)
                    generalize nd.args[q] = x at *
                    go_wp2_with fail
                    go_round
                    case rel => exact ⟨q + 1, by go_num, by omega⟩
                    case measure => simp [intOf]; omega
                  · --OUT5
                    go_wp2_with fail
                    clear m4
                    go_loopw [24] (fun v24 wr => ∃ q : Nat, v24 = .int .i64 q ∧ q ≤ i ∧ Pk (Below w6.heap.size w6 wr)) (fun v24 _ => i - (intOf v24).toNat)
                    case atStart => exact ⟨0, rfl, by omega, ⟨Below.refl _ _⟩⟩
                    case round =>
                      obtain ⟨w7, rfl⟩ : ∃ w7, w7 = wr := ⟨wr, rfl⟩
                      obtain ⟨q', rfl, hq', HB7⟩ := hrel
                      have HI7 := Pk.mk (HI6.out.step HB7.out)
                      have HM7 := Pk.mk (heap_below HB7.out HM6.out)
                      have m0 : w7.cell? ⟨w5.heap.size, 0, none⟩ = some (.int .u8 nd.op) := cell_of_heap HM7.out rfl
                      have m1 : w7.cell? ⟨w5.heap.size, 1, none⟩ = some (.int .i64 nd.fn) := cell_of_heap HM7.out rfl
                      have m2 : w7.cell? ⟨w5.heap.size, 2, none⟩ = some (.int .i64 nd.num) := cell_of_heap HM7.out rfl
                      have m3 : w7.cell? ⟨w5.heap.size, 3, none⟩ = some (.int .i64 nd.sort) := cell_of_heap HM7.out rfl
                      have m4 : w7.cell? ⟨w5.heap.size, 4, none⟩ = some (.slice B nd.args.length cb) := cell_of_heap HM7.out rfl
                      by_cases hltq' : q' < i
                      · obtain ⟨g9, c9, rfl⟩ := own_form HI7.out.row (by omega)
                        have hqL : q' < L.length := by omega
                        obtain ⟨v', hc, hv', _⟩ := HI7.out.nodes.2 q' L[q'] (by simp [hltq', hqL])
                        obtain ⟨B', cb', rfl, _, _, _, hB', _⟩ := own_ints hv'
                        have hne : Pk (decide (nd = L[q']) = false) := Pk.mk (by
                          apply decide_eq_false
                          intro e
                          have h1 := HLI.out
                          rw [e, ← List.getElem?_eq_getElem hqL] at h1
                          have := (List.getElem?_inj hlti HI7.out.st.nodup).1 h1
                          omega)
                        have hok' := HI7.out.st.node_ok _ (List.getElem_mem hqL)
                        have hla' := hok'.len
                        generalize L[q'] = ne at *
                        have hcell : ∀ k u, k < 5 → (nodeCells ne (.slice B' ne.args.length cb'))[k]? = some u → w7.cell? ⟨g9, q' * 5 + k, none⟩ = some u := fun k u hk hu => by
                          have h := HI7.out.row.cells (g := g9) rfl (q' * 5 + k) u (by rw [hc k hk, hu])
                          rwa [add_plain] at h
                        have n0 : w7.cell? ⟨g9, q' * 5, none⟩ = some (.int .u8 ne.op) := hcell 0 _ (by omega) rfl
                        have n1 : w7.cell? ⟨g9, q' * 5 + 1, none⟩ = some (.int .i64 ne.fn) := hcell 1 _ (by omega) rfl
                        have n2 : w7.cell? ⟨g9, q' * 5 + 2, none⟩ = some (.int .i64 ne.num) := hcell 2 _ (by omega) rfl
                        have n3 : w7.cell? ⟨g9, q' * 5 + 3, none⟩ = some (.int .i64 ne.sort) := hcell 3 _ (by omega) rfl
                        have n4 : w7.cell? ⟨g9, q' * 5 + 4, none⟩ = some (.slice B' ne.args.length cb') := hcell 4 _ (by omega) rfl
                        have HB7' := Pk.mk hB'
                        have HBB := Pk.mk (HB6.out.below HB7.out)
                        clear hc hv' hok' hcell hB'
                        go_wp2_with fail
                        go_still_tail 5, (by kernel_rfl)
                        go_wp2_with fail
                        refine (same_ok nd ne B B' cb cb' _ (HBB.out.below (below_drewN _ 1)) (HB7'.out.below (below_drewN _ 1)) (by omega) (by omega)).mono ?_
                        rw [hne.out]
                        rintro e w8 ⟨rfl, hb⟩
                        have HB8 := Pk.mk (below_then HB7.out (below_then (below_drewN w7 1) hb))
                        clear hb m0 m1 m2 m3 m4 n0 n1 n2 n3 n4
                        go_wp2_with fail
                        go_roundw
                        case rel => exact ⟨q' + 1, by go_num, by omega, HB8⟩
                        case measure => simp [intOf]; omega
                      · --OUT6
                        obtain ⟨i0, hi0, hzz⟩ := Option.map_eq_some_iff.1 info44
                        simp only [Prod.mk.injEq] at hzz
                        obtain ⟨hz0, hz1, hz2⟩ := hzz
                        have HII := Pk.mk hi0
                        have HZ0 := Pk.mk hz0
                        have HZ1 := Pk.mk hz1
                        have HZ2 := Pk.mk hz2
                        clear hi0 hz0 hz1 hz2
                        have HNC : Pk (∀ i u, (nodeCells nd (.slice B nd.args.length cb))[i]? = some u → (w7.alloc (.cells (nodeCells nd (.slice B nd.args.length cb)).toArray 44)).cell? ((⟨w7.heap.size, 0, none⟩ : Addr).add i) = some u) := Pk.mk (by
                          intro i u hu
                          rw [add_plain]
                          exact cell_of_heap (MapKept.heap_alloc w7 _).1 (by simpa using hu))
                        have HN1 : Pk (∀ u ∈ nodeCells nd (.slice B nd.args.length cb), u.oneCell' = true) := Pk.mk (by
                          intro u hu
                          simp only [nodeCells, List.mem_cons, List.not_mem_nil, or_false] at hu
                          rcases hu with rfl | rfl | rfl | rfl | rfl <;> rfl)
                        have HRA := Pk.mk (HI7.out.row.alloc (.cells (nodeCells nd (.slice B nd.args.length cb)).toArray 44))
                        go_wp2_with (at_builtin; refine Go.wpList_append_own_at _ rfl (.tmp 212) (.tmp 214) 34 rfl 0 44 i0 _ 5 56 Try.underlying34 HII.out HZ0.out HZ1.out HZ2.out rfl (by decide) u19 i cs4 rfl HRA.out ⟨w7.heap.size, 0, none⟩ 1 1 _ rfl rfl HNC.out HN1.out ?e1 ?e2 (Nat.zero_le _) ?_)
                        case e1 => simp only [maxLen]; omega
                        case e2 => omega
                        intro v9 w9 hv9 hg9 _ hat9
                        obtain ⟨M9, hI9⟩ := HI7.out.push HLI.out (((Fr.refl _ w7).alloc _).grown hg9 (fun i hi => .inl hi)) hv9 (fun i hi => by
                          rcases hat9 with h | h
                          · rw [h] at hi; exact .inl hi
                          · rw [h] at hi; simp at hi; omega) ((Fr.of_below (F := fun _ => False) HB7.out).own HVA6.out (fun _ _ h => h)) (fun k hk => by
                          have h1 := HVB.out k hk
                          have h2 := HI.out.below.size
                          omega)
                        have HEND : Pk (∃ M cs, All w1 w9 ps N2 L F2 M v9 (i + 1) cs) := Pk.mk ⟨_, _, hI9⟩
                        clear hv9 hg9 hat9 hI9 m0 m1 m2 m3 m4
                        go_wp2_with fail
                        go_roundw
                        case rel => exact ⟨i + 1, by go_num, by omega, HEND⟩
                        case measure => simp [intOf]; omega
              · --OUT4
                have HBW := Pk.mk HI.out.below
                clear HI
                go_wp2_with fail
                refine (known_st wx).mono ?_
                rintro e w6 ⟨rfl, hb⟩
                have HB6 := Pk.mk (HBW.out.trans (hb.mono HBW.out.size))
                clear hb
                go_wp2
                go_ret
                exact ⟨rfl, HB6.out⟩
  · rw [Bool.not_eq_true] at ht
    rw [ht]
    clear ht
    go_wp2_with fail
    refine (known_st w1).mono ?_
    rintro e w2 ⟨rfl, hb⟩
    have HB := Pk.mk hb
    clear hb
    go_wp2
    go_ret
    exact ⟨rfl, HB.out⟩
end Go.Proofs.Ytpkegeblfdlibaa
