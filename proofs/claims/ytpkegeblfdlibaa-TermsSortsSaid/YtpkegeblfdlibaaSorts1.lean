/- Walk of the law TermsSorts. -/
import Derived.Test.YtpkegeblfdlibaaSorts0
import Derived.Test.YtpkegeblfdlibaaSortsPure
namespace Go.Proofs.Ytpkegeblfdlibaa
open Go Go.RowKit
set_option linter.unusedVariables false
set_option linter.unusedSimpArgs false

set_option maxRecDepth 100000 in
set_option maxHeartbeats 4000000 in
theorem sorts_st (A : Option Addr) (c : Nat) (ops : List OpV) (w : World) (hA : OpsAt w A ops) (hl : ops.length ≤ maxLen) : Calls Try.prog 4 #[.slice A ops.length c] w fun e w' => e = .returned (.bool true) ∧ Below w.heap.size w w' := by
  have HA := Pk.mk hA
  have hl' : ops.length ≤ 9223372036854775807 := hl
  clear hA hl
  go_enter Try.func4, Try.ntmps4
  go_wp2_with fail
  refine (tame_st A c 100 ops w HA.out (by omega) hl').mono ?_
  rintro e w1 ⟨rfl, rfl⟩
  by_cases ht : tameP ops 100 = true
  · rw [ht]
    obtain ⟨hlen, hok⟩ := tame_ok HA.out ht
    have HOK := Pk.mk hok
    clear ht hok
    go_wp2_with fail
    refine (new_st w1).mono ?_
    rintro e w2 ⟨ps, F, rfl, hst, hb, hF⟩
    have HST := Pk.mk hst
    have HB := Pk.mk hb
    have HF := Pk.mk hF
    clear hst hb hF
    go_wp2_with fail
    refine (rnew_st w2).mono ?_
    rintro e w3 ⟨pr, G, rfl, hst, hb, hG⟩
    have hsz := HB.out.size
    obtain ⟨H0, HINV⟩ : ∃ H0, Pk (Two w1 w3 ps pr 300000 L0 H0) := ⟨fun k => (F.m k ∨ F.r k) ∨ (G.m k ∨ G.r k), ⟨⟨F, G, HST.out.below hb, hst, by
      rintro k hk hg
      have h1 := HST.out.lt k hk
      have h2 := hG k hg
      omega, fun k => Iff.rfl⟩, by
      rintro k (h | h)
      · exact HF.out k h
      · have := hG k h; omega, below_then HB.out hb⟩⟩
    clear hb hG HST HB HF hst hsz
    go_wp2_with fail
    go_loopw [5] (fun v5 wr => ∃ k : Nat, v5 = .int .i64 k ∧ k ≤ ops.length ∧ Pk (∃ L H, Two w1 wr ps pr (300000 + k * 100000) L H ∧ Sorts L)) (fun v5 _ => ops.length - (intOf v5).toNat)
    case atStart => exact ⟨0, rfl, by omega, ⟨_, _, HINV.out, sorts0⟩⟩
    case round =>
      obtain ⟨wq, rfl⟩ : ∃ wq, wq = wr := ⟨wr, rfl⟩
      obtain ⟨k, rfl, hk, HQ⟩ := hrel
      obtain ⟨L, H, hI, hso⟩ := HQ.out
      have HI := Pk.mk hI
      have HSO := Pk.mk hso
      clear HQ hI hso HINV
      by_cases hlt : k < ops.length
      · skip
        --<R1
        have HOL := Pk.mk (HOK.out _ (List.getElem_mem hlt))
        obtain ⟨ad, B, cc, rfl, hc, hB⟩ := HA.out.rd k ops[k] (by simp [hlt])
        have HBA := Pk.mk (hB.below HI.out.below)
        have hc' (j : Nat) (v : Value) (hj : (opCells ops[k] (.slice B ops[k].l.length cc))[j]? = some v) := cell_below HI.out.below (hc j v hj)
        generalize ops[k] = o at *
        have c0 : wq.cell? (ad.add (k * 9)) = some (.int .i64 o.kind) := hc' 0 _ rfl
        have c1 : wq.cell? ⟨(ad.add (k * 9)).block, (ad.add (k * 9)).off + 1, none⟩ = some (.int .i64 o.a) := hc' 1 _ rfl
        have c2 : wq.cell? ⟨(ad.add (k * 9)).block, (ad.add (k * 9)).off + 2, none⟩ = some (.int .i64 o.b) := hc' 2 _ rfl
        have c3 : wq.cell? ⟨(ad.add (k * 9)).block, (ad.add (k * 9)).off + 3, none⟩ = some (.int .i64 o.c) := hc' 3 _ rfl
        have c4 : wq.cell? ⟨(ad.add (k * 9)).block, (ad.add (k * 9)).off + 4, none⟩ = some (.slice B o.l.length cc) := hc' 4 _ rfl
        have c5 : wq.cell? ⟨(ad.add (k * 9)).block, (ad.add (k * 9)).off + 5, none⟩ = some (.int .i64 o.fn) := hc' 5 _ rfl
        have c6 : wq.cell? ⟨(ad.add (k * 9)).block, (ad.add (k * 9)).off + 6, none⟩ = some (.int .i64 o.sort) := hc' 6 _ rfl
        have c7 : wq.cell? ⟨(ad.add (k * 9)).block, (ad.add (k * 9)).off + 7, none⟩ = some (.int .i64 o.n) := hc' 7 _ rfl
        have c8 : wq.cell? ⟨(ad.add (k * 9)).block, (ad.add (k * 9)).off + 8, none⟩ = some (.bool o.md) := hc' 8 _ rfl
        clear hc hc' hB
        obtain ⟨F2, G2, hF2, hG2, hsp2, hH2⟩ := HI.out.two
        obtain rfl : H = fun k => (F2.m k ∨ F2.r k) ∨ (G2.m k ∨ G2.r k) := funext fun k => propext (hH2 k)
        have HF2 := Pk.mk hF2
        have HG2 := Pk.mk hG2
        have HS2 := Pk.mk hsp2
        clear hF2 hG2 hsp2 hH2
        have hN2 : 300000 + k * 100000 ≤ 1000000000000 := by omega
        go_wp2_with fail
        have HMADE := made_st o B cc ps pr L F2 G2 _ wq HF2.out HG2.out HS2.out hN2 HOL.out HBA.out
        refine HMADE.mono ?_
        rintro e w7 ⟨rfl, hmt⟩
        obtain ⟨H7, hI7⟩ := HI.out.made hmt
        clear HMADE hmt c0 c1 c2 c3 c4 c5 c6 c7 c8
        have HEND : Pk (∃ L H, Two w1 w7 ps pr (300000 + (k + 1) * 100000) L H ∧ Sorts L) := Pk.mk ⟨_, H7, by
          rwa [show 300000 + k * 100000 + 100000 = 300000 + (k + 1) * 100000 by omega] at hI7, sorts_call HSO.out _⟩
        clear hI7
        go_wp2_with fail
        go_roundw
        case rel => exact ⟨k + 1, by go_num, by omega, HEND⟩
        case measure => simp [intOf]; omega
        --R1>
      · --OUT1
        obtain ⟨F2, N2, HR⟩ : ∃ (F : Foot) (N : Nat), Pk (Rowed w1 wq ps N L F (fun _ => False) (.slice none 0 0) [] []) := by
          obtain ⟨F2, G2, hF2, hG2, hsp2, hH2⟩ := HI.out.two
          exact ⟨F2, _, Pk.mk (.bare hF2 (fun k hk => HI.out.hb k ((hH2 k).2 (.inl hk))) HI.out.below)⟩
        have hL : L.length ≤ 20000 := HR.out.st.len
        clear HI HA HOK
        go_wp2_with fail
        go_loopw [9] (fun v9 wr => ∃ i : Nat, v9 = .int .i64 i ∧ i ≤ L.length ∧ Pk (Rowed w1 wr ps N2 L F2 (fun _ => False) (.slice none 0 0) [] [])) (fun v9 _ => L.length - (intOf v9).toNat)
        case atStart => exact ⟨0, rfl, by omega, HR⟩
        case round =>
          obtain ⟨wx, rfl⟩ : ∃ wx, wx = wr := ⟨wr, rfl⟩
          obtain ⟨i, rfl, hi, HI⟩ := hrel
          clear HR
          go_wp2_with fail
          refine (len_st ps L F2 _ wx HI.out.st).mono ?_
          rintro e w4 ⟨rfl, hb⟩
          have HI4 := Pk.mk (HI.out.step hb)
          clear HI hb
          by_cases hlti : i < L.length
          · have HLI : Pk (L[i]? = some L[i]) := Pk.mk (by simp [hlti])
            have HSN := Pk.mk (HSO.out.ok _ (List.getElem_mem hlti))
            have HAR : Pk (∀ a ∈ L[i].args, 0 ≤ a ∧ a < i) := Pk.mk (HSO.out.good.small i _ HLI.out)
            have hargs : L[i].args.length ≤ 100000 := (HI4.out.st.node_ok _ (List.getElem_mem hlti)).len
            generalize L[i] = nd at *
            go_wp2_with fail
            refine (node_st i ps L F2 _ w4 HI4.out.st).mono ?_
            rw [nodeP_in HLI.out]
            rintro e w5 ⟨va, rfl, hva, hb, hvb⟩
            simp only at hva ⊢
            obtain ⟨B, cb, rfl, _, _, _, hB, _⟩ := own_ints hva
            have HI5 := Pk.mk (HI4.out.step hb)
            have HB5 := Pk.mk hB
            clear hva hb hvb hB HI4
            go_wp2_with fail
            obtain ⟨w6, hw6⟩ : ∃ w6, w6 = w5.alloc (.cells #[.int .u8 nd.op, .int .i64 nd.fn, .int .i64 nd.num, .int .i64 nd.sort, .slice B nd.args.length cb] 44) := ⟨_, rfl⟩
            rw [← hw6]
            have HM6 : Pk (w6.heap[w5.heap.size]? = some (.cells #[.int .u8 nd.op, .int .i64 nd.fn, .int .i64 nd.num, .int .i64 nd.sort, .slice B nd.args.length cb] 44 (0, 0))) := Pk.mk (by rw [hw6]; exact (MapKept.heap_alloc w5 _).1)
            have HA6 : Pk (Below w5.heap.size w5 w6) := Pk.mk (by rw [hw6]; exact below_alloc _ _)
            have HI6 := Pk.mk (HI5.out.step HA6.out)
            have HB6 := Pk.mk (HB5.out.below HA6.out)
            obtain ⟨bm, hbm⟩ : ∃ bm, bm = w5.heap.size := ⟨_, rfl⟩
            rw [← hbm] at HM6 ⊢
            have HF6 : Pk (∀ k, F2.m k ∨ F2.r k → k < bm) := Pk.mk (by rw [hbm]; exact HI5.out.st.lt)
            clear hw6 HI5 HB5 HA6 hbm
            --LOOP3
            go_loopw [12, 13] (fun v12 v13 wr => ∃ q : Nat, v13 = .int .i64 q ∧ q ≤ nd.args.length ∧ Pk (∃ M cs, Rowed w1 wr ps N2 L F2 M v12 ((nd.args.take q).map (nodeAt L)) cs ∧ Below w6.heap.size w6 wr ∧ ∀ k, v12.ownBlock = some k → w6.heap.size ≤ k)) (fun _ v13 _ => nd.args.length - (intOf v13).toNat)
            case atStart => exact ⟨0, rfl, by omega, ⟨_, _, HI6.out, Below.refl _ _, by simp [Value.ownBlock]⟩⟩
            case round =>
              obtain ⟨w7, rfl⟩ : ∃ w7, w7 = wr := ⟨wr, rfl⟩
              obtain ⟨q, rfl, hq, HQ⟩ := hrel
              obtain ⟨M, cs, hR, hb7, hvb7⟩ := HQ.out
              have HR := Pk.mk hR
              have HB7 := Pk.mk hb7
              have HVB7 := Pk.mk hvb7
              have HM7 := Pk.mk (heap_below hb7 HM6.out)
              have HBB := Pk.mk (HB6.out.below hb7)
              clear HQ hR hb7 hvb7
              have m4 : w7.cell? ⟨bm, 4, none⟩ = some (.slice B nd.args.length cb) := cell_of_heap HM7.out rfl
              by_cases hltq : q < nd.args.length
              · skip
                --<R3
                obtain ⟨ad, rfl, hcl⟩ := HBB.out q nd.args[q] (by simp [hltq])
                obtain ⟨hx0, hx1⟩ := HAR.out nd.args[q] (List.getElem_mem hltq)
                have HTK : Pk ((nd.args.take (q + 1)).map (nodeAt L) = (nd.args.take q).map (nodeAt L) ++ [nodeAt L nd.args[q]]) := Pk.mk (by
                  rw [List.take_succ_eq_append_getElem hltq, List.map_append]; rfl)
                generalize nd.args[q] = x at *
                have HLX : Pk (nodeP L x = (nodeAt L x, 0)) := Pk.mk (by
                  have ht : thereB L.length [x] = true := by simp [thereB]; omega
                  simp [nodeP, ht])
                have hla : (nodeAt L x).args.length ≤ 100000 := by
                  have hx : x.toNat < L.length := by omega
                  have e : nodeAt L x = L[x.toNat] := by simp [nodeAt, List.getD_eq_getElem?_getD, hx]
                  rw [e]
                  exact (HR.out.st.node_ok _ (List.getElem_mem hx)).len
                generalize nodeAt L x = ne at *
                go_wp2_with fail
                refine (node_st x ps L F2 _ w7 HR.out.st).mono ?_
                rw [HLX.out]
                rintro e w8 ⟨vb, rfl, hvb, hb, hvbb⟩
                simp only at hvb ⊢
                obtain ⟨B', cb', rfl, _, _, _, hB', _⟩ := own_ints hvb
                have HR8 := Pk.mk (HR.out.step hb)
                have HVB8 := Pk.mk hvb
                have HVO := Pk.mk hvbb
                have HB8 := Pk.mk (below_then HB7.out hb)
                clear hvb hb hvbb hB' hcl m4
                obtain ⟨i0, hi0, hzz⟩ := Option.map_eq_some_iff.1 info44
                simp only [Prod.mk.injEq] at hzz
                obtain ⟨hz0, hz1, hz2⟩ := hzz
                have HII := Pk.mk hi0
                have HZ0 := Pk.mk hz0
                have HZ1 := Pk.mk hz1
                have HZ2 := Pk.mk hz2
                clear hi0 hz0 hz1 hz2
                go_upto_region 24 with fail
                obtain ⟨w9, hw9⟩ : ∃ w9, w9 = w8.alloc (.cells #[.int .u8 ne.op, .int .i64 ne.fn, .int .i64 ne.num, .int .i64 ne.sort, .slice B' ne.args.length cb'] 44) := ⟨_, rfl⟩
                rw [← hw9]
                have hbb9 : Below w8.heap.size w8 w9 := by rw [hw9]; exact below_alloc _ _
                have HR9 := Pk.mk (HR8.out.step hbb9)
                have HB9 := Pk.mk (below_then HB8.out hbb9)
                have HV9 := Pk.mk ((Fr.of_below (F := fun _ => False) hbb9).own HVB8.out (fun _ _ h => h))
                have HX9 : Pk (w9.heap[w8.heap.size]? = some (.cells #[.int .u8 ne.op, .int .i64 ne.fn, .int .i64 ne.num, .int .i64 ne.sort, .slice B' ne.args.length cb'] 44 (0, 0))) := Pk.mk (by rw [hw9]; exact (MapKept.heap_alloc w8 _).1)
                have HVO9 : Pk (∀ k, (Value.slice B' ne.args.length cb').ownBlock = some k → w1.heap.size ≤ k) := Pk.mk (fun k hk => by
                  have h1 := HVO.out k hk
                  have h2 := HR.out.below.size
                  omega)
                clear hw9 hbb9 HR8 HVB8 HVO
                have n0 : w9.cell? ⟨w8.heap.size, 0, none⟩ = some (.int .u8 ne.op) := cell_of_heap HX9.out rfl
                have n1 : w9.cell? ⟨w8.heap.size, 1, none⟩ = some (.int .i64 ne.fn) := cell_of_heap HX9.out rfl
                have n2 : w9.cell? ⟨w8.heap.size, 2, none⟩ = some (.int .i64 ne.num) := cell_of_heap HX9.out rfl
                have n3 : w9.cell? ⟨w8.heap.size, 3, none⟩ = some (.int .i64 ne.sort) := cell_of_heap HX9.out rfl
                have n4 : w9.cell? ⟨w8.heap.size, 4, none⟩ = some (.slice B' ne.args.length cb') := cell_of_heap HX9.out rfl
                obtain ⟨K, hK⟩ : ∃ K, K = (nd.args.take q).map (nodeAt L) := ⟨_, rfl⟩
                have hKl : K.length = q := by rw [hK]; simp; omega
                rw [← hK] at HTK HR9
                have HKL := Pk.mk hKl
                clear hK hKl
                have HNC : Pk (∀ i u, (nodeCells ne (.slice B' ne.args.length cb'))[i]? = some u → (w9.alloc (.cells (nodeCells ne (.slice B' ne.args.length cb')).toArray 44)).cell? ((⟨w9.heap.size, 0, none⟩ : Addr).add i) = some u) := Pk.mk (by
                  intro i u hu
                  rw [add_plain]
                  exact cell_of_heap (MapKept.heap_alloc w9 _).1 (by simpa using hu))
                have HN1 : Pk (∀ u ∈ nodeCells ne (.slice B' ne.args.length cb'), u.oneCell' = true) := Pk.mk (by
                  intro u hu
                  simp only [nodeCells, List.mem_cons, List.not_mem_nil, or_false] at hu
                  rcases hu with rfl | rfl | rfl | rfl | rfl <;> rfl)
                have HRA := Pk.mk (HR9.out.row.alloc (.cells (nodeCells ne (.slice B' ne.args.length cb')).toArray 44))
                rw [HKL.out] at HRA
                go_wp2_with (at_builtin; refine Go.wpList_append_own_at _ rfl (.tmp 77) (.tmp 79) 34 rfl 0 44 i0 _ 5 56 Try.underlying34 HII.out HZ0.out HZ1.out HZ2.out rfl (by decide) u12 q cs rfl HRA.out ⟨w9.heap.size, 0, none⟩ 1 1 _ rfl rfl HNC.out HN1.out ?e1 ?e2 (Nat.zero_le _) ?_)
                case e1 => simp only [maxLen]; omega
                case e2 => omega
                intro v9 wa hv9 hg9 _ hat9
                obtain ⟨M9, hI9⟩ := HR9.out.push (((Fr.refl _ w9).alloc _).grown hg9 (fun i hi => .inl hi)) (by rw [HKL.out]; exact hv9) (fun i hi => by
                  rcases hat9 with h | h
                  · rw [h] at hi; exact .inl hi
                  · rw [h] at hi; simp at hi; omega) HV9.out HVO9.out
                rw [← HTK.out] at hI9
                have hs9 := HB9.out.size
                have hbw : Below w6.heap.size w6 wa := by
                  refine (((HB9.out).alloc hs9 _).grown hg9 (by simp; omega) (fun i hi => HVB7.out i hi))
                have HEND : Pk (∃ M cs, Rowed w1 wa ps N2 L F2 M v9 ((nd.args.take (q + 1)).map (nodeAt L)) cs ∧ Below w6.heap.size w6 wa ∧ ∀ k, v9.ownBlock = some k → w6.heap.size ≤ k) := Pk.mk ⟨_, _, hI9, hbw, fun i hi => by
                  rcases hat9 with h | h
                  · rw [h] at hi; exact HVB7.out i hi
                  · rw [h] at hi; simp at hi; omega⟩
                clear hv9 hg9 hat9 hI9 hbw n0 n1 n2 n3 n4
                go_wp2_with fail
                go_roundw
                case rel => exact ⟨q + 1, by go_num, by omega, HEND⟩
                case measure => simp [intOf]; omega
                --R3>
              · --OUT3
                have hqe : q = nd.args.length := by omega
                clear hq
                subst hqe
                rw [List.take_length] at HR
                clear hltq
                have HIA : Pk (IntsAt w7 B nd.args) := HBB
                clear HB6 HM6 HI6 HBB HVB7
                go_wp2_with fail
                clear m4
                obtain ⟨A12, c12, h12⟩ := slice_form HR.out.row
                rw [List.length_map] at h12
                subst h12
                go_loopg [16] nd.args.length (fun g v16 wr => ∃ r : Nat, r ≤ nd.args.length ∧ g = nd.args.length - r ∧ v16 = .int .i64 r ∧ Pk (Below w7.heap.size w7 wr))
                case atStart => exact ⟨0, by omega, rfl, rfl, ⟨Below.refl _ _⟩⟩
                case round =>
                  obtain ⟨wy, rfl⟩ : ∃ wy, wy = wr := ⟨wr, rfl⟩
                  obtain ⟨r, hr, rfl, rfl, HBy⟩ := hrel
                  have HRy := Pk.mk (HR.out.step HBy.out)
                  have HMy := Pk.mk (heap_below HBy.out HM7.out)
                  have m0 : wy.cell? ⟨bm, 0, none⟩ = some (.int .u8 nd.op) := cell_of_heap HMy.out rfl
                  have m3 : wy.cell? ⟨bm, 3, none⟩ = some (.int .i64 nd.sort) := cell_of_heap HMy.out rfl
                  by_cases hltr : r < nd.args.length
                  · obtain ⟨g, cg, hg⟩ := own_form HRy.out.row (by simp; omega)
                    simp only [Value.slice.injEq] at hg
                    obtain ⟨rfl, hg'⟩ := hg
                    clear hg'
                    obtain ⟨B', cb', hcell, _⟩ := HRy.out.cells (q := r) (nd := nodeAt L nd.args[r]) (by simp [hltr])
                    have n0 : wy.cell? ⟨g, r * 5, none⟩ = some (.int .u8 (nodeAt L nd.args[r]).op) := hcell 0 _ (by omega) rfl
                    have n3 : wy.cell? ⟨g, r * 5 + 3, none⟩ = some (.int .i64 (sortOf L nd.args[r])) := hcell 3 _ (by omega) rfl
                    clear hcell
                    obtain ⟨ne, hne⟩ : ∃ ne, ne = nodeAt L nd.args[r] := ⟨_, rfl⟩
                    have HNE := Pk.mk hne
                    rw [← hne] at n0
                    clear hne
                    go_upto_region 28 with fail
                    go_cut [17] (fun v17 wz => v17 = .bool (baseB ne.op) ∧ wy = wz)
                    case first =>
                      --<R28
                      by_cases h3 : ne.op = 3
                      · have d3 : (ne.op != 3) = false := by simp [h3]
                        have HB : Pk (baseB ne.op = false) := ⟨by simp [baseB, h3]⟩
                        go_wp2
                        go_meet
                        exact ⟨by rw [HB.out], rfl⟩
                      · have d3 : (ne.op != 3) = true := by simp [h3]
                        have HB : Pk (baseB ne.op = (ne.op != 4)) := ⟨by by_cases h4 : ne.op = 4 <;> simp [baseB, h3, h4]⟩
                        go_wp2
                        go_meet
                        exact ⟨by rw [HB.out], rfl⟩
                      --R28>
                    case rest =>
                      obtain ⟨rfl, rfl⟩ := hcut
                      have HARG := Pk.mk (sok_arg HSN.out r hltr)
                      rw [← HNE.out] at HARG
                      have hHEND : Pk (Below w7.heap.size w7 wy) := HBy
                      have HEND : ∀ n : Nat, Pk (Below w7.heap.size w7 (wy.drewN n)) := fun n => Pk.mk (below_dr HBy.out n)
                      have n30 : wy.cell? ⟨g, 3, none⟩ = some (.int .i64 (sortOf L (nd.args.getD 0 0))) := by
                        have h0 : 0 < nd.args.length := by omega
                        obtain ⟨B2, cb2, hcell2, _⟩ := HRy.out.cells (q := 0) (nd := nodeAt L (nd.args.getD 0 0)) (by
                          rw [List.getElem?_map, List.getElem?_eq_getElem h0, List.getD_eq_getElem?_getD, List.getElem?_eq_getElem h0]; rfl)
                        exact hcell2 3 _ (by omega) rfl
                      have HAX : Pk (∃ x, x = nd.args[r]) := ⟨_, rfl⟩
                      obtain ⟨x, hx⟩ := HAX.out
                      have HXB : Pk (IntsAt wy B nd.args) := Pk.mk (HIA.out.below HBy.out)
                      have HXR : Pk (nd.args[r]? = some x) := Pk.mk (by rw [hx]; simp [hltr])
                      rw [← hx] at HARG n3
                      clear hx HAX
                      generalize sortOf L x = sx at *
                      generalize sortOf L (nd.args.getD 0 0) = s0 at *
                      generalize baseB ne.op = bb at *
                      have h0n : (0 : Int) < nd.args.length := by omega
                      rcases HARG.out with hop | ⟨hop | hop | hop, hs⟩ | ⟨hop, hs⟩ | ⟨hop, hs, hb⟩ | ⟨hop, hs, hb⟩ | ⟨hop, ⟨hr0, hs⟩ | ⟨hr0, hs⟩⟩
                      · as_aux_lemma =>
                          clear HARG
                          --app
                          go_wp2_with fail
                          go_roundg (nd.args.length - (r + 1))
                          case measure => omega
                          case rel => exact ⟨r + 1, by omega, rfl, by go_num, HBy⟩
                      · as_aux_lemma =>
                          clear HARG
                          --bool
                          go_wp2_with fail
                          go_roundg (nd.args.length - (r + 1))
                          case measure => omega
                          case rel => exact ⟨r + 1, by omega, rfl, by go_num, HBy⟩
                      · as_aux_lemma =>
                          clear HARG
                          --bool
                          go_wp2_with fail
                          go_roundg (nd.args.length - (r + 1))
                          case measure => omega
                          case rel => exact ⟨r + 1, by omega, rfl, by go_num, HBy⟩
                      · as_aux_lemma =>
                          clear HARG
                          --bool
                          go_wp2_with fail
                          go_roundg (nd.args.length - (r + 1))
                          case measure => omega
                          case rel => exact ⟨r + 1, by omega, rfl, by go_num, HBy⟩
                      · as_aux_lemma =>
                          clear HARG
                          --eq
                          go_wp2_with fail
                          go_quiet (fail)
                          go_wp2_with fail
                          go_roundg (nd.args.length - (r + 1))
                          case measure => omega
                          case rel => exact ⟨r + 1, by omega, rfl, by go_num, HEND _⟩
                      · as_aux_lemma =>
                          clear HARG
                          --plus
                          go_wp2_with fail
                          go_roundg (nd.args.length - (r + 1))
                          case measure => omega
                          case rel => exact ⟨r + 1, by omega, rfl, by go_num, HBy⟩
                      · as_aux_lemma =>
                          clear HARG
                          --le
                          rcases hb with hb | hb
                          · obtain ⟨ad, rfl, hcl⟩ := HXB.out r x HXR.out
                            have m4 : wy.cell? ⟨bm, 4, none⟩ = some (.slice (some ad) nd.args.length cb) := cell_of_heap HMy.out rfl
                            subst hb
                            cases bb
                            all_goals
                              go_wp2_with fail
                              go_roundg (nd.args.length - (r + 1))
                              case measure => omega
                              case rel => exact ⟨r + 1, by omega, rfl, by go_num, HBy⟩
                          · go_wp2_with fail
                            go_roundg (nd.args.length - (r + 1))
                            case measure => omega
                            case rel => exact ⟨r + 1, by omega, rfl, by go_num, HBy⟩
                      · as_aux_lemma =>
                          clear HARG
                          --ite, first
                          subst hr0
                          subst hs
                          simp only [Nat.zero_mul, Nat.zero_add] at n3 n0
                          clear n30
                          go_wp2_with fail
                          go_quiet (fail)
                          go_wp2_with fail
                          go_roundg (nd.args.length - (0 + 1))
                          case measure => omega
                          case rel => exact ⟨0 + 1, by omega, rfl, by go_num, HEND _⟩
                      · as_aux_lemma =>
                          clear HARG
                          --ite, others
                          have d0 : ((r : Int) == 0) = false := by simp; omega
                          have d1 : decide (0 < (r : Int)) = true := by simp; omega
                          go_wp2_with fail
                          go_quiet (fail)
                          go_wp2_with fail
                          go_roundg (nd.args.length - (r + 1))
                          case measure => omega
                          case rel => exact ⟨r + 1, by omega, rfl, by go_num, HEND _⟩
                  · --OUT4
                    clear m0 m3
                    have m0 : wy.cell? ⟨bm, 0, none⟩ = some (.int .u8 nd.op) := cell_of_heap HMy.out rfl
                    have m3 : wy.cell? ⟨bm, 3, none⟩ = some (.int .i64 nd.sort) := cell_of_heap HMy.out rfl
                    have HLEN := Pk.mk (sok_len HSN.out)
                    have HEND := Pk.mk HRy.out.drop
                    have hrn : r = nd.args.length := by omega
                    clear HR HRy HMy
                    subst hrn
                    rcases HLEN.out with hop | hop | hop | hop | hop | ⟨hop, h1, h2⟩ | ⟨hop, h1, h2⟩ | ⟨hop, h1, h2⟩ | ⟨hop, h1, h2⟩ | ⟨hop, h1, h2⟩ | ⟨hop, h1⟩
                    all_goals
                      as_aux_lemma =>
                        clear HLEN hr hltr
                        go_wp2_with fail
                        go_roundw
                        case rel => exact ⟨i + 1, by go_num, by omega, HEND⟩
                        case measure => simp [intOf]; omega
          · --OUT2
            have HBW := Pk.mk HI4.out.below
            clear HI4
            go_wp2_with fail
            refine (known_st w4).mono ?_
            rintro e w6 ⟨rfl, hb⟩
            have HB6 := Pk.mk (HBW.out.trans (hb.mono HBW.out.size))
            clear hb
            go_wp2
            go_ret
            exact ⟨rfl, HB6.out⟩
  · rw [Bool.not_eq_true] at ht
    rw [ht]
    clear ht
    go_wp2_with fail
    refine (known_st w1).mono ?_
    rintro e w2 ⟨rfl, hb⟩
    have HB := Pk.mk hb
    clear hb
    go_wp2
    go_ret
    exact ⟨rfl, HB.out⟩
end Go.Proofs.Ytpkegeblfdlibaa
