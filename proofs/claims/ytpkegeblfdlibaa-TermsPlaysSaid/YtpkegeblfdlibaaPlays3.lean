/- Walk of the law's helper same: all nodes are the document's. -/
import Derived.Test.YtpkegeblfdlibaaPlays2
namespace Go.Proofs.Ytpkegeblfdlibaa
open Go Go.RowKit
set_option linter.unusedVariables false
set_option linter.unusedSimpArgs false

theorem len_eq (p : Nat) (L : List Nd) (F : Foot) (N : Nat) (w : World) (hs : StoreAt w p L F N) :
   Calls Try.prog 12 #[.pointer (some ⟨p, 0, none⟩)] w fun e w' => e = .returned (.int .i64 L.length) ∧ w' = w := by
  have hl := hs.len
  obtain ⟨A, cap, m, c0, c1, hp, hn⟩ := hs.read
  clear hn hs
  have C1 := Pk.mk c1
  clear c1
  go_enter Try.func12, Try.ntmps12
  go_wp2_with fail
  refine (none_ok p m _ C1.out).mono ?_
  rintro e w1 ⟨rfl, rfl⟩
  go_wp2
  go_ret
  exact ⟨rfl, rfl⟩
theorem nodeP_len {L : List Nd} (h : ∀ nd ∈ L, NdOk nd) (i : Int) : (nodeP L i).1.args.length ≤ 100000 := by
  unfold nodeP
  split
  · rename_i ht
    have hi := there_mem ht (x := i) (by simp)
    have hx : i.toNat < L.length := by omega
    have e : nodeAt L i = L[i.toNat] := by simp [nodeAt, List.getD_eq_getElem?_getD, hx]
    simp only [e]
    exact (h _ (List.getElem_mem hx)).len
  · simp [z0]
theorem own_heap {w : World} {n : Nat} {A : Option Addr} {c : Nat} {xs : List Value} (h : w.ownsRow 0 30 1 (.slice A n c) n xs) (hn : 0 < n) : ∃ ga cur, A = some ⟨ga, 0, none⟩ ∧ w.heap[ga]? = some (.cells cur 30 (0, 0)) ∧ n ≤ cur.size := by
  rcases h.2 with ⟨_, h0⟩ | ⟨g, cap, cur, hv, _, hh, h1, h2, h3, _⟩
  · omega
  · simp only [Value.slice.injEq] at hv
    exact ⟨g, cur, hv.1, hh, by rw [h3]; omega⟩

set_option maxRecDepth 100000 in
set_option maxHeartbeats 4000000 in
theorem same_st (ps pr : Nat) (L : List Nd) (F G : Foot) (N : Nat) (w : World) (hs : StoreAt w ps L F N) (hg : RefAt w pr L G) :
    Calls Try.prog 17 #[.pointer (some ⟨ps, 0, none⟩), .pointer (some ⟨pr, 0, none⟩)] w fun e w' => e = .returned (.bool true) ∧ Below w.heap.size w w' := by
  have hL := hs.len
  have HNL := Pk.mk (fun i => nodeP_len hs.node_ok i)
  have HS := Pk.mk hs
  have HG := Pk.mk hg
  obtain ⟨A, cap, c0, hp, hn_⟩ := hg.read
  clear hn_
  have C0 := Pk.mk c0
  clear hs hg
  go_enter Try.func17, Try.ntmps17
  go_wp2_with fail
  go_quiet ((go_at_call 12; exact Calls.quiet_of_same (len_eq ps L F N _ (HS.out.below (below_drewN _ _)))))
  go_wp2_with fail
  clear c0
  go_loopw [5] (fun v5 wr => ∃ i : Int, -1 ≤ i ∧ i ≤ L.length + 1 ∧ v5 = .int .i64 i ∧ Pk (Below w.heap.size w wr)) (fun v5 _ => (L.length + 1 - intOf v5).toNat)
  case atStart => exact ⟨-1, by omega, by omega, rfl, ⟨below_drewN _ _⟩⟩
  case round =>
    obtain ⟨wx, rfl⟩ : ∃ wx, wx = wr := ⟨wr, rfl⟩
    obtain ⟨i, hi0, hi1, rfl, HB⟩ := hrel
    have c0 := cell_below HB.out C0.out
    by_cases hlt : i ≤ L.length
    · obtain ⟨nd, hnd⟩ : ∃ nd, nd = nodeP L i := ⟨_, rfl⟩
      obtain ⟨b, o, g, hsp⟩ : ∃ b o g, splitP L i = (b, o, g) := ⟨_, _, _, rfl⟩
      have HND := Pk.mk hnd
      have HSP := Pk.mk hsp
      have hla := HNL.out i
      rw [← hnd] at hla
      obtain ⟨nd, er⟩ := nd
      simp only at hla
      clear hnd hsp
      go_wp2_with fail
      refine (node_st i ps L F N wx (HS.out.below HB.out)).mono ?_
      rw [← HND.out]
      rintro e w1 ⟨va, rfl, hva, hb, hvo⟩
      simp only at hva ⊢
      obtain ⟨A1, c1, rfl, _⟩ := own_ints hva
      have HV1 := Pk.mk hva
      have HVO1 := Pk.mk hvo
      have HB1 := Pk.mk (below_then HB.out hb)
      have hs1 := hb.size
      clear hva hb hvo c0
      go_upto_region 7 with fail
      obtain ⟨w2, hw2⟩ : ∃ w2, w2 = w1.alloc (.cells #[.int .u8 nd.op, .int .i64 nd.fn, .int .i64 nd.num, .int .i64 nd.sort, .slice A1 nd.args.length c1] 44) := ⟨_, rfl⟩
      rw [← hw2]
      have hb2 : Below w1.heap.size w1 w2 := by rw [hw2]; exact below_alloc _ _
      have HX2 : Pk (w2.heap[w1.heap.size]? = some (.cells #[.int .u8 nd.op, .int .i64 nd.fn, .int .i64 nd.num, .int .i64 nd.sort, .slice A1 nd.args.length c1] 44 (0, 0))) := Pk.mk (by rw [hw2]; exact (MapKept.heap_alloc w1 _).1)
      have HB2 := Pk.mk (below_then HB1.out hb2)
      have HV2 := Pk.mk (own_below HV1.out hb2)
      have HN1 : Pk (∀ k, (Value.slice A1 nd.args.length c1).ownBlock = some k → k ≠ w1.heap.size) := Pk.mk (fun k hk => by have := (HV1.out.lt k hk).2; omega)
      obtain ⟨b6, hb6⟩ : ∃ b6, b6 = w1.heap.size := ⟨_, rfl⟩
      have HB6 : Pk (w.heap.size ≤ b6) := Pk.mk (by rw [hb6]; exact HB1.out.size)
      have HVW : Pk (∀ k, (Value.slice A1 nd.args.length c1).ownBlock = some k → w.heap.size ≤ k ∧ k ≠ b6) := Pk.mk (fun k hk => ⟨by have := HVO1.out k hk; have := HB.out.size; omega, by rw [hb6]; exact HN1.out k hk⟩)
      rw [← hb6] at HX2 ⊢
      clear hw2 hb2 HV1 HB1 HVO1 HN1 hb6 hs1
      go_wp2_with fail
      refine (rnode_st i pr L G w2 (HG.out.below HB2.out)).mono ?_
      rw [← HND.out]
      rintro e w3 ⟨vb, rfl, hvb, hb, hvo⟩
      simp only at hvb ⊢
      obtain ⟨A2, c2, rfl, _⟩ := own_ints hvb
      have HV3 := Pk.mk (own_below HV2.out hb)
      have HX3 := Pk.mk (heap_below hb HX2.out)
      have HR3 := Pk.mk hvb
      have HB3 := Pk.mk (below_then HB2.out hb)
      clear hvb hb hvo HV2 HX2
      go_upto_region 8 with fail
      obtain ⟨w4, hw4⟩ : ∃ w4, w4 = w3.alloc (.cells #[.int .u8 nd.op, .int .i64 nd.fn, .int .i64 nd.num, .int .i64 nd.sort, .slice A2 nd.args.length c2] 44) := ⟨_, rfl⟩
      rw [← hw4]
      have hb4 : Below w3.heap.size w3 w4 := by rw [hw4]; exact below_alloc _ _
      have HY4 : Pk (w4.heap[w3.heap.size]? = some (.cells #[.int .u8 nd.op, .int .i64 nd.fn, .int .i64 nd.num, .int .i64 nd.sort, .slice A2 nd.args.length c2] 44 (0, 0))) := Pk.mk (by rw [hw4]; exact (MapKept.heap_alloc w3 _).1)
      have HB4 := Pk.mk (below_then HB3.out hb4)
      have HV4 := Pk.mk (own_below HV3.out hb4)
      have HX4 := Pk.mk (heap_below hb4 HX3.out)
      have HR4 := Pk.mk (own_below HR3.out hb4)
      obtain ⟨b8, hb8⟩ : ∃ b8, b8 = w3.heap.size := ⟨_, rfl⟩
      rw [← hb8] at HY4 ⊢
      clear hw4 hb4 HV3 HX3 HR3 HB3 hb8
      go_wp2_with fail
      refine (split_st i ps L F N w4 (HS.out.below HB4.out)).mono ?_
      rw [HSP.out]
      rintro e w5 ⟨rfl, hb⟩
      have HB5 := Pk.mk (below_then HB4.out hb)
      have HV5 := Pk.mk (own_below HV4.out hb)
      have HX5 := Pk.mk (heap_below hb HX4.out)
      have HY5 := Pk.mk (heap_below hb HY4.out)
      have HR5 := Pk.mk (own_below HR4.out hb)
      clear hb HV4 HX4 HY4 HR4
      unfold SplitE
      go_wp2_with fail
      refine (rsplit_st i pr L G w5 (HG.out.below HB5.out)).mono ?_
      rw [HSP.out]
      rintro e w6 ⟨rfl, hb⟩
      have HB6' := Pk.mk (below_then HB5.out hb)
      have HV6 := Pk.mk (own_below HV5.out hb)
      have HX6 := Pk.mk (heap_below hb HX5.out)
      have HY6 := Pk.mk (heap_below hb HY5.out)
      have HR6 := Pk.mk (own_below HR5.out hb)
      clear hb HV5 HX5 HY5 HR5
      have m0 : w6.cell? ⟨b6, 0, none⟩ = some (.int .u8 nd.op) := cell_of_heap HX6.out rfl
      have m1 : w6.cell? ⟨b6, 1, none⟩ = some (.int .i64 nd.fn) := cell_of_heap HX6.out rfl
      have m2 : w6.cell? ⟨b6, 2, none⟩ = some (.int .i64 nd.num) := cell_of_heap HX6.out rfl
      have m3 : w6.cell? ⟨b6, 3, none⟩ = some (.int .i64 nd.sort) := cell_of_heap HX6.out rfl
      have m4 : w6.cell? ⟨b6, 4, none⟩ = some (.slice A1 nd.args.length c1) := cell_of_heap HX6.out rfl
      have n0 : w6.cell? ⟨b8, 0, none⟩ = some (.int .u8 nd.op) := cell_of_heap HY6.out rfl
      have n1 : w6.cell? ⟨b8, 1, none⟩ = some (.int .i64 nd.fn) := cell_of_heap HY6.out rfl
      have n2 : w6.cell? ⟨b8, 2, none⟩ = some (.int .i64 nd.num) := cell_of_heap HY6.out rfl
      have n3 : w6.cell? ⟨b8, 3, none⟩ = some (.int .i64 nd.sort) := cell_of_heap HY6.out rfl
      have n4 : w6.cell? ⟨b8, 4, none⟩ = some (.slice A2 nd.args.length c2) := cell_of_heap HY6.out rfl
      unfold SplitE
      go_wp2_with fail
      have HIA1 : IntsAt w6 A1 nd.args := by
        obtain ⟨A', c', e, _, _, _, hi, _⟩ := own_ints HV6.out
        cases e
        exact hi
      have HIA2 : IntsAt w6 A2 nd.args := by
        obtain ⟨A', c', e, _, _, _, hi, _⟩ := own_ints HR6.out
        cases e
        exact hi
      refine (same_ok nd nd A1 A2 c1 c2 _ HIA1 HIA2 (by omega) (by omega)).mono ?_
      rw [decide_eq_true (rfl : nd = nd)]
      rintro e w7 ⟨rfl, hb⟩
      have HB7 := Pk.mk (below_then HB6'.out hb)
      have HV7 := Pk.mk (own_below HV6.out hb)
      have HX7 := Pk.mk (heap_below hb HX6.out)
      clear hb HV6 HX6 HY6 HR6 HIA1 HIA2 m0 m1 m2 m3 m4 n0 n1 n2 n3 n4
      go_wp2_with fail
      go_loopw [16] (fun v16 wr => ∃ q : Nat, v16 = .int .i64 q ∧ q ≤ nd.args.length ∧ Pk (Below w.heap.size w wr ∧ wr.heap[b6]? = some (.cells #[.int .u8 nd.op, .int .i64 nd.fn, .int .i64 nd.num, .int .i64 nd.sort, .slice A1 nd.args.length c1] 44 (0, 0)) ∧ (0 < nd.args.length → ∃ ga cur, A1 = some ⟨ga, 0, none⟩ ∧ wr.heap[ga]? = some (.cells cur 30 (0, 0)) ∧ nd.args.length ≤ cur.size))) (fun v16 _ => nd.args.length - (intOf v16).toNat)
      case atStart => exact ⟨0, rfl, by omega, ⟨HB7.out, HX7.out, fun h => own_heap HV7.out h⟩⟩
      case round =>
        obtain ⟨wy, rfl⟩ : ∃ wy, wy = wr := ⟨wr, rfl⟩
        obtain ⟨q, rfl, hq, HQ⟩ := hrel
        obtain ⟨hB, hX, hC⟩ := HQ.out
        have HBy := Pk.mk hB
        have HXy := Pk.mk hX
        have m4 : wy.cell? ⟨b6, 4, none⟩ = some (.slice A1 nd.args.length c1) := cell_of_heap hX rfl
        clear HQ hB hX HB7 HX7
        by_cases hltq : q < nd.args.length
        · obtain ⟨ga, cur, hA1, hc, hcur⟩ := hC (by omega)
          clear hC
          have HGA := Pk.mk (HVW.out ga (by rw [hA1]; rfl))
          subst hA1
          have hqc : q < cur.size := by omega
          have e1 : wy.cell? ⟨ga, q, none⟩ = some cur[q] := cell_of_heap hc (by simp [hqc])
          have e2 : wy.frozen? ⟨ga, q, none⟩ = false := frozen_of_heap hc q
          have HC := Pk.mk hc
          have HCU := Pk.mk hcur
          generalize cur[q] = cq at *
          clear hc hcur
          go_wp2_with fail
          have HEND : Pk (Below w.heap.size w (wy.setCell ⟨ga, q, none⟩ (.int .i64 99)) ∧ (wy.setCell ⟨ga, q, none⟩ (.int .i64 99)).heap[b6]? = some (.cells #[.int .u8 nd.op, .int .i64 nd.fn, .int .i64 nd.num, .int .i64 nd.sort, .slice (some ⟨ga, 0, none⟩) nd.args.length c1] 44 (0, 0)) ∧ (0 < nd.args.length → ∃ ga' cur', some (⟨ga, 0, none⟩ : Addr) = some ⟨ga', 0, none⟩ ∧ (wy.setCell ⟨ga, q, none⟩ (.int .i64 99)).heap[ga']? = some (.cells cur' 30 (0, 0)) ∧ nd.args.length ≤ cur'.size)) := Pk.mk
            ⟨HBy.out.setCell (p := ⟨ga, q, none⟩) HGA.out.1 _, (heap_setCell_ne (by show b6 ≠ ga; exact fun e => HGA.out.2 e.symm)).trans HXy.out, fun _ => ⟨ga, _, rfl, heap_setCell_same HC.out _, by simpa using HCU.out⟩⟩
          go_roundw
          case rel => exact ⟨q + 1, by go_num, by omega, HEND⟩
          case measure => simp [intOf]; omega
        · clear hC
          go_wp2_with fail
          go_roundw
          case rel => exact ⟨i + 1, by omega, by omega, rfl, HBy⟩
          case measure => simp [intOf]; omega
    · go_wp2_with fail
      go_ret
      exact ⟨rfl, HB.out⟩
end Go.Proofs.Ytpkegeblfdlibaa
