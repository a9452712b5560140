/- Walk of the law's helper made. -/
import Derived.Test.YtpkegeblfdlibaaLaw2
namespace Go.Proofs.Ytpkegeblfdlibaa
open Go Go.RowKit
set_option linter.unusedVariables false
set_option linter.unusedSimpArgs false

set_option maxRecDepth 100000 in
set_option maxHeartbeats 4000000 in
theorem made_st (o : OpV) (B : Option Addr) (c ps pr : Nat) (L : List Nd) (F G : Foot) (N : Nat) (w : World) (hs : StoreAt w ps L F N) (hg : RefAt w pr L G) (hsep : ∀ k, F.m k ∨ F.r k → ¬ (G.m k ∨ G.r k)) (hN : N ≤ 1000000000000) (ho : OpOk o)
    (hB : IntsAt w B o.l) :
    Calls Try.prog 11 #[.pointer (some ⟨ps, 0, none⟩), .pointer (some ⟨pr, 0, none⟩), .agg (opCells o (.slice B o.l.length c))] w fun e w' =>
      e = .returned (.tuple #[.int .i64 (callP L (toldP L.length o)).2.1, .int .i64 (callP L (toldP L.length o)).2.2, .bool true]) ∧ MadeTwo w ps pr (fun k => (F.m k ∨ F.r k) ∨ (G.m k ∨ G.r k)) (N + 100000) (callP L (toldP L.length o)).1 w' := by
  have hlen := hs.len
  have HS := Pk.mk hs
  have HG := Pk.mk hg
  have HSEP := Pk.mk hsep
  have HO := Pk.mk ho
  have HB := Pk.mk hB
  have hll := ho.len
  obtain ⟨A, cap, c0, hp, hn_⟩ := hg.read
  clear hn_
  clear hs hg hsep ho hB
  unfold opCells
  obtain ⟨w0, hw0⟩ : ∃ w0, w0 = w.alloc (.cells #[.int .i64 o.kind, .int .i64 o.a, .int .i64 o.b, .int .i64 o.c, .slice B o.l.length c, .int .i64 o.fn, .int .i64 o.sort, .int .i64 o.n, .bool o.md] 33) := ⟨_, rfl⟩
  have HB0 : Pk (Below w.heap.size w w0) := Pk.mk (by rw [hw0]; exact below_alloc _ _)
  have HBX : Pk (w0.heap[w.heap.size]? = some (.cells #[.int .i64 o.kind, .int .i64 o.a, .int .i64 o.b, .int .i64 o.c, .slice B o.l.length c, .int .i64 o.fn, .int .i64 o.sort, .int .i64 o.n, .bool o.md] 33 (0, 0))) := Pk.mk (by rw [hw0]; exact (MapKept.heap_alloc w _).1)
  have HW0 := Pk.mk hw0
  clear hw0
  have C0 := Pk.mk (cell_below HB0.out c0)
  have hp0 : pr < w0.heap.size := by have := HB0.out.size; omega
  go_enter Try.func11, Try.ntmps11
  go_wp2_with fail
  rw [← HW0.out]
  clear c0
  have b1 : w0.cell? ⟨w.heap.size, 1, none⟩ = some (.int .i64 o.a) := cell_of_heap HBX.out rfl
  have b2 : w0.cell? ⟨w.heap.size, 2, none⟩ = some (.int .i64 o.b) := cell_of_heap HBX.out rfl
  have b3 : w0.cell? ⟨w.heap.size, 3, none⟩ = some (.int .i64 o.c) := cell_of_heap HBX.out rfl
  have b4 : w0.cell? ⟨w.heap.size, 4, none⟩ = some (.slice B o.l.length c) := cell_of_heap HBX.out rfl
  have b8 : w0.cell? ⟨w.heap.size, 8, none⟩ = some (.bool o.md) := cell_of_heap HBX.out rfl
  have c0 := C0.out
  have HA1 : Pk (i64 o.a) := Pk.mk HO.out.a
  have HA2 : Pk (i64 o.b) := Pk.mk HO.out.b
  have HA3 : Pk (i64 o.c) := Pk.mk HO.out.c
  go_big_quiet (first | with_reducible exact Calls.quiet_of_same (near_ok o.a L.length o.md _ HA1.out hlen) | with_reducible exact Calls.quiet_of_same (near_ok o.b L.length o.md _ HA2.out hlen) | with_reducible exact Calls.quiet_of_same (near_ok o.c L.length o.md _ HA3.out hlen))
  go_wp2_with fail
  obtain ⟨wd, hwd⟩ : ∃ wd, wd = w0.drewN nq := ⟨_, rfl⟩
  have HBD : Pk (Below w0.heap.size w0 wd) := Pk.mk (by rw [hwd]; exact below_drewN _ nq)
  rw [← hwd]
  clear hwd b1 b2 b3 b4 b8 c0
  go_loopw [13, 14] (fun v13 v14 wr => ∃ k : Nat, v14 = .int .i64 k ∧ k ≤ o.l.length ∧ Pk (wr.ownsRow 0 30 1 v13 k (nums ((o.l.map (nearP · L.length o.md)).take k)) ∧ ∀ i, v13.ownBlock = some i → w0.heap.size ≤ i) ∧ Pk (Below w0.heap.size w0 wr)) (fun _ v14 _ => o.l.length - (intOf v14).toNat)
  case atStart => exact ⟨0, rfl, by omega, ⟨World.ownsRow_nil _ _ _ _, by simp [Value.ownBlock]⟩, HBD⟩
  case round =>
    obtain ⟨k, rfl, hk, HR, HW⟩ := hrel
    have hBX := heap_below HW.out HBX.out
    have b4 : wr.cell? ⟨w.heap.size, 4, none⟩ = some (.slice B o.l.length c) := cell_of_heap hBX rfl
    have b8 : wr.cell? ⟨w.heap.size, 8, none⟩ = some (.bool o.md) := cell_of_heap hBX rfl
    have bsz := lt_of_heap hBX
    have HBXr := Pk.mk hBX
    clear hBX
    by_cases hlt : k < o.l.length
    · have HX : Pk (i64 o.l[k]) := Pk.mk (HO.out.l _ (List.getElem_mem hlt))
      obtain ⟨ad, rfl, hcl⟩ := HB.out k o.l[k] (by simp [hlt])
      have hcl' : wr.cell? (ad.add k) = some (.int .i64 o.l[k]) := cell_below (below_then HB0.out HW.out) hcl
      have hadl := World.block_lt_of_cell? w _ hcl
      clear hcl
      have HTK : Pk ((o.l.map (nearP · L.length o.md)).take (k + 1) = (o.l.map (nearP · L.length o.md)).take k ++ [nearP o.l[k] L.length o.md]) := Pk.mk (by
        rw [List.take_succ_eq_append_getElem (by simpa using hlt)]; simp)
      have HTL : Pk (((o.l.map (nearP · L.length o.md)).take k).length = k) := Pk.mk (by simp; omega)
      generalize o.l[k] = x at *
      go_wp2
      obtain ⟨i0, hi, hzz⟩ := Option.map_eq_some_iff.1 info30
      simp only [Prod.mk.injEq] at hzz
      obtain ⟨hz0, hz1, hz2⟩ := hzz
      have HI := Pk.mk hi
      have HZ0 := Pk.mk hz0
      have HZ1 := Pk.mk hz1
      have HZ2 := Pk.mk hz2
      clear hi hz0 hz1 hz2
      have hml1 : k + 1 ≤ maxLen := by simp only [maxLen]; omega
      have hml2 : (k + 1) * 8 ≤ 140737488355328 := by omega
      have HNC : Pk (∀ j u, ([Value.int .i64 (nearP x L.length o.md)] : List Value)[j]? = some u → (wr.alloc (.cells #[.int .i64 (nearP x L.length o.md)] 30)).cell? ((⟨wr.heap.size, 0, none⟩ : Addr).add j) = some u) := Pk.mk (by
        intro j u hu
        rw [add_plain]
        exact cell_of_heap (MapKept.heap_alloc wr _).1 (by simpa using hu))
      have HN1 : Pk (∀ u ∈ ([Value.int .i64 (nearP x L.length o.md)] : List Value), u.oneCell' = true) := Pk.mk (by
        intro u hu
        simp only [List.mem_cons, List.not_mem_nil, or_false] at hu
        subst hu; rfl)
      have HRA := Pk.mk (HR.out.1.alloc (.cells #[.int .i64 (nearP x L.length o.md)] 30))
      go_region_law (first
        | (go_simp; go_at_call 10; refine (near_ok x L.length o.md _ HX.out hlen).mono ?_; rintro e w1 ⟨rfl, rfl⟩)
        | (refine step_append rfl (.tmp 51) (.tmp 61) 29 rfl 30 i0 _ 1 8 Try.underlying29 HI.out HZ0.out HZ1.out HZ2.out rfl (by decide) u13 k _ rfl HRA.out ⟨wr.heap.size, 0, none⟩ 1 1 [Value.int .i64 (nearP x L.length o.md)] rfl rfl HNC.out HN1.out hml1 hml2 ?_; intro v3 w3 hown3 hg3 hat3; have HO3 := Pk.mk hown3; have HG3 := Pk.mk hg3; have HA3' := Pk.mk hat3; clear hown3 hg3 hat3))
      all_goals
        have HWW : Pk (Below w0.heap.size w0 w3) := Pk.mk (by
          refine Below.grown ((HW.out.drew).alloc ?_ _) HG3.out ?_ ?_
          · have := HW.out.size; simpa using this
          · have := HW.out.size; simp; omega
          · intro i hi; exact HR.out.2 i hi)
        have HOO : Pk (w3.ownsRow 0 30 1 v3 (k + 1) (nums ((o.l.map (nearP · L.length o.md)).take (k + 1))) ∧ ∀ i, v3.ownBlock = some i → w0.heap.size ≤ i) := Pk.mk (by
          refine ⟨?_, ?_⟩
          · rw [HTK.out, nums_append]; exact HO3.out
          · intro i hi
            rcases HA3'.out with h | h
            · rw [h] at hi; exact HR.out.2 i hi
            · rw [h] at hi
              have := HW.out.size
              simp at hi
              omega)
        clear HO3 HG3 HA3' b4 b8 hcl' HNC HN1
        go_wp2
        go_roundw
        case rel => exact ⟨k + 1, by go_num, by omega, HOO, HWW⟩
        case measure => simp [intOf]; omega
    · obtain ⟨la, hla⟩ : ∃ la, la = o.l.map (nearP · L.length o.md) := ⟨_, rfl⟩
      have hk' : k = o.l.length := by omega
      have hlal : la.length = o.l.length := by rw [hla]; simp
      have HRL : Pk (wr.ownsRow 0 30 1 u13 la.length (nums la) ∧ ∀ i, u13.ownBlock = some i → w0.heap.size ≤ i) := Pk.mk (by
        have h := HR.out
        rw [← hla, List.take_of_length_le (by omega)] at h
        rw [hlal, ← hk']; exact h)
      have HLA := Pk.mk hla
      have HLI : Pk (∀ x ∈ la, i64 x) := Pk.mk (by
        rw [hla]
        intro x hx
        obtain ⟨y, hy, rfl⟩ := List.mem_map.1 hx
        exact near_bd y _ (HO.out.l y hy) hlen _)
      clear HR hla b8
      obtain ⟨A1, c1, rfl, _, _, _, hI1, _⟩ := own_ints HRL.out.1
      have HI1 := Pk.mk hI1
      clear hI1
      have hlal' : la.length ≤ 6000 := by omega
      obtain ⟨i0, hi, hzz⟩ := Option.map_eq_some_iff.1 info30
      simp only [Prod.mk.injEq] at hzz
      obtain ⟨hz0, hz1, hz2⟩ := hzz
      have HI := Pk.mk hi
      have HZ0 := Pk.mk hz0
      have HZ1 := Pk.mk hz1
      have HZ2 := Pk.mk hz2
      have HKL := Pk.mk hk'
      have HLL := Pk.mk hlal
      clear hi hz0 hz1 hz2 hk' hlal
      have HIB := Pk.mk (HI1.out.below (below_alloc wr (.cells #[] 30)))
      go_wp2_with (at_builtin; refine wpList_append_ints rfl (.tmp 63) (.tmp 64) 29 rfl 30 i0 8 Try.underlying29 HI.out HZ0.out HZ1.out HZ2.out (.slice (some ⟨wr.heap.size, 0, none⟩) 0 0) [] rfl (World.ownsRow_made wr #[] 0 (Nat.zero_le _) (by simp [maxLen]) rfl) A1 c1 la rfl HIB.out ?c1 ?c2 ?_)
      case c2 => omega
      intro v' w1 hv1 hg1 hat1
      obtain ⟨A2, c2, rfl, _, _, _, hI2, _⟩ := own_ints hv1
      have HRI : Pk (w1.ownsRow 0 30 1 (.slice A2 la.length c2) la.length (nums la) ∧ ∀ i, (Value.slice A2 la.length c2).ownBlock = some i → wr.heap.size ≤ i) := Pk.mk ⟨hv1, by
        intro k hk
        rcases hat1 with h | h <;> rw [hk] at h <;> simp [Value.ownBlock] at h <;> omega⟩
      have HI2 := Pk.mk hI2
      have hv2 : Below wr.heap.size wr w1 := (below_alloc wr _).grown hg1 (by simp) (by intro k hk; simp [Value.ownBlock] at hk; omega)
      have HW1 := Pk.mk hv2
      have HBX1 := Pk.mk (heap_below hv2 HBXr.out)
      have hsz1 : wr.heap.size ≤ w1.heap.size := hv2.size
      have hsz0 : w0.heap.size ≤ wr.heap.size := HW.out.size
      have hszw : w.heap.size < w0.heap.size := lt_of_heap HBX.out
      have HBW : Pk (Below w.heap.size w w1) := Pk.mk (below_then (below_then HB0.out HW.out) hv2)
      have HI1' := Pk.mk (HI1.out.below hv2)
      have HNC1 := Pk.mk (own_nil_cap HRL.out.1)
      have HNC2 := Pk.mk (own_nil_cap hv1)
      have HRL1 : Pk (∀ i, (Value.slice A1 la.length c1).ownBlock = some i → w0.heap.size ≤ i) := Pk.mk HRL.out.2
      clear hv1 hg1 hat1 hv2 HBXr HIB HI1 HRL b4 hI2
      have b0 : w1.cell? ⟨w.heap.size, 0, none⟩ = some (.int .i64 o.kind) := cell_of_heap HBX1.out rfl
      have bl : w.heap.size < w1.heap.size := by omega
      have HS1 : Pk (StoreAt w1 ps L F N) := Pk.mk (HS.out.below HBW.out)
      have HG1 : Pk (RefAt w1 pr L G) := Pk.mk (HG.out.below HBW.out)
      have HLTF : Pk (∀ k, F.m k ∨ F.r k → k < w.heap.size) := Pk.mk HS.out.lt
      have HLTG : Pk (∀ k, G.m k ∨ G.r k → k < w.heap.size) := Pk.mk HG.out.lt
      have HAN : Pk (i64 (nearP o.a L.length o.md)) := Pk.mk (near_bd _ _ HA1.out hlen _)
      have HBN : Pk (i64 (nearP o.b L.length o.md)) := Pk.mk (near_bd _ _ HA2.out hlen _)
      have HCN : Pk (i64 (nearP o.c L.length o.md)) := Pk.mk (near_bd _ _ HA3.out hlen _)
      have HFA : Pk (∀ ad, A2 = some ad → ¬ F.m ad.block) := Pk.mk (by
        rintro ad rfl hf
        have h1 := HRI.out.2 ad.block rfl
        have h2 := HLTF.out _ (.inl hf)
        omega)
      have HGA : Pk (∀ ad, A1 = some ad → ¬ G.m ad.block) := Pk.mk (by
        rintro ad rfl hf
        have h1 := HRL1.out ad.block rfl
        have h2 := HLTG.out _ (.inl hf)
        omega)
      have HFL : Pk (∀ ad, A1 = some ad → ¬ F.m ad.block) := Pk.mk (by
        rintro ad rfl hf
        have h1 := HRL1.out ad.block rfl
        have h2 := HLTF.out _ (.inl hf)
        omega)
      have HFB : Pk (¬ F.m w.heap.size) := Pk.mk (fun h => by have := HLTF.out _ (.inl h); omega)
      have HTW : Pk (∀ {w2 w3 : World} {r : List Nd × Int × Int} {F' G' : Foot}, StoreAt w2 ps r.1 F' (N + 100000) → Upd F F' w1 w2 → RefAt w3 pr r.1 G' → Upd G G' w2 w3 → MadeTwo w1 ps pr (fun k => (F.m k ∨ F.r k) ∨ (G.m k ∨ G.r k)) (N + 100000) r.1 w3) := Pk.mk (fun h1 u1 h2 u2 => MadeTwo.of (w := w1) (w0 := w1) HG1.out HSEP.out (by
        intro k hk
        have : k < w.heap.size := by
          rcases hk with h | h | h | h
          · exact HLTF.out k (.inl h)
          · exact HLTF.out k (.inr h)
          · exact HLTG.out k (.inl h)
          · exact HLTG.out k (.inr h)
        omega) (Below.refl _ _) h1 u1 h2 u2)
      go_upto_block 2 with fail
      obtain ⟨r, hr⟩ : ∃ r, r = callP L (toldP L.length o) := ⟨_, rfl⟩
      have HR := Pk.mk hr
      clear hr
      go_cut [16, 17, 18, 19] (fun x y e f wx => x = .int .i64 r.2.1 ∧ y = .int .i64 r.2.1 ∧ e = .int .i64 r.2.2 ∧ f = .int .i64 r.2.2 ∧ Pk (MadeTwo w1 ps pr (fun k => (F.m k ∨ F.r k) ∨ (G.m k ∨ G.r k)) (N + 100000) r.1 wx))
      case first =>
        by_cases k0 : o.kind = 0
        · have e0 : (o.kind == 0) = true := by simp [k0]
          have HP : Pk (r = notP L (nearP o.a L.length o.md)) := Pk.mk (by rw [HR.out]; simp [callP, toldP, HLA.out, k0])
          clear k0
          go_wp2_with fail
          refine (not_st (nearP o.a L.length o.md) ps L F N w1 HS1.out hN HAN.out).mono ?_
          rintro e w2 ⟨F', rfl, hst, hup⟩
          have HG2 : Pk (RefAt w2 pr L G) := Pk.mk (HG1.out.fr hup.fr (fun k hk hf => HSEP.out k (.inl hf) hk))
          rw [← HP.out] at hst ⊢
          have HST := Pk.mk hst
          have HUP := Pk.mk hup
          clear hst hup
          go_wp2_with fail
          refine (rnot_st (nearP o.a L.length o.md) pr L G w2 HG2.out HAN.out).mono ?_
          rintro e w3 ⟨G', rfl, hst2, hup2⟩
          rw [← HP.out] at hst2 ⊢
          have HM := Pk.mk (HTW.out HST.out HUP.out hst2 hup2)
          clear hst2 hup2
          go_wp2
          go_meet
          case rel => exact ⟨rfl, rfl, rfl, rfl, HM⟩
        have e0 : (o.kind == 0) = false := by simp [k0]
        have K0 := Pk.mk k0
        clear k0
        by_cases k1 : o.kind = 1
        · have e1 : (o.kind == 1) = true := by simp [k1]
          have HP : Pk (r = manyP L 10 0 la) := Pk.mk (by rw [HR.out]; simp [callP, toldP, HLA.out, k1])
          clear k1
          go_wp2_with fail
          refine (and_st la A2 c2 ps L F N w1 HS1.out hN HLI.out (by omega) HI2.out HNC2.out HFA.out).mono ?_
          rintro e w2 ⟨F', rfl, hst, hup⟩
          have HG2 : Pk (RefAt w2 pr L G) := Pk.mk (HG1.out.fr hup.fr (fun k hk hf => HSEP.out k (.inl hf) hk))
          have HI12 : Pk (IntsAt w2 A1 la) := Pk.mk (HI1'.out.fr hup.fr HFL.out)
          rw [← HP.out] at hst ⊢
          have HST := Pk.mk hst
          have HUP := Pk.mk hup
          clear hst hup
          go_wp2_with fail
          refine (rand_st la A1 c1 pr L G w2 HG2.out HLI.out (by omega) HI12.out HNC1.out HGA.out).mono ?_
          rintro e w3 ⟨G', rfl, hst2, hup2⟩
          rw [← HP.out] at hst2 ⊢
          have HM := Pk.mk (HTW.out HST.out HUP.out hst2 hup2)
          clear hst2 hup2
          go_wp2
          go_meet
          case rel => exact ⟨rfl, rfl, rfl, rfl, HM⟩
        have e1 : (o.kind == 1) = false := by simp [k1]
        have K1 := Pk.mk k1
        clear k1
        by_cases k2 : o.kind = 2
        · have e2 : (o.kind == 2) = true := by simp [k2]
          have HP : Pk (r = manyP L 11 1 la) := Pk.mk (by rw [HR.out]; simp [callP, toldP, HLA.out, k2])
          clear k2
          go_wp2_with fail
          refine (or_st la A2 c2 ps L F N w1 HS1.out hN HLI.out (by omega) HI2.out HNC2.out HFA.out).mono ?_
          rintro e w2 ⟨F', rfl, hst, hup⟩
          have HG2 : Pk (RefAt w2 pr L G) := Pk.mk (HG1.out.fr hup.fr (fun k hk hf => HSEP.out k (.inl hf) hk))
          have HI12 : Pk (IntsAt w2 A1 la) := Pk.mk (HI1'.out.fr hup.fr HFL.out)
          rw [← HP.out] at hst ⊢
          have HST := Pk.mk hst
          have HUP := Pk.mk hup
          clear hst hup
          go_wp2_with fail
          refine (ror_st la A1 c1 pr L G w2 HG2.out HLI.out (by omega) HI12.out HNC1.out HGA.out).mono ?_
          rintro e w3 ⟨G', rfl, hst2, hup2⟩
          rw [← HP.out] at hst2 ⊢
          have HM := Pk.mk (HTW.out HST.out HUP.out hst2 hup2)
          clear hst2 hup2
          go_wp2
          go_meet
          case rel => exact ⟨rfl, rfl, rfl, rfl, HM⟩
        have e2 : (o.kind == 2) = false := by simp [k2]
        have K2 := Pk.mk k2
        clear k2
        by_cases k3 : o.kind = 3
        · have e3 : (o.kind == 3) = true := by simp [k3]
          have HP : Pk (r = eqP L (nearP o.a L.length o.md) (nearP o.b L.length o.md)) := Pk.mk (by rw [HR.out]; simp [callP, toldP, HLA.out, k3])
          clear k3
          go_wp2_with fail
          refine (eq_st (nearP o.a L.length o.md) (nearP o.b L.length o.md) ps L F N w1 HS1.out hN HAN.out HBN.out).mono ?_
          rintro e w2 ⟨F', rfl, hst, hup⟩
          have HG2 : Pk (RefAt w2 pr L G) := Pk.mk (HG1.out.fr hup.fr (fun k hk hf => HSEP.out k (.inl hf) hk))
          rw [← HP.out] at hst ⊢
          have HST := Pk.mk hst
          have HUP := Pk.mk hup
          clear hst hup
          go_wp2_with fail
          refine (req_st (nearP o.a L.length o.md) (nearP o.b L.length o.md) pr L G w2 HG2.out HAN.out HBN.out).mono ?_
          rintro e w3 ⟨G', rfl, hst2, hup2⟩
          rw [← HP.out] at hst2 ⊢
          have HM := Pk.mk (HTW.out HST.out HUP.out hst2 hup2)
          clear hst2 hup2
          go_wp2
          go_meet
          case rel => exact ⟨rfl, rfl, rfl, rfl, HM⟩
        have e3 : (o.kind == 3) = false := by simp [k3]
        have K3 := Pk.mk k3
        clear k3
        by_cases k4 : o.kind = 4
        · have e4 : (o.kind == 4) = true := by simp [k4]
          have HP : Pk (r = iteP L (nearP o.a L.length o.md) (nearP o.b L.length o.md) (nearP o.c L.length o.md)) := Pk.mk (by rw [HR.out]; simp [callP, toldP, HLA.out, k4])
          clear k4
          go_wp2_with fail
          refine (ite_st (nearP o.a L.length o.md) (nearP o.b L.length o.md) (nearP o.c L.length o.md) ps L F N w1 HS1.out hN HAN.out HBN.out HCN.out).mono ?_
          rintro e w2 ⟨F', rfl, hst, hup⟩
          have HG2 : Pk (RefAt w2 pr L G) := Pk.mk (HG1.out.fr hup.fr (fun k hk hf => HSEP.out k (.inl hf) hk))
          rw [← HP.out] at hst ⊢
          have HST := Pk.mk hst
          have HUP := Pk.mk hup
          clear hst hup
          go_wp2_with fail
          refine (rite_st (nearP o.a L.length o.md) (nearP o.b L.length o.md) (nearP o.c L.length o.md) pr L G w2 HG2.out HAN.out HBN.out HCN.out).mono ?_
          rintro e w3 ⟨G', rfl, hst2, hup2⟩
          rw [← HP.out] at hst2 ⊢
          have HM := Pk.mk (HTW.out HST.out HUP.out hst2 hup2)
          clear hst2 hup2
          go_wp2
          go_meet
          case rel => exact ⟨rfl, rfl, rfl, rfl, HM⟩
        have e4 : (o.kind == 4) = false := by simp [k4]
        have K4 := Pk.mk k4
        clear k4
        by_cases k5 : o.kind = 5
        · have e5 : (o.kind == 5) = true := by simp [k5]
          have HP : Pk (r = appP L o.fn o.sort la) := Pk.mk (by rw [HR.out]; simp [callP, toldP, HLA.out, k5])
          clear k5
          have q5 : w1.cell? ⟨w.heap.size, 5, none⟩ = some (.int .i64 o.fn) := cell_of_heap HBX1.out rfl
          have q6 : w1.cell? ⟨w.heap.size, 6, none⟩ = some (.int .i64 o.sort) := cell_of_heap HBX1.out rfl
          go_wp2_with fail
          refine (app_st o.fn o.sort la A2 c2 ps L F N w1 HS1.out hN HO.out.fn HO.out.sort HLI.out (by omega) HI2.out HNC2.out HFA.out).mono ?_
          rintro e w2 ⟨F', rfl, hst, hup⟩
          have HG2 : Pk (RefAt w2 pr L G) := Pk.mk (HG1.out.fr hup.fr (fun k hk hf => HSEP.out k (.inl hf) hk))
          have HI12 : Pk (IntsAt w2 A1 la) := Pk.mk (HI1'.out.fr hup.fr HFL.out)
          replace q5 : w2.cell? ⟨w.heap.size, 5, none⟩ = some (.int .i64 o.fn) := hup.fr.cell q5 HFB.out
          replace q6 : w2.cell? ⟨w.heap.size, 6, none⟩ = some (.int .i64 o.sort) := hup.fr.cell q6 HFB.out
          have bl2 : w.heap.size < w2.heap.size := by have := hup.fr.size; omega
          rw [← HP.out] at hst ⊢
          have HST := Pk.mk hst
          have HUP := Pk.mk hup
          clear hst hup
          go_wp2_with fail
          refine (rapp_st o.fn o.sort la A1 c1 pr L G w2 HG2.out HO.out.fn HO.out.sort HLI.out (by omega) HI12.out HNC1.out HGA.out).mono ?_
          rintro e w3 ⟨G', rfl, hst2, hup2⟩
          rw [← HP.out] at hst2 ⊢
          have HM := Pk.mk (HTW.out HST.out HUP.out hst2 hup2)
          clear hst2 hup2
          go_wp2
          go_meet
          case rel => exact ⟨rfl, rfl, rfl, rfl, HM⟩
        have e5 : (o.kind == 5) = false := by simp [k5]
        have K5 := Pk.mk k5
        clear k5
        by_cases k6 : o.kind = 6
        · have e6 : (o.kind == 6) = true := by simp [k6]
          have HP : Pk (r = numP L o.n) := Pk.mk (by rw [HR.out]; simp [callP, toldP, HLA.out, k6])
          clear k6
          have q7 : w1.cell? ⟨w.heap.size, 7, none⟩ = some (.int .i64 o.n) := cell_of_heap HBX1.out rfl
          go_wp2_with fail
          refine (num_st o.n ps L F N w1 HS1.out hN HO.out.n).mono ?_
          rintro e w2 ⟨F', rfl, hst, hup⟩
          have HG2 : Pk (RefAt w2 pr L G) := Pk.mk (HG1.out.fr hup.fr (fun k hk hf => HSEP.out k (.inl hf) hk))
          replace q7 : w2.cell? ⟨w.heap.size, 7, none⟩ = some (.int .i64 o.n) := hup.fr.cell q7 HFB.out
          have bl2 : w.heap.size < w2.heap.size := by have := hup.fr.size; omega
          rw [← HP.out] at hst ⊢
          have HST := Pk.mk hst
          have HUP := Pk.mk hup
          clear hst hup
          go_wp2_with fail
          refine (rnum_st o.n pr L G w2 HG2.out HO.out.n).mono ?_
          rintro e w3 ⟨G', rfl, hst2, hup2⟩
          rw [← HP.out] at hst2 ⊢
          have HM := Pk.mk (HTW.out HST.out HUP.out hst2 hup2)
          clear hst2 hup2
          go_wp2
          go_meet
          case rel => exact ⟨rfl, rfl, rfl, rfl, HM⟩
        have e6 : (o.kind == 6) = false := by simp [k6]
        have K6 := Pk.mk k6
        clear k6
        by_cases k7 : o.kind = 7
        · have e7 : (o.kind == 7) = true := by simp [k7]
          have HP : Pk (r = plusP L (nearP o.a L.length o.md) o.n) := Pk.mk (by rw [HR.out]; simp [callP, toldP, HLA.out, k7])
          clear k7
          have q7 : w1.cell? ⟨w.heap.size, 7, none⟩ = some (.int .i64 o.n) := cell_of_heap HBX1.out rfl
          go_wp2_with fail
          refine (plus_st (nearP o.a L.length o.md) o.n ps L F N w1 HS1.out hN HAN.out HO.out.n).mono ?_
          rintro e w2 ⟨F', rfl, hst, hup⟩
          have HG2 : Pk (RefAt w2 pr L G) := Pk.mk (HG1.out.fr hup.fr (fun k hk hf => HSEP.out k (.inl hf) hk))
          replace q7 : w2.cell? ⟨w.heap.size, 7, none⟩ = some (.int .i64 o.n) := hup.fr.cell q7 HFB.out
          have bl2 : w.heap.size < w2.heap.size := by have := hup.fr.size; omega
          rw [← HP.out] at hst ⊢
          have HST := Pk.mk hst
          have HUP := Pk.mk hup
          clear hst hup
          go_wp2_with fail
          refine (rplus_st (nearP o.a L.length o.md) o.n pr L G w2 HG2.out HAN.out HO.out.n).mono ?_
          rintro e w3 ⟨G', rfl, hst2, hup2⟩
          rw [← HP.out] at hst2 ⊢
          have HM := Pk.mk (HTW.out HST.out HUP.out hst2 hup2)
          clear hst2 hup2
          go_wp2
          go_meet
          case rel => exact ⟨rfl, rfl, rfl, rfl, HM⟩
        have e7 : (o.kind == 7) = false := by simp [k7]
        have K7 := Pk.mk k7
        clear k7
        by_cases k8 : o.kind = 8
        · have e8 : (o.kind == 8) = true := by simp [k8]
          have HP : Pk (r = leP L (nearP o.a L.length o.md) (nearP o.b L.length o.md) o.n) := Pk.mk (by rw [HR.out]; simp [callP, toldP, HLA.out, k8])
          clear k8
          have q7 : w1.cell? ⟨w.heap.size, 7, none⟩ = some (.int .i64 o.n) := cell_of_heap HBX1.out rfl
          go_wp2_with fail
          refine (le_st (nearP o.a L.length o.md) (nearP o.b L.length o.md) o.n ps L F N w1 HS1.out hN HAN.out HBN.out HO.out.n).mono ?_
          rintro e w2 ⟨F', rfl, hst, hup⟩
          have HG2 : Pk (RefAt w2 pr L G) := Pk.mk (HG1.out.fr hup.fr (fun k hk hf => HSEP.out k (.inl hf) hk))
          replace q7 : w2.cell? ⟨w.heap.size, 7, none⟩ = some (.int .i64 o.n) := hup.fr.cell q7 HFB.out
          have bl2 : w.heap.size < w2.heap.size := by have := hup.fr.size; omega
          rw [← HP.out] at hst ⊢
          have HST := Pk.mk hst
          have HUP := Pk.mk hup
          clear hst hup
          go_wp2_with fail
          refine (rle_st (nearP o.a L.length o.md) (nearP o.b L.length o.md) o.n pr L G w2 HG2.out HAN.out HBN.out HO.out.n).mono ?_
          rintro e w3 ⟨G', rfl, hst2, hup2⟩
          rw [← HP.out] at hst2 ⊢
          have HM := Pk.mk (HTW.out HST.out HUP.out hst2 hup2)
          clear hst2 hup2
          go_wp2
          go_meet
          case rel => exact ⟨rfl, rfl, rfl, rfl, HM⟩
        have e8 : (o.kind == 8) = false := by simp [k8]
        have K8 := Pk.mk k8
        clear k8
        have HP : Pk (r = (L, 0, 0)) := Pk.mk (by rw [HR.out]; simp [callP, toldP, K0.out, K1.out, K2.out, K3.out, K4.out, K5.out, K6.out, K7.out, K8.out])
        have HM : Pk (MadeTwo w1 ps pr (fun k => (F.m k ∨ F.r k) ∨ (G.m k ∨ G.r k)) (N + 100000) r.1 w1) := Pk.mk (by rw [HP.out]; exact HTW.out (r := (L, 0, 0)) (HS1.out.le (by omega)) (Upd.refl _ _) HG1.out (Upd.refl _ _))
        have h1 : r.2.1 = 0 := by rw [HP.out]
        have h2 : r.2.2 = 0 := by rw [HP.out]
        have H12 := Pk.mk (And.intro h1 h2)
        clear h1 h2
        go_wp2
        go_meet
        case rel => exact ⟨by rw [H12.out.1], by rw [H12.out.1], by rw [H12.out.2], by rw [H12.out.2], HM⟩
      case rest =>
        obtain ⟨rfl, rfl, rfl, rfl, HM⟩ := hcut
        have HHW : Pk (∀ k, ((F.m k ∨ F.r k) ∨ (G.m k ∨ G.r k)) → k < w.heap.size) := Pk.mk (by
          rintro k (h | h)
          · exact HLTF.out k h
          · exact HLTG.out k h)
        have HMID := Pk.mk (HM.out.mid HBW.out)
        have HBI : Pk (∀ g, A2 = some ⟨g, 0, none⟩ → ∀ cur : Array Value, w1.heap[g]? = some (.cells cur 30 (0, 0)) → wc.heap[g]? = some (.cells cur 30 (0, 0))) := Pk.mk (by
          rintro g rfl cur hc
          refine Mid.heap (w := w) HM.out hc ?_
          intro h
          have h1 := HHW.out g h
          have h2 := HRI.out.2 g rfl
          omega)
        clear b0
        go_wp2_with fail
        go_loopw [20] (fun v20 wx => ∃ k : Nat, v20 = .int .i64 k ∧ k ≤ la.length ∧ Pk (Mid w w1 ps pr (fun k => (F.m k ∨ F.r k) ∨ (G.m k ∨ G.r k)) (N + 100000) r.1 wx) ∧ Pk (0 < la.length → ∃ g cur, A2 = some ⟨g, 0, none⟩ ∧ wx.heap[g]? = some (.cells cur 30 (0, 0)) ∧ la.length ≤ cur.size ∧ w.heap.size ≤ g ∧ g < w1.heap.size)) (fun v20 _ => la.length - (intOf v20).toNat)
        case atStart =>
          refine ⟨0, rfl, by omega, HMID, ⟨fun hpos => ?_⟩⟩
          rcases HRI.out.1.2 with ⟨h0, h1⟩ | ⟨g, cap', cur, h0, _, hg, hn, _, hsz, _⟩
          · omega
          · cases h0
            have h1 := HRI.out.2 g rfl
            exact ⟨g, cur, rfl, HBI.out g rfl cur hg, by omega, by omega, lt_of_heap hg⟩
        case round =>
          obtain ⟨k, rfl, hk, HQ, HC⟩ := hrel
          by_cases hlt : k < la.length
          · obtain ⟨g, cur, rfl, hg, hsz, hg0, hg1⟩ := HC.out (by omega)
            have hc : wr.cell? ⟨g, k, none⟩ = some cur[k] := cell_of_heap hg (by simp)
            have hf : wr.frozen? ⟨g, k, none⟩ = false := frozen_of_heap hg k
            have HGC : Pk ((wr.setCell ⟨g, k, none⟩ (.int .i64 0)).heap[g]? = some (.cells (cur.setIfInBounds k (.int .i64 0)) 30 (0, 0))) := Pk.mk (heap_setCell_same hg _)
            have HQ' : Pk (Mid w w1 ps pr (fun k => (F.m k ∨ F.r k) ∨ (G.m k ∨ G.r k)) (N + 100000) r.1 (wr.setCell ⟨g, k, none⟩ (.int .i64 0))) := Pk.mk (HQ.out.set hg0 hg1 HHW.out _)
            have hsz' : la.length ≤ (cur.setIfInBounds k (Value.int .i64 0)).size := by simpa using hsz
            have HSZ := Pk.mk hsz'
            clear hg hsz'
            go_wp2
            go_roundw
            case rel => exact ⟨k + 1, by go_num, by omega, HQ', ⟨fun _ => ⟨g, _, rfl, HGC.out, HSZ.out, hg0, hg1⟩⟩⟩
            case measure => simp [intOf]; omega
          · go_wp2
            go_ret3
            rw [← HR.out]
            exact ⟨rfl, HQ.out.made HBW.out.size⟩
end Go.Proofs.Ytpkegeblfdlibaa
