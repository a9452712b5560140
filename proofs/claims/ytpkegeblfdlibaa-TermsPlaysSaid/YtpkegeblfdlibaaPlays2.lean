/- Walk of the reference's Node. -/
import Derived.Test.YtpkegeblfdlibaaPlays1
namespace Go.Proofs.Ytpkegeblfdlibaa
open Go Go.RowKit
set_option linter.unusedVariables false
set_option linter.unusedSimpArgs false

set_option maxHeartbeats 2000000 in
theorem rnode_st (x : Int) (p : Nat) (L : List Nd) (F : Foot) (w : World) (hs : RefAt w p L F) :
   Calls Try.prog 42 #[.pointer (some ⟨p, 0, none⟩), .int .i64 x] w (NodeTold w (nodeP L x)) := by
  have HS := Pk.mk hs
  clear hs
  go_enter Try.func42, Try.ntmps42
  go_wp2_with fail
  refine (rthere_st p 1 L F (some ⟨w.heap.size + 1, 0, none⟩) [x] _ (by simp) ((HS.out.below (below_alloc _ _)).below (below_alloc _ _)) (ints_new' _ _ _ [x] _ rfl (by simp))).mono ?_
  rintro e w1 ⟨rfl, hb⟩
  have HB := Pk.mk (below_then (below_then (below_alloc w _) (below_alloc _ _)) hb)
  have h0 := heap_below hb (heap_alloc (MapKept.heap_alloc w (.cells #[.int .u8 0, .int .i64 0, .int .i64 0, .int .i64 0, .slice none 0 0] 44)).1 (.cells #[.int .i64 x] 30))
  have HH := Pk.mk h0
  have hs1 : w.heap.size + 1 < w1.heap.size := by have := hb.size; simp at this; omega
  clear hb h0
  by_cases hr : thereB L.length [x] = true
  · rw [hr]
    have HP : Pk (nodeP L x = (nodeAt L x, 0)) := Pk.mk (by simp [nodeP, hr])
    have hx0 := there_mem hr (x := x) (by simp)
    have hS1 := HS.out.below HB.out
    have hl := hS1.len
    obtain ⟨A, cap, c0, hp, hn⟩ := hS1.read
    have hxl : x.toNat < L.length := by omega
    obtain ⟨g, B, cc, rfl, hc, ho, hB, hcc, hok⟩ := hn x.toNat L[x.toNat] (by simp [hxl])
    have HN := Pk.mk (show nodeAt L x = L[x.toNat] by simp [nodeAt, List.getD_eq_getElem?_getD, hxl])
    generalize L[x.toNat] = nd at *
    have hp0 : w1.cell? ⟨g, x.toNat * 5, none⟩ = some (.int .u8 nd.op) := hc 0 (by omega)
    have hp1 : w1.cell? ⟨g, x.toNat * 5 + 1, none⟩ = some (.int .i64 nd.fn) := hc 1 (by omega)
    have hp2 : w1.cell? ⟨g, x.toNat * 5 + 2, none⟩ = some (.int .i64 nd.num) := hc 2 (by omega)
    have hp3 : w1.cell? ⟨g, x.toNat * 5 + 3, none⟩ = some (.int .i64 nd.sort) := hc 3 (by omega)
    have hp4 : w1.cell? ⟨g, x.toNat * 5 + 4, none⟩ = some (.slice B nd.args.length cc) := hc 4 (by omega)
    have HIA := Pk.mk hB
    have hal := hok.len
    obtain ⟨hx1, hx2⟩ := hx0
    clear hc hn hS1 HS hr ho hB hok
    go_upto_region 4 with fail
    obtain ⟨w2, hw2⟩ : ∃ w2, w2 = w1.alloc (.cells #[.int .u8 nd.op, .int .i64 nd.fn, .int .i64 nd.num, .int .i64 nd.sort, .slice B nd.args.length cc] 44) := ⟨_, rfl⟩
    rw [← hw2]
    have hb2 : Below w1.heap.size w1 w2 := by rw [hw2]; exact below_alloc _ _
    have HX2 : Pk (w2.heap[w1.heap.size]? = some (.cells #[.int .u8 nd.op, .int .i64 nd.fn, .int .i64 nd.num, .int .i64 nd.sort, .slice B nd.args.length cc] 44 (0, 0))) := Pk.mk (by rw [hw2]; exact (MapKept.heap_alloc w1 _).1)
    have hsz2 : w2.heap.size = w1.heap.size + 1 := by rw [hw2]; simp
    have HSZ := Pk.mk hsz2
    have hs2 : w1.heap.size < w2.heap.size := by omega
    have HB2 := Pk.mk (below_then HB.out hb2)
    have HH2 := Pk.mk (heap_below hb2 HH.out)
    have HI2 := Pk.mk (HIA.out.below hb2)
    clear hw2 hb2 hsz2 hp0 hp1 hp2 hp3 hp4 c0 HIA HH HB
    have q4 : w2.cell? ⟨w1.heap.size, 4, none⟩ = some (.slice B nd.args.length cc) := cell_of_heap HX2.out rfl
    obtain ⟨i0, hi, hzz⟩ := Option.map_eq_some_iff.1 info30
    simp only [Prod.mk.injEq] at hzz
    obtain ⟨hz0, hz1, hz2⟩ := hzz
    have HI := Pk.mk hi
    have HZ0 := Pk.mk hz0
    have HZ1 := Pk.mk hz1
    have HZ2 := Pk.mk hz2
    clear hi hz0 hz1 hz2
    go_wp2_with (at_builtin; refine wpList_append_ints rfl (.tmp 20) (.tmp 22) 29 rfl 30 i0 8 Try.underlying29 HI.out HZ0.out HZ1.out HZ2.out (.slice (some ⟨w2.heap.size, 0, none⟩) 0 0) [] rfl (World.ownsRow_made w2 #[] 0 (Nat.zero_le _) (by simp [maxLen]) rfl) B cc nd.args rfl (HI2.out.below (below_alloc _ _)) ?c1 ?c2 ?_)
    case c1 => simp only [maxLen, List.length_nil]; omega
    case c2 => simp only [List.length_nil]; omega
    intro v3 w3 hv3 hg3 hat3
    replace hv3 : w3.ownsRow 0 30 1 v3 nd.args.length (nums nd.args) := hv3
    obtain ⟨A3, c3, rfl, _⟩ := own_ints hv3
    have hF3 : Fr (fun b => b = w2.heap.size) w2 w3 := ((Fr.refl _ w2).alloc _).grown hg3 (fun k hk => by simp [Value.ownBlock] at hk; exact .inl hk.symm)
    have HV3 := Pk.mk hv3
    have HO3 : Pk (∀ k, (Value.slice A3 nd.args.length c3).ownBlock = some k → w2.heap.size ≤ k) := Pk.mk (fun k hk => by
      rcases hat3 with h | h
      · rw [h] at hk; simp [Value.ownBlock] at hk; omega
      · rw [h] at hk; simp at hk; omega)
    have q := hF3.heap HX2.out (by omega)
    have z := hF3.heap HH2.out (by omega)
    have q0 : w3.cell? ⟨w1.heap.size, 0, none⟩ = some (.int .u8 nd.op) := cell_of_heap q rfl
    have q1 : w3.cell? ⟨w1.heap.size, 1, none⟩ = some (.int .i64 nd.fn) := cell_of_heap q rfl
    have q2 : w3.cell? ⟨w1.heap.size, 2, none⟩ = some (.int .i64 nd.num) := cell_of_heap q rfl
    have q3 : w3.cell? ⟨w1.heap.size, 3, none⟩ = some (.int .i64 nd.sort) := cell_of_heap q rfl
    have q4' : w3.cell? ⟨w1.heap.size, 4, none⟩ = some (.slice B nd.args.length cc) := cell_of_heap q rfl
    have qf : w3.frozen? ⟨w1.heap.size, 4, none⟩ = false := frozen_of_heap q 4
    have z0_ : w3.cell? ⟨w.heap.size, 0, none⟩ = some (.int .u8 0) := cell_of_heap z rfl
    have z1_ : w3.cell? ⟨w.heap.size, 1, none⟩ = some (.int .i64 0) := cell_of_heap z rfl
    have z2_ : w3.cell? ⟨w.heap.size, 2, none⟩ = some (.int .i64 0) := cell_of_heap z rfl
    have z3_ : w3.cell? ⟨w.heap.size, 3, none⟩ = some (.int .i64 0) := cell_of_heap z rfl
    have z4_ : w3.cell? ⟨w.heap.size, 4, none⟩ = some (.slice none 0 0) := cell_of_heap z rfl
    have y0 := frozen_of_heap z 0
    have y1 := frozen_of_heap z 1
    have y2 := frozen_of_heap z 2
    have y3 := frozen_of_heap z 3
    have y4 := frozen_of_heap z 4
    have HB3 := Pk.mk (HB2.out.trans (hF3.below (B := w.heap.size) (fun i hi => by omega) (by omega)))
    clear hv3 hg3 hat3 hF3 q z q4
    go_wp2
    refine bodyPost_ret (v := .tuple #[.agg #[.int .u8 nd.op, .int .i64 nd.fn, .int .i64 nd.num, .int .i64 nd.sort, .slice A3 nd.args.length c3], .int .i64 0]) (by simp [results, Try.results42, go_sem, z0_, z1_, z2_, z3_, z4_]) rfl ?_
    rw [HP.out, HN.out]
    have hlo : ∀ k, (Value.slice A3 nd.args.length c3).ownBlock = some k → w1.heap.size + 1 ≤ k := fun k hk => by have := HO3.out k hk; have := HSZ.out; omega
    refine ⟨.slice A3 nd.args.length c3, rfl, ?_, ?_, fun k hk => by have := hlo k hk; omega⟩
    · refine Fr.own (F := fun b => b = w.heap.size ∨ b = w1.heap.size) ?_ HV3.out (by rintro k hk (e | e) <;> have := hlo k hk <;> omega)
      exact ((((((Fr.refl _ _).setCell (p := ⟨w1.heap.size, 4, none⟩) (.inl (.inr rfl)) _).setCell (p := ⟨w.heap.size, 0, none⟩) (.inl (.inl rfl)) _).setCell (p := ⟨w.heap.size, 1, none⟩) (.inl (.inl rfl)) _).setCell (p := ⟨w.heap.size, 2, none⟩) (.inl (.inl rfl)) _).setCell (p := ⟨w.heap.size, 3, none⟩) (.inl (.inl rfl)) _).setCell (p := ⟨w.heap.size, 4, none⟩) (.inl (.inl rfl)) _
    · exact (((((HB3.out.setCell (p := ⟨w1.heap.size, 4, none⟩) (by show w.heap.size ≤ w1.heap.size; omega) _).setCell (p := ⟨w.heap.size, 0, none⟩) (Nat.le_refl _) _).setCell (p := ⟨w.heap.size, 1, none⟩) (Nat.le_refl _) _).setCell (p := ⟨w.heap.size, 2, none⟩) (Nat.le_refl _) _).setCell (p := ⟨w.heap.size, 3, none⟩) (Nat.le_refl _) _).setCell (p := ⟨w.heap.size, 4, none⟩) (Nat.le_refl _) _
  · have HP : Pk (nodeP L x = (z0, 7)) := Pk.mk (by simp [nodeP, hr])
    rw [Bool.not_eq_true] at hr
    rw [hr]
    clear hr
    have z := HH.out
    have z0_ : w1.cell? ⟨w.heap.size, 0, none⟩ = some (.int .u8 0) := cell_of_heap z rfl
    have z1_ : w1.cell? ⟨w.heap.size, 1, none⟩ = some (.int .i64 0) := cell_of_heap z rfl
    have z2_ : w1.cell? ⟨w.heap.size, 2, none⟩ = some (.int .i64 0) := cell_of_heap z rfl
    have z3_ : w1.cell? ⟨w.heap.size, 3, none⟩ = some (.int .i64 0) := cell_of_heap z rfl
    have z4_ : w1.cell? ⟨w.heap.size, 4, none⟩ = some (.slice none 0 0) := cell_of_heap z rfl
    have y0 := frozen_of_heap z 0
    have y1 := frozen_of_heap z 1
    have y2 := frozen_of_heap z 2
    have y3 := frozen_of_heap z 3
    have y4 := frozen_of_heap z 4
    clear z
    go_wp2
    refine bodyPost_ret (v := .tuple #[.agg #[.int .u8 0, .int .i64 0, .int .i64 0, .int .i64 0, .slice none 0 0], .int .i64 7]) (by simp [results, Try.results42, go_sem, z0_, z1_, z2_, z3_, z4_]) rfl ?_
    rw [HP.out]
    refine ⟨.slice none 0 0, rfl, World.ownsRow_nil _ _ _ _, ?_, by simp [Value.ownBlock]⟩
    exact ((((HB.out.setCell (p := ⟨w.heap.size, 0, none⟩) (Nat.le_refl _) _).setCell (p := ⟨w.heap.size, 1, none⟩) (Nat.le_refl _) _).setCell (p := ⟨w.heap.size, 2, none⟩) (Nat.le_refl _) _).setCell (p := ⟨w.heap.size, 3, none⟩) (Nat.le_refl _) _).setCell (p := ⟨w.heap.size, 4, none⟩) (Nat.le_refl _) _
end Go.Proofs.Ytpkegeblfdlibaa
