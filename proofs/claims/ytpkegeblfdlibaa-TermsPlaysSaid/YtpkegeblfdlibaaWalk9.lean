/- Walks of Node, New. -/
import Derived.Test.YtpkegeblfdlibaaWalk8
namespace Go.Proofs.Ytpkegeblfdlibaa
open Go Go.RowKit
set_option linter.unusedVariables false
set_option linter.unusedSimpArgs false

def nodeP (L : List Nd) (t : Int) : Nd × Int := if thereB L.length [t] = true then (nodeAt L t, 0) else (z0, 7)
/-- what Node tells: a node whose arguments lie in memory of their own -/
def NodeTold (w : World) (r : Nd × Int) (e : Ending) (w' : World) : Prop :=
  ∃ v, e = .returned (.tuple #[.agg #[.int .u8 r.1.op, .int .i64 r.1.fn, .int .i64 r.1.num, .int .i64 r.1.sort, v], .int .i64 r.2]) ∧ w'.ownsRow 0 30 1 v r.1.args.length (nums r.1.args) ∧ Below w.heap.size w w' ∧ (∀ k, v.ownBlock = some k → w.heap.size ≤ k)

theorem clone_any (B : Option Addr) (c : Nat) (xs : List Int) (W : World) (hW : IntsAt W B xs) (hc : B = none → c = 0) (hx : xs.length ≤ 1000000) : Calls Try.prog 38 #[.slice B xs.length c] W (Cloned xs W) := by
  rcases B with _ | ad
  · have ha : xs = [] := by
      rcases xs with _ | ⟨y, r⟩
      · rfl
      · obtain ⟨ad, e, _⟩ := hW 0 y rfl
        cases e
    subst ha
    rw [hc rfl]
    exact clone_nil W
  · exact clone_some ad c xs W hW hx
theorem own_nil_cap {w : World} {base e n c : Nat} {B : Option Addr} {m : Nat} {xs : List Value} (h : w.ownsRow base e 1 (.slice B n c) m xs) : B = none → c = 0 := by
  rintro rfl
  rcases h.2 with ⟨h0, _⟩ | ⟨g, cap, cur, h0, _⟩
  · cases h0; rfl
  · cases h0

set_option maxHeartbeats 1000000 in
theorem node_st (x : Int) (p : Nat) (L : List Nd) (F : Foot) (N : Nat) (w : World) (hs : StoreAt w p L F N) :
   Calls Try.prog 13 #[.pointer (some ⟨p, 0, none⟩), .int .i64 x] w (NodeTold w (nodeP L x)) := by
  have HS := Pk.mk hs
  clear hs
  go_enter Try.func13, Try.ntmps13
  go_wp2_with fail
  refine (there_st p 1 L F N (some ⟨w.heap.size + 1, 0, none⟩) [x] _ (by simp) ((HS.out.below (below_alloc _ _)).below (below_alloc _ _)) (ints_new' _ _ _ [x] _ rfl (by simp))).mono ?_
  rintro e w1 ⟨rfl, hb⟩
  have HB := Pk.mk (below_then (below_then (below_alloc w _) (below_alloc _ _)) hb)
  have hz : ∀ j : Nat, j < 5 → w1.cell? ⟨w.heap.size, j, none⟩ = (#[Value.int .u8 0, .int .i64 0, .int .i64 0, .int .i64 0, .slice none 0 0] : Array Value)[j]? ∧ w1.frozen? ⟨w.heap.size, j, none⟩ = false := by
    intro j hj
    have h0 := heap_below hb (heap_alloc (MapKept.heap_alloc w (.cells #[.int .u8 0, .int .i64 0, .int .i64 0, .int .i64 0, .slice none 0 0] 44)).1 (.cells #[.int .i64 x] 30))
    refine ⟨?_, frozen_of_heap h0 j⟩
    rcases hv : (#[Value.int .u8 0, .int .i64 0, .int .i64 0, .int .i64 0, .slice none 0 0] : Array Value)[j]? with _ | v
    · exfalso
      have : j < 5 := hj
      rcases j with _ | _ | _ | _ | _ | j <;> simp at hv
      omega
    · exact cell_of_heap h0 hv
  obtain ⟨z0_, y0⟩ := hz 0 (by omega)
  obtain ⟨z1_, y1⟩ := hz 1 (by omega)
  obtain ⟨z2_, y2⟩ := hz 2 (by omega)
  obtain ⟨z3_, y3⟩ := hz 3 (by omega)
  obtain ⟨z4_, y4⟩ := hz 4 (by omega)
  replace z0_ : w1.cell? ⟨w.heap.size, 0, none⟩ = some (.int .u8 0) := z0_
  replace z1_ : w1.cell? ⟨w.heap.size, 1, none⟩ = some (.int .i64 0) := z1_
  replace z2_ : w1.cell? ⟨w.heap.size, 2, none⟩ = some (.int .i64 0) := z2_
  replace z3_ : w1.cell? ⟨w.heap.size, 3, none⟩ = some (.int .i64 0) := z3_
  replace z4_ : w1.cell? ⟨w.heap.size, 4, none⟩ = some (.slice none 0 0) := z4_
  have hs1 : w.heap.size + 1 < w1.heap.size := by have := hb.size; simp at this; omega
  clear hb hz
  by_cases hr : thereB L.length [x] = true
  · rw [thereE_yes hr]
    have HP : Pk (nodeP L x = (nodeAt L x, 0)) := Pk.mk (by simp [nodeP, hr])
    have hx0 := there_mem hr (x := x) (by simp)
    have hS1 := HS.out.below HB.out
    have hl := hS1.len
    obtain ⟨A, cap, m, c0, c1, hp, hn⟩ := hS1.read
    have hxl : x.toNat < L.length := by omega
    obtain ⟨g, B, cc, rfl, hc, ho, hB, hcc, hok⟩ := hn x.toNat L[x.toNat] (by simp [hxl])
    have HN := Pk.mk (show nodeAt L x = L[x.toNat] by simp [nodeAt, List.getD_eq_getElem?_getD, hxl])
    generalize L[x.toNat] = nd at *
    have hp0 : w1.cell? ⟨g, x.toNat * 5, none⟩ = some (.int .u8 nd.op) := hc 0 (by omega)
    have hp1 : w1.cell? ⟨g, x.toNat * 5 + 1, none⟩ = some (.int .i64 nd.fn) := hc 1 (by omega)
    have hp2 : w1.cell? ⟨g, x.toNat * 5 + 2, none⟩ = some (.int .i64 nd.num) := hc 2 (by omega)
    have hp3 : w1.cell? ⟨g, x.toNat * 5 + 3, none⟩ = some (.int .i64 nd.sort) := hc 3 (by omega)
    have hp4 : w1.cell? ⟨g, x.toNat * 5 + 4, none⟩ = some (.slice B nd.args.length cc) := hc 4 (by omega)
    have HNC := Pk.mk (own_nil_cap ho)
    have HIA := Pk.mk hB
    have HAL := Pk.mk hok.len
    obtain ⟨hx1, hx2⟩ := hx0
    clear hc hn hS1 c1 HS hr ho hB hok
    go_wp2_with fail
    refine (clone_any B cc nd.args _ (HIA.out.below (below_alloc _ _)) HNC.out (by have := HAL.out; omega)).mono ?_
    rintro e w2 ⟨v, rfl, hv1, hv2, hv3⟩
    obtain ⟨B', c', rfl, _, _, hc', hB', _⟩ := own_ints hv1
    have q := heap_below hv2 (MapKept.heap_alloc w1 (.cells #[.int .u8 nd.op, .int .i64 nd.fn, .int .i64 nd.num, .int .i64 nd.sort, .slice B nd.args.length cc] 44)).1
    have hz' : ∀ j : Nat, w2.frozen? ⟨w.heap.size, j, none⟩ = w1.frozen? ⟨w.heap.size, j, none⟩ := fun j => by
      rw [hv2.frozen (p := ⟨w.heap.size, j, none⟩) (by simp; omega)]
      exact World.frozen?_of_block (Below.heap_alloc w1 _ _ (by show w.heap.size < _; omega))
    replace y0 := (hz' 0).trans y0
    replace y1 := (hz' 1).trans y1
    replace y2 := (hz' 2).trans y2
    replace y3 := (hz' 3).trans y3
    replace y4 := (hz' 4).trans y4
    replace z0_ := cell_below hv2 (cell_alloc z0_ (.cells #[.int .u8 nd.op, .int .i64 nd.fn, .int .i64 nd.num, .int .i64 nd.sort, .slice B nd.args.length cc] 44))
    replace z1_ := cell_below hv2 (cell_alloc z1_ (.cells #[.int .u8 nd.op, .int .i64 nd.fn, .int .i64 nd.num, .int .i64 nd.sort, .slice B nd.args.length cc] 44))
    replace z2_ := cell_below hv2 (cell_alloc z2_ (.cells #[.int .u8 nd.op, .int .i64 nd.fn, .int .i64 nd.num, .int .i64 nd.sort, .slice B nd.args.length cc] 44))
    replace z3_ := cell_below hv2 (cell_alloc z3_ (.cells #[.int .u8 nd.op, .int .i64 nd.fn, .int .i64 nd.num, .int .i64 nd.sort, .slice B nd.args.length cc] 44))
    replace z4_ := cell_below hv2 (cell_alloc z4_ (.cells #[.int .u8 nd.op, .int .i64 nd.fn, .int .i64 nd.num, .int .i64 nd.sort, .slice B nd.args.length cc] 44))
    have q0 : w2.cell? ⟨w1.heap.size, 0, none⟩ = some (.int .u8 nd.op) := cell_of_heap q rfl
    have q1 : w2.cell? ⟨w1.heap.size, 1, none⟩ = some (.int .i64 nd.fn) := cell_of_heap q rfl
    have q2 : w2.cell? ⟨w1.heap.size, 2, none⟩ = some (.int .i64 nd.num) := cell_of_heap q rfl
    have q3 : w2.cell? ⟨w1.heap.size, 3, none⟩ = some (.int .i64 nd.sort) := cell_of_heap q rfl
    have q4 : w2.cell? ⟨w1.heap.size, 4, none⟩ = some (.slice B nd.args.length cc) := cell_of_heap q rfl
    have qf : w2.frozen? ⟨w1.heap.size, 4, none⟩ = false := frozen_of_heap q 4
    have HB2 := Pk.mk (below_then HB.out (below_then (below_alloc w1 _) hv2))
    have HV1 := Pk.mk hv1
    have HV3 := Pk.mk hv3
    have hs2 : w1.heap.size + 1 ≤ w2.heap.size := by have := hv2.size; simpa using this
    clear hv1 hv2 hv3 q hB' hz'
    go_wp2
    refine bodyPost_ret (v := .tuple #[.agg #[.int .u8 nd.op, .int .i64 nd.fn, .int .i64 nd.num, .int .i64 nd.sort, .slice B' nd.args.length c'], .int .i64 0]) (by simp [results, Try.results13, go_sem, z0_, z1_, z2_, z3_, z4_]) rfl ?_
    rw [HP.out, HN.out]
    have hlo : ∀ k, (Value.slice B' nd.args.length c').ownBlock = some k → w1.heap.size + 1 ≤ k := fun k hk => by have := HV3.out k hk; simpa using this
    refine ⟨.slice B' nd.args.length c', rfl, ?_, ?_, fun k hk => by have := hlo k hk; omega⟩
    · refine Fr.own (F := fun b => b = w.heap.size ∨ b = w1.heap.size) ?_ HV1.out (by rintro k hk (e | e) <;> have := hlo k hk <;> omega)
      exact ((((((Fr.refl _ _).setCell (p := ⟨w1.heap.size, 4, none⟩) (.inl (.inr rfl)) _).setCell (p := ⟨w.heap.size, 0, none⟩) (.inl (.inl rfl)) _).setCell (p := ⟨w.heap.size, 1, none⟩) (.inl (.inl rfl)) _).setCell (p := ⟨w.heap.size, 2, none⟩) (.inl (.inl rfl)) _).setCell (p := ⟨w.heap.size, 3, none⟩) (.inl (.inl rfl)) _).setCell (p := ⟨w.heap.size, 4, none⟩) (.inl (.inl rfl)) _
    · exact (((((HB2.out.setCell (p := ⟨w1.heap.size, 4, none⟩) (by show w.heap.size ≤ w1.heap.size; omega) _).setCell (p := ⟨w.heap.size, 0, none⟩) (Nat.le_refl _) _).setCell (p := ⟨w.heap.size, 1, none⟩) (Nat.le_refl _) _).setCell (p := ⟨w.heap.size, 2, none⟩) (Nat.le_refl _) _).setCell (p := ⟨w.heap.size, 3, none⟩) (Nat.le_refl _) _).setCell (p := ⟨w.heap.size, 4, none⟩) (Nat.le_refl _) _
  · have HP : Pk (nodeP L x = (z0, 7)) := Pk.mk (by simp [nodeP, hr])
    rw [thereE_no hr]
    clear hr
    go_wp2
    refine bodyPost_ret (v := .tuple #[.agg #[.int .u8 0, .int .i64 0, .int .i64 0, .int .i64 0, .slice none 0 0], .int .i64 7]) (by simp [results, Try.results13, go_sem, z0_, z1_, z2_, z3_, z4_]) rfl ?_
    rw [HP.out]
    refine ⟨.slice none 0 0, rfl, World.ownsRow_nil _ _ _ _, ?_, by simp [Value.ownBlock]⟩
    exact ((((HB.out.setCell (p := ⟨w.heap.size, 0, none⟩) (Nat.le_refl _) _).setCell (p := ⟨w.heap.size, 1, none⟩) (Nat.le_refl _) _).setCell (p := ⟨w.heap.size, 2, none⟩) (Nat.le_refl _) _).setCell (p := ⟨w.heap.size, 3, none⟩) (Nat.le_refl _) _).setCell (p := ⟨w.heap.size, 4, none⟩) (Nat.le_refl _) _
end Go.Proofs.Ytpkegeblfdlibaa
