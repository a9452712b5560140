/- Walks of what only reads the store: of, Split, Len. -/
import Derived.Test.YtpkegeblfdlibaaStore
namespace Go.Proofs.Ytpkegeblfdlibaa
open Go Go.RowKit
set_option linter.unusedVariables false
set_option linter.unusedSimpArgs false

theorem there_st (p c : Nat) (L : List Nd) (F : Foot) (N : Nat) (B : Option Addr) (xs : List Int) (w : World) (hlen : xs.length ≤ 9223372036854775807)
   (hs : StoreAt w p L F N) (hA : IntsAt w B xs) :
   Calls Try.prog 37 #[.pointer (some ⟨p, 0, none⟩), .slice B xs.length c] w fun e w' => e = .returned (.int .i64 (thereE L.length xs)) ∧ Below w.heap.size w w' := by
  have hl := hs.len
  obtain ⟨A, cap, m, h0, h1, hp, _⟩ := hs.read
  exact there_ok p m _ cap c A B xs w (by omega) hlen h0 h1 hA

theorem sortOf_eq (L : List Nd) (x : Int) (nd : Nd) (h : L[x.toNat]? = some nd) : sortOf L x = nd.sort := by
  simp [sortOf, List.getD_eq_getElem?_getD, h]

set_option maxHeartbeats 1000000 in
theorem of1 (x s : Int) (p q r : Nat) (L : List Nd) (F : Foot) (N : Nat) (w : World) (hs : StoreAt w p L F N) (h0 : 0 ≤ x) (hx : x < L.length)
   (hq : w.cell? ⟨q, 0, none⟩ = some (.pointer (some ⟨p, 0, none⟩))) (hr : w.cell? ⟨r, 0, none⟩ = some (.int .i64 s)) :
   Calls Try.prog 57 #[.int .i64 x, .pointer (some ⟨q, 0, none⟩), .pointer (some ⟨r, 0, none⟩)] w fun e w' => e = .returned (.bool (sortOf L x != s)) ∧ Below w.heap.size w w' := by
  have hl := hs.len
  obtain ⟨A, cap, m, c0, c1, hp, hn⟩ := hs.read
  have hxl : x.toNat < L.length := by omega
  obtain ⟨g, v, _, rfl, hc, _⟩ := hn x.toNat L[x.toNat] (by simp [hxl])
  have hc3 : w.cell? ⟨g, x.toNat * 5 + 3, none⟩ = some (.int .i64 (sortOf L x)) := by
    rw [hc 3 (by omega), sortOf_eq L x L[x.toNat] (by simp [hxl])]; rfl
  clear hc hn
  generalize sortOf L x = so at *
  clear hs
  go_enter Try.func57, Try.ntmps57
  go_wp2
  go_quiet (fail)
  go_wp2
  go_ret
  exact ⟨rfl, below_drewN _ _⟩

theorem any_of (L : List Nd) (s : Int) (l : List Int) : (l.any fun x => sortOf L x != s) = !ofB L s l := by
  induction l with
  | nil => rfl
  | cons x r ih =>
    simp only [List.any_cons, ih, ofB, List.all_cons, Bool.not_and]
    congr 1

set_option maxHeartbeats 1000000 in
theorem of_st (s : Int) (p c : Nat) (L : List Nd) (F : Foot) (N : Nat) (B : Option Addr) (xs : List Int) (w : World) (hlen : xs.length ≤ 9223372036854775807)
   (hs : StoreAt w p L F N) (hA : IntsAt w B xs) (hin : thereB L.length xs = true) :
   Calls Try.prog 47 #[.pointer (some ⟨p, 0, none⟩), .int .i64 s, .slice B xs.length c] w fun e w' => e = .returned (.bool (ofB L s xs)) ∧ Below w.heap.size w w' := by
  have HS := Pk.mk hs
  have HA := Pk.mk hA
  have HIN := Pk.mk hin
  have HQ := Pk.mk (any_of L s xs)
  clear hs hA hin
  go_enter Try.func47, Try.ntmps47
  go_wp2_with fail
  have hb2 : Below w.heap.size w ((w.alloc (.cells #[.pointer (some ⟨p, 0, none⟩)] 25)).alloc (.cells #[.int .i64 s] 31)) := below_then (below_alloc w _) (below_alloc _ _)
  have HB2 := Pk.mk hb2
  clear hb2
  refine (containsFunc B xs c 57 _ (fun x => sortOf L x != s) _ hlen (HA.out.below HB2.out) (fun args W => by rfl) (fun x hx W hW => ?_)).mono ?_
  · have h1 := List.all_eq_true.1 HIN.out x hx
    simp only [Bool.and_eq_true, decide_eq_true_eq] at h1
    refine of1 x s p _ _ L F N W ((HS.out.below HB2.out).below hW) h1.1 h1.2 ?_ ?_
    · exact cell_below hW (by simp)
    · exact cell_below hW (by simp)
  · rintro e w1 ⟨rfl, hb⟩
    have HB := Pk.mk (below_then HB2.out hb)
    clear hb HB2
    rw [HQ.out]
    clear HQ HIN HS HA
    go_wp2
    go_ret
    exact ⟨by rfl, HB.out⟩

set_option maxHeartbeats 1000000 in
theorem len_st (p : Nat) (L : List Nd) (F : Foot) (N : Nat) (w : World) (hs : StoreAt w p L F N) :
   Calls Try.prog 12 #[.pointer (some ⟨p, 0, none⟩)] w fun e w' => e = .returned (.int .i64 L.length) ∧ Below w.heap.size w w' := by
  have hl := hs.len
  obtain ⟨A, cap, m, c0, c1, hp, hn⟩ := hs.read
  clear hn hs
  have C1 := Pk.mk c1
  clear c1
  go_enter Try.func12, Try.ntmps12
  go_wp2_with fail
  refine (none_ok p m _ C1.out).mono ?_
  rintro e w1 ⟨rfl, rfl⟩
  go_wp2
  go_ret
  exact ⟨rfl, Below.refl _ _⟩

/-- base, offset and error of a term, as 'Split' has them -/
def SplitE (r : Int × Int × Int) : Ending := .returned (.tuple #[.int .i64 r.1, .int .i64 r.2.1, .int .i64 r.2.2])
set_option maxHeartbeats 2000000 in
theorem split_st (x : Int) (p : Nat) (L : List Nd) (F : Foot) (N : Nat) (w : World) (hs : StoreAt w p L F N) :
   Calls Try.prog 43 #[.pointer (some ⟨p, 0, none⟩), .int .i64 x] w fun e w' => e = SplitE (splitP L x) ∧ Below w.heap.size w w' := by
  have HS := Pk.mk hs
  clear hs
  go_enter Try.func43, Try.ntmps43
  go_wp2_with fail
  refine (there_st p 1 L F N _ [x] _ (by simp) (HS.out.below (below_alloc _ _)) (ints_new _ _ _ [x] _ rfl)).mono ?_
  rintro e w1 ⟨rfl, hb⟩
  have HB := Pk.mk (below_then (below_alloc w _) hb)
  clear hb
  by_cases hr : thereB L.length [x] = true
  · have HE : thereE L.length [x] = 0 := by simp [thereE, hr]
    rw [HE]
    clear HE
    have hx := List.all_eq_true.1 hr x (by simp)
    simp only [Bool.and_eq_true, decide_eq_true_eq] at hx
    obtain ⟨hx0, hx1⟩ := hx
    have hS1 := HS.out.below HB.out
    have hl := hS1.len
    obtain ⟨A, cap, m, c0, c1, hp, hn⟩ := hS1.read
    have hxl : x.toNat < L.length := by omega
    obtain ⟨g, B, cc, rfl, hc, ho, hB, hcc, hok⟩ := hn x.toNat L[x.toNat] (by simp [hxl])
    have HN := Pk.mk (show nodeAt L x = L[x.toNat] by simp [nodeAt, List.getD_eq_getElem?_getD, hxl])
    generalize hnd : L[x.toNat] = nd at *
    clear hnd
    have hp0 : w1.cell? ⟨g, x.toNat * 5, none⟩ = some (.int .u8 nd.op) := hc 0 (by omega)
    have hp1 : w1.cell? ⟨g, x.toNat * 5 + 1, none⟩ = some (.int .i64 nd.fn) := hc 1 (by omega)
    have hp2 : w1.cell? ⟨g, x.toNat * 5 + 2, none⟩ = some (.int .i64 nd.num) := hc 2 (by omega)
    have hp3 : w1.cell? ⟨g, x.toNat * 5 + 3, none⟩ = some (.int .i64 nd.sort) := hc 3 (by omega)
    have hp4 : w1.cell? ⟨g, x.toNat * 5 + 4, none⟩ = some (.slice B nd.args.length cc) := hc 4 (by omega)
    clear hc hn hS1 c1 HS
    have HBA := Pk.mk (below_then HB.out (below_alloc w1 (.cells #[.int .u8 nd.op, .int .i64 nd.fn, .int .i64 nd.num, .int .i64 nd.sort, .slice B nd.args.length cc] 44)))
    have HR := Pk.mk hr
    clear hr ho
    by_cases hs1 : nd.sort = 1
    · have hs1b : (nd.sort != 1) = false := by simp [hs1]
      by_cases h3 : nd.op = 3
      · have h3b : (nd.op == 3) = true := by simp [h3]
        have HP : Pk (splitP L x = (2, nd.num, 0)) := Pk.mk (by simp [splitP, HR.out, HN.out, hs1, h3])
        clear hs1 h3
        go_wp2
        go_quiet (fail)
        go_wp2
        go_ret3
        exact ⟨by rw [HP.out]; rfl, below_dr HBA.out _⟩
      · have h3b : (nd.op == 3) = false := by simp [h3]
        by_cases h4 : nd.op = 4
        · have h4b : (nd.op == 4) = true := by simp [h4]
          have hne := hok.plus h4
          have HP : Pk (splitP L x = (argAt nd 0, nd.num, 0)) := Pk.mk (by simp [splitP, HR.out, HN.out, hs1, h4])
          obtain ⟨y, r, hyr⟩ : ∃ y r, nd.args = y :: r := by
            cases h : nd.args with
            | nil => exact absurd h hne
            | cons y r => exact ⟨y, r, rfl⟩
          have hal : 0 < nd.args.length := by rw [hyr]; simp
          obtain ⟨ad, rfl, hca⟩ := hB 0 y (by rw [hyr]; rfl)
          have HY : Pk (argAt nd 0 = y) := Pk.mk (by rw [argAt, hyr]; rfl)
          rw [add_zero_] at hca
          have hadb := World.block_lt_of_cell? w1 _ hca
          clear hs1 h3 h4 hne hyr hB
          go_wp2
          go_quiet (fail)
          go_wp2
          go_ret3
          exact ⟨by rw [HP.out, HY.out]; rfl, below_dr HBA.out _⟩
        · have h4b : (nd.op == 4) = false := by simp [h4]
          have HP : Pk (splitP L x = (x, 0, 0)) := Pk.mk (by simp [splitP, HR.out, HN.out, hs1, h3, h4])
          clear hs1 h3 h4
          go_wp2
          go_ret3
          exact ⟨by rw [HP.out]; rfl, HBA.out⟩
    · have hs1b : (nd.sort != 1) = true := by simp [hs1]
      have HP : Pk (splitP L x = (0, 0, 60)) := Pk.mk (by simp [splitP, HR.out, HN.out, hs1])
      clear hs1
      go_wp2
      go_ret3
      exact ⟨by rw [HP.out]; rfl, HBA.out⟩
  · have HE : thereE L.length [x] = 7 := by simp [thereE, hr]
    have HP : Pk (splitP L x = (0, 0, 7)) := ⟨by simp [splitP, hr]⟩
    rw [HE]
    clear HE
    go_wp2
    go_ret3
    exact ⟨by rw [HP.out]; rfl, HB.out⟩
end Go.Proofs.Ytpkegeblfdlibaa
