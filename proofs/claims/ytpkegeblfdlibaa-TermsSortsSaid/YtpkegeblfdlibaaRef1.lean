/- The reference's store in memory; walks of there, of, bound, Split. -/
import Derived.Test.YtpkegeblfdlibaaSame
namespace Go.Proofs.Ytpkegeblfdlibaa
open Go Go.RowKit
set_option linter.unusedVariables false
set_option linter.unusedSimpArgs false

structure RefAt (w : World) (p : Nat) (L : List Nd) (F : Foot) : Prop where
  ex : ∃ (v : Value) (cs : List Value), w.heap[p]? = some (.cells #[v] 36 (0, 0)) ∧ w.ownsRow 0 44 5 v L.length cs ∧ NodesAt F.r w L cs ∧ F.m p ∧ ∀ k, v.ownBlock = some k → F.m k
  nodup : L.Nodup
  ok : ∀ nd ∈ L, NdOk nd
  lt : ∀ k, F.m k ∨ F.r k → k < w.heap.size
  sep : ∀ k, F.r k → ¬ F.m k
  len : L.length ≤ 20000
theorem RefAt.fr {w w' : World} {p : Nat} {L : List Nd} {F : Foot} {G : Nat → Prop} (h : RefAt w p L F) (hf : Fr G w w') (hn : ∀ k, F.m k ∨ F.r k → ¬ G k) : RefAt w' p L F := by
  obtain ⟨⟨v, cs, h1, h2, h3, hp, hv⟩, hnd, hok, hlt, hsep, hlen⟩ := h
  exact ⟨⟨v, cs, hf.heap h1 (hn p (.inl hp)), hf.own h2 (fun k hk => hn k (.inl (hv k hk))), h3.fr hf (fun k _ hk => hn k (.inr hk)), hp, hv⟩, hnd, hok, fun k hk => hf.lt (hlt k hk), hsep, hlen⟩
theorem RefAt.below {w w' : World} {p : Nat} {L : List Nd} {F : Foot} (h : RefAt w p L F) (hb : Below w.heap.size w w') : RefAt w' p L F :=
  h.fr (Fr.of_below (F := fun _ => False) hb) (fun _ _ h => h)
theorem RefAt.read {w : World} {p : Nat} {L : List Nd} {F : Foot} (h : RefAt w p L F) : ∃ (A : Option Addr) (cap : Nat), w.cell? ⟨p, 0, none⟩ = some (.slice A L.length cap) ∧ p < w.heap.size ∧
    ∀ (i : Nat) nd, L[i]? = some nd → ∃ g B c, A = some ⟨g, 0, none⟩ ∧ (∀ j, j < 5 → w.cell? ⟨g, i * 5 + j, none⟩ = (nodeCells nd (.slice B nd.args.length c))[j]?) ∧ w.ownsRow 0 30 1 (.slice B nd.args.length c) nd.args.length (nums nd.args) ∧ IntsAt w B nd.args ∧ nd.args.length ≤ c ∧ NdOk nd := by
  obtain ⟨⟨v, cs, h1, h2, h3, hp, hv⟩, hnd, hok, hlt, hsep, hlen⟩ := h
  obtain ⟨A, cap, rfl⟩ : ∃ A cap, v = .slice A L.length cap := by
    rcases h2.2 with ⟨rfl, h0⟩ | ⟨g, cap, cur, rfl, _⟩
    · exact ⟨none, 0, by rw [h0]⟩
    · exact ⟨_, cap, rfl⟩
  refine ⟨A, cap, cell_of_heap h1 rfl, lt_of_heap h1, fun i nd hi => ?_⟩
  obtain ⟨v', g1, g2, g3⟩ := h3.2 i nd hi
  have hil := (List.getElem?_eq_some_iff.1 hi).1
  rcases h2.2 with ⟨_, h0⟩ | ⟨g, cap', cur, hv', _⟩
  · omega
  · obtain ⟨rfl, _⟩ : A = some ⟨g, 0, none⟩ ∧ True := by cases hv'; simp
    obtain ⟨B, c, rfl, _, _, hc, hB, _⟩ := own_ints g2
    refine ⟨g, B, c, rfl, fun j hj => ?_, g2, hB, hc, hok nd (List.mem_of_getElem? hi)⟩
    have hlt' : i * 5 + j < cs.length := by rw [h3.1]; omega
    have e1 := h2.cells (g := g) rfl (i * 5 + j) cs[i * 5 + j] (by rw [List.getElem?_eq_getElem])
    rw [add_plain] at e1
    rw [e1, ← g1 j hj, List.getElem?_eq_getElem hlt']
theorem RefAt.sort_cell {w : World} {p : Nat} {L : List Nd} {F : Foot} (h : RefAt w p L F) {x : Int} (h0 : 0 ≤ x) (hx : x < L.length) : ∃ g cap, w.cell? ⟨p, 0, none⟩ = some (.slice (some ⟨g, 0, none⟩) L.length cap) ∧ w.cell? ⟨g, x.toNat * 5 + 3, none⟩ = some (.int .i64 (sortOf L x)) ∧ p < w.heap.size ∧ g < w.heap.size ∧ x.toNat < L.length ∧ L.length ≤ 20000 ∧ i64 (sortOf L x) := by
  obtain ⟨A, cap, c0, hp, hn⟩ := h.read
  have hxl : x.toNat < L.length := by omega
  obtain ⟨g, B, cc, rfl, hc, ho, hB, hcc, hok⟩ := hn x.toNat L[x.toNat] (by simp [hxl])
  have he := sortOf_eq L x L[x.toNat] (by simp [hxl])
  have hc3 : w.cell? ⟨g, x.toNat * 5 + 3, none⟩ = some (.int .i64 (sortOf L x)) := by
    rw [hc 3 (by omega), he]; rfl
  exact ⟨g, cap, c0, hc3, hp, World.block_lt_of_cell? w _ hc3, hxl, h.len, by rw [he]; exact hok.sort⟩

theorem there_take {n : Nat} {l : List Int} : ∀ k, thereB n (l.take k) = true → ∀ (hk : k < l.length), thereB n (l.take (k + 1)) = (decide (0 ≤ l[k]) && decide (l[k] < n)) := by
  intro k h hk
  rw [List.take_succ_eq_append_getElem hk]
  simp only [thereB, List.all_append, List.all_cons, List.all_nil, Bool.and_true]
  rw [show (l.take k).all (fun t => decide (0 ≤ t) && decide (t < (n : Int))) = true from h]
  simp
theorem there_no {n : Nat} {l : List Int} {x : Int} (hx : x ∈ l) (h : x < 0 ∨ (n : Int) ≤ x) : thereB n l = false := by
  rcases hb : thereB n l with _ | _
  · rfl
  · have := there_mem hb hx; omega

set_option maxHeartbeats 2000000 in
theorem rthere_st (p c : Nat) (L : List Nd) (F : Foot) (B : Option Addr) (xs : List Int) (w : World) (hlen : xs.length ≤ 1000000)
   (hs : RefAt w p L F) (hA : IntsAt w B xs) :
   Calls Try.prog 48 #[.pointer (some ⟨p, 0, none⟩), .slice B xs.length c] w fun e w' => e = .returned (.bool (thereB L.length xs)) ∧ Below w.heap.size w w' := by
  have hl := hs.len
  obtain ⟨A, cap, c0, hp, _⟩ := hs.read
  have HA := Pk.mk hA
  have C0 := Pk.mk c0
  clear hs hA c0
  go_enter Try.func48, Try.ntmps48
  go_wp2
  go_loopw [5] (fun v5 wr => ∃ k : Nat, v5 = .int .i64 k ∧ k ≤ xs.length ∧ Pk (thereB L.length (xs.take k) = true) ∧ Pk (Below w.heap.size w wr)) (fun v5 _ => xs.length - (intOf v5).toNat)
  case atStart => exact ⟨0, rfl, by omega, ⟨by simp [thereB]⟩, ⟨Below.refl _ _⟩⟩
  case round =>
    obtain ⟨k, rfl, hk, HT, HW⟩ := hrel
    have c0 := cell_below HW.out C0.out
    by_cases hlt : k < xs.length
    · obtain ⟨ad, rfl, hca⟩ := (HA.out.below HW.out) k xs[k] (by simp [hlt])
      have HM := Pk.mk (List.getElem_mem hlt)
      have HTK := Pk.mk (there_take k HT.out hlt)
      generalize xs[k] = x at *
      by_cases h0 : x < 0
      · have d0 : decide (x < 0) = true := decide_eq_true h0
        have HP : Pk (thereB L.length xs = false) := Pk.mk (there_no HM.out (.inl h0))
        clear h0
        go_wp2
        go_quiet (fail)
        go_wp2
        go_ret
        exact ⟨by rw [HP.out]; rfl, below_dr HW.out _⟩
      · have d0 : decide (x < 0) = false := decide_eq_false h0
        by_cases h1 : (L.length : Int) ≤ x
        · have d1 : decide ((L.length : Int) ≤ x) = true := decide_eq_true h1
          have HP : Pk (thereB L.length xs = false) := Pk.mk (there_no HM.out (.inr h1))
          clear h1 h0
          go_wp2
          go_quiet (fail)
          go_wp2
          go_ret
          exact ⟨by rw [HP.out]; rfl, below_dr HW.out _⟩
        · have d1 : decide ((L.length : Int) ≤ x) = false := decide_eq_false h1
          have HN : Pk (thereB L.length (xs.take (k + 1)) = true) := Pk.mk (by rw [HTK.out]; simp; omega)
          clear h1 h0
          go_wp2
          go_quiet (fail)
          go_wp2
          go_roundw
          case rel => exact ⟨k + 1, by go_num, by omega, HN, ⟨below_dr HW.out _⟩⟩
          case measure => simp [intOf]; omega
    · have HP : Pk (thereB L.length xs = true) := Pk.mk (by have := HT.out; rwa [List.take_of_length_le (by omega)] at this)
      go_wp2
      go_ret
      exact ⟨by rw [HP.out]; rfl, HW.out⟩

theorem of_take {L : List Nd} {s : Int} {l : List Int} : ∀ k, ofB L s (l.take k) = true → ∀ (hk : k < l.length), sortOf L l[k] = s → ofB L s (l.take (k + 1)) = true := by
  intro k h hk he
  rw [List.take_succ_eq_append_getElem hk]
  simp only [ofB, List.all_append, List.all_cons, List.all_nil, Bool.and_true, Bool.and_eq_true]
  exact ⟨h, by simpa using he⟩
theorem of_no {L : List Nd} {s : Int} {l : List Int} {x : Int} (hx : x ∈ l) (h : sortOf L x ≠ s) : ofB L s l = false := by
  rcases hb : ofB L s l with _ | _
  · rfl
  · have := List.all_eq_true.1 hb x hx
    simp at this; exact absurd this h

set_option maxHeartbeats 2000000 in
theorem rof_st (s : Int) (p c : Nat) (L : List Nd) (F : Foot) (B : Option Addr) (xs : List Int) (w : World) (hlen : xs.length ≤ 1000000)
   (hs : RefAt w p L F) (hA : IntsAt w B xs) (hin : thereB L.length xs = true) :
   Calls Try.prog 49 #[.pointer (some ⟨p, 0, none⟩), .slice B xs.length c, .int .i64 s] w fun e w' => e = .returned (.bool (ofB L s xs)) ∧ Below w.heap.size w w' := by
  have HS := Pk.mk hs
  have HA := Pk.mk hA
  have HIN := Pk.mk hin
  clear hs hA hin
  go_enter Try.func49, Try.ntmps49
  go_wp2
  go_loopw [7] (fun v7 wr => ∃ k : Nat, v7 = .int .i64 k ∧ k ≤ xs.length ∧ Pk (ofB L s (xs.take k) = true) ∧ Pk (Below w.heap.size w wr)) (fun v7 _ => xs.length - (intOf v7).toNat)
  case atStart => exact ⟨0, rfl, by omega, ⟨by simp [ofB]⟩, ⟨Below.refl _ _⟩⟩
  case round =>
    obtain ⟨k, rfl, hk, HT, HW⟩ := hrel
    by_cases hlt : k < xs.length
    · obtain ⟨ad, rfl, hca⟩ := (HA.out.below HW.out) k xs[k] (by simp [hlt])
      have HM := Pk.mk (List.getElem_mem hlt)
      obtain ⟨hx0, hx1⟩ := there_mem HIN.out HM.out
      obtain ⟨g, cp, c0, c3, hp, hg, hxl, hl, _⟩ := (HS.out.below HW.out).sort_cell hx0 hx1
      have HTK : Pk (sortOf L xs[k] = s → ofB L s (xs.take (k + 1)) = true) := Pk.mk (of_take k HT.out hlt)
      generalize xs[k] = x at *
      have HSO : Pk (sortOf L x ≠ s → ofB L s xs = false) := Pk.mk (of_no HM.out)
      generalize sortOf L x = so at *
      by_cases h0 : so = s
      · have d0 : (so != s) = false := by simp [h0]
        have d1 : (so == s) = true := by simp [h0]
        have HN := Pk.mk (HTK.out h0)
        clear h0
        go_wp2
        go_quiet (fail)
        go_wp2
        go_roundw
        case rel => exact ⟨k + 1, by go_num, by omega, HN, ⟨below_dr HW.out _⟩⟩
        case measure => simp [intOf]; omega
      · have d0 : (so != s) = true := by simp [h0]
        have d1 : (so == s) = false := by simp [h0]
        have HP := Pk.mk (HSO.out h0)
        clear h0
        go_wp2
        go_quiet (fail)
        go_wp2
        go_ret
        exact ⟨by rw [HP.out]; rfl, below_dr HW.out _⟩
    · have HP : Pk (ofB L s xs = true) := Pk.mk (by have := HT.out; rwa [List.take_of_length_le (by omega)] at this)
      go_wp2
      go_ret
      exact ⟨by rw [HP.out]; rfl, HW.out⟩

theorem rbound_ok (n : Int) (w : World) : Calls Try.prog 53 #[.int .i64 n] w fun e w' => e = .returned (.bool (boundB n)) ∧ w = w' := by
  by_cases c1 : (-4611686018427387903) ≤ n
  · have d1 : decide ((-4611686018427387903) ≤ n) = true := decide_eq_true c1
    have HB : Pk (boundB n = decide (n ≤ 4611686018427387903)) := Pk.mk (by unfold boundB; rw [d1]; rfl)
    clear c1
    go_enter Try.func53, Try.ntmps53
    go_wp2
    go_ret
    exact ⟨by rw [HB.out]; rfl, rfl⟩
  · have d1 : decide ((-4611686018427387903) ≤ n) = false := decide_eq_false c1
    have HB : Pk (boundB n = false) := Pk.mk (by unfold boundB; rw [d1]; rfl)
    clear c1
    go_enter Try.func53, Try.ntmps53
    go_wp2
    go_ret
    exact ⟨by rw [HB.out]; rfl, rfl⟩
end Go.Proofs.Ytpkegeblfdlibaa
