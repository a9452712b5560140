/- The calls as they lie in memory; walk of the law's helper tame. -/
import Derived.Test.YtpkegeblfdlibaaLaw2
namespace Go.Proofs.Ytpkegeblfdlibaa
open Go Go.RowKit
set_option linter.unusedVariables false
set_option linter.unusedSimpArgs false

structure OpR (o : OpV) : Prop where
  kind : i64 o.kind
  a : i64 o.a
  b : i64 o.b
  c : i64 o.c
  fn : i64 o.fn
  sort : i64 o.sort
  n : i64 o.n
  l : ∀ x ∈ o.l, i64 x
  len : o.l.length ≤ 281474976710656
theorem OpR.ok {o : OpV} (h : OpR o) (hl : o.l.length ≤ 6000) : OpOk o := ⟨h.kind, h.a, h.b, h.c, h.fn, h.sort, h.n, h.l, hl⟩
structure OpsAt (w : World) (A : Option Addr) (ops : List OpV) : Prop where
  rd : ∀ i o, ops[i]? = some o → ∃ ad B c, A = some ad ∧ (∀ j v, (opCells o (.slice B o.l.length c))[j]? = some v → w.cell? ((ad.add (i * 9)).add j) = some v) ∧ IntsAt w B o.l
  ok : ∀ o ∈ ops, OpR o
theorem OpsAt.below {w w' : World} {A : Option Addr} {ops : List OpV} (h : OpsAt w A ops) (hb : Below w.heap.size w w') : OpsAt w' A ops :=
  ⟨fun i o hi => by
    obtain ⟨ad, B, c, h1, h2, h3⟩ := h.rd i o hi
    exact ⟨ad, B, c, h1, fun j v hj => cell_below hb (h2 j v hj), h3.below hb⟩, h.ok⟩
def total (ops : List OpV) : Nat := (ops.map (·.l.length)).sum
theorem total_take {ops : List OpV} {k : Nat} (hk : k < ops.length) : total (ops.take (k + 1)) = total (ops.take k) + ops[k].l.length := by
  rw [List.take_succ_eq_append_getElem hk]
  simp only [total, List.map_append, List.sum_append, List.map_cons, List.map_nil, List.sum_cons, List.sum_nil, Nat.add_zero]
theorem total_le {ops : List OpV} {o : OpV} (ho : o ∈ ops) : o.l.length ≤ total ops := by
  induction ops with
  | nil => simp at ho
  | cons a r ih =>
    simp only [total, List.map_cons, List.sum_cons]
    rcases List.mem_cons.1 ho with rfl | h
    · omega
    · have := ih h; simp only [total] at this; omega
theorem total_bd {ops : List OpV} (h : ∀ o ∈ ops, OpR o) (k : Nat) (hk : k ≤ 200) : total (ops.take k) ≤ k * 281474976710656 := by
  induction k with
  | zero => simp [total]
  | succ k ih =>
    by_cases hl : k < ops.length
    · rw [total_take hl]
      have := ih (by omega)
      have := (h _ (List.getElem_mem hl)).len
      omega
    · have e : ops.take (k + 1) = ops.take k := by rw [List.take_of_length_le (by omega), List.take_of_length_le (by omega)]
      rw [e]
      exact Nat.le_trans (ih (by omega)) (Nat.mul_le_mul_right _ (by omega))
def tameP (ops : List OpV) (most : Nat) : Bool := decide (ops.length ≤ most) && decide (total ops ≤ 6000)
theorem tame_ok {ops : List OpV} {A : Option Addr} {w : World} {most : Nat} (h : OpsAt w A ops) (ht : tameP ops most = true) : ops.length ≤ most ∧ ∀ o ∈ ops, OpOk o := by
  simp only [tameP, Bool.and_eq_true, decide_eq_true_eq] at ht
  exact ⟨ht.1, fun o ho => (h.ok o ho).ok (by have := total_le ho; omega)⟩

set_option maxHeartbeats 1000000 in
theorem tame_st (A : Option Addr) (c most : Nat) (ops : List OpV) (w : World) (hA : OpsAt w A ops) (hm : most ≤ 200) (hl : ops.length ≤ 9223372036854775807) :
    Calls Try.prog 6 #[.slice A ops.length c, .int .i64 most] w fun e w' => e = .returned (.bool (tameP ops most)) ∧ w' = w := by
  have HA := Pk.mk hA
  clear hA
  by_cases hml : ops.length ≤ most
  · go_enter Try.func6, Try.ntmps6
    go_wp2_with fail
    go_loopw [5, 6] (fun v5 v6 wr => ∃ k : Nat, v5 = .int .i64 (total (ops.take k)) ∧ v6 = .int .i64 k ∧ k ≤ ops.length ∧ wr = w) (fun _ v6 _ => ops.length - (intOf v6).toNat)
    case atStart => exact ⟨0, rfl, rfl, by omega, rfl⟩
    case round =>
      obtain ⟨k, rfl, rfl, hk, rfl⟩ := hrel
      have hbd := total_bd HA.out.ok k (by omega)
      by_cases hlt : k < ops.length
      · obtain ⟨ad, B, cc, rfl, hc, _⟩ := HA.out.rd k ops[k] (by simp [hlt])
        have h4 : wr.cell? ⟨(ad.add (k * 9)).block, (ad.add (k * 9)).off + 4, none⟩ = some (.slice B ops[k].l.length cc) := hc 4 _ rfl
        have hll := (HA.out.ok _ (List.getElem_mem hlt)).len
        have HT := Pk.mk (total_take hlt)
        generalize ops[k] = o at *
        clear hc
        go_wp2
        go_roundw
        case rel => exact ⟨k + 1, by rw [HT.out]; go_num, by go_num, by omega, trivial⟩
        case measure => simp [intOf]; omega
      · have HP : Pk (tameP ops most = decide (total (ops.take k) ≤ 6000)) := Pk.mk (by
          rw [List.take_of_length_le (by omega)]; simp [tameP, hml])
        go_wp2
        go_ret
        refine ⟨?_, rfl⟩
        rw [HP.out]
        show Ending.returned (.bool (decide ((total (ops.take k) : Int) ≤ 6000))) = _
        congr 2
        exact decide_eq_decide.2 (by omega)
  · have HP : Pk (tameP ops most = false) := Pk.mk (by simp [tameP, hml])
    go_enter Try.func6, Try.ntmps6
    go_wp2
    go_ret
    refine ⟨?_, rfl⟩
    rw [HP.out]
    rfl
end Go.Proofs.Ytpkegeblfdlibaa
