/- Walk of the reference's Same. -/
import Derived.Test.YtpkegeblfdlibaaWalkA
namespace Go.Proofs.Ytpkegeblfdlibaa
open Go Go.RowKit
set_option linter.unusedVariables false
set_option linter.unusedSimpArgs false

def nodeV (nd : Nd) (v : Value) : Value := .agg #[.int .u8 nd.op, .int .i64 nd.fn, .int .i64 nd.num, .int .i64 nd.sort, v]
theorem Nd.ext' {a b : Nd} (h1 : a.op = b.op) (h2 : a.fn = b.fn) (h3 : a.num = b.num) (h4 : a.sort = b.sort) (h5 : a.args = b.args) : a = b := by cases a; cases b; simp_all

set_option maxHeartbeats 4000000 in
theorem same_ok (a b : Nd) (A B : Option Addr) (ca cb : Nat) (w : World) (hA : IntsAt w A a.args) (hB : IntsAt w B b.args) (hla : a.args.length ≤ 1000000) (hlb : b.args.length ≤ 1000000) :
   Calls Try.prog 14 #[.agg #[.int .u8 a.op, .int .i64 a.fn, .int .i64 a.num, .int .i64 a.sort, .slice A a.args.length ca], .agg #[.int .u8 b.op, .int .i64 b.fn, .int .i64 b.num, .int .i64 b.sort, .slice B b.args.length cb]] w
     fun e w' => e = .returned (.bool (decide (a = b))) ∧ Below w.heap.size w w' := by
  have HA := Pk.mk hA
  have HB := Pk.mk hB
  clear hA hB
  have HBB := Pk.mk (below_then (below_alloc w (.cells #[.int .u8 a.op, .int .i64 a.fn, .int .i64 a.num, .int .i64 a.sort, .slice A a.args.length ca] 44)) (below_alloc _ (.cells #[.int .u8 b.op, .int .i64 b.fn, .int .i64 b.num, .int .i64 b.sort, .slice B b.args.length cb] 44)))
  by_cases e1 : a.op = b.op
  · have d1 : (a.op != b.op) = false := by simp [e1]
    have d1' : (a.op == b.op) = true := by simp [e1]
    by_cases e2 : a.fn = b.fn
    · have d2 : (a.fn != b.fn) = false := by simp [e2]
      have d2' : (a.fn == b.fn) = true := by simp [e2]
      by_cases e3 : a.num = b.num
      · have d3 : (a.num != b.num) = false := by simp [e3]
        have d3' : (a.num == b.num) = true := by simp [e3]
        by_cases e4 : a.sort = b.sort
        · have d4 : (a.sort != b.sort) = false := by simp [e4]
          have d4' : (a.sort == b.sort) = true := by simp [e4]
          by_cases e5 : a.args.length = b.args.length
          · have d5 : ((a.args.length : Int) != (b.args.length : Int)) = false := by simp [e5]
            have d5' : (a.args.length == b.args.length) = true := by simp [e5]
            have E := Pk.mk (show ∀ h : a.args = b.args, a = b from fun h => Nd.ext' e1 e2 e3 e4 h)
            have E5 := Pk.mk e5
            clear e1 e2 e3 e4 e5
            go_enter Try.func14, Try.ntmps14
            go_wp2
            obtain ⟨w0, hw0⟩ : ∃ w0, w0 = (w.alloc (.cells #[.int .u8 a.op, .int .i64 a.fn, .int .i64 a.num, .int .i64 a.sort, .slice A a.args.length ca] 44)).alloc (.cells #[.int .u8 b.op, .int .i64 b.fn, .int .i64 b.num, .int .i64 b.sort, .slice B b.args.length cb] 44) := ⟨_, rfl⟩
            rw [← hw0]
            have HX : Pk (w0.cell? ⟨w.heap.size, 4, none⟩ = some (.slice A a.args.length ca)) := Pk.mk (by rw [hw0]; simp)
            have HY : Pk (w0.cell? ⟨w.heap.size + 1, 4, none⟩ = some (.slice B b.args.length cb)) := Pk.mk (by rw [hw0]; simp)
            rw [← hw0] at HBB
            clear hw0 d1 d1' d2 d2' d3 d3' d4 d4' d5 d5'
            go_loopw [5] (fun v5 wr => ∃ k : Nat, v5 = .int .i64 k ∧ k ≤ a.args.length ∧ Pk (a.args.take k = b.args.take k) ∧ Pk (Below w0.heap.size w0 wr)) (fun v5 _ => a.args.length - (intOf v5).toNat)
            case atStart => exact ⟨0, rfl, by omega, ⟨by simp⟩, ⟨Below.refl _ _⟩⟩
            case round =>
              obtain ⟨k, rfl, hk, HT, HW⟩ := hrel
              have x4 := cell_below HW.out HX.out
              have y4 := cell_below HW.out HY.out
              by_cases hlt : k < a.args.length
              · have hltb : k < b.args.length := by have := E5.out; omega
                obtain ⟨ad, rfl, hca⟩ := (HA.out.below (below_then HBB.out HW.out)) k a.args[k] (by simp [hlt])
                obtain ⟨bd, rfl, hcb⟩ := (HB.out.below (below_then HBB.out HW.out)) k b.args[k] (by simp [hltb])
                by_cases he : a.args[k] = b.args[k]
                · have HS : Pk (a.args.take (k + 1) = b.args.take (k + 1)) := Pk.mk (by
                    rw [List.take_succ_eq_append_getElem hlt, List.take_succ_eq_append_getElem hltb, HT.out, he])
                  have heb : (a.args[k] == b.args[k]) = true := by simp [he]
                  have hen : (a.args[k] != b.args[k]) = false := by simp [he]
                  clear he
                  generalize a.args[k] = x at *
                  generalize b.args[k] = y at *
                  go_wp2
                  go_quiet (fail)
                  go_wp2
                  go_roundw
                  case rel => exact ⟨k + 1, by go_num, by omega, HS, ⟨below_dr HW.out _⟩⟩
                  case measure => simp [intOf]; omega
                · have HP : Pk (decide (a = b) = false) := Pk.mk (decide_eq_false (fun h => by subst h; exact he rfl))
                  have heb : (a.args[k] == b.args[k]) = false := by simp [he]
                  have hen : (a.args[k] != b.args[k]) = true := by simp [he]
                  clear he
                  generalize a.args[k] = x at *
                  generalize b.args[k] = y at *
                  go_wp2
                  go_quiet (fail)
                  go_wp2
                  go_ret
                  exact ⟨by rw [HP.out]; rfl, below_then HBB.out (below_dr HW.out _)⟩
              · have hkl : k = a.args.length := by omega
                have HP : Pk (decide (a = b) = true) := Pk.mk (decide_eq_true (E.out (by
                  have h := HT.out
                  rw [hkl, List.take_length] at h
                  rw [h, E5.out, List.take_length])))
                clear hkl
                go_wp2
                go_ret
                exact ⟨by rw [HP.out]; rfl, below_then HBB.out HW.out⟩
          · have d5 : ((a.args.length : Int) != (b.args.length : Int)) = true := by simp [bne_iff_ne]; omega
            have d5' : (a.args.length == b.args.length) = false := by simp [e5]
            have HP : Pk (decide (a = b) = false) := Pk.mk (decide_eq_false (fun h => e5 (by rw [h])))
            clear e1 e2 e3 e4 e5
            go_enter Try.func14, Try.ntmps14
            go_wp2
            go_ret
            exact ⟨by rw [HP.out]; rfl, HBB.out⟩
        · have d4 : (a.sort != b.sort) = true := by simp [e4]
          have d4' : (a.sort == b.sort) = false := by simp [e4]
          have HP : Pk (decide (a = b) = false) := Pk.mk (decide_eq_false (fun h => e4 (by rw [h])))
          clear e1 e2 e3 e4
          go_enter Try.func14, Try.ntmps14
          go_wp2
          go_ret
          exact ⟨by rw [HP.out]; rfl, HBB.out⟩
      · have d3 : (a.num != b.num) = true := by simp [e3]
        have d3' : (a.num == b.num) = false := by simp [e3]
        have HP : Pk (decide (a = b) = false) := Pk.mk (decide_eq_false (fun h => e3 (by rw [h])))
        clear e1 e2 e3
        go_enter Try.func14, Try.ntmps14
        go_wp2
        go_ret
        exact ⟨by rw [HP.out]; rfl, HBB.out⟩
    · have d2 : (a.fn != b.fn) = true := by simp [e2]
      have d2' : (a.fn == b.fn) = false := by simp [e2]
      have HP : Pk (decide (a = b) = false) := Pk.mk (decide_eq_false (fun h => e2 (by rw [h])))
      clear e1 e2
      go_enter Try.func14, Try.ntmps14
      go_wp2
      go_ret
      exact ⟨by rw [HP.out]; rfl, HBB.out⟩
  · have d1 : (a.op != b.op) = true := by simp [e1]
    have d1' : (a.op == b.op) = false := by simp [e1]
    have HP : Pk (decide (a = b) = false) := Pk.mk (decide_eq_false (fun h => e1 (by rw [h])))
    clear e1
    go_enter Try.func14, Try.ntmps14
    go_wp2
    go_ret
    exact ⟨by rw [HP.out]; rfl, HBB.out⟩
end Go.Proofs.Ytpkegeblfdlibaa
