/- Walks of the small functions of the store: none, there, of, and what they hand to slices. -/
import Derived.Test.YtpkegeblfdlibaaProg
import Derived.Test.YtpkegeblfdlibaaPure
import Derived.KernelRfl
import Derived.DeepKeys4
import Derived.Deep.DeepFit
namespace Go.Proofs.Ytpkegeblfdlibaa
open Go Go.RowKit
set_option linter.unusedVariables false
set_option linter.unusedSimpArgs false

/-! ### slices.IndexFunc, slices.ContainsFunc -/
/-- first index from i on at which q holds, or -1 -/
def fIdx (q : Int → Bool) : List Int → Nat → Int
  | [], _ => -1
  | x :: r, i => if q x then (i : Int) else fIdx q r (i + 1)
theorem fIdx_any (q : Int → Bool) (l : List Int) : ∀ i : Nat, (decide (0 ≤ fIdx q l i)) = l.any q := by
  induction l with
  | nil => intro i; simp [fIdx]
  | cons x r ih =>
    intro i
    by_cases h : q x = true
    · simp [fIdx, h]
    · simp [fIdx, h, ih]
theorem fIdx_lo (q : Int → Bool) (l : List Int) : ∀ i : Nat, -1 ≤ fIdx q l i := by
  induction l with
  | nil => intro i; simp [fIdx]
  | cons x r ih =>
    intro i
    have := ih (i + 1)
    by_cases h : q x = true
    · simp [fIdx, h]; try omega
    · simp [fIdx, h, ih]

set_option maxHeartbeats 1000000 in
theorem indexFunc (A : Option Addr) (xs : List Int) (cap : Nat) (fid : Nat) (cps : Array Value) (q : Int → Bool) (w : World) (hlen : xs.length ≤ 9223372036854775807)
   (hA : IntsAt w A xs) (hcf : ∀ args W, (callFunc fid args).run Try.prog W = .ok (.enter fid args) W)
   (hq : ∀ x ∈ xs, ∀ W, Below w.heap.size w W → Calls Try.prog fid (#[.int .i64 x] ++ cps) W fun e w' => e = .returned (.bool (q x)) ∧ Below W.heap.size W w') :
   Calls Try.prog 58 #[.slice A xs.length cap, .func (.func fid) #[] cps] w fun e w' => e = .returned (.int .i64 (fIdx q xs 0)) ∧ Below w.heap.size w w' := by
  have HQ := Pk.mk hq
  clear hq
  have HA := Pk.mk hA
  clear hA
  go_enter Try.func58, Try.ntmps58
  go_wp2
  go_loopw [5,8] (fun v5 v8 w' => ∃ k : Nat, v8 = .int .i64 k ∧ k ≤ xs.length ∧ Pk (fIdx q xs 0 = fIdx q (xs.drop k) k) ∧ Pk (Below w.heap.size w w')) (fun _ v8 _ => xs.length - (intOf v8).toNat)
  case atStart => exact ⟨0, rfl, by omega, ⟨by simp⟩, ⟨Below.refl _ _⟩⟩
  case round =>
    obtain ⟨k, rfl, hk, HF, HB⟩ := hrel
    by_cases hlt : k < xs.length
    · have h1 : xs[k]? = some xs[k] := by simp [hlt]
      obtain ⟨ad, rfl, hc⟩ := HA.out k _ h1
      clear h1
      have hc1 := (HB.out.cell (World.block_lt_of_cell? w _ hc)).trans hc
      clear hc
      go_wp2_with fail
      refine (HQ.out _ (List.getElem_mem hlt) _ HB.out).mono ?_
      rintro e w' ⟨rfl, hb⟩
      have HB' := Pk.mk (HB.out.trans (hb.mono HB.out.size))
      clear hb HB
      by_cases hqk : q xs[k] = true
      · go_wp2
        go_ret
        exact ⟨by rw [HF.out, List.drop_eq_getElem_cons hlt, fIdx, hqk]; rfl, HB'.out⟩
      · have hqk' : q xs[k] = false := by simpa using hqk
        clear hqk
        go_wp2
        go_roundw
        case rel => exact ⟨k+1, by go_num, by omega, ⟨by rw [HF.out, List.drop_eq_getElem_cons hlt, fIdx, hqk']; rfl⟩, HB'⟩
        case measure => simp [intOf]; omega
    · go_wp2
      go_ret
      exact ⟨by rw [HF.out, List.drop_eq_nil_of_le (by omega)]; rfl, HB.out⟩

set_option maxHeartbeats 1000000 in
theorem containsFunc (A : Option Addr) (xs : List Int) (cap : Nat) (fid : Nat) (cps : Array Value) (q : Int → Bool) (w : World) (hlen : xs.length ≤ 9223372036854775807)
   (hA : IntsAt w A xs) (hcf : ∀ args W, (callFunc fid args).run Try.prog W = .ok (.enter fid args) W)
   (hq : ∀ x ∈ xs, ∀ W, Below w.heap.size w W → Calls Try.prog fid (#[.int .i64 x] ++ cps) W fun e w' => e = .returned (.bool (q x)) ∧ Below W.heap.size W w') :
   Calls Try.prog 54 #[.slice A xs.length cap, .func (.func fid) #[] cps] w fun e w' => e = .returned (.bool (xs.any q)) ∧ Below w.heap.size w w' := by
  have HI := Pk.mk (indexFunc A xs cap fid cps q w hlen hA hcf hq)
  have lo := fIdx_lo q xs 0
  have HE := Pk.mk (fIdx_any q xs 0)
  clear hq hcf hA
  go_enter Try.func54, Try.ntmps54
  go_wp2_with fail
  refine HI.out.mono ?_
  rintro e w' ⟨rfl, hb⟩
  have HB := Pk.mk hb
  clear hb
  generalize fIdx q xs 0 = r at *
  go_wp2
  go_ret
  exact ⟨by rw [← HE.out]; rfl, HB.out⟩

/-! ### none -/
theorem none_ok (p m : Nat) (w : World) (h1 : w.cell? ⟨p, 1, none⟩ = some (.map (some m))) :
   Calls Try.prog 36 #[.pointer (some ⟨p, 0, none⟩)] w fun e w' => e = .returned (.bool false) ∧ w = w' := by
  have hm : ∀ (w : World) (r : Option Nat), (binOp .eql 54 (.map r) (.map none)).run Try.prog w = .ok (.bool r.isNone) w := fun w r => run_eql_map_nil w _ _ _ r Try.underlying54
  go_enter Try.func36, Try.ntmps36
  go_wp2
  go_ret
  exact ⟨rfl, rfl⟩

/-! ### there -/
/-- is a term none of so many? -/
def badT (n : Nat) (t : Int) : Bool := decide (t < 0) || decide ((n : Int) ≤ t)
theorem any_bad (n : Nat) (l : List Int) : l.any (badT n) = !thereB n l := by
  induction l with
  | nil => rfl
  | cons x r ih =>
    simp only [List.any_cons, ih, thereB, List.all_cons, Bool.not_and, badT]
    congr 1
    by_cases h1 : x < 0 <;> by_cases h2 : (n : Int) ≤ x <;> simp [h1, h2] <;> omega

set_option maxHeartbeats 1000000 in
theorem there1 (x : Int) (p q n cap : Nat) (A : Option Addr) (w : World) (hn : n ≤ 9223372036854775807)
   (h0 : w.cell? ⟨q, 0, none⟩ = some (.pointer (some ⟨p, 0, none⟩))) (h1 : w.cell? ⟨p, 0, none⟩ = some (.slice A n cap)) :
   Calls Try.prog 55 #[.int .i64 x, .pointer (some ⟨q, 0, none⟩)] w fun e w' => e = .returned (.bool (badT n x)) ∧ Below w.heap.size w w' := by
  by_cases hx : x < 0
  · go_enter Try.func55, Try.ntmps55
    go_wp2
    go_ret
    exact ⟨by simp [badT, hx], Below.refl _ _⟩
  · have hd : decide (x < 0) = false := by simpa using hx
    go_enter Try.func55, Try.ntmps55
    go_wp2
    go_ret
    exact ⟨by rw [badT, hd]; rfl, Below.refl _ _⟩

/-- what 'there' tells -/
def thereE (n : Nat) (l : List Int) : Int := if thereB n l then 0 else 7
theorem ret_int {k : IntKind} {a b : Int} (h : a = b) : Ending.returned (.int k a) = .returned (.int k b) := by rw [h]
theorem ret_bool {a b : Bool} (h : a = b) : Ending.returned (.bool a) = .returned (.bool b) := by rw [h]
set_option maxHeartbeats 1000000 in
theorem there_ok (p m n cap c : Nat) (A B : Option Addr) (xs : List Int) (w : World) (hn : n ≤ 9223372036854775807) (hlen : xs.length ≤ 9223372036854775807)
   (h0 : w.cell? ⟨p, 0, none⟩ = some (.slice A n cap)) (h1 : w.cell? ⟨p, 1, none⟩ = some (.map (some m))) (hA : IntsAt w B xs) :
   Calls Try.prog 37 #[.pointer (some ⟨p, 0, none⟩), .slice B xs.length c] w fun e w' => e = .returned (.int .i64 (thereE n xs)) ∧ Below w.heap.size w w' := by
  have hp : p < w.heap.size := World.block_lt_of_cell? w _ h0
  have HA := Pk.mk hA
  clear hA
  have HQ := Pk.mk (any_bad n xs)
  go_enter Try.func37, Try.ntmps37
  go_wp2_with fail
  refine (none_ok p m _ (cell_alloc h1 _)).mono ?_
  rintro e w1 ⟨rfl, rfl⟩
  go_wp2_with fail
  refine (containsFunc B xs c 55 _ (badT n) _ hlen (HA.out.below ?_) (fun args W => by rfl) (fun x hx W hW => ?_)).mono ?_
  · exact (Below.refl _ _).alloc (Nat.le_refl _) _
  · refine there1 x p _ n cap A W hn ?_ ?_
    · exact (hW.cell (p := ⟨w.heap.size, 0, none⟩) (by simp)).trans (by simp)
    · exact cell_below hW (cell_alloc h0 _)
  rintro e w1 ⟨rfl, hb⟩
  have HB := Pk.mk (below_then (below_alloc w _) hb)
  clear hb
  rw [HQ.out]
  by_cases hr : thereB n xs = true
  · have HE : Pk (thereE n xs = 0) := ⟨by simp [thereE, hr]⟩
    rw [hr]
    clear hr
    go_wp2
    go_ret
    exact ⟨ret_int HE.out.symm, HB.out⟩
  · have HE : Pk (thereE n xs = 7) := ⟨by simp [thereE, hr]⟩
    rw [Bool.not_eq_true] at hr
    rw [hr]
    clear hr
    go_wp2
    go_ret
    exact ⟨ret_int HE.out.symm, HB.out⟩
end Go.Proofs.Ytpkegeblfdlibaa
