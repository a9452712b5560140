/- Walk of slices.Clone on terms. -/
import Derived.Test.YtpkegeblfdlibaaStore
namespace Go.Proofs.Ytpkegeblfdlibaa
open Go Go.RowKit
set_option linter.unusedVariables false
set_option linter.unusedSimpArgs false

theorem info30 : (Try.prog.info? 30).map (fun i => (i.zero, i.size, i.bytes)) = some (some (.int .i64 0), 1, 8) := by kernel_rfl
theorem info44 : (Try.prog.info? 44).map (fun i => (i.zero, i.size, i.bytes)) = some (some (.agg #[.int .u8 0, .int .i64 0, .int .i64 0, .int .i64 0, .slice none 0 0]), 5, 56) := by kernel_rfl

/-- what a clone tells -/
def Cloned (xs : List Int) (w : World) (e : Ending) (w' : World) : Prop :=
  ∃ v, e = .returned v ∧ w'.ownsRow 0 30 1 v xs.length (nums xs) ∧ Below w.heap.size w w' ∧ (∀ k, v.ownBlock = some k → w.heap.size ≤ k)

theorem clone_nil (w : World) : Calls Try.prog 38 #[.slice none 0 0] w (Cloned [] w) := by
  have q := fun (w : World) (a : Option Addr) (l c : Nat) => Lib.run_eql_slice_nil (P := Try.prog) w 29 30 a l c 0 0 Try.underlying29
  go_enter Try.func38, Try.ntmps38
  go_wp2
  go_ret
  exact ⟨_, rfl, World.ownsRow_nil _ _ _ _, Below.refl _ _, by simp [Value.ownBlock]⟩

set_option maxHeartbeats 1000000 in
theorem clone_some (ad : Addr) (c : Nat) (xs : List Int) (w : World) (hA : IntsAt w (some ad) xs) (hx : xs.length ≤ 1000000) :
    Calls Try.prog 38 #[.slice (some ad) xs.length c] w (Cloned xs w) := by
  have q := fun (w : World) (a : Option Addr) (l c : Nat) => Lib.run_eql_slice_nil (P := Try.prog) w 29 30 a l c 0 0 Try.underlying29
  have HA := Pk.mk hA
  clear hA
  obtain ⟨i0, hi, hzz⟩ := Option.map_eq_some_iff.1 info30
  simp only [Prod.mk.injEq] at hzz
  obtain ⟨hz0, hz1, hz2⟩ := hzz
  have HI := Pk.mk hi
  have HZ0 := Pk.mk hz0
  have HZ1 := Pk.mk hz1
  have HZ2 := Pk.mk hz2
  clear hi hz0 hz1 hz2
  go_enter Try.func38, Try.ntmps38
  go_wp2_with (at_builtin; refine wpList_append_own_at _ rfl _ _ 29 rfl 0 30 i0 (.int .i64 0) 1 8 Try.underlying29 HI.out HZ0.out HZ1.out HZ2.out rfl (by decide) (.slice (some ⟨w.heap.size, 0, none⟩) 0 0) 0 [] rfl (World.ownsRow_made w #[] 0 (Nat.zero_le _) (by simp [maxLen]) rfl) ad xs.length c (nums xs) rfl ?c1 ?c2 ?c3 ?c4 ?c5 ?c6 ?_)
  case c1 => simp [nums]
  case c2 => exact (HA.out.below (below_alloc _ _)).cells
  case c3 => exact nums_one xs
  case c4 => simp only [maxLen]; omega
  case c5 => omega
  case c6 => exact Nat.zero_le _
  intro v' w1 hown hg _ hat
  have HO : Pk (w1.ownsRow 0 30 1 v' xs.length (nums xs)) := Pk.mk (by simpa using hown)
  have HB : Pk (Below w.heap.size w w1) := Pk.mk (((below_alloc w _).grown hg (by simp) (by intro k hk; simp [Value.ownBlock] at hk; omega)))
  have HT : Pk (∀ k, v'.ownBlock = some k → w.heap.size ≤ k) := Pk.mk (by
    intro k hk
    rcases hat with h | h <;> rw [hk] at h <;> simp [Value.ownBlock] at h <;> omega)
  clear hown hg hat
  go_wp2
  go_ret
  exact ⟨_, rfl, HO.out, HB.out, HT.out⟩
end Go.Proofs.Ytpkegeblfdlibaa
