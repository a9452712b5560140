/- Walk of the reference's New. -/
import Derived.Test.YtpkegeblfdlibaaRef5
import Derived.Test.YtpkegeblfdlibaaWalkA
namespace Go.Proofs.Ytpkegeblfdlibaa
open Go Go.RowKit
set_option linter.unusedVariables false
set_option linter.unusedSimpArgs false

def NewedR (w : World) (e : Ending) (w' : World) : Prop :=
  ∃ p F, e = .returned (.pointer (some ⟨p, 0, none⟩)) ∧ RefAt w' p L0 F ∧ Below w.heap.size w w' ∧ (∀ k, F.m k ∨ F.r k → w.heap.size ≤ k)

set_option maxHeartbeats 1000000 in
theorem rnew_st (w : World) : Calls Try.prog 9 #[] w (NewedR w) := by
  go_enter Try.func9, Try.ntmps9
  go_wp2
  go_ret
  obtain ⟨w1, hw1⟩ : ∃ w1, w1 = w.alloc (.cells #[.int .u8 1, .int .i64 0, .int .i64 0, .int .i64 0, .slice none 0 0, .int .u8 2, .int .i64 0, .int .i64 0, .int .i64 0, .slice none 0 0, .int .u8 3, .int .i64 0, .int .i64 0, .int .i64 1, .slice none 0 0] 44) := ⟨_, rfl⟩
  rw [← hw1]
  have hb1 : Below w.heap.size w w1 := by rw [hw1]; exact below_alloc _ _
  have hs1 : w1.heap.size = w.heap.size + 1 := by rw [hw1]; simp
  have h1 := (MapKept.heap_alloc w (.cells #[.int .u8 1, .int .i64 0, .int .i64 0, .int .i64 0, .slice none 0 0, .int .u8 2, .int .i64 0, .int .i64 0, .int .i64 0, .slice none 0 0, .int .u8 3, .int .i64 0, .int .i64 0, .int .i64 1, .slice none 0 0] 44)).1
  rw [← hw1] at h1
  clear hw1
  obtain ⟨w2, hw2⟩ : ∃ w2, w2 = w1.alloc (.cells #[.slice (some ⟨w.heap.size, 0, none⟩) 3 3] 36) := ⟨_, rfl⟩
  rw [← hw2]
  have hb2 : Below w1.heap.size w1 w2 := by rw [hw2]; exact below_alloc _ _
  have hs2 : w2.heap.size = w.heap.size + 2 := by rw [hw2]; simp [hs1]
  have h2 := (MapKept.heap_alloc w1 (.cells #[.slice (some ⟨w.heap.size, 0, none⟩) 3 3] 36)).1
  rw [← hw2, hs1] at h2
  have h3 := heap_below hb2 h1
  clear hw2
  refine ⟨w.heap.size + 1, ⟨fun k => k = w.heap.size ∨ k = w.heap.size + 1, fun _ => False⟩, rfl, ⟨⟨.slice (some ⟨w.heap.size, 0, none⟩) 3 3, nodeCells ⟨1, 0, 0, 0, []⟩ (.slice none 0 0) ++ nodeCells ⟨2, 0, 0, 0, []⟩ (.slice none 0 0) ++ nodeCells ⟨3, 0, 0, 1, []⟩ (.slice none 0 0), h2, ⟨by simp [L0, nodeCells], .inr ⟨w.heap.size, 3, _, rfl, Nat.zero_le _, h3, by decide, by simp [maxLen], rfl, rfl⟩⟩, ?_, .inr rfl, ?_⟩, by decide, ?_, ?_, by simp, by decide⟩, below_then hb1 hb2, ?_⟩
  · have h := (((NodesAt.nil (fun _ => False) w2).snoc (nd := ⟨1, 0, 0, 0, []⟩) (v := .slice none 0 0) (World.ownsRow_nil _ _ _ _) (by simp [Value.ownBlock])).snoc (nd := ⟨2, 0, 0, 0, []⟩) (v := .slice none 0 0) (World.ownsRow_nil _ _ _ _) (by simp [Value.ownBlock])).snoc (nd := ⟨3, 0, 0, 1, []⟩) (v := .slice none 0 0) (World.ownsRow_nil _ _ _ _) (by simp [Value.ownBlock])
    exact h
  · intro k hk
    simp only [Value.ownBlock, Option.some.injEq] at hk
    exact .inl hk.symm
  · intro nd hnd
    simp only [L0, List.mem_cons, List.not_mem_nil, or_false] at hnd
    rcases hnd with rfl | rfl | rfl
    · exact NdOk.mk' (by omega) i64_0 bnd_0 i64_0 (by simp) (by simp) (by omega)
    · exact NdOk.mk' (by omega) i64_0 bnd_0 i64_0 (by simp) (by simp) (by omega)
    · exact NdOk.mk' (by omega) i64_0 bnd_0 ⟨by omega, by omega⟩ (by simp) (by simp) (by omega)
  · rintro k ((h | h) | h)
    · omega
    · omega
    · exact h.elim
  · rintro k ((h | h) | h)
    · omega
    · omega
    · exact h.elim
end Go.Proofs.Ytpkegeblfdlibaa
