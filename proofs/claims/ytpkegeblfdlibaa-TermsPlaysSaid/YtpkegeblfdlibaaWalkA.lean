/- Walk of New. -/
import Derived.Test.YtpkegeblfdlibaaWalk9
namespace Go.Proofs.Ytpkegeblfdlibaa
open Go Go.RowKit
set_option linter.unusedVariables false
set_option linter.unusedSimpArgs false

theorem store_nil (w : World) (p mt ml : Nat) (hp : w.heap[p]? = some (.cells #[.slice none 0 0, .map (some mt), .map (some ml)] 57 (0, 0))) (h1 : MapF S72 w mt (fun _ => none) 0) (h2 : MapF S75 w ml (fun _ => none) 0) (hne : mt ≠ ml) :
    StoreAt w p [] ⟨fun k => k = p ∨ k = mt ∨ k = ml, fun _ => False⟩ 0 := by
  refine ⟨⟨_, mt, ml, [], [], _, _, hp, World.ownsRow_nil _ _ _ _, NodesAt.nil _ _, h1, h2, hne, ⟨by simp, fun c => .inr ⟨rfl, by simp⟩⟩, ⟨by simp, by simp, by simp, by simp, by simp⟩, by simp, .inl rfl, .inr (.inl rfl), .inr (.inr rfl), by simp [Value.ownBlock]⟩, ?_, by simp, by simp⟩
  rintro k ((rfl | rfl | rfl) | h)
  · exact lt_of_heap hp
  · exact h1.lt
  · exact h2.lt
  · exact h.elim
theorem put1 : putP [] ⟨1, 0, 0, 0, []⟩ = ([⟨1, 0, 0, 0, []⟩], 0, 0) := by decide
theorem put2 : putP [⟨1, 0, 0, 0, []⟩] ⟨2, 0, 0, 0, []⟩ = ([⟨1, 0, 0, 0, []⟩, ⟨2, 0, 0, 0, []⟩], 1, 0) := by decide
theorem put3 : putP [⟨1, 0, 0, 0, []⟩, ⟨2, 0, 0, 0, []⟩] ⟨3, 0, 0, 1, []⟩ = (L0, 2, 0) := by decide

/-- what New tells -/
def Newed (w : World) (e : Ending) (w' : World) : Prop :=
  ∃ p F, e = .returned (.pointer (some ⟨p, 0, none⟩)) ∧ StoreAt w' p L0 F 300000 ∧ Below w.heap.size w w' ∧ (∀ k, F.m k ∨ F.r k → w.heap.size ≤ k)

set_option maxHeartbeats 1000000 in
theorem new_st (w : World) : Calls Try.prog 8 #[] w (Newed w) := by
  have hmm := @run_makeMap Try.prog
  go_enter Try.func8, Try.ntmps8
  go_wp2_with fail
  obtain ⟨w0, hw0⟩ : ∃ w0, w0 = ((w.alloc (.map #[] 0)).alloc (.map #[] 0)).alloc (.cells #[.slice none 0 0, .map (some w.heap.size), .map (some (w.heap.size + 1))] 57) := ⟨_, rfl⟩
  rw [← hw0]
  have e1 : (w.alloc (.map #[] 0)).heap.size = w.heap.size + 1 := by simp
  have e2 : ((w.alloc (.map #[] 0)).alloc (.map #[] 0)).heap.size = w.heap.size + 1 + 1 := by simp
  have HST0 : Pk (StoreAt w0 (w.heap.size + 1 + 1) [] ⟨fun k => k = w.heap.size + 1 + 1 ∨ k = w.heap.size ∨ k = w.heap.size + 1, fun _ => False⟩ 0) := Pk.mk (by
    rw [hw0]
    refine store_nil _ _ _ _ ?_ ?_ ?_ (by omega)
    · rw [← e2]; exact (MapKept.heap_alloc _ _).1
    · exact ((MapF.made S72 w).fr (F := fun _ => False) (Fr.of_below (below_alloc _ _)) id).fr (F := fun _ => False) (Fr.of_below (below_alloc _ _)) id
    · have h := MapF.made S75 (w.alloc (.map #[] 0))
      rw [e1] at h
      exact h.fr (F := fun _ => False) (Fr.of_below (below_alloc _ _)) id)
  have HB0 : Pk (Below w.heap.size w w0) := Pk.mk (by rw [hw0]; exact below_then (below_then (below_alloc _ _) (below_alloc _ _)) (below_alloc _ _))
  clear hw0 e1 e2 hmm
  have HF0 : Pk (∀ k, (k = w.heap.size + 1 + 1 ∨ k = w.heap.size ∨ k = w.heap.size + 1) ∨ False → w.heap.size ≤ k) := Pk.mk (by rintro k ((h | h | h) | h) <;> first | omega | exact h.elim)
  generalize w.heap.size + 1 + 1 = p at *
  generalize hF0 : (⟨fun k => k = p ∨ k = w.heap.size ∨ k = w.heap.size + 1, fun _ => False⟩ : Foot) = F0 at *
  refine (put_st p 0 [] F0 0 ⟨1, 0, 0, 0, []⟩ none _ HST0.out (NdOk.mk' (by omega) i64_0 bnd_0 i64_0 (by simp) (by simp) (by omega)) (by omega) (IntsAt.nil _ _) (by simp) (by simp)).mono ?_
  rintro e w1 ⟨F1, rfl, hst1, hup1⟩
  rw [put1] at hst1 ⊢
  have HST1 := Pk.mk hst1
  have HUP1 := Pk.mk hup1
  clear hst1 hup1
  go_wp2_with fail
  refine (put_st p 0 _ F1 _ ⟨2, 0, 0, 0, []⟩ none _ HST1.out (NdOk.mk' (by omega) i64_0 bnd_0 i64_0 (by simp) (by simp) (by omega)) (by omega) (IntsAt.nil _ _) (by simp) (by simp)).mono ?_
  rintro e w2 ⟨F2, rfl, hst2, hup2⟩
  rw [put2] at hst2 ⊢
  have HST2 := Pk.mk hst2
  have HUP2 := Pk.mk hup2
  clear hst2 hup2
  go_wp2_with fail
  refine (put_st p 0 _ F2 _ ⟨3, 0, 0, 1, []⟩ none _ HST2.out (NdOk.mk' (by omega) i64_0 bnd_0 ⟨by omega, by omega⟩ (by simp) (by simp) (by omega)) (by omega) (IntsAt.nil _ _) (by simp) (by simp)).mono ?_
  rintro e w3 ⟨F3, rfl, hst3, hup3⟩
  rw [put3] at hst3 ⊢
  have HST3 := Pk.mk hst3
  have HUP3 := Pk.mk ((HUP1.out.trans HUP2.out).trans hup3)
  clear hst3 hup3 HST1 HUP1 HST2 HUP2
  go_wp2
  go_ret
  have hsz := HB0.out.size
  refine ⟨p, F3, rfl, HST3.out, HB0.out.trans (HUP3.out.fr.below (fun i hi => ?_) hsz), ?_⟩
  · subst hF0; exact HF0.out i (.inl hi)
  · subst hF0
    rintro k (h | h)
    · rcases HUP3.out.grow k h with h' | h'
      · exact HF0.out k (.inl h')
      · omega
    · rcases HUP3.out.growr k h with h' | h'
      · exact h'.elim
      · omega
end Go.Proofs.Ytpkegeblfdlibaa
