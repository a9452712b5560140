/- The state of the law TermsSorts, and of TermsPlays, in memory. Conditions: none; plain lemmas on worlds. -/
import Derived.Test.YtpkegeblfdlibaaOnce0
namespace Go.Proofs.Ytpkegeblfdlibaa
open Go Go.RowKit
set_option linter.unusedVariables false
set_option linter.unusedSimpArgs false

/-- both stores between two calls, and nothing else -/
structure Two (w1 w : World) (ps pr N : Nat) (L : List Nd) (H : Nat → Prop) : Prop where
  two : TwoAt w ps pr L N H
  hb : ∀ k, H k → w1.heap.size ≤ k
  below : Below w1.heap.size w1 w
theorem Two.step {w1 w w' : World} {ps pr N : Nat} {L : List Nd} {H : Nat → Prop} (h : Two w1 w ps pr N L H) (hb : Below w.heap.size w w') : Two w1 w' ps pr N L H :=
  ⟨h.two.below hb, h.hb, h.below.trans (hb.mono h.below.size)⟩
theorem Two.made {w1 w w' : World} {ps pr N N' : Nat} {L L' : List Nd} {H : Nat → Prop} (h : Two w1 w ps pr N L H) (hm : MadeTwo w ps pr H N' L' w') : ∃ H', Two w1 w' ps pr N' L' H' := by
  obtain ⟨H', h1, h2, h3⟩ := hm
  have hs := h.below.size
  refine ⟨H', h1, fun k hk => ?_, h.below.trans (h2.below (fun i hi => h.hb i hi) hs)⟩
  rcases h3 k hk with h' | h'
  · exact h.hb k h'
  · omega
/-- the program's store, and a row of nodes of the law's own -/
structure Rowed (w1 w : World) (ps N : Nat) (L : List Nd) (F : Foot) (M : Nat → Prop) (v : Value) (K : List Nd) (cs : List Value) : Prop where
  st : StoreAt w ps L F N
  row : w.ownsRow 0 44 5 v K.length cs
  nodes : NodesAt M w K cs
  fb : ∀ k, F.m k ∨ F.r k → w1.heap.size ≤ k
  mb : ∀ k, M k → w1.heap.size ≤ k ∧ k < w.heap.size
  vb : ∀ k, v.ownBlock = some k → w1.heap.size ≤ k ∧ ¬ (F.m k ∨ F.r k) ∧ ¬ M k
  below : Below w1.heap.size w1 w
theorem Rowed.step {w1 w w' : World} {ps N : Nat} {L : List Nd} {F : Foot} {M : Nat → Prop} {v : Value} {K : List Nd} {cs : List Value} (h : Rowed w1 w ps N L F M v K cs) (hb : Below w.heap.size w w') : Rowed w1 w' ps N L F M v K cs :=
  ⟨h.st.below hb, (Fr.of_below (F := fun _ => False) hb).own h.row (fun _ _ h => h), h.nodes.fr (Fr.of_below (F := fun _ => False) hb) (fun _ _ _ h => h), h.fb, fun k hk => ⟨(h.mb k hk).1, Nat.lt_of_lt_of_le (h.mb k hk).2 hb.size⟩, h.vb, h.below.trans (hb.mono h.below.size)⟩
theorem Rowed.bare {w1 w : World} {ps N : Nat} {L : List Nd} {F : Foot} (h1 : StoreAt w ps L F N) (h2 : ∀ k, F.m k ∨ F.r k → w1.heap.size ≤ k) (h3 : Below w1.heap.size w1 w) : Rowed w1 w ps N L F (fun _ => False) (.slice none 0 0) [] [] :=
  ⟨h1, World.ownsRow_nil _ _ _ _, NodesAt.nil _ _, h2, by simp, by simp [Value.ownBlock], h3⟩
theorem Rowed.drop {w1 w : World} {ps N : Nat} {L : List Nd} {F : Foot} {M : Nat → Prop} {v : Value} {K : List Nd} {cs : List Value} (h : Rowed w1 w ps N L F M v K cs) : Rowed w1 w ps N L F (fun _ => False) (.slice none 0 0) [] [] := .bare h.st h.fb h.below
theorem Rowed.push {w1 w w' : World} {ps N : Nat} {L : List Nd} {F : Foot} {M : Nat → Prop} {v v' : Value} {K : List Nd} {cs : List Value} (h : Rowed w1 w ps N L F M v K cs) {nd : Nd} {va : Value}
    (f : Fr (fun b => v.ownBlock = some b) w w') (r : w'.ownsRow 0 44 5 v' (K.length + 1) (cs ++ nodeCells nd va)) (b : ∀ k, v'.ownBlock = some k → v.ownBlock = some k ∨ w.heap.size ≤ k)
    (ra : w.ownsRow 0 30 1 va nd.args.length (nums nd.args)) (ha : ∀ k, va.ownBlock = some k → w1.heap.size ≤ k) :
    ∃ M', Rowed w1 w' ps N L F M' v' (K ++ [nd]) (cs ++ nodeCells nd va) := by
  have hs1 := h.below.size
  have hs := f.size
  have d : ∀ {u : Value} {n : Nat} {ys : List Int}, w.ownsRow 0 30 1 u n (nums ys) → ∀ k, u.ownBlock = some k → ¬ v.ownBlock = some k := fun hr k hk h6 => by
    obtain ⟨c1, hc1⟩ := own_block hr hk
    obtain ⟨c2, hc2⟩ := own_block h.row h6
    rw [hc1] at hc2; cases hc2
  refine ⟨fun k => M k ∨ va.ownBlock = some k, h.st.fr f (fun k hk h6 => (h.vb k h6).2.1 hk), by simpa using r, ?_, h.fb, ?_, ?_, h.below.trans (f.below (fun k hk => (h.vb k hk).1) hs1)⟩
  · refine NodesAt.snoc ((h.nodes.fr f (fun k _ hk h6 => (h.vb k h6).2.2 hk)).mono (fun k hk => .inl hk)) (f.own ra (fun k hk h6 => d ra k hk h6)) (fun k hk => .inr hk)
  · rintro k (hk | hk)
    · have := h.mb k hk; omega
    · have := (ra.lt k hk).2
      exact ⟨ha k hk, by omega⟩
  · intro k hk
    rcases b k hk with h5 | h5
    · refine ⟨(h.vb k h5).1, (h.vb k h5).2.1, ?_⟩
      rintro (hm | hm)
      · exact (h.vb k h5).2.2 hm
      · exact d ra k hm h5
    · refine ⟨by omega, fun hh => by have := h.st.lt k hh; omega, ?_⟩
      rintro (hm | hm)
      · have := (h.mb k hm).2; omega
      · have := (ra.lt k hm).2; omega
/-- what a reader of the row wants -/
theorem Rowed.cells {w1 w : World} {ps N : Nat} {L : List Nd} {F : Foot} {M : Nat → Prop} {g c : Nat} {K : List Nd} {cs : List Value} {n : Nat} (h : Rowed w1 w ps N L F M (.slice (some ⟨g, 0, none⟩) n c) K cs) {q : Nat} {nd : Nd} (hq : K[q]? = some nd) :
    ∃ B cb, (∀ k u, k < 5 → (nodeCells nd (.slice B nd.args.length cb))[k]? = some u → w.cell? ⟨g, q * 5 + k, none⟩ = some u) ∧ IntsAt w B nd.args := by
  obtain ⟨v', hc, hv', _⟩ := h.nodes.2 q nd hq
  obtain ⟨B', cb', rfl, _, _, _, hB', _⟩ := own_ints hv'
  refine ⟨B', cb', fun k u hk hu => ?_, hB'⟩
  have h := h.row.cells (g := g) rfl (q * 5 + k) u (by rw [hc k hk, hu])
  rwa [add_plain] at h
end Go.Proofs.Ytpkegeblfdlibaa
