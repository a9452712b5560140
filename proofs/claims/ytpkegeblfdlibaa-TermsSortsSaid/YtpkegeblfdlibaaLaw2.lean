/- Walk of the law's helper made: what a call makes, of both. -/
import Derived.Test.YtpkegeblfdlibaaLaw1
import Derived.Deep.DeepCutAuto
import Derived.Deep.CutBlock
import Derived.StillTailTactics
namespace Go.Proofs.Ytpkegeblfdlibaa
open Go Go.RowKit
set_option linter.unusedVariables false
set_option linter.unusedSimpArgs false

structure OpV where
  kind : Int
  a : Int
  b : Int
  c : Int
  l : List Int
  fn : Int
  sort : Int
  n : Int
  md : Bool
structure OpOk (o : OpV) : Prop where
  kind : i64 o.kind
  a : i64 o.a
  b : i64 o.b
  c : i64 o.c
  fn : i64 o.fn
  sort : i64 o.sort
  n : i64 o.n
  l : ∀ x ∈ o.l, i64 x
  len : o.l.length ≤ 6000
def opCells (o : OpV) (v : Value) : Array Value := #[.int .i64 o.kind, .int .i64 o.a, .int .i64 o.b, .int .i64 o.c, v, .int .i64 o.fn, .int .i64 o.sort, .int .i64 o.n, .bool o.md]
def toldP (n : Nat) (o : OpV) : OpV := ⟨o.kind, nearP o.a n o.md, nearP o.b n o.md, nearP o.c n o.md, o.l.map (nearP · n o.md), o.fn, o.sort, o.n, false⟩
/-- what a call makes: the terms then, the term, the error -/
def callP (L : List Nd) (o : OpV) : List Nd × Int × Int :=
  if o.kind = 0 then notP L o.a else if o.kind = 1 then manyP L 10 0 o.l else if o.kind = 2 then manyP L 11 1 o.l else if o.kind = 3 then eqP L o.a o.b
  else if o.kind = 4 then iteP L o.a o.b o.c else if o.kind = 5 then appP L o.fn o.sort o.l else if o.kind = 6 then numP L o.n else if o.kind = 7 then plusP L o.a o.n
  else if o.kind = 8 then leP L o.a o.b o.n else (L, 0, 0)

/-- both stores, and all their blocks -/
def TwoAt (w : World) (ps pr : Nat) (L : List Nd) (N : Nat) (H : Nat → Prop) : Prop :=
  ∃ F G, StoreAt w ps L F N ∧ RefAt w pr L G ∧ (∀ k, F.m k ∨ F.r k → ¬ (G.m k ∨ G.r k)) ∧ ∀ k, H k ↔ ((F.m k ∨ F.r k) ∨ (G.m k ∨ G.r k))
theorem TwoAt.lt {w : World} {ps pr : Nat} {L : List Nd} {N : Nat} {H : Nat → Prop} (h : TwoAt w ps pr L N H) : ∀ k, H k → k < w.heap.size := by
  obtain ⟨F, G, hF, hG, _, hH⟩ := h
  intro k hk
  exact ((hH k).1 hk).elim (hF.lt k) (hG.lt k)
theorem TwoAt.fr {w w' : World} {ps pr : Nat} {L : List Nd} {N : Nat} {H K : Nat → Prop} (h : TwoAt w ps pr L N H) (hf : Fr K w w') (hn : ∀ k, H k → ¬ K k) : TwoAt w' ps pr L N H := by
  obtain ⟨F, G, hF, hG, hs, hH⟩ := h
  exact ⟨F, G, hF.fr hf (fun k hk => hn k ((hH k).2 (.inl hk))), hG.fr hf (fun k hk => hn k ((hH k).2 (.inr hk))), hs, hH⟩
theorem TwoAt.below {w w' : World} {ps pr : Nat} {L : List Nd} {N : Nat} {H : Nat → Prop} (h : TwoAt w ps pr L N H) (hb : Below w.heap.size w w') : TwoAt w' ps pr L N H :=
  h.fr (Fr.of_below (F := fun _ => False) hb) (fun _ _ h => h)
theorem TwoAt.len {w : World} {ps pr : Nat} {L : List Nd} {N : Nat} {H : Nat → Prop} (h : TwoAt w ps pr L N H) : L.length ≤ 20000 := by
  obtain ⟨F, G, hF, hG, hs, hH⟩ := h
  exact hF.len
/-- both calls made: what they tell together -/
def MadeTwo (w : World) (ps pr : Nat) (H : Nat → Prop) (N : Nat) (L' : List Nd) (w' : World) : Prop :=
  ∃ H', TwoAt w' ps pr L' N H' ∧ Fr H w w' ∧ ∀ k, H' k → H k ∨ w.heap.size ≤ k
theorem MadeTwo.of {w w0 w1 w2 : World} {ps pr : Nat} {L : List Nd} {N : Nat} {F G : Foot} {r : List Nd × Int × Int} (hG : RefAt w0 pr L G) (hsep : ∀ k, F.m k ∨ F.r k → ¬ (G.m k ∨ G.r k)) (hlt : ∀ k, F.m k ∨ F.r k ∨ G.m k ∨ G.r k → k < w.heap.size)
    (hb : Below w.heap.size w w0) {F' G' : Foot} (h1 : StoreAt w1 ps r.1 F' N) (u1 : Upd F F' w0 w1) (h2 : RefAt w2 pr r.1 G') (u2 : Upd G G' w1 w2) :
    MadeTwo w ps pr (fun k => (F.m k ∨ F.r k) ∨ (G.m k ∨ G.r k)) N r.1 w2 := by
  have hs0 := hb.size
  have hs1 := u1.fr.size
  refine ⟨fun k => (F'.m k ∨ F'.r k) ∨ (G'.m k ∨ G'.r k), ⟨F', G', h1.fr u2.fr ?_, h2, ?_, fun k => Iff.rfl⟩, ?_, ?_⟩
  · rintro k hk hg
    have hgl := hlt k (.inr (.inr (.inl hg)))
    have : F.m k ∨ F.r k := by
      rcases hk with hk | hk
      · rcases u1.grow k hk with h | h
        · exact .inl h
        · omega
      · rcases u1.growr k hk with h | h
        · exact .inr h
        · omega
    exact hsep k this (.inl hg)
  · rintro k hk hg
    have hkl := h1.lt k hk
    have hg' : G.m k ∨ G.r k := by
      rcases hg with hg | hg
      · rcases u2.grow k hg with h | h
        · exact .inl h
        · omega
      · rcases u2.growr k hg with h | h
        · exact .inr h
        · omega
    have hgl : k < w.heap.size := hlt k (.inr (.inr hg'))
    have : F.m k ∨ F.r k := by
      rcases hk with hk | hk
      · rcases u1.grow k hk with h | h
        · exact .inl h
        · omega
      · rcases u1.growr k hk with h | h
        · exact .inr h
        · omega
    exact hsep k this hg'
  · exact ((Fr.of_below' hb (F := fun k => (F.m k ∨ F.r k) ∨ (G.m k ∨ G.r k)) (fun i h1 h2 => by omega)).trans' u1.fr (fun i h => .inl (.inl (.inl h)))).trans' u2.fr (fun i h => .inl (.inr (.inl h)))
  · rintro k ((h | h) | (h | h))
    · rcases u1.grow k h with h | h
      · exact .inl (.inl (.inl h))
      · exact .inr (by omega)
    · rcases u1.growr k h with h | h
      · exact .inl (.inl (.inr h))
      · exact .inr (by omega)
    · rcases u2.grow k h with h | h
      · exact .inl (.inr (.inl h))
      · exact .inr (by omega)
    · rcases u2.growr k h with h | h
      · exact .inl (.inr (.inr h))
      · exact .inr (by omega)
/-- .. while the copy of the arguments is written over -/
def Mid (w w1 : World) (ps pr : Nat) (H : Nat → Prop) (N : Nat) (L' : List Nd) (w' : World) : Prop :=
  ∃ H', TwoAt w' ps pr L' N H' ∧ Fr H w w' ∧ ∀ k, H' k → H k ∨ w1.heap.size ≤ k
theorem MadeTwo.mid {w w1 w' : World} {ps pr : Nat} {H : Nat → Prop} {N : Nat} {L' : List Nd} (h : MadeTwo w1 ps pr H N L' w') (hb : Below w.heap.size w w1) : Mid w w1 ps pr H N L' w' := by
  obtain ⟨H', h1, h2, h3⟩ := h
  exact ⟨H', h1, (Fr.of_below hb).trans h2, h3⟩
theorem Mid.made {w w1 w' : World} {ps pr : Nat} {H : Nat → Prop} {N : Nat} {L' : List Nd} (h : Mid w w1 ps pr H N L' w') (hb : w.heap.size ≤ w1.heap.size) : MadeTwo w ps pr H N L' w' := by
  obtain ⟨H', h1, h2, h3⟩ := h
  exact ⟨H', h1, h2, fun k hk => (h3 k hk).imp id (fun h => by omega)⟩
theorem Mid.set {w w1 w' : World} {ps pr : Nat} {H : Nat → Prop} {N : Nat} {L' : List Nd} (h : Mid w w1 ps pr H N L' w') {g j : Nat} (h0 : w.heap.size ≤ g) (h1 : g < w1.heap.size) (hH : ∀ k, H k → k < w.heap.size) (v : Value) : Mid w w1 ps pr H N L' (w'.setCell ⟨g, j, none⟩ v) := by
  obtain ⟨H', h1', h2, h3⟩ := h
  refine ⟨H', h1'.fr (K := fun k => k = g) ((Fr.refl (fun k => k = g) w').setCell (p := ⟨g, j, none⟩) (.inl rfl) v) ?_, h2.setCell (p := ⟨g, j, none⟩) (.inr h0) v, h3⟩
  rintro k hk rfl
  rcases h3 k hk with h | h
  · have := hH k h; omega
  · omega
theorem Mid.heap {w w1 w' : World} {ps pr : Nat} {H : Nat → Prop} {N : Nat} {L' : List Nd} (h : MadeTwo w1 ps pr H N L' w') {g : Nat} {o : Obj} (hg : w1.heap[g]? = some o) (hH : ¬ H g) : w'.heap[g]? = some o := by
  obtain ⟨H', h1', h2, h3⟩ := h
  exact h2.heap hg hH
end Go.Proofs.Ytpkegeblfdlibaa
