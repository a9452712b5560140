/- The argument, a slice of calls, read out of the datum: its cells. -/
import Derived.Test.YtpkegeblfdlibaaLaw5
import Derived.Deep.Slices
import Derived.Deep.Fields
import Derived.ChangeSlices
import Derived.SizedLaws
import Derived.OpenShut
namespace Go.Proofs.Ytpkegeblfdlibaa
open Go Go.RowKit Go.ChangeShapes Go.WideShapes Go.Deep
set_option linter.unusedVariables false
set_option linter.unusedSimpArgs false

theorem i64_of_wf {n : Int} (h : (Lit.int .i64 n).wf = true) : i64 n := bounds_i64 h
instance : Inhabited OpV := ⟨⟨0, 0, 0, 0, [], 0, 0, 0, false⟩⟩
section
variable {H : Type} {enc : TypeId × Value → H} {W : World} {base : Nat} {spare : Nat → Bool} {held : Bool}
theorem weights_in {P : Program} {e : TypeId} {l : List (DataW H)} {d : DataW H} (hd : d ∈ l) {n : Nat} (hn : n ∈ d.weights P e) : n ∈ DataW.weightsAll P e l := by
  induction l with
  | nil => simp at hd
  | cons a r ih =>
    simp only [DataW.weightsAll, List.mem_append]
    rcases List.mem_cons.1 hd with rfl | h
    · exact .inl hn
    · exact .inr (ih h)
theorem open_terms {fuel : Nat} {cs : List Value} {x : DataW H × List MemPlace} (h : DataW.trod enc Try.prog W base spare held fuel 29 cs = some x) :
    ∃ (B : Option Addr) (l : List Int) (c : Nat), cs = [.slice B l.length c] ∧ IntsAt W B l ∧ (∀ a ∈ l, i64 a) ∧ (l = [] ∨ ∃ el re, x.1 = .slice el re ∧ el.length = l.length) := by
  rcases open_ints Try.underlying29 Try.underlying30 (by kernel_rfl) h with ⟨hcs, _⟩ | ⟨a, len, cap, zs, hcs, _, hl, hm, hz, hx, hcell, hwf⟩
  · exact ⟨none, [], 0, hcs, IntsAt.nil _ _, by simp, .inl rfl⟩
  · have hzl : len ≤ zs.length := by rw [hz]; split <;> omega
    have hle : (zs.take len).length = len := by simp; omega
    refine ⟨some a, zs.take len, cap, by rw [hle]; exact hcs, fun j y hy => ⟨a, rfl, ?_⟩, fun b hb => i64_of_wf (hwf b (List.mem_of_mem_take hb)), .inr ⟨_, _, by rw [hx], by simp [lits]⟩⟩
    have hjl : j < (zs.take len).length := (List.getElem?_eq_some_iff.1 hy).1
    have hj : j < zs.length := by simp at hjl; omega
    rw [hcell j hj]
    rw [List.getElem?_take] at hy
    split at hy
    · simp [List.getD_eq_getElem?_getD, hy]
    · simp at hy
theorem open_op {fuel : Nat} {cs : List Value} {x : DataW H × List MemPlace} (h : DataW.trod enc Try.prog W base spare held fuel 33 cs = some x) (hw : ∀ n ∈ x.1.weights Try.prog 33, n ≤ reachBytes) :
    ∃ (o : OpV) (B : Option Addr) (c : Nat), cs = (opCells o (.slice B o.l.length c)).toList ∧ IntsAt W B o.l ∧ OpR o := by
  obtain ⟨xs, n, rfl, rfl, hcl, hxl, hf⟩ := DataW.trod_struct Try.underlying33 h
  have hC : Try.prog.cellsOf 33 = 9 := by kernel_rfl
  have hone : ∀ t, t = 3 ∨ t = 30 ∨ t = 29 ∨ t = 31 ∨ t = 2 ∨ t = 4 → Try.prog.cellsOf t = 1 := by rintro t (rfl | rfl | rfl | rfl | rfl | rfl) <;> kernel_rfl
  rw [hC] at hcl
  match cs, hcl, xs, hxl with
  | [c0, c1, c2, c3, c4, c5, c6, c7, c8], _, [x0, x1, x2, x3, x4, x5, x6, x7, x8], _ =>
    have g (i : Nat) (f : Field) (hi : _) (ht : f.type = 3 ∨ f.type = 30 ∨ f.type = 29 ∨ f.type = 31 ∨ f.type = 2 ∨ f.type = 4) := (hone f.type ht) ▸ hf i f hi
    have f0 := g 0 _ rfl (by simp)
    have f1 := g 1 _ rfl (by simp)
    have f2 := g 2 _ rfl (by simp)
    have f3 := g 3 _ rfl (by simp)
    have f4 := g 4 _ rfl (by simp)
    have f5 := g 5 _ rfl (by simp)
    have f6 := g 6 _ rfl (by simp)
    have f7 := g 7 _ rfl (by simp)
    have f8 := g 8 _ rfl (by simp)
    clear g hf
    obtain ⟨n0, e0, _, w0⟩ := DataW.trod_int Try.underlying3 f0
    obtain ⟨n1, e1, _, w1⟩ := DataW.trod_int Try.underlying30 f1
    obtain ⟨n2, e2, _, w2⟩ := DataW.trod_int Try.underlying30 f2
    obtain ⟨n3, e3, _, w3⟩ := DataW.trod_int Try.underlying30 f3
    obtain ⟨B, l, cap, e4, hB, hl, hlen⟩ := open_terms f4
    obtain ⟨n5, e5, _, w5⟩ := DataW.trod_int Try.underlying3 f5
    obtain ⟨n6, e6, _, w6⟩ := DataW.trod_int Try.underlying31 f6
    obtain ⟨n7, e7, _, w7⟩ := DataW.trod_int Try.underlying2 f7
    obtain ⟨n8, e8, _⟩ := DataW.trod_bool Try.underlying4 f8
    have q : ∀ {a b : Value}, [a] = [b] → a = b := fun h => by simpa using h
    have q0 : c0 = _ := q e0
    have q1 : c1 = _ := q e1
    have q2 : c2 = _ := q e2
    have q3 : c3 = _ := q e3
    have q4 : c4 = _ := q e4
    have q5 : c5 = _ := q e5
    have q6 : c6 = _ := q e6
    have q7 : c7 = _ := q e7
    have q8 : c8 = _ := q e8
    subst q0 q1 q2 q3 q4 q5 q6 q7 q8
    refine ⟨⟨n0, n1, n2, n3, l, n5, n6, n7, n8⟩, B, cap, rfl, hB, ⟨i64_of_wf w0, i64_of_wf w1, i64_of_wf w2, i64_of_wf w3, i64_of_wf w5, i64_of_wf w6, i64_of_wf w7, hl, ?_⟩⟩
    show l.length ≤ _
    rcases hlen with rfl | ⟨el, re, hx4, hel⟩
    · simp
    · have hm : (el.length + re.length) * Try.prog.bytesOf 30 ∈ DataW.weights Try.prog 33 (.agg [x0.1, x1.1, x2.1, x3.1, x4.1, x5.1, x6.1, x7.1, x8.1] : DataW H) := by
        simp [DataW.weights, Try.underlying33, DataW.weightsEach, hx4, Try.underlying29]
      have h8 : Try.prog.bytesOf 30 = 8 := by kernel_rfl
      have := hw _ hm
      rw [h8] at this
      simp only [reachBytes] at this
      omega
theorem open_ops {fuel : Nat} {cs : List Value} {x : DataW H × List MemPlace} (h : DataW.trod enc Try.prog W base spare held fuel 22 cs = some x) (hw : ∀ n ∈ x.1.weights Try.prog 22, n ≤ reachBytes) :
    ∃ (A : Option Addr) (ops : List OpV) (c : Nat), cs = [.slice A ops.length c] ∧ OpsAt W A ops ∧ ops.length ≤ maxLen := by
  rcases open_slice Try.underlying22 h with ⟨rfl, rfl⟩ | ⟨a, len, cap, m, n, D, Pl, rfl, hb, hl, hm, hmm, rfl, hi⟩
  · exact ⟨none, [], 0, rfl, ⟨by simp, by simp⟩, by simp⟩
  · have hC : Try.prog.cellsOf 33 = 9 := by kernel_rfl
    rw [hC] at hi
    have hlm : len ≤ m := by rw [hmm]; split <;> omega
    have he : ∀ i, i < len → ∃ (o : OpV), ∃ (B : Option Addr) (c : Nat), (∀ j v, (opCells o (.slice B o.l.length c))[j]? = some v → W.cell? ((a.add (i * 9)).add j) = some v) ∧ IntsAt W B o.l ∧ OpR o := by
      intro i hil
      obtain ⟨cs', h1, h2⟩ := hi i (by omega)
      obtain ⟨o, B, c, rfl, hB, hr⟩ := open_op h2 (by
        intro k hk
        refine hw k ?_
        simp only [DataW.weights, Try.underlying22, List.mem_cons, List.mem_append]
        exact .inr (.inl (weights_in (List.mem_map.2 ⟨i, List.mem_range.2 hil, rfl⟩) hk)))
      obtain ⟨_, _, hat⟩ := World.cells?_some h1
      refine ⟨o, B, c, fun j v hj => ?_, hB, hr⟩
      have hj9 : j < 9 := (Array.getElem?_eq_some_iff.1 hj).1
      rw [hat j hj9]
      simpa using hj
    obtain ⟨f, hf⟩ := choose_lt (α := OpV) he
    have hfl : ((List.range len).map f).length = len := by simp
    refine ⟨some a, (List.range len).map f, cap, by rw [hfl], ⟨fun i o ho => ?_, fun o ho => ?_⟩, by rw [hfl]; omega⟩
    · have hil : i < len := by have := (List.getElem?_eq_some_iff.1 ho).1; rwa [hfl] at this
      have ho' : o = f i := by simpa [hil] using ho.symm
      subst ho'
      obtain ⟨B, c, g1, g2, g3⟩ := hf i hil
      exact ⟨a, B, c, rfl, g1, g2⟩
    · obtain ⟨i, hi', rfl⟩ := List.mem_map.1 ho
      obtain ⟨B, c, g1, g2, g3⟩ := hf i (List.mem_range.1 hi')
      exact g3
end
end Go.Proofs.Ytpkegeblfdlibaa
