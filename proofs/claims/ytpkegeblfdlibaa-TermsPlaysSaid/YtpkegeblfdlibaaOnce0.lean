/- The state of the law TermsOnce between two calls, and what becomes of it. Conditions: none; plain lemmas on worlds. -/
import Derived.Test.YtpkegeblfdlibaaLaw3
import Derived.Test.YtpkegeblfdlibaaLaw4
import Derived.Test.YtpkegeblfdlibaaLaw5
import Derived.Test.YtpkegeblfdlibaaLawPure
import Derived.Test.YtpkegeblfdlibaaRefB
namespace Go.Proofs.Ytpkegeblfdlibaa
open Go Go.RowKit
set_option linter.unusedVariables false
set_option linter.unusedSimpArgs false

/-- calls in a row of one's own; their arguments' rows are M's -/
def CallsIn (M : Nat → Prop) (w : World) (os : List OpV) (cs : List Value) : Prop :=
  cs.length = os.length * 9 ∧ ∀ (j : Nat) o, os[j]? = some o → ∃ v, (∀ i, i < 9 → cs[j * 9 + i]? = (opCells o v)[i]?) ∧ w.ownsRow 0 30 1 v o.l.length (nums o.l) ∧ ∀ k, v.ownBlock = some k → M k

theorem CallsIn.fr {M G : Nat → Prop} {w w' : World} {os : List OpV} {cs : List Value} (h : CallsIn M w os cs) (hf : Fr G w w') (hn : ∀ k, M k → ¬ G k) : CallsIn M w' os cs :=
  ⟨h.1, fun j o hj => by
    obtain ⟨v, h1, h2, h3⟩ := h.2 j o hj
    exact ⟨v, h1, hf.own h2 (fun k hk => hn k (h3 k hk)), h3⟩⟩
theorem CallsIn.mono {M G : Nat → Prop} {w : World} {os : List OpV} {cs : List Value} (h : CallsIn M w os cs) (hn : ∀ k, M k → G k) : CallsIn G w os cs :=
  ⟨h.1, fun j o hj => by
    obtain ⟨v, h1, h2, h3⟩ := h.2 j o hj
    exact ⟨v, h1, h2, fun k hk => hn k (h3 k hk)⟩⟩
/-- the law's state between two calls -/
structure Inv (w1 w : World) (ps pr N : Nat) (L : List Nd) (H M : Nat → Prop) (v5 v6 : Value) (xs : List Int) (os : List OpV) (cs : List Value) : Prop where
  two : TwoAt w ps pr L N H
  good : Good L
  hb : ∀ k, H k → w1.heap.size ≤ k
  mb : ∀ k, M k → w1.heap.size ≤ k ∧ k < w.heap.size ∧ ¬ H k
  row5 : w.ownsRow 0 30 1 v5 xs.length (nums xs)
  row6 : w.ownsRow 0 33 9 v6 os.length cs
  calls : CallsIn M w os cs
  m5 : ∀ k, v5.ownBlock = some k → w1.heap.size ≤ k ∧ ¬ H k ∧ ¬ M k
  m6 : ∀ k, v6.ownBlock = some k → w1.heap.size ≤ k ∧ ¬ H k ∧ ¬ M k
  len : xs.length = os.length
  told : ∀ (j : Nat) o x, os[j]? = some o → xs[j]? = some x → (0 ≤ o.kind ∧ o.kind ≤ 8) ∧ o.md = false ∧ OpOk o ∧ ∃ Lj Lj', callP Lj o = (Lj', x, 0) ∧ Lj' <+: L
  below : Below w1.heap.size w1 w
theorem Inv.step {w1 w w' : World} {ps pr N : Nat} {L : List Nd} {H M : Nat → Prop} {v5 v6 : Value} {xs : List Int} {os : List OpV} {cs : List Value} (h : Inv w1 w ps pr N L H M v5 v6 xs os cs) (hb : Below w.heap.size w w') : Inv w1 w' ps pr N L H M v5 v6 xs os cs :=
  ⟨h.two.below hb, h.good, h.hb, fun k hk => ⟨(h.mb k hk).1, Nat.lt_of_lt_of_le (h.mb k hk).2.1 hb.size, (h.mb k hk).2.2⟩,
    (Fr.of_below (F := fun _ => False) hb).own h.row5 (fun _ _ h => h), (Fr.of_below (F := fun _ => False) hb).own h.row6 (fun _ _ h => h), h.calls.fr (Fr.of_below (F := fun _ => False) hb) (fun _ _ h => h), h.m5, h.m6, h.len, h.told, h.below.trans (hb.mono h.below.size)⟩
theorem Inv.made {w1 w w' : World} {ps pr N N' : Nat} {L L' : List Nd} {H M : Nat → Prop} {v5 v6 : Value} {xs : List Int} {os : List OpV} {cs : List Value} (h : Inv w1 w ps pr N L H M v5 v6 xs os cs) (hm : MadeTwo w ps pr H N' L' w') (hp : L <+: L') (hg : Good L') :
    ∃ H', Inv w1 w' ps pr N' L' H' M v5 v6 xs os cs ∧ Fr H w w' ∧ ∀ k, H' k → H k ∨ w.heap.size ≤ k := by
  obtain ⟨H', h1, h2, h3⟩ := hm
  have hs := h.below.size
  have hM : ∀ k, M k → ¬ H k := fun k hk => (h.mb k hk).2.2
  have hH' : ∀ k, k < w.heap.size → ¬ H k → ¬ H' k := fun k h1 h2 h4 => (h3 k h4).elim h2 (fun h => by omega)
  refine ⟨H', ⟨h1, hg, fun k hk => ?_, fun k hk => ⟨(h.mb k hk).1, Nat.lt_of_lt_of_le (h.mb k hk).2.1 h2.size, fun hk' => ?_⟩, h2.own h.row5 (fun k hk => (h.m5 k hk).2.1), h2.own h.row6 (fun k hk => (h.m6 k hk).2.1), h.calls.fr h2 hM,
    fun k hk => ⟨(h.m5 k hk).1, hH' k (h.row5.lt k hk).2 (h.m5 k hk).2.1, (h.m5 k hk).2.2⟩, fun k hk => ⟨(h.m6 k hk).1, hH' k (h.row6.lt k hk).2 (h.m6 k hk).2.1, (h.m6 k hk).2.2⟩, h.len, ?_, ?_⟩, h2, h3⟩
  · rcases h3 k hk with h' | h'
    · exact h.hb k h'
    · omega
  · have := h.mb k hk
    rcases h3 k hk' with h' | h'
    · exact this.2.2 h'
    · omega
  · intro j o x ho hx
    obtain ⟨g1, g2, g3, Lj, Lj', g4, g5⟩ := h.told j o x ho hx
    exact ⟨g1, g2, g3, Lj, Lj', g4, g5.trans hp⟩
  · exact h.below.trans (h2.below (fun i hi => h.hb i hi) hs)

theorem CallsIn.snoc {M : Nat → Prop} {w : World} {os : List OpV} {cs : List Value} (h : CallsIn M w os cs) {o : OpV} {v : Value} (hr : w.ownsRow 0 30 1 v o.l.length (nums o.l)) (hv : ∀ k, v.ownBlock = some k → M k) : CallsIn M w (os ++ [o]) (cs ++ (opCells o v).toList) := by
  refine ⟨by simp [h.1, opCells]; omega, fun j o' hj => ?_⟩
  rcases Nat.lt_or_ge j os.length with hl | hl
  · rw [List.getElem?_append_left hl] at hj
    obtain ⟨v', h1, h2, h3⟩ := h.2 j o' hj
    refine ⟨v', fun i hi => ?_, h2, h3⟩
    rw [List.getElem?_append_left (by rw [h.1]; omega)]
    exact h1 i hi
  · have hl' : j = os.length := by
      have := (List.getElem?_eq_some_iff.1 hj).1
      simp at this
      omega
    subst hl'
    obtain rfl : o = o' := by simpa using hj
    refine ⟨v, fun i hi => ?_, hr, hv⟩
    rw [List.getElem?_append_right (by rw [h.1]; omega), h.1, Nat.add_sub_cancel_left]
    simp
/-- a call that was made is kept, and what it made -/
theorem Inv.push {w1 w w8 w9 : World} {ps pr N : Nat} {L : List Nd} {H M : Nat → Prop} {v5 v6 v8 v9 va : Value} {xs : List Int} {os : List OpV} {cs : List Value} (h : Inv w1 w ps pr N L H M v5 v6 xs os cs) {t : Int} {o : OpV}
    (f8 : Fr (fun b => v5.ownBlock = some b) w w8) (r8 : w8.ownsRow 0 30 1 v8 (xs.length + 1) (nums (xs ++ [t]))) (b8 : ∀ i, v8.ownBlock = some i → v5.ownBlock = some i ∨ w.heap.size ≤ i)
    (f9 : Fr (fun b => v6.ownBlock = some b) w8 w9) (r9 : w9.ownsRow 0 33 9 v9 (os.length + 1) (cs ++ (opCells o va).toList)) (b9 : ∀ i, v9.ownBlock = some i → v6.ownBlock = some i ∨ w8.heap.size ≤ i)
    (ra : w.ownsRow 0 30 1 va o.l.length (nums o.l)) (ha : ∀ i, va.ownBlock = some i → w1.heap.size ≤ i ∧ ¬ H i ∧ ¬ v5.ownBlock = some i)
    (ht : (0 ≤ o.kind ∧ o.kind ≤ 8) ∧ o.md = false ∧ OpOk o ∧ ∃ Lj Lj', callP Lj o = (Lj', t, 0) ∧ Lj' <+: L) :
    ∃ M', Inv w1 w9 ps pr N L H M' v8 v9 (xs ++ [t]) (os ++ [o]) (cs ++ (opCells o va).toList) := by
  have hs1 := h.below.size
  have hs8 := f8.size
  have hs9 := f9.size
  have hHl : ∀ k, H k → k < w.heap.size := fun k hk => h.two.lt k hk
  -- rows of numbers are no rows of calls
  have d6 : ∀ {v : Value} {n : Nat} {ys : List Int}, w.ownsRow 0 30 1 v n (nums ys) → ∀ k, v.ownBlock = some k → ¬ v6.ownBlock = some k := fun hr k hk h6 => by
    obtain ⟨c1, hc1⟩ := own_block hr hk
    obtain ⟨c2, hc2⟩ := own_block h.row6 h6
    rw [hc1] at hc2; cases hc2
  have r6 : w8.ownsRow 0 33 9 v6 os.length cs := f8.own h.row6 (fun k hk h5 => d6 h.row5 k h5 hk)
  have hc8 : CallsIn M w8 os cs := h.calls.fr f8 (fun k hk h5 => (h.m5 k h5).2.2 hk)
  have hc9 : CallsIn M w9 os cs := ⟨hc8.1, fun j o' hj => by
    obtain ⟨v, g1, g2, g3⟩ := hc8.2 j o' hj
    exact ⟨v, g1, f9.own g2 (fun k hk h6 => (h.m6 k h6).2.2 (g3 k hk)), g3⟩⟩
  have ra9 : w9.ownsRow 0 30 1 va o.l.length (nums o.l) := f9.own (f8.own ra (fun k hk h5 => (ha k hk).2.2 h5)) (fun k hk h6 => d6 ra k hk h6)
  refine ⟨fun k => M k ∨ va.ownBlock = some k, ?_⟩
  refine ⟨(h.two.fr f8 (fun k hk h5 => (h.m5 k h5).2.1 hk)).fr f9 (fun k hk h6 => (h.m6 k h6).2.1 hk), h.good, h.hb, ?_, f9.own (by simpa using r8) ?_, by simpa using r9, (hc9.mono (fun k hk => .inl hk)).snoc ra9 (fun k hk => .inr hk), ?_, ?_, by simp [h.len], ?_, ?_⟩
  · rintro k (hk | hk)
    · have := h.mb k hk
      exact ⟨this.1, by omega, this.2.2⟩
    · have := (ra.lt k hk).2
      exact ⟨(ha k hk).1, by omega, (ha k hk).2.1⟩
  · intro k hk h6
    rcases b8 k hk with h5 | h5
    · exact d6 h.row5 k h5 h6
    · have := (h.row6.lt k h6).2; omega
  · intro k hk
    rcases b8 k hk with h5 | h5
    · refine ⟨(h.m5 k h5).1, (h.m5 k h5).2.1, ?_⟩
      rintro (hm | hm)
      · exact (h.m5 k h5).2.2 hm
      · exact (ha k hm).2.2 h5
    · refine ⟨by omega, fun hh => by have := hHl k hh; omega, ?_⟩
      rintro (hm | hm)
      · have := (h.mb k hm).2.1; omega
      · have := (ra.lt k hm).2; omega
  · intro k hk
    rcases b9 k hk with h5 | h5
    · refine ⟨(h.m6 k h5).1, (h.m6 k h5).2.1, ?_⟩
      rintro (hm | hm)
      · exact (h.m6 k h5).2.2 hm
      · exact d6 ra k hm h5
    · refine ⟨by omega, fun hh => by have := hHl k hh; omega, ?_⟩
      rintro (hm | hm)
      · have := (h.mb k hm).2.1; omega
      · have := (ra.lt k hm).2; omega
  · intro j o' x ho hx
    rcases Nat.lt_or_ge j os.length with hl | hl
    · rw [List.getElem?_append_left hl] at ho
      rw [List.getElem?_append_left (by rw [h.len]; exact hl)] at hx
      exact h.told j o' x ho hx
    · have hl' : j = os.length := by
        have := (List.getElem?_eq_some_iff.1 ho).1
        simp at this
        omega
      subst hl'
      obtain rfl : o = o' := by simpa using ho
      obtain rfl : t = x := by simpa [← h.len] using hx
      exact ht
  · refine (h.below.trans (f8.below (fun k hk => (h.m5 k hk).1) hs1)).trans (f9.below (fun k hk => (h.m6 k hk).1) (by omega))
theorem info33 : (Try.prog.info? 33).map (fun i => (i.zero, i.size, i.bytes)) = some (some (.agg #[.int .i64 0, .int .i64 0, .int .i64 0, .int .i64 0, .slice none 0 0, .int .i64 0, .int .i64 0, .int .i64 0, .bool false]), 9, 88) := by kernel_rfl
theorem told_ok {o : OpV} {n : Nat} (h : OpOk o) (hn : n ≤ 20000) : OpOk (toldP n o) :=
  ⟨h.kind, near_bd _ _ h.a hn _, near_bd _ _ h.b hn _, near_bd _ _ h.c hn _, h.fn, h.sort, h.n, fun x hx => by
    obtain ⟨y, hy, rfl⟩ := List.mem_map.1 hx
    exact near_bd _ _ (h.l y hy) hn _, by simpa [toldP] using h.len⟩
theorem near_same (t : Int) (n : Nat) : nearP t n false = t := by simp [nearP]
theorem told_told {o : OpV} {n m : Nat} (hn : n ≤ 20000) : toldP m (toldP n o) = toldP n o := by
  simp [toldP, near_same]

theorem slice_form {w : World} {base e size n : Nat} {v : Value} {xs : List Value} (h : w.ownsRow base e size v n xs) : ∃ A cap, v = .slice A n cap := by
  rcases h.2 with ⟨rfl, h0⟩ | ⟨g, cap, cur, hv, _⟩
  · exact ⟨none, 0, by rw [h0]⟩
  · exact ⟨_, cap, hv⟩
theorem told_self {o : OpV} (h : o.md = false) (n : Nat) : toldP n o = o := by
  cases o
  simp only at h
  subst h
  simp only [toldP, near_same]
  simp
/-! ### the second half: all nodes, told one by one -/
structure All (w1 w : World) (ps N : Nat) (L : List Nd) (F : Foot) (M : Nat → Prop) (v : Value) (i : Nat) (cs : List Value) : Prop where
  st : StoreAt w ps L F N
  row : w.ownsRow 0 44 5 v i cs
  nodes : NodesAt M w (L.take i) cs
  fb : ∀ k, F.m k ∨ F.r k → w1.heap.size ≤ k
  mb : ∀ k, M k → w1.heap.size ≤ k ∧ k < w.heap.size
  vb : ∀ k, v.ownBlock = some k → w1.heap.size ≤ k ∧ ¬ (F.m k ∨ F.r k) ∧ ¬ M k
  below : Below w1.heap.size w1 w
theorem All.step {w1 w w' : World} {ps N : Nat} {L : List Nd} {F : Foot} {M : Nat → Prop} {v : Value} {i : Nat} {cs : List Value} (h : All w1 w ps N L F M v i cs) (hb : Below w.heap.size w w') : All w1 w' ps N L F M v i cs :=
  ⟨h.st.below hb, (Fr.of_below (F := fun _ => False) hb).own h.row (fun _ _ h => h), h.nodes.fr (Fr.of_below (F := fun _ => False) hb) (fun _ _ _ h => h), h.fb, fun k hk => ⟨(h.mb k hk).1, Nat.lt_of_lt_of_le (h.mb k hk).2 hb.size⟩, h.vb, h.below.trans (hb.mono h.below.size)⟩
theorem All.push {w1 w w' : World} {ps N : Nat} {L : List Nd} {F : Foot} {M : Nat → Prop} {v v' : Value} {i : Nat} {cs : List Value} (h : All w1 w ps N L F M v i cs) {nd : Nd} (hi : L[i]? = some nd) {va : Value}
    (f : Fr (fun b => v.ownBlock = some b) w w') (r : w'.ownsRow 0 44 5 v' (i + 1) (cs ++ nodeCells nd va)) (b : ∀ k, v'.ownBlock = some k → v.ownBlock = some k ∨ w.heap.size ≤ k)
    (ra : w.ownsRow 0 30 1 va nd.args.length (nums nd.args)) (ha : ∀ k, va.ownBlock = some k → w1.heap.size ≤ k) :
    ∃ M', All w1 w' ps N L F M' v' (i + 1) (cs ++ nodeCells nd va) := by
  have hs1 := h.below.size
  have hs := f.size
  have d : ∀ {u : Value} {n : Nat} {ys : List Int}, w.ownsRow 0 30 1 u n (nums ys) → ∀ k, u.ownBlock = some k → ¬ v.ownBlock = some k := fun hr k hk h6 => by
    obtain ⟨c1, hc1⟩ := own_block hr hk
    obtain ⟨c2, hc2⟩ := own_block h.row h6
    rw [hc1] at hc2; cases hc2
  refine ⟨fun k => M k ∨ va.ownBlock = some k, h.st.fr f (fun k hk h6 => (h.vb k h6).2.1 hk), r, ?_, h.fb, ?_, ?_, h.below.trans (f.below (fun k hk => (h.vb k hk).1) hs1)⟩
  · have hil := (List.getElem?_eq_some_iff.1 hi).1
    have e : L.take (i + 1) = L.take i ++ [nd] := by
      rw [List.take_succ_eq_append_getElem hil]
      have := (List.getElem?_eq_some_iff.1 hi).2
      rw [this]
    rw [e]
    refine NodesAt.snoc ((h.nodes.fr f (fun k _ hk h6 => (h.vb k h6).2.2 hk)).mono (fun k hk => .inl hk)) (f.own ra (fun k hk h6 => d ra k hk h6)) (fun k hk => .inr hk)
  · rintro k (hk | hk)
    · have := h.mb k hk; omega
    · have := (ra.lt k hk).2
      exact ⟨ha k hk, by omega⟩
  · intro k hk
    rcases b k hk with h5 | h5
    · refine ⟨(h.vb k h5).1, (h.vb k h5).2.1, ?_⟩
      rintro (hm | hm)
      · exact (h.vb k h5).2.2 hm
      · exact d ra k hm h5
    · refine ⟨by omega, fun hh => by have := h.st.lt k hh; omega, ?_⟩
      rintro (hm | hm)
      · have := (h.mb k hm).2; omega
      · have := (ra.lt k hm).2; omega
theorem StoreAt.nodup {w : World} {p : Nat} {L : List Nd} {F : Foot} {N : Nat} (h : StoreAt w p L F N) : L.Nodup := by
  obtain ⟨⟨v, mt, ml, cs, T, ft, fl, h1, h2, h3, h4, h5, h6, h7, h8, h9, _⟩, _⟩ := h
  exact h8.nodup
theorem nodeP_in {L : List Nd} {i : Nat} {nd : Nd} (h : L[i]? = some nd) : nodeP L (i : Int) = (nd, 0) := by
  have hil := (List.getElem?_eq_some_iff.1 h).1
  have ht : thereB L.length [(i : Int)] = true := by simp [thereB, hil]
  simp [nodeP, ht, nodeAt, List.getD_eq_getElem?_getD, h]
end Go.Proofs.Ytpkegeblfdlibaa
