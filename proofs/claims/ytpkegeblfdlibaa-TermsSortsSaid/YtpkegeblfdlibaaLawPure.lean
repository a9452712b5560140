/- The plain law of TermsOnce: a call once more makes the same term, and no other one. -/
import Derived.Test.YtpkegeblfdlibaaLaw2
namespace Go.Proofs.Ytpkegeblfdlibaa
set_option linter.unusedVariables false
set_option linter.unusedSimpArgs false

theorem putP_pre (L : List Nd) (n : Nd) : L <+: (putP L n).1 := by
  unfold putP
  split
  · exact List.prefix_refl _
  · split
    · exact List.prefix_refl _
    · exact List.prefix_append _ _
theorem there_pre {n m : Nat} (h : n ≤ m) {l : List Int} (ht : thereB n l = true) : thereB m l = true := by
  simp only [thereB, List.all_eq_true, Bool.and_eq_true, decide_eq_true_eq] at ht ⊢
  intro x hx
  have := ht x hx
  omega
theorem there_in {n : Nat} {l : List Int} (ht : thereB n l = true) {x : Int} (hx : x ∈ l) : 0 ≤ x ∧ x < n := by
  simp only [thereB, List.all_eq_true, Bool.and_eq_true, decide_eq_true_eq] at ht
  exact ht x hx
theorem node_pre {L M : List Nd} (h : L <+: M) {t : Int} (h0 : 0 ≤ t) (h1 : t < L.length) : nodeAt M t = nodeAt L t := by
  obtain ⟨r, rfl⟩ := h
  have : t.toNat < L.length := by omega
  simp [nodeAt, List.getD_eq_getElem?_getD, List.getElem?_append_left this]
theorem sort_pre {L M : List Nd} (h : L <+: M) {t : Int} (h0 : 0 ≤ t) (h1 : t < L.length) : sortOf M t = sortOf L t := by
  have := node_pre h h0 h1
  simp only [nodeAt] at this
  simp only [sortOf, this]
theorem of_pre {L M : List Nd} (h : L <+: M) {s : Int} {l : List Int} (ht : thereB L.length l = true) : ofB M s l = ofB L s l := by
  simp only [ofB]
  rw [Bool.eq_iff_iff]
  simp only [List.all_eq_true, decide_eq_true_eq]
  constructor <;> intro g x hx
  · have := there_in ht hx
    rw [← sort_pre h this.1 this.2]; exact g x hx
  · have := there_in ht hx
    rw [sort_pre h this.1 this.2]; exact g x hx
theorem put_again {L L' M : List Nd} {n : Nd} {t : Int} (h : putP L n = (L', t, 0)) (hM : L' <+: M) : putP M n = (M, t, 0) := by
  unfold putP at h
  split at h
  · rename_i hn
    simp only [Prod.mk.injEq, and_true] at h
    obtain ⟨rfl, rfl⟩ := h
    obtain ⟨r, rfl⟩ := hM
    have : n ∈ L ++ r := List.mem_append_left _ hn
    simp only [putP, if_pos this, List.idxOf_append, if_pos hn]
  · rename_i hn
    split at h
    · simp at h
    · simp only [Prod.mk.injEq, and_true] at h
      obtain ⟨rfl, rfl⟩ := h
      obtain ⟨r, rfl⟩ := hM
      have : n ∈ L ++ [n] ++ r := by simp
      simp only [putP, if_pos this]
      simp [List.idxOf_append, hn]
theorem split_pre {L M : List Nd} (h : L <+: M) {a : Int} (ht : thereB L.length [a] = true) : splitP M a = splitP L a := by
  have h1 := there_in ht (x := a) (by simp)
  have h2 := there_pre h.length_le ht
  simp only [splitP, ht, h2, node_pre h h1.1 h1.2]
theorem split_there {L : List Nd} {a b o : Int} (h : splitP L a = (b, o, 0)) : thereB L.length [a] = true := by
  rcases ht : thereB L.length [a] with _ | _
  · simp [splitP, ht] at h
  · rfl
theorem of_pair {r : List Nd × Int × Int} {L' : List Nd} {t : Int} (h : r = (L', t, 0)) : r.1 = L' := by rw [h]
theorem not_again {L L' M : List Nd} {a t : Int} (h : notP L a = (L', t, 0)) (hM : L' <+: M) : notP M a = (M, t, 0) := by
  unfold notP at h
  split at h
  · simp at h
  · rename_i h1
    split at h
    · simp at h
    · rename_i h2
      have hL : L <+: M := (of_pair h ▸ putP_pre L _).trans hM
      simp only [Bool.not_eq_false] at h1 h2
      simp only [notP, there_pre hL.length_le h1, of_pre hL h1, h2]
      simpa using put_again h hM
theorem many_again {L L' M : List Nd} {op no t : Int} {l : List Int} (h : manyP L op no l = (L', t, 0)) (hM : L' <+: M) : manyP M op no l = (M, t, 0) := by
  unfold manyP at h
  split at h
  · simp at h
  · rename_i h1
    split at h
    · simp at h
    · rename_i h2
      split at h
      · simp at h
      · rename_i h3
        simp only [Bool.not_eq_false] at h1 h3
        have hL : L <+: M := by
          split at h
          · simp only [Prod.mk.injEq, and_true] at h; rw [← h.1] at hM; exact hM
          · simp only [Prod.mk.injEq, and_true] at h; rw [← h.1] at hM; exact hM
          · exact (of_pair h ▸ putP_pre L _).trans hM
        simp only [manyP, there_pre hL.length_le h1, of_pre hL h1, h2, h3]
        split at h
        · simp only [Prod.mk.injEq, and_true] at h; simp [h.2]
        · simp only [Prod.mk.injEq, and_true] at h; simp [h.2]
        · simpa using put_again h hM
theorem eq_again {L L' M : List Nd} {a b t : Int} (h : eqP L a b = (L', t, 0)) (hM : L' <+: M) : eqP M a b = (M, t, 0) := by
  unfold eqP at h
  split at h
  · simp at h
  · rename_i h1
    split at h
    · simp at h
    · rename_i h2
      have hL : L <+: M := (of_pair h ▸ putP_pre L _).trans hM
      simp only [Bool.not_eq_false] at h1 h2
      have ha := there_in h1 (x := a) (by simp)
      have hb := there_in h1 (x := b) (by simp)
      have h3 : thereB L.length [b] = true := by simp [thereB]; omega
      simp only [eqP, there_pre hL.length_le h1, sort_pre hL ha.1 ha.2, of_pre hL h3, h2]
      simpa using put_again h hM
theorem ite_again {L L' M : List Nd} {c a b t : Int} (h : iteP L c a b = (L', t, 0)) (hM : L' <+: M) : iteP M c a b = (M, t, 0) := by
  unfold iteP at h
  split at h
  · simp at h
  · rename_i h1
    split at h
    · simp at h
    · rename_i h2
      have hL : L <+: M := (of_pair h ▸ putP_pre L _).trans hM
      simp only [Bool.not_eq_false] at h1
      have ha := there_in h1 (x := a) (by simp)
      have hb := there_in h1 (x := b) (by simp)
      have hc := there_in h1 (x := c) (by simp)
      have h3 : thereB L.length [b] = true := by simp [thereB]; omega
      have h4 : thereB L.length [c] = true := by simp [thereB]; omega
      simp only [iteP, there_pre hL.length_le h1, sort_pre hL ha.1 ha.2, of_pre hL h3, of_pre hL h4, h2]
      simpa using put_again h hM
theorem app_again {L L' M : List Nd} {fn sort t : Int} {l : List Int} (h : appP L fn sort l = (L', t, 0)) (hM : L' <+: M) : appP M fn sort l = (M, t, 0) := by
  unfold appP at h
  split at h
  · simp at h
  · rename_i h0
    split at h
    · simp at h
    · rename_i h1
      split at h
      · simp at h
      · rename_i h2
        have hL : L <+: M := (of_pair h ▸ putP_pre L _).trans hM
        simp only [Bool.not_eq_false] at h1
        simp only [appP, there_pre hL.length_le h1, h0, h2]
        simpa using put_again h hM
theorem num_again {L L' M : List Nd} {n t : Int} (h : numP L n = (L', t, 0)) (hM : L' <+: M) : numP M n = (M, t, 0) := by
  unfold numP at h
  split at h
  · simp at h
  · rename_i h1
    simp only [numP, h1]
    simpa using put_again h hM
theorem numP_pre (L : List Nd) (n : Int) : L <+: (numP L n).1 := by
  unfold numP
  split
  · exact List.prefix_refl _
  · exact putP_pre _ _
theorem plus_again {L L' M : List Nd} {a n t : Int} (h : plusP L a n = (L', t, 0)) (hM : L' <+: M) : plusP M a n = (M, t, 0) := by
  unfold plusP at h
  rcases hs : splitP L a with ⟨b, p, e⟩
  rw [hs] at h
  simp only at h
  split at h
  · simp only [Prod.mk.injEq] at h; omega
  · rename_i he
    obtain rfl : e = 0 := by omega
    have hth := split_there hs
    split at h
    · simp at h
    · rename_i hb
      split at h
      · rename_i h2
        have hL : L <+: M := (of_pair h ▸ numP_pre L _).trans hM
        unfold plusP
        rw [split_pre hL hth, hs]
        simp only [ne_eq, not_true_eq_false, if_false, hb, if_pos h2]
        exact num_again h hM
      · rename_i h2
        split at h
        · rename_i h3
          simp only [Prod.mk.injEq, and_true] at h
          obtain ⟨rfl, rfl⟩ := h
          unfold plusP
          rw [split_pre hM hth, hs]
          simp only [ne_eq, not_true_eq_false, if_false, hb, if_neg h2, if_pos h3]
        · rename_i h3
          have hL : L <+: M := (of_pair h ▸ putP_pre L _).trans hM
          unfold plusP
          rw [split_pre hL hth, hs]
          simp only [ne_eq, not_true_eq_false, if_false, hb, if_neg h2, if_neg h3]
          exact put_again h hM
theorem le_again {L L' M : List Nd} {a b n t : Int} (h : leP L a b n = (L', t, 0)) (hM : L' <+: M) : leP M a b n = (M, t, 0) := by
  unfold leP at h
  split at h
  · simp at h
  · rename_i hth0
    simp only [Bool.not_eq_false] at hth0
    rcases hs : splitP L a with ⟨x, p, e⟩
    rcases hs2 : splitP L b with ⟨y, q, f⟩
    rw [hs, hs2] at h
    simp only at h
    have ha := there_in hth0 (x := a) (by simp)
    have hb := there_in hth0 (x := b) (by simp)
    have h3 : thereB L.length [a] = true := by simp [thereB]; omega
    have h4 : thereB L.length [b] = true := by simp [thereB]; omega
    have key : L <+: M → leP M a b n = (if e ≠ 0 ∨ f ≠ 0 then (M, 0, 60) else
      if boundB n = false ∨ boundB (n + (q - p)) = false then (M, 0, 6) else if x = y ∧ 0 ≤ n + (q - p) then (M, 0, 0) else if x = y then (M, 1, 0)
      else putP M ⟨8, 0, n + (q - p), 0, [x, y]⟩) := fun hL => by
      unfold leP
      simp only [there_pre hL.length_le hth0, split_pre hL h3, split_pre hL h4, hs, hs2]
      simp
    split at h
    · simp at h
    · rename_i he
      split at h
      · simp at h
      · rename_i hbb
        split at h
        · rename_i g1
          simp only [Prod.mk.injEq, and_true] at h
          obtain ⟨rfl, rfl⟩ := h
          rw [key hM, if_neg he, if_neg hbb, if_pos g1]
        · rename_i g1
          split at h
          · rename_i g2
            simp only [Prod.mk.injEq, and_true] at h
            obtain ⟨rfl, rfl⟩ := h
            rw [key hM, if_neg he, if_neg hbb, if_neg g1, if_pos g2]
          · rename_i g2
            have hL : L <+: M := (of_pair h ▸ putP_pre L _).trans hM
            rw [key hL, if_neg he, if_neg hbb, if_neg g1, if_neg g2]
            exact put_again h hM
theorem call_again {L L' M : List Nd} {o : OpV} {t : Int} (h : callP L o = (L', t, 0)) (hM : L' <+: M) (hk : 0 ≤ o.kind ∧ o.kind ≤ 8) : callP M o = (M, t, 0) := by
  obtain ⟨hk1, hk2⟩ := hk
  have hc : o.kind = 0 ∨ o.kind = 1 ∨ o.kind = 2 ∨ o.kind = 3 ∨ o.kind = 4 ∨ o.kind = 5 ∨ o.kind = 6 ∨ o.kind = 7 ∨ o.kind = 8 := by omega
  unfold callP at h ⊢
  rcases hc with e | e | e | e | e | e | e | e | e <;> rw [e] at h ⊢ <;> simp only [if_true, if_false, Int.reduceEq, reduceIte] at h ⊢
  · exact not_again h hM
  · exact many_again h hM
  · exact many_again h hM
  · exact eq_again h hM
  · exact ite_again h hM
  · exact app_again h hM
  · exact num_again h hM
  · exact plus_again h hM
  · exact le_again h hM

/-- what the terms of a store are like -/
structure Good (L : List Nd) : Prop where
  small : ∀ (i : Nat) nd, L[i]? = some nd → ∀ a ∈ nd.args, 0 ≤ a ∧ a < i
  three : 3 ≤ L.length
  plus : ∀ nd ∈ L, nd.op = 4 → nd.args ≠ []
theorem good0 : Good L0 := by
  refine ⟨?_, by decide, ?_⟩
  · intro i nd h a ha
    have hm := List.mem_of_getElem? h
    simp only [L0, List.mem_cons, List.not_mem_nil, or_false] at hm
    rcases hm with rfl | rfl | rfl <;> simp at ha
  · intro nd hm
    simp only [L0, List.mem_cons, List.not_mem_nil, or_false] at hm
    rcases hm with rfl | rfl | rfl <;> simp
theorem good_put {L : List Nd} (g : Good L) {n : Nd} (h : thereB L.length n.args = true) (hp : n.op = 4 → n.args ≠ []) : Good (putP L n).1 := by
  unfold putP
  split
  · exact g
  · split
    · exact g
    · refine ⟨?_, by have := g.three; simp; omega, ?_⟩
      · intro i nd hi a ha
        rcases Nat.lt_or_ge i L.length with hl | hl
        · rw [List.getElem?_append_left hl] at hi
          exact g.small i nd hi a ha
        · rw [List.getElem?_append_right hl] at hi
          have hz : i - L.length = 0 := by
            have := (List.getElem?_eq_some_iff.1 hi).1
            simp at this; omega
          rw [hz] at hi
          simp at hi
          subst hi
          have := there_in h ha
          omega
      · intro nd hm
        rcases List.mem_append.1 hm with hm | hm
        · exact g.plus nd hm
        · simp at hm; subst hm; exact hp
theorem split_good {L : List Nd} (g : Good L) {a b o : Int} (h : splitP L a = (b, o, 0)) : 0 ≤ b ∧ b < L.length := by
  have ht := split_there h
  have ha := there_in ht (x := a) (by simp)
  have h3 := g.three
  unfold splitP at h
  rw [if_neg (by simp [ht])] at h
  split at h
  · simp at h
  · split at h
    · simp only [Prod.mk.injEq] at h; omega
    · split at h
      · rename_i h4
        simp only [Prod.mk.injEq, and_true] at h
        have hlt : a.toNat < L.length := by omega
        have hn : nodeAt L a = L[a.toNat] := by simp [nodeAt, List.getD_eq_getElem?_getD, hlt]
        rw [hn] at h h4
        have hne := g.plus _ (List.getElem_mem hlt) h4
        rcases hargs : (L[a.toNat]).args with _ | ⟨x, r⟩
        · exact absurd hargs hne
        · have hs := g.small a.toNat _ (List.getElem?_eq_getElem hlt) x (by rw [hargs]; simp)
          have hb : b = x := by rw [← h.1]; simp [argAt, hargs]
          omega
      · simp only [Prod.mk.injEq, and_true] at h
        omega
theorem good_num {L : List Nd} (g : Good L) (n : Int) : Good (numP L n).1 := by
  unfold numP
  split
  · exact g
  · exact good_put g (by simp [thereB]) (by simp)
theorem good_call {L : List Nd} (g : Good L) (o : OpV) : Good (callP L o).1 := by
  have hmany : ∀ op no l, op ≠ 4 → Good (manyP L op no l).1 := by
    intro op no l h4
    unfold manyP
    split
    · exact g
    · rename_i h1
      split
      · exact g
      · split
        · exact g
        · split
          · exact g
          · exact g
          · exact good_put g (by simpa using h1) (fun h => absurd h h4)
  unfold callP
  split
  · unfold notP
    split
    · exact g
    · rename_i h1
      split
      · exact g
      · exact good_put g (by simpa using h1) (by simp)
  split
  · exact hmany 10 0 _ (by omega)
  split
  · exact hmany 11 1 _ (by omega)
  split
  · unfold eqP
    split
    · exact g
    · rename_i h1
      split
      · exact g
      · exact good_put g (by simpa using h1) (by simp)
  split
  · unfold iteP
    split
    · exact g
    · rename_i h1
      split
      · exact g
      · exact good_put g (by simpa using h1) (by simp)
  split
  · unfold appP
    split
    · exact g
    · split
      · exact g
      · rename_i h1
        split
        · exact g
        · exact good_put g (by simpa using h1) (by simp)
  split
  · exact good_num g _
  split
  · unfold plusP
    rcases hs : splitP L o.a with ⟨b, p, e⟩
    simp only
    split
    · exact g
    · rename_i he
      obtain rfl : e = 0 := by omega
      have hb := split_good g hs
      split
      · exact g
      · split
        · exact good_num g _
        · split
          · exact g
          · exact good_put g (by simp [thereB]; omega) (by simp)
  split
  · unfold leP
    rcases hs : splitP L o.a with ⟨x, p, e⟩
    rcases hs2 : splitP L o.b with ⟨y, q, f⟩
    simp only
    split
    · exact g
    · split
      · exact g
      · rename_i he
        obtain ⟨rfl, rfl⟩ : e = 0 ∧ f = 0 := by omega
        have hx := split_good g hs
        have hy := split_good g hs2
        split
        · exact g
        · split
          · exact g
          · split
            · exact g
            · exact good_put g (by simp [thereB]; omega) (by simp)
  · exact g
theorem call_pre (L : List Nd) (o : OpV) : L <+: (callP L o).1 := by
  have hmany : ∀ op no l, L <+: (manyP L op no l).1 := by
    intro op no l
    unfold manyP
    repeat' split
    all_goals first | exact List.prefix_refl _ | exact putP_pre _ _
  unfold callP
  split
  · unfold notP
    repeat' split
    all_goals first | exact List.prefix_refl _ | exact putP_pre _ _
  split
  · exact hmany _ _ _
  split
  · exact hmany _ _ _
  split
  · unfold eqP
    repeat' split
    all_goals first | exact List.prefix_refl _ | exact putP_pre _ _
  split
  · unfold iteP
    repeat' split
    all_goals first | exact List.prefix_refl _ | exact putP_pre _ _
  split
  · unfold appP
    repeat' split
    all_goals first | exact List.prefix_refl _ | exact putP_pre _ _
  split
  · exact numP_pre _ _
  split
  · unfold plusP
    rcases hs : splitP L o.a with ⟨b, p, e⟩
    simp only
    repeat' split
    all_goals first | exact List.prefix_refl _ | exact numP_pre _ _ | exact putP_pre _ _
  split
  · unfold leP
    rcases hs : splitP L o.a with ⟨x, p, e⟩
    rcases hs2 : splitP L o.b with ⟨y, q, f⟩
    simp only
    repeat' split
    all_goals first | exact List.prefix_refl _ | exact putP_pre _ _
  · exact List.prefix_refl _
end Go.Proofs.Ytpkegeblfdlibaa
