/- The plain law of TermsSorts: the arguments of each term are of the sorts that it asks for, whatever calls are made. -/
import Derived.Test.YtpkegeblfdlibaaLawPure
namespace Go.Proofs.Ytpkegeblfdlibaa
set_option linter.unusedVariables false
set_option linter.unusedSimpArgs false

/-- of Int, and no numeral or plus -/
def BaseOk (L : List Nd) (a : Int) : Prop := sortOf L a = 1 ∧ (nodeAt L a).op ≠ 3 ∧ (nodeAt L a).op ≠ 4
/-- what a node's arguments are like -/
inductive SOk (L : List Nd) (nd : Nd) : Prop
  | plain : (nd.op = 1 ∨ nd.op = 2 ∨ nd.op = 3) → nd.args = [] → SOk L nd
  | app : nd.op = 5 → SOk L nd
  | not : nd.op = 9 → nd.sort = 0 → (∃ a, nd.args = [a] ∧ sortOf L a = 0) → SOk L nd
  | many : (nd.op = 10 ∨ nd.op = 11) → nd.sort = 0 → 2 ≤ nd.args.length → (∀ a ∈ nd.args, sortOf L a = 0) → SOk L nd
  | eq : nd.op = 7 → nd.sort = 0 → (∃ a b, nd.args = [a, b] ∧ sortOf L a = sortOf L b) → SOk L nd
  | ite : nd.op = 6 → (∃ c a b, nd.args = [c, a, b] ∧ sortOf L c = 0 ∧ sortOf L a = nd.sort ∧ sortOf L b = nd.sort) → SOk L nd
  | plus : nd.op = 4 → nd.sort = 1 → (∃ a, nd.args = [a] ∧ BaseOk L a) → SOk L nd
  | le : nd.op = 8 → nd.sort = 0 → (∃ a b, nd.args = [a, b] ∧ (a = 2 ∧ sortOf L a = 1 ∨ BaseOk L a) ∧ (b = 2 ∧ sortOf L b = 1 ∨ BaseOk L b)) → SOk L nd
structure Sorts (L : List Nd) : Prop where
  good : Good L
  zero : L0 <+: L
  ok : ∀ nd ∈ L, SOk L nd
theorem base_pre {L M : List Nd} (h : L <+: M) {a : Int} (h0 : 0 ≤ a) (h1 : a < L.length) (hb : BaseOk L a) : BaseOk M a := by
  unfold BaseOk at hb ⊢
  rw [sort_pre h h0 h1, node_pre h h0 h1]; exact hb
theorem sok_pre {L M : List Nd} (h : L <+: M) {nd : Nd} (ht : ∀ a ∈ nd.args, 0 ≤ a ∧ a < L.length) (hs : SOk L nd) : SOk M nd := by
  have hso : ∀ a ∈ nd.args, sortOf M a = sortOf L a := fun a ha => sort_pre h (ht a ha).1 (ht a ha).2
  cases hs with
  | plain h1 h2 => exact .plain h1 h2
  | app h1 => exact .app h1
  | not h1 h2 h3 =>
    obtain ⟨a, ha, hs⟩ := h3
    exact .not h1 h2 ⟨a, ha, by rw [hso a (by simp [ha])]; exact hs⟩
  | many h1 h2 h3 h4 => exact .many h1 h2 h3 (fun a ha => by rw [hso a ha]; exact h4 a ha)
  | eq h1 h2 h3 =>
    obtain ⟨a, b, ha, hs⟩ := h3
    exact .eq h1 h2 ⟨a, b, ha, by rw [hso a (by simp [ha]), hso b (by simp [ha])]; exact hs⟩
  | ite h1 h3 =>
    obtain ⟨c, a, b, ha, g1, g2, g3⟩ := h3
    exact .ite h1 ⟨c, a, b, ha, by rw [hso c (by simp [ha])]; exact g1, by rw [hso a (by simp [ha])]; exact g2, by rw [hso b (by simp [ha])]; exact g3⟩
  | plus h1 h2 h3 =>
    obtain ⟨a, ha, hs⟩ := h3
    have := ht a (by simp [ha])
    exact .plus h1 h2 ⟨a, ha, base_pre h this.1 this.2 hs⟩
  | le h1 h2 h3 =>
    obtain ⟨a, b, ha, g1, g2⟩ := h3
    have ta := ht a (by simp [ha])
    have tb := ht b (by simp [ha])
    refine .le h1 h2 ⟨a, b, ha, ?_, ?_⟩
    · rw [sort_pre h ta.1 ta.2]; exact g1.imp id (base_pre h ta.1 ta.2)
    · rw [sort_pre h tb.1 tb.2]; exact g2.imp id (base_pre h tb.1 tb.2)
theorem sorts0 : Sorts L0 := by
  refine ⟨good0, List.prefix_refl _, fun nd hm => ?_⟩
  simp only [L0, List.mem_cons, List.not_mem_nil, or_false] at hm
  rcases hm with rfl | rfl | rfl <;> exact .plain (by simp) rfl
theorem sorts_put {L : List Nd} (g : Sorts L) {n : Nd} (h : thereB L.length n.args = true) (hp : n.op = 4 → n.args ≠ []) (hs : SOk L n) : Sorts (putP L n).1 := by
  refine ⟨good_put g.good h hp, g.zero.trans (putP_pre L n), ?_⟩
  have hpre := putP_pre L n
  intro nd hm
  have hold : ∀ nd ∈ L, SOk (putP L n).1 nd := fun nd hm => by
    obtain ⟨i, hi, rfl⟩ := List.getElem_of_mem hm
    refine sok_pre hpre (fun a ha => ?_) (g.ok _ hm)
    have := g.good.small i _ (List.getElem?_eq_getElem hi) a ha
    omega
  have hnew : SOk (putP L n).1 n := sok_pre hpre (fun a ha => there_in h ha) hs
  by_cases hin : nd ∈ L
  · exact hold nd hin
  · have : nd = n := by
      unfold putP at hm
      split at hm
      · exact absurd hm hin
      · split at hm
        · exact absurd hm hin
        · rcases List.mem_append.1 hm with h | h
          · exact absurd h hin
          · simpa using h
    subst this
    exact hnew
theorem of_mem {L : List Nd} {s : Int} {l : List Int} (h : ofB L s l = true) {x : Int} (hx : x ∈ l) : sortOf L x = s := by
  simp only [ofB, List.all_eq_true, decide_eq_true_eq] at h
  exact h x hx
/-- a base is 2, or of Int and no numeral or plus -/
theorem split_base {L : List Nd} (g : Sorts L) {a b o : Int} (h : splitP L a = (b, o, 0)) : (b = 2 ∧ sortOf L b = 1) ∨ (BaseOk L b ∧ b ≠ 2) := by
  have ht := split_there h
  have ha := there_in ht (x := a) (by simp)
  have hz : nodeAt L 2 = ⟨3, 0, 0, 1, []⟩ := by rw [node_pre g.zero (by omega) (by simp [L0])]; rfl
  unfold splitP at h
  rw [if_neg (by simp [ht])] at h
  split at h
  · simp at h
  · rename_i h1
    have hlt : a.toNat < L.length := by omega
    have hn : nodeAt L a = L[a.toNat] := by simp [nodeAt, List.getD_eq_getElem?_getD, hlt]
    split at h
    · simp only [Prod.mk.injEq] at h
      obtain ⟨rfl, _⟩ := h
      exact .inl ⟨rfl, by show (nodeAt L 2).sort = 1; rw [hz]⟩
    · rename_i h3
      split at h
      · rename_i h4
        simp only [Prod.mk.injEq, and_true] at h
        have hm : nodeAt L a ∈ L := by rw [hn]; exact List.getElem_mem hlt
        have hs := g.ok _ hm
        cases hs with
        | plus _ _ h5 =>
          obtain ⟨x, hx, hb⟩ := h5
          obtain rfl : b = x := by rw [← h.1]; simp [argAt, hx]
          refine .inr ⟨hb, ?_⟩
          rintro rfl
          exact hb.2.1 (by rw [hz])
        | plain h5 _ => omega
        | app h5 => omega
        | not h5 => omega
        | many h5 => omega
        | eq h5 => omega
        | ite h5 => omega
        | le h5 => omega
      · rename_i h4
        simp only [Prod.mk.injEq, and_true] at h
        obtain ⟨rfl, _⟩ := h
        refine .inr ⟨⟨Decidable.not_not.1 h1, h3, h4⟩, ?_⟩
        rintro rfl
        exact h3 (by rw [hz])
theorem sorts_num {L : List Nd} (g : Sorts L) (n : Int) : Sorts (numP L n).1 := by
  unfold numP
  split
  · exact g
  · exact sorts_put g (by simp [thereB]) (by simp) (.plain (by simp) rfl)
theorem sorts_call {L : List Nd} (g : Sorts L) (o : OpV) : Sorts (callP L o).1 := by
  have hmany : ∀ op no l, (op = 10 ∨ op = 11) → Sorts (manyP L op no l).1 := by
    intro op no l h4
    unfold manyP
    split
    · exact g
    · rename_i h1
      split
      · exact g
      · split
        · exact g
        · rename_i h3
          simp only [Bool.not_eq_false] at h3
          split
          · exact g
          · exact g
          · rename_i h5 h6
            refine sorts_put g (by simpa using h1) (fun h => by simp only at h; omega) (.many h4 rfl ?_ (fun a ha => of_mem h3 ha))
            rcases l with _ | ⟨x, _ | ⟨y, r⟩⟩
            · exact absurd rfl h5
            · exact absurd rfl (h6 x)
            · simp
  unfold callP
  split
  · unfold notP
    split
    · exact g
    · rename_i h1
      split
      · exact g
      · rename_i h2
        simp only [Bool.not_eq_false] at h2
        exact sorts_put g (by simpa using h1) (by simp) (.not rfl rfl ⟨_, rfl, of_mem h2 (by simp)⟩)
  split
  · exact hmany 10 0 _ (by omega)
  split
  · exact hmany 11 1 _ (by omega)
  split
  · unfold eqP
    split
    · exact g
    · rename_i h1
      split
      · exact g
      · rename_i h2
        simp only [Bool.not_eq_false] at h2
        exact sorts_put g (by simpa using h1) (by simp) (.eq rfl rfl ⟨_, _, rfl, (of_mem h2 (by simp)).symm⟩)
  split
  · unfold iteP
    split
    · exact g
    · rename_i h1
      split
      · exact g
      · rename_i h2
        simp only [not_or, Bool.not_eq_false] at h2
        exact sorts_put g (by simpa using h1) (by simp) (.ite rfl ⟨_, _, _, rfl, of_mem h2.1 (by simp), rfl, of_mem h2.2 (by simp)⟩)
  split
  · unfold appP
    split
    · exact g
    · split
      · exact g
      · rename_i h1
        split
        · exact g
        · exact sorts_put g (by simpa using h1) (by simp) (.app rfl)
  split
  · exact sorts_num g _
  split
  · unfold plusP
    rcases hs : splitP L o.a with ⟨b, p, e⟩
    simp only
    split
    · exact g
    · rename_i he
      obtain rfl : e = 0 := by omega
      have hb := split_good g.good hs
      split
      · exact g
      · split
        · exact sorts_num g _
        · rename_i h2
          split
          · exact g
          · refine sorts_put g (by simp [thereB]; omega) (by simp) (.plus rfl rfl ⟨_, rfl, ?_⟩)
            rcases split_base g hs with h | h
            · exact absurd h.1 h2
            · exact h.1
  split
  · unfold leP
    rcases hs : splitP L o.a with ⟨x, p, e⟩
    rcases hs2 : splitP L o.b with ⟨y, q, f⟩
    simp only
    split
    · exact g
    · split
      · exact g
      · rename_i he
        obtain ⟨rfl, rfl⟩ : e = 0 ∧ f = 0 := by omega
        have hx := split_good g.good hs
        have hy := split_good g.good hs2
        split
        · exact g
        · split
          · exact g
          · split
            · exact g
            · exact sorts_put g (by simp [thereB]; omega) (by simp) (.le rfl rfl ⟨_, _, rfl, (split_base g hs).imp id (·.1), (split_base g hs2).imp id (·.1)⟩)
  · exact g
def baseB (op : Int) : Bool := decide (op ≠ 3) && decide (op ≠ 4)
theorem baseB_of {L : List Nd} {a : Int} (h : BaseOk L a) : baseB (nodeAt L a).op = true := by simp [baseB, h.2.1, h.2.2]
theorem sok_arg {L : List Nd} {nd : Nd} (h : SOk L nd) (r : Nat) (hr : r < nd.args.length) :
    nd.op = 5 ∨ ((nd.op = 9 ∨ nd.op = 10 ∨ nd.op = 11) ∧ sortOf L nd.args[r] = 0) ∨ (nd.op = 7 ∧ sortOf L nd.args[r] = sortOf L (nd.args.getD 0 0)) ∨ (nd.op = 4 ∧ sortOf L nd.args[r] = 1 ∧ baseB (nodeAt L nd.args[r]).op = true) ∨
    (nd.op = 8 ∧ sortOf L nd.args[r] = 1 ∧ (nd.args[r] = 2 ∨ baseB (nodeAt L nd.args[r]).op = true)) ∨ (nd.op = 6 ∧ (r = 0 ∧ sortOf L nd.args[r] = 0 ∨ 0 < r ∧ sortOf L nd.args[r] = nd.sort)) := by
  obtain ⟨op, fn, num, sort, args⟩ := nd
  simp only at hr ⊢
  cases h with
  | plain _ h2 => simp only at h2; subst h2; simp at hr
  | app h1 => exact .inl h1
  | not h1 _ h3 =>
    obtain ⟨a, h3, h4⟩ := h3
    simp only at h1 h3; subst h3
    obtain rfl : r = 0 := by simp at hr; exact hr
    exact .inr (.inl ⟨.inl h1, h4⟩)
  | many h1 _ _ h4 => exact .inr (.inl ⟨by simp only at h1; omega, h4 _ (List.getElem_mem hr)⟩)
  | eq h1 _ h3 =>
    obtain ⟨a, b, h3, h4⟩ := h3
    simp only at h1 h3; subst h3
    refine .inr (.inr (.inl ⟨h1, ?_⟩))
    have : r = 0 ∨ r = 1 := by simp at hr; omega
    rcases this with rfl | rfl
    · rfl
    · exact h4.symm
  | plus h1 _ h3 =>
    obtain ⟨a, h3, h4⟩ := h3
    simp only at h1 h3; subst h3
    obtain rfl : r = 0 := by simp at hr; exact hr
    exact .inr (.inr (.inr (.inl ⟨h1, h4.1, baseB_of h4⟩)))
  | le h1 _ h3 =>
    obtain ⟨a, b, h3, h4, h5⟩ := h3
    simp only at h1 h3; subst h3
    refine .inr (.inr (.inr (.inr (.inl ⟨h1, ?_⟩))))
    have : r = 0 ∨ r = 1 := by simp at hr; omega
    rcases this with rfl | rfl
    · exact ⟨h4.elim (·.2) (·.1), h4.imp (·.1) baseB_of⟩
    · exact ⟨h5.elim (·.2) (·.1), h5.imp (·.1) baseB_of⟩
  | ite h1 h3 =>
    obtain ⟨c, a, b, h3, h4, h5, h6⟩ := h3
    simp only at h1 h3; subst h3
    refine .inr (.inr (.inr (.inr (.inr ⟨h1, ?_⟩))))
    have : r = 0 ∨ r = 1 ∨ r = 2 := by simp at hr; omega
    rcases this with rfl | rfl | rfl
    · exact .inl ⟨rfl, h4⟩
    · exact .inr ⟨by omega, h5⟩
    · exact .inr ⟨by omega, h6⟩
theorem sok_len {L : List Nd} {nd : Nd} (h : SOk L nd) : nd.op = 1 ∨ nd.op = 2 ∨ nd.op = 3 ∨ nd.op = 5 ∨ nd.op = 4 ∨ (nd.op = 9 ∧ nd.args.length = 1 ∧ nd.sort = 0) ∨ (nd.op = 10 ∧ 2 ≤ nd.args.length ∧ nd.sort = 0) ∨ (nd.op = 11 ∧ 2 ≤ nd.args.length ∧ nd.sort = 0) ∨
    (nd.op = 7 ∧ nd.args.length = 2 ∧ nd.sort = 0) ∨ (nd.op = 8 ∧ nd.args.length = 2 ∧ nd.sort = 0) ∨ (nd.op = 6 ∧ nd.args.length = 3) := by
  cases h with
  | plain h1 _ => rcases h1 with h1 | h1 | h1 <;> simp [h1]
  | app h1 => simp [h1]
  | not h1 h2 h3 => obtain ⟨a, h3, _⟩ := h3; simp [h1, h2, h3]
  | many h1 h2 h3 _ => rcases h1 with h1 | h1 <;> simp [h1, h2, h3]
  | eq h1 h2 h3 => obtain ⟨a, b, h3, _⟩ := h3; simp [h1, h2, h3]
  | plus h1 _ _ => simp [h1]
  | le h1 h2 h3 => obtain ⟨a, b, h3, _⟩ := h3; simp [h1, h2, h3]
  | ite h1 h3 => obtain ⟨c, a, b, h3, _⟩ := h3; simp [h1, h3]
end Go.Proofs.Ytpkegeblfdlibaa
