/- What a store of terms is in memory. -/
import Derived.Test.YtpkegeblfdlibaaWalk1
namespace Go.Proofs.Ytpkegeblfdlibaa
open Go Go.RowKit
set_option linter.unusedVariables false
set_option linter.unusedSimpArgs false

def nodeCells (nd : Nd) (v : Value) : List Value := [.int .u8 nd.op, .int .i64 nd.fn, .int .i64 nd.num, .int .i64 nd.sort, v]
/-- the cells cs hold the nodes L; what their arguments are lies in blocks of F -/
def NodesAt (F : Nat → Prop) (w : World) (L : List Nd) (cs : List Value) : Prop :=
  cs.length = L.length * 5 ∧ ∀ i nd, L[i]? = some nd → ∃ v, (∀ j, j < 5 → cs[i * 5 + j]? = (nodeCells nd v)[j]?) ∧ w.ownsRow 0 30 1 v nd.args.length (nums nd.args) ∧ ∀ k, v.ownBlock = some k → F k
theorem NodesAt.nil (F : Nat → Prop) (w : World) : NodesAt F w [] [] := ⟨rfl, fun i nd h => by simp at h⟩
theorem NodesAt.fr {F G : Nat → Prop} {w w' : World} {L : List Nd} {cs : List Value} (h : NodesAt F w L cs) (hf : Fr G w w') (hn : ∀ k, k < w.heap.size → F k → ¬ G k) : NodesAt F w' L cs := by
  refine ⟨h.1, fun i nd hi => ?_⟩
  obtain ⟨v, h1, h2, h3⟩ := h.2 i nd hi
  exact ⟨v, h1, hf.own h2 (fun k hk => hn k (h2.lt k hk).2 (h3 k hk)), h3⟩
theorem NodesAt.fr' {F G : Nat → Prop} {w w' : World} {L : List Nd} {cs : List Value} (h : NodesAt F w L cs) (hf : Fr G w w') (hn : ∀ k cur, w.heap[k]? = some (.cells cur 30 (0, 0)) → F k → ¬ G k) : NodesAt F w' L cs := by
  refine ⟨h.1, fun i nd hi => ?_⟩
  obtain ⟨v, h1, h2, h3⟩ := h.2 i nd hi
  exact ⟨v, h1, hf.own h2 (fun k hk => by obtain ⟨cur, hc⟩ := own_block h2 hk; exact hn k cur hc (h3 k hk)), h3⟩
theorem NodesAt.mono {F G : Nat → Prop} {w : World} {L : List Nd} {cs : List Value} (h : NodesAt F w L cs) (hn : ∀ k, F k → G k) : NodesAt G w L cs := by
  refine ⟨h.1, fun i nd hi => ?_⟩
  obtain ⟨v, h1, h2, h3⟩ := h.2 i nd hi
  exact ⟨v, h1, h2, fun k hk => hn k (h3 k hk)⟩
theorem NodesAt.snoc {F : Nat → Prop} {w : World} {L : List Nd} {cs : List Value} (h : NodesAt F w L cs) {nd : Nd} {v : Value} (ho : w.ownsRow 0 30 1 v nd.args.length (nums nd.args)) (hv : ∀ k, v.ownBlock = some k → F k) : NodesAt F w (L ++ [nd]) (cs ++ nodeCells nd v) := by
  refine ⟨by simp [h.1, nodeCells]; omega, fun i nd' hi => ?_⟩
  rcases Nat.lt_or_ge i L.length with hl | hl
  · rw [List.getElem?_append_left hl] at hi
    obtain ⟨v', h1, h2, h3⟩ := h.2 i nd' hi
    refine ⟨v', fun j hj => ?_, h2, h3⟩
    rw [List.getElem?_append_left (by rw [h.1]; omega)]
    exact h1 j hj
  · have hl' : i = L.length := by
      have := (List.getElem?_eq_some_iff.1 hi).1
      simp at this
      omega
    subst hl'
    obtain rfl : nd = nd' := by simpa using hi
    refine ⟨v, fun j hj => ?_, ho, hv⟩
    rw [List.getElem?_append_right (by rw [h.1]; omega), h.1, Nat.add_sub_cancel_left]

theorem idx_get {α : Type} [BEq α] [LawfulBEq α] {l : List α} {x : α} (h : x ∈ l) : l[l.idxOf x]? = some x := by
  have hl := List.idxOf_lt_length_iff.2 h
  rw [List.getElem?_eq_getElem hl, List.getElem_idxOf hl]
/-- a cell of the lists -/
def cellV (c : Int × Int) : Value := .agg #[.int .i64 c.1, .int .i64 c.2]
def keyV (nd : Nd) (c : Int) : Value := .agg #[.int .u8 nd.op, .int .i64 nd.fn, .int .i64 nd.num, .int .i64 nd.sort, .int .i64 c]
def S75 (v : Value) : Prop := ∃ c : Int × Int, i64 c.1 ∧ i64 c.2 ∧ v = cellV c
def S72 (v : Value) : Prop := ∃ nd c, NdOk nd ∧ i64 c ∧ v = keyV nd c
/-- the lists: T, each cell with its number -/
structure Lists (T : List (Int × Int)) (f : Value → Option Value) : Prop where
  nodup : T.Nodup
  look : ∀ c : Int × Int, (c ∈ T ∧ f (cellV c) = some (.int .i64 ((T.idxOf c : Nat) + 1 : Int))) ∨ (f (cellV c) = none ∧ c ∉ T)
/-- the terms: each node with its number -/
structure Terms (T : List (Int × Int)) (L : List Nd) (f : Value → Option Value) : Prop where
  nodup : L.Nodup
  ok : ∀ nd ∈ L, NdOk nd
  code : ∀ nd ∈ L, ∃ c, Code T c nd.args
  look : ∀ nd c, Code T c nd.args → nd ∈ L → f (keyV nd c) = some (.int .i64 (L.idxOf nd : Nat))
  dom : ∀ x v, f x = some v → ∃ nd c, nd ∈ L ∧ Code T c nd.args ∧ x = keyV nd c

theorem cellV_inj {a b : Int × Int} (h : cellV a = cellV b) : a = b := by
  obtain ⟨a1, a2⟩ := a; obtain ⟨b1, b2⟩ := b
  simp [cellV] at h; simp [h]
theorem keyV_inj {a b : Nd} {c d : Int} (h : keyV a c = keyV b d) : a.op = b.op ∧ a.fn = b.fn ∧ a.num = b.num ∧ a.sort = b.sort ∧ c = d := by
  simp [keyV] at h; exact h
open Classical in
theorem Lists.push {T : List (Int × Int)} {f : Value → Option Value} (h : Lists T f) {c : Int × Int} (hn : c ∉ T) : Lists (T ++ [c]) (fun y => if y = cellV c then some (.int .i64 ((T.length : Int) + 1)) else f y) := by
  refine ⟨?_, fun d => ?_⟩
  · rw [List.nodup_append]
    exact ⟨h.nodup, by simp, by intro a ha b hb e; simp at hb; subst hb; subst e; exact hn ha⟩
  · by_cases hd : d = c
    · subst hd
      refine .inl ⟨by simp, ?_⟩
      simp only [if_pos]
      rw [List.idxOf_append, if_neg hn]; simp
    · have hv : cellV d ≠ cellV c := fun e => hd (cellV_inj e)
      simp only [if_neg hv]
      rcases h.look d with ⟨h1, h2⟩ | ⟨h1, h2⟩
      · refine .inl ⟨by simp [h1], ?_⟩
        rw [h2, List.idxOf_append, if_pos h1]
      · exact .inr ⟨h1, by simp [h2, hd]⟩
theorem Terms.miss {T : List (Int × Int)} {L : List Nd} {f : Value → Option Value} (h : Terms T L f) {nd : Nd} {c : Int} (hc : Code T c nd.args) (hn : nd ∉ L) : f (keyV nd c) = none := by
  rcases hf : f (keyV nd c) with _ | v
  · rfl
  · obtain ⟨nd', c', hm, hc', he⟩ := h.dom _ _ hf
    obtain ⟨e1, e2, e3, e4, e5⟩ := keyV_inj he
    subst e5
    have e6 := hc.fun_ hc'
    have : nd = nd' := by cases nd; cases nd'; simp_all
    subst this
    exact absurd hm hn
theorem Terms.ext {T T' : List (Int × Int)} {L : List Nd} {f : Value → Option Value} (h : Terms T L f) (hT : T'.Nodup) (hx : ∀ (i : Nat) (x : Int × Int), T[i]? = some x → T'[i]? = some x) : Terms T' L f := by
  refine ⟨h.nodup, h.ok, fun nd hn => ?_, fun nd c hc hn => ?_, fun x v hf => ?_⟩
  · obtain ⟨c, hc⟩ := h.code nd hn; exact ⟨c, hc.ext hx⟩
  · obtain ⟨c', hc'⟩ := h.code nd hn
    have : c = c' := hc.inj hT (hc'.ext hx)
    subst this
    exact h.look nd c hc' hn
  · obtain ⟨nd, c, h1, h2, h3⟩ := h.dom x v hf
    exact ⟨nd, c, h1, h2.ext hx, h3⟩
open Classical in
theorem Terms.push {T : List (Int × Int)} {L : List Nd} {f : Value → Option Value} (h : Terms T L f) (hT : T.Nodup) {nd : Nd} {c : Int} (hc : Code T c nd.args) (hn : nd ∉ L) (hok : NdOk nd) :
    Terms T (L ++ [nd]) (fun y => if y = keyV nd c then some (.int .i64 L.length) else f y) := by
  refine ⟨?_, ?_, ?_, fun nd' c' hc' hm => ?_, fun x v hf => ?_⟩
  · rw [List.nodup_append]
    exact ⟨h.nodup, by simp, by intro a ha b hb e; simp at hb; subst hb; subst e; exact hn ha⟩
  · intro nd' hm
    rcases List.mem_append.1 hm with h' | h'
    · exact h.ok _ h'
    · simp at h'; subst h'; exact hok
  · intro nd' hm
    rcases List.mem_append.1 hm with h' | h'
    · exact h.code _ h'
    · simp at h'; subst h'; exact ⟨c, hc⟩
  · by_cases hd : nd' = nd
    · subst hd
      obtain rfl := hc.inj hT hc'
      simp only [if_pos]
      rw [List.idxOf_append, if_neg hn]; simp
    · have hv : keyV nd' c' ≠ keyV nd c := fun e => hd (by
        obtain ⟨e1, e2, e3, e4, e5⟩ := keyV_inj e
        subst e5
        have e6 := hc'.fun_ hc
        cases nd; cases nd'; simp_all)
      have hm' : nd' ∈ L := by
        rcases List.mem_append.1 hm with h' | h'
        · exact h'
        · simp at h'; exact absurd h' hd
      simp only [if_neg hv]
      rw [h.look nd' c' hc' hm', List.idxOf_append, if_pos hm']
  · by_cases hx : x = keyV nd c
    · exact ⟨nd, c, by simp, hc, hx⟩
    · simp only [if_neg hx] at hf
      obtain ⟨nd', c', h1, h2, h3⟩ := h.dom x v hf
      exact ⟨nd', c', by simp [h1], h2, h3⟩

/-- the blocks of a store: those that are written, those that are only read -/
structure Foot where
  m : Nat → Prop
  r : Nat → Prop
/-- a store of the terms L, at p; all its blocks are F's -/
structure StoreAt (w : World) (p : Nat) (L : List Nd) (F : Foot) (N : Nat) : Prop where
  ex : ∃ (v : Value) (mt ml : Nat) (cs : List Value) (T : List (Int × Int)) (ft fl : Value → Option Value),
    w.heap[p]? = some (.cells #[v, .map (some mt), .map (some ml)] 57 (0, 0)) ∧
    w.ownsRow 0 44 5 v L.length cs ∧ NodesAt F.r w L cs ∧
    MapF S72 w mt ft L.length ∧ MapF S75 w ml fl T.length ∧ mt ≠ ml ∧ Lists T fl ∧ Terms T L ft ∧ T.length ≤ N ∧
    F.m p ∧ F.m mt ∧ F.m ml ∧ ∀ k, v.ownBlock = some k → F.m k
  lt : ∀ k, F.m k ∨ F.r k → k < w.heap.size
  sep : ∀ k, F.r k → ¬ F.m k
  len : L.length ≤ 20000
theorem StoreAt.fr {w w' : World} {p : Nat} {L : List Nd} {F : Foot} {G : Nat → Prop} {N : Nat} (h : StoreAt w p L F N) (hf : Fr G w w') (hn : ∀ k, F.m k ∨ F.r k → ¬ G k) : StoreAt w' p L F N := by
  obtain ⟨⟨v, mt, ml, cs, T, ft, fl, h1, h2, h3, h4, h5, h6, h7, h8, h9, hp, hmt, hml, hv⟩, hlt, hsep, hlen⟩ := h
  exact ⟨⟨v, mt, ml, cs, T, ft, fl, hf.heap h1 (hn p (.inl hp)), hf.own h2 (fun k hk => hn k (.inl (hv k hk))), h3.fr hf (fun k _ hk => hn k (.inr hk)), h4.fr hf (hn mt (.inl hmt)), h5.fr hf (hn ml (.inl hml)), h6, h7, h8, h9, hp, hmt, hml, hv⟩, fun k hk => hf.lt (hlt k hk), hsep, hlen⟩
theorem StoreAt.below {w w' : World} {p : Nat} {L : List Nd} {F : Foot} {N : Nat} (h : StoreAt w p L F N) (hb : Below w.heap.size w w') : StoreAt w' p L F N :=
  h.fr (Fr.of_below (F := fun _ => False) hb) (fun _ _ h => h)
/-- what a reader wants of it -/
theorem StoreAt.read {w : World} {p : Nat} {L : List Nd} {F : Foot} {N : Nat} (h : StoreAt w p L F N) : ∃ (A : Option Addr) (cap m : Nat), w.cell? ⟨p, 0, none⟩ = some (.slice A L.length cap) ∧ w.cell? ⟨p, 1, none⟩ = some (.map (some m)) ∧ p < w.heap.size ∧
    ∀ (i : Nat) nd, L[i]? = some nd → ∃ g B c, A = some ⟨g, 0, none⟩ ∧ (∀ j, j < 5 → w.cell? ⟨g, i * 5 + j, none⟩ = (nodeCells nd (.slice B nd.args.length c))[j]?) ∧ w.ownsRow 0 30 1 (.slice B nd.args.length c) nd.args.length (nums nd.args) ∧ IntsAt w B nd.args ∧ nd.args.length ≤ c ∧ NdOk nd := by
  obtain ⟨⟨v, mt, ml, cs, T, ft, fl, h1, h2, h3, h4, h5, h6, h7, h8, h9, hp, hmt, hml, hv⟩, hlt, hsep, hlen⟩ := h
  obtain ⟨A, cap, rfl⟩ : ∃ A cap, v = .slice A L.length cap := by
    rcases h2.2 with ⟨rfl, h0⟩ | ⟨g, cap, cur, rfl, _⟩
    · exact ⟨none, 0, by rw [h0]⟩
    · exact ⟨_, cap, rfl⟩
  refine ⟨A, cap, mt, cell_of_heap h1 rfl, cell_of_heap h1 rfl, lt_of_heap h1, fun i nd hi => ?_⟩
  obtain ⟨v', g1, g2, g3⟩ := h3.2 i nd hi
  have hil := (List.getElem?_eq_some_iff.1 hi).1
  rcases h2.2 with ⟨_, h0⟩ | ⟨g, cap', cur, hv', _⟩
  · omega
  · obtain ⟨rfl, _⟩ : A = some ⟨g, 0, none⟩ ∧ True := by cases hv'; simp
    obtain ⟨B, c, rfl, _, _, hc, hB, _⟩ := own_ints g2
    refine ⟨g, B, c, rfl, fun j hj => ?_, g2, hB, hc, h8.ok nd (List.mem_of_getElem? hi)⟩
    have hlt' : i * 5 + j < cs.length := by rw [h3.1]; omega
    have e1 := h2.cells (g := g) rfl (i * 5 + j) cs[i * 5 + j] (by rw [List.getElem?_eq_getElem])
    rw [add_plain] at e1
    rw [e1, ← g1 j hj, List.getElem?_eq_getElem hlt']

/-- a call that may write the store: from F to F', and nothing else -/
structure Upd (F F' : Foot) (w w' : World) : Prop where
  fr : Fr F.m w w'
  grow : ∀ k, F'.m k → F.m k ∨ w.heap.size ≤ k
  growr : ∀ k, F'.r k → F.r k ∨ w.heap.size ≤ k
theorem Upd.refl (F : Foot) (w : World) : Upd F F w w := ⟨Fr.refl _ _, fun _ h => .inl h, fun _ h => .inl h⟩
theorem Upd.of_below {F : Foot} {w w' : World} (h : Below w.heap.size w w') : Upd F F w w' := ⟨Fr.of_below h, fun _ h => .inl h, fun _ h => .inl h⟩
theorem Upd.trans {F G H : Foot} {a b c : World} (h : Upd F G a b) (k : Upd G H b c) : Upd F H a c :=
  ⟨h.fr.trans' k.fr h.grow, fun i hi => (k.grow i hi).elim (fun hg => h.grow i hg) (fun h' => .inr (Nat.le_trans h.fr.size h')), fun i hi => (k.growr i hi).elim (fun hg => h.growr i hg) (fun h' => .inr (Nat.le_trans h.fr.size h'))⟩
/-- what a call that makes a term tells -/
def Made (w : World) (p : Nat) (F : Foot) (N : Nat) (r : List Nd × Int × Int) (e : Ending) (w' : World) : Prop :=
  ∃ F', e = .returned (.tuple #[.int .i64 r.2.1, .int .i64 r.2.2]) ∧ StoreAt w' p r.1 F' (N + 100000) ∧ Upd F F' w w'
theorem StoreAt.le {w : World} {p : Nat} {L : List Nd} {F : Foot} {N M : Nat} (h : StoreAt w p L F N) (hM : N ≤ M) : StoreAt w p L F M := by
  obtain ⟨⟨v, mt, ml, cs, T, ft, fl, h1, h2, h3, h4, h5, h6, h7, h8, h9, r⟩, hlt, hsep, hlen⟩ := h
  exact ⟨⟨v, mt, ml, cs, T, ft, fl, h1, h2, h3, h4, h5, h6, h7, h8, by omega, r⟩, hlt, hsep, hlen⟩
theorem Made.same {w w' : World} {p : Nat} {L : List Nd} {F : Foot} {N : Nat} {r : List Nd × Int × Int} {t e : Int} (hs : StoreAt w p L F N) (hb : Below w.heap.size w w') (hr : r = (L, t, e)) : Made w p F N r (.returned (.tuple #[.int .i64 t, .int .i64 e])) w' := by
  subst hr
  exact ⟨F, rfl, (hs.below hb).le (by omega), Upd.of_below hb⟩
theorem Made.after {w w1 w' : World} {p : Nat} {F F' : Foot} {N : Nat} {r r' : List Nd × Int × Int} (hb : Below w.heap.size w w1) (hr : r = r') (hst : StoreAt w' p r'.1 F' (N + 100000)) (hu : Upd F F' w1 w') : Made w p F N r (.returned (.tuple #[.int .i64 r'.2.1, .int .i64 r'.2.2])) w' := by
  subst hr
  exact ⟨F', rfl, hst, (Upd.of_below hb).trans hu⟩
end Go.Proofs.Ytpkegeblfdlibaa
