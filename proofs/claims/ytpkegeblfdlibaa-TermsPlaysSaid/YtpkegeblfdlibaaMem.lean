/- Words of memory of this seat's own: what may have changed (Fr), rows that are owned, maps as partial functions. Conditions: none; plain lemmas over any program. -/
import Derived.WalkKit
import Derived.BigQuiet
import Derived.Deep.QuietTactic
import Derived.WalkSpells
import Derived.WalkLawsBesides
import Derived.Maps.Own
import Derived.Maps.AppendAt
import Derived.StillTailTactics
import Derived.Deep.RegionLaw
import Derived.BigRegion
import Derived.Deep.DeepFit
namespace Go.Proofs.Ytpkegeblfdlibaa
open Go Go.RowKit
open Go.Maps (Keyed)

/-- a fact that the walk does not look into -/
structure Pk (p : Prop) : Prop where mk :: (out : p)

/-! ### what may have changed -/
/-- nothing but the blocks of F may have changed -/
structure Fr (F : Nat → Prop) (w w' : World) : Prop where
  os : w'.os = w.os
  tape : w'.tape = w.tape
  output : w'.output = w.output
  size : w.heap.size ≤ w'.heap.size
  keep : ∀ b, b < w.heap.size → ¬ F b → w'.heap[b]? = w.heap[b]?

theorem Fr.refl (F : Nat → Prop) (w : World) : Fr F w w := ⟨rfl, rfl, rfl, Nat.le_refl _, fun _ _ _ => rfl⟩
theorem Fr.trans {F : Nat → Prop} {a b c : World} (h : Fr F a b) (k : Fr F b c) : Fr F a c :=
  ⟨k.os.trans h.os, k.tape.trans h.tape, k.output.trans h.output, Nat.le_trans h.size k.size,
    fun i hi hn => (k.keep i (Nat.lt_of_lt_of_le hi h.size) hn).trans (h.keep i hi hn)⟩
theorem Fr.mono {F G : Nat → Prop} {a b : World} (h : Fr F a b) (hG : ∀ i, i < a.heap.size → F i → G i) : Fr G a b :=
  ⟨h.os, h.tape, h.output, h.size, fun i hi hn => h.keep i hi (fun hf => hn (hG i hi hf))⟩
/-- the second step may also touch what is new since the first -/
theorem Fr.trans' {F G : Nat → Prop} {a b c : World} (h : Fr F a b) (k : Fr G b c) (hG : ∀ i, G i → F i ∨ a.heap.size ≤ i) : Fr F a c :=
  ⟨k.os.trans h.os, k.tape.trans h.tape, k.output.trans h.output, Nat.le_trans h.size k.size,
    fun i hi hn => (k.keep i (Nat.lt_of_lt_of_le hi h.size) (fun hg => (hG i hg).elim hn (fun h' => absurd hi (by omega)))).trans (h.keep i hi hn)⟩
theorem Fr.below {F : Nat → Prop} {B : Nat} {a b : World} (h : Fr F a b) (hF : ∀ i, F i → B ≤ i) (hB : B ≤ a.heap.size) : Below B a b :=
  ⟨h.os, h.tape, h.output, h.size, fun i hi => h.keep i (Nat.lt_of_lt_of_le hi hB) (fun hf => absurd (hF i hf) (by omega))⟩
theorem Fr.of_below {F : Nat → Prop} {a b : World} (h : Below a.heap.size a b) : Fr F a b :=
  ⟨h.os, h.tape, h.output, h.size, fun i hi _ => h.block i hi⟩
theorem Fr.of_below' {F : Nat → Prop} {B : Nat} {a b : World} (h : Below B a b) (hF : ∀ i, B ≤ i → i < a.heap.size → F i) : Fr F a b :=
  ⟨h.os, h.tape, h.output, h.size, fun i hi hn => h.block i (by rcases Nat.lt_or_ge i B with h | h; exact h; exact absurd (hF i h hi) hn)⟩
theorem Fr.drewN {F : Nat → Prop} {a b : World} (h : Fr F a b) (n : Nat) : Fr F a (b.drewN n) := ⟨h.os, h.tape, h.output, h.size, h.keep⟩
theorem Fr.drew {F : Nat → Prop} {a b : World} (h : Fr F a b) : Fr F a b.drew := ⟨h.os, h.tape, h.output, h.size, h.keep⟩
theorem Fr.alloc {F : Nat → Prop} {a b : World} (h : Fr F a b) (o : Obj) : Fr F a (b.alloc o) :=
  h.trans ⟨rfl, rfl, rfl, by simp, fun k hk _ => Below.heap_alloc _ _ _ hk⟩
theorem Fr.setCell {F : Nat → Prop} {a b : World} (h : Fr F a b) {p : Addr} (hp : F p.block ∨ a.heap.size ≤ p.block) (u : Value) : Fr F a (b.setCell p u) :=
  ⟨h.os, h.tape, h.output, Nat.le_trans h.size (by simp [World.setCell]), fun k hk hn =>
    (Below.heap_setCell _ _ _ _ (by rintro rfl; rcases hp with hp | hp; exact hn hp; omega)).trans (h.keep k hk hn)⟩
theorem Fr.grown {F : Nat → Prop} {a b c : World} {row : Option Nat} (h : Fr F a b) (hg : b.grownBy c row) (hr : ∀ k, row = some k → F k ∨ a.heap.size ≤ k) : Fr F a c :=
  ⟨hg.os.trans h.os, hg.tape.trans h.tape, hg.output.trans h.output, Nat.le_trans h.size hg.size,
    fun k hk hn => (hg.block k (Nat.lt_of_lt_of_le hk h.size) (fun e => (hr k e.symm).elim hn (fun h' => absurd hk (by omega)))).trans (h.keep k hk hn)⟩
theorem Fr.cell {F : Nat → Prop} {a b : World} (h : Fr F a b) {p : Addr} {v : Value} (hc : a.cell? p = some v) (hp : ¬ F p.block) : b.cell? p = some v :=
  (World.cell?_of_block (h.keep p.block (World.block_lt_of_cell? a p hc) hp)).trans hc
theorem Fr.heap {F : Nat → Prop} {a b : World} (h : Fr F a b) {k : Nat} {o : Obj} (hk : a.heap[k]? = some o) (hn : ¬ F k) : b.heap[k]? = some o :=
  (h.keep k (Array.getElem?_eq_some_iff.1 hk).1 hn).trans hk
theorem Fr.own {F : Nat → Prop} {a b : World} {base e size n : Nat} {v : Value} {xs : List Value} (h : Fr F a b) (ho : a.ownsRow base e size v n xs) (hn : ∀ k, v.ownBlock = some k → ¬ F k) : b.ownsRow base e size v n xs := by
  refine ⟨ho.1, ?_⟩
  rcases ho.2 with h0 | ⟨g, cap, cur, rfl, hb, hh, r⟩
  · exact .inl h0
  · exact .inr ⟨g, cap, cur, rfl, hb, h.heap hh (hn g rfl), r⟩
theorem own_block {w : World} {base e size n : Nat} {v : Value} {xs : List Value} (h : w.ownsRow base e size v n xs) {k : Nat} (hk : v.ownBlock = some k) : ∃ cur, w.heap[k]? = some (.cells cur e (0, 0)) := by
  rcases h.2 with ⟨rfl, _⟩ | ⟨g, cap, cur, rfl, hb, hh, r⟩
  · simp [Value.ownBlock] at hk
  · simp only [Value.ownBlock, Option.some.injEq] at hk
    subst hk; exact ⟨cur, hh⟩
theorem own_form {w : World} {base e size n : Nat} {v : Value} {xs : List Value} (h : w.ownsRow base e size v n xs) (hn : 0 < n) : ∃ g cap, v = .slice (some ⟨g, 0, none⟩) n cap := by
  rcases h.2 with ⟨_, h0⟩ | ⟨g, cap, cur, hv, _⟩
  · omega
  · exact ⟨g, cap, hv⟩
theorem Fr.lt {F : Nat → Prop} {a b : World} (h : Fr F a b) {k : Nat} (hk : k < a.heap.size) : k < b.heap.size := Nat.lt_of_lt_of_le hk h.size

theorem lt_of_heap {w : World} {k : Nat} {o : Obj} (h : w.heap[k]? = some o) : k < w.heap.size := (Array.getElem?_eq_some_iff.1 h).1
theorem cell_of_heap {w : World} {k j : Nat} {c : Array Value} {e : TypeId} {fr : Nat × Nat} {v : Value} (h : w.heap[k]? = some (.cells c e fr)) (hj : c[j]? = some v) : w.cell? ⟨k, j, none⟩ = some v := by simp [World.cell?, h, hj]
theorem frozen_of_heap {w : World} {k : Nat} {c : Array Value} {e : TypeId} (h : w.heap[k]? = some (.cells c e (0, 0))) (j : Nat) : w.frozen? ⟨k, j, none⟩ = false := by simp [World.frozen?, h]
theorem heap_setCell_same {w : World} {k j : Nat} {c : Array Value} {e : TypeId} {fr : Nat × Nat} (h : w.heap[k]? = some (.cells c e fr)) (v : Value) : (w.setCell ⟨k, j, none⟩ v).heap[k]? = some (.cells (c.setIfInBounds j v) e fr) := by
  simp only [World.setCell, Array.getElem?_modify, if_pos, h, Option.map_some]; rfl
theorem heap_setCell_ne {w : World} {k : Nat} {a : Addr} {v : Value} (h : k ≠ a.block) : (w.setCell a v).heap[k]? = w.heap[k]? := Below.heap_setCell _ _ _ _ h
theorem add_plain (g j : Nat) : (⟨g, 0, none⟩ : Addr).add j = ⟨g, j, none⟩ := by unfold Addr.add; split <;> simp_all

theorem add_zero_ (a : Addr) : a.add 0 = a := by simp [Addr.add]
theorem World.grownBy.refl (w : World) (row : Option Nat) : w.grownBy w row := ⟨rfl, rfl, rfl, Nat.le_refl _, fun _ _ _ => rfl⟩
theorem cell_alloc {w : World} {a : Addr} {v : Value} (h : w.cell? a = some v) (o : Obj) : (w.alloc o).cell? a = some v :=
  (World.cell?_of_block (Below.heap_alloc w o _ (World.block_lt_of_cell? w _ h))).trans h
theorem heap_alloc {w : World} {k : Nat} {x : Obj} (h : w.heap[k]? = some x) (o : Obj) : (w.alloc o).heap[k]? = some x :=
  (Below.heap_alloc w o _ (lt_of_heap h)).trans h
theorem heap_below {w w' : World} (hb : Below w.heap.size w w') {k : Nat} {x : Obj} (h : w.heap[k]? = some x) : w'.heap[k]? = some x := (hb.block k (lt_of_heap h)).trans h
theorem cell_below {w w' : World} (hb : Below w.heap.size w w') {a : Addr} {v : Value} (h : w.cell? a = some v) : w'.cell? a = some v := (hb.cell (World.block_lt_of_cell? w _ h)).trans h
theorem below_alloc (w : World) (o : Obj) : Below w.heap.size w (w.alloc o) := (Below.refl _ _).alloc (Nat.le_refl _) o
theorem below_drewN (w : World) (n : Nat) : Below w.heap.size w (w.drewN n) := ⟨rfl, rfl, rfl, Nat.le_refl _, fun _ _ => rfl⟩
theorem below_dr {B : Nat} {w a : World} (h : Below B w a) (n : Nat) : Below B w (a.drewN n) := ⟨h.os, h.tape, h.output, h.size, h.block⟩
theorem below_then {w a b : World} (h : Below w.heap.size w a) (k : Below a.heap.size a b) : Below w.heap.size w b := h.trans (k.mono h.size)

/-! ### slices of whole numbers, of whatever make -/
def IntsAt (w : World) (A : Option Addr) (xs : List Int) : Prop := ∀ j x, xs[j]? = some x → ∃ ad, A = some ad ∧ w.cell? (ad.add j) = some (.int .i64 x)
theorem IntsAt.nil (w : World) (A : Option Addr) : IntsAt w A [] := fun j x h => by simp at h
theorem IntsAt.below {w w' : World} {A : Option Addr} {xs : List Int} (h : IntsAt w A xs) (hb : Below w.heap.size w w') : IntsAt w' A xs := fun j x hx => by
  obtain ⟨ad, e, hc⟩ := h j x hx
  exact ⟨ad, e, (hb.cell (World.block_lt_of_cell? w _ hc)).trans hc⟩
theorem IntsAt.fr {F : Nat → Prop} {w w' : World} {A : Option Addr} {xs : List Int} (h : IntsAt w A xs) (hb : Fr F w w') (hn : ∀ ad, A = some ad → ¬ F ad.block) : IntsAt w' A xs := fun j x hx => by
  obtain ⟨ad, e, hc⟩ := h j x hx
  refine ⟨ad, e, hb.cell hc ?_⟩
  have : (ad.add j).block = ad.block := by unfold Addr.add; split <;> rfl
  rw [this]; exact hn ad e
def nums (xs : List Int) : List Value := xs.map (Value.int .i64)
theorem nums_length (xs : List Int) : (nums xs).length = xs.length := by simp [nums]
theorem nums_append (xs ys : List Int) : nums (xs ++ ys) = nums xs ++ nums ys := by simp [nums]
theorem IntsAt.cells {w : World} {ad : Addr} {xs : List Int} (h : IntsAt w (some ad) xs) : ∀ j u, (nums xs)[j]? = some u → w.cell? (ad.add j) = some u := fun j u hu => by
  simp only [nums, List.getElem?_map, Option.map_eq_some_iff] at hu
  obtain ⟨x, hx, rfl⟩ := hu
  obtain ⟨ad', e, hc⟩ := h j x hx
  cases e; exact hc
theorem nums_one (xs : List Int) : ∀ u ∈ nums xs, u.oneCell' = true := by
  intro u hu
  simp only [nums, List.mem_map] at hu
  obtain ⟨_, _, rfl⟩ := hu; rfl
theorem ints_new (w : World) (e : TypeId) (fr : Nat × Nat) (xs : List Int) (cs : Array Value) (h : cs = (nums xs).toArray) : IntsAt (w.alloc (.cells cs e fr)) (some ⟨w.heap.size, 0, none⟩) xs := fun j x hx => by
  refine ⟨_, rfl, ?_⟩
  rw [add_plain]
  refine cell_of_heap (MapKept.heap_alloc w _).1 ?_
  rw [h]; simp [nums, hx]
theorem ints_new' (w : World) (e : TypeId) (fr : Nat × Nat) (xs : List Int) (cs : Array Value) (h : cs = (nums xs).toArray) {g : Nat} (hg : g = w.heap.size) : IntsAt (w.alloc (.cells cs e fr)) (some ⟨g, 0, none⟩) xs := by
  subst hg; exact ints_new w e fr xs cs h
theorem own_ints {w : World} {base e n : Nat} {v : Value} {xs : List Int} (h : w.ownsRow base e 1 v n (nums xs)) : ∃ A c, v = .slice A xs.length c ∧ xs.length = n ∧ xs.length ≤ maxLen ∧ xs.length ≤ c ∧ IntsAt w A xs ∧ (∀ ad, A = some ad → v.ownBlock = some ad.block) := by
  have hl : xs.length = n := by have := h.1; simpa [nums] using this
  rcases h.2 with ⟨rfl, rfl⟩ | ⟨g, cap, cur, rfl, _, hh, h1, h2, _⟩
  · obtain rfl : xs = [] := List.eq_nil_of_length_eq_zero hl
    exact ⟨none, 0, rfl, rfl, by simp, by simp, IntsAt.nil _ _, by simp⟩
  · refine ⟨_, cap, by rw [hl], hl, by omega, by omega, fun j x hx => ⟨_, rfl, h.cells (g := g) rfl j _ (by simp [nums, hx])⟩, ?_⟩
    intro ad had; cases had; rfl

/-! ### a region that draws: reads, then one operation that acts -/
theorem region_tail {P : Program} {id : Nat} {Q : Exit → Act → World → Prop} {a : Act} {w : World} {l : List Oper} (n : Nat) (hm : P.follows .mixedOrders = true) (hB : Region.lexTailB .any l.toArray n = true)
    (wd : World) (hwd : wd = w.drew) (h : wpStill P l.toArray wd (fun a' => wpList P l.toArray Q (l.drop n) a' wd) (l.take n) a) : (Code.region id l.toArray true).wp P Q a w := by
  subst hwd; exact wp_region_still_tail n hm hB h

/-- append onto a row of one's own, as one step of a region that draws -/
theorem step_append {P : Program} {ops : Array Oper} {o : Oper} {a : Act} {w : World} {K : Act → World → Prop} {Q : Exit → Act → World → Prop} {E : Prop}
    (hg : o.guard = none) (s x : Operand) (t : TypeId) (ho : o.op = .call { callee := .builtin .append, args := #[s, x], argTypes := #[t, t] })
    (e : TypeId) (i : TypeInfo) (z : Value) (size bytes : Nat) (ht : P.underlying t = some (.slice e)) (hi : P.info? e = some i) (hz : i.zero = some z)
    (hsize : i.size = size) (hby : i.bytes = bytes) (hzs : z.cells.size = size) (hsz : 0 < size)
    (v : Value) (n : Nat) (xs : List Value) (hs : a.eval s = v) (hown : w.ownsRow 0 e size v n xs)
    (ad : Addr) (m c : Nat) (news : List Value) (hx : a.eval x = .slice (some ad) m c) (hl : news.length = m * size) (hnews : ∀ j u, news[j]? = some u → w.cell? (ad.add j) = some u) (h1 : ∀ u ∈ news, u.oneCell' = true)
    (h63 : n + m ≤ maxLen) (hbytes : (n + m) * bytes ≤ 140737488355328)
    (h : ∀ v' w', w'.ownsRow 0 e size v' (n + m) (xs ++ news) → w.grownBy w' v.ownBlock → (v'.ownBlock = v.ownBlock ∨ v'.ownBlock = some w.heap.size) → K (a.put o.dst v') w') :
    if Region.wanted o (yielded ops a.tmps) = true then Oper.wp P o a w K Q else E := by
  have hw : Region.wanted o (yielded ops a.tmps) = true := by simp [Region.wanted, hg]
  rw [if_pos hw]
  obtain ⟨v', w', hr, h2, h3, h4, h5⟩ := run_append_own_at (P := P) w 0 t o.type e i z size bytes ht hi hz hsize hby hzs hsz v n xs hown ad m c news hl hnews h1 h63 hbytes (Nat.zero_le _)
  unfold Oper.wp execOp
  simp only [ho, resolve, invoke, builtin, Sem.run_bind, Sem.run_pure, Result.andThen_ok, List.map_toArray, List.map_cons, List.map_nil, hs, hx, hr]
  exact h v' w' h2 h3 h5

/-- append of a slice of whole numbers, of whatever make, onto a row of one's own: the run -/
theorem run_append_ints {P : Program} (w : World) (t ty e : TypeId) (i : TypeInfo) (bytes : Nat) (ht : P.underlying t = some (.slice e)) (hi : P.info? e = some i) (hz : i.zero = some (.int .i64 0)) (hsize : i.size = 1) (hby : i.bytes = bytes)
    (v : Value) (xs : List Int) (hown : w.ownsRow 0 e 1 v xs.length (nums xs)) (B : Option Addr) (c : Nat) (ys : List Int) (hB : IntsAt w B ys)
    (h63 : xs.length + ys.length ≤ maxLen) (hbytes : (xs.length + ys.length) * bytes ≤ 140737488355328) :
    ∃ v' w', (Builtin.append_ #[t, t] ty #[v, .slice B ys.length c]).run P w = .ok v' w' ∧ w'.ownsRow 0 e 1 v' (xs ++ ys).length (nums (xs ++ ys)) ∧ w.grownBy w' v.ownBlock ∧ (v'.ownBlock = v.ownBlock ∨ v'.ownBlock = some w.heap.size) := by
  rcases B with _ | ad
  · have h0 : ys = [] := by
      rcases ys with _ | ⟨y, r⟩
      · rfl
      · obtain ⟨ad, e, _⟩ := hB 0 y rfl
        cases e
    subst h0
    refine ⟨v, w, ?_, by simpa using hown, World.grownBy.refl w _, .inl rfl⟩
    rcases hown.2 with ⟨rfl, hn⟩ | ⟨g, cap, cur, rfl, _, _, hnc, _⟩
    · simp [Builtin.append_, run_underlying ht, sizeOf, typeInfo, hi, Builtin.lenOf, Builtin.firstCells]
    · simp [Builtin.append_, run_underlying ht, sizeOf, typeInfo, hi, Builtin.lenOf, Builtin.firstCells, hnc, storeCells]
  · obtain ⟨v1, w1, hr, h2, h3, _, h5⟩ := run_append_own_at (P := P) w 0 t ty e i (.int .i64 0) 1 bytes ht hi hz hsize hby rfl (by omega) v xs.length (nums xs) hown ad ys.length c (nums ys) (by simp [nums]) hB.cells (nums_one ys) h63 hbytes (Nat.zero_le _)
    exact ⟨v1, w1, hr, by rw [nums_append, List.length_append]; exact h2, h3, h5⟩
theorem wpList_append_ints {P : Program} {w : World} {ops : Array Oper} {rest : List Oper} {o : Oper} {a : Act} {Q : Exit → Act → World → Prop} (hgd : o.guard = none) (s x : Operand) (t : TypeId)
    (ho : o.op = .call { callee := .builtin .append, args := #[s, x], argTypes := #[t, t] })
    (e : TypeId) (i : TypeInfo) (bytes : Nat) (ht : P.underlying t = some (.slice e)) (hi : P.info? e = some i) (hz : i.zero = some (.int .i64 0)) (hsize : i.size = 1) (hby : i.bytes = bytes)
    (v : Value) (xs : List Int) (hs : a.eval s = v) (hown : w.ownsRow 0 e 1 v xs.length (nums xs)) (B : Option Addr) (c : Nat) (ys : List Int) (hx : a.eval x = .slice B ys.length c) (hB : IntsAt w B ys)
    (h63 : xs.length + ys.length ≤ maxLen) (hbytes : (xs.length + ys.length) * bytes ≤ 140737488355328)
    (h : ∀ v' w', w'.ownsRow 0 e 1 v' (xs ++ ys).length (nums (xs ++ ys)) → w.grownBy w' v.ownBlock → (v'.ownBlock = v.ownBlock ∨ v'.ownBlock = some w.heap.size) → wpList P ops Q rest (a.put o.dst v') w') :
    wpList P ops Q (o :: rest) a w := by
  obtain ⟨v1, w1, hr, h2, h3, h4⟩ := run_append_ints (P := P) w t o.type e i bytes ht hi hz hsize hby v xs hown B c ys hB h63 hbytes
  refine wpList_plain hgd fun K hK => ?_
  unfold Oper.wp execOp
  simp only [ho, resolve, invoke, builtin, Sem.run_bind, Sem.run_pure, Result.andThen_ok, List.map_toArray, List.map_cons, List.map_nil, hs, hx, hr]
  exact hK _ _ (h v1 w1 h2 h3 h4)

/-! ### maps -/
/-- block b is a map that holds just what f says, n entries; S tells the keys -/
structure MapF (S : Value → Prop) (w : World) (b : Nat) (f : Value → Option Value) (n : Nat) : Prop where
  ex : ∃ es clock, w.heap[b]? = some (.map es clock) ∧ es.size = n ∧ (∀ e ∈ es.toList, S e.key) ∧ (es.toList.map (·.key)).Nodup ∧ ∀ x v, f x = some v ↔ ∃ e ∈ es.toList, e.key = x ∧ e.val = v
/-- what the laws on a map want of its keys -/
structure Keys (P : Program) (k : TypeId) (S : Value → Prop) : Prop where
  check : ∀ (w : World) (em : Bool) (v : Value), S v → (Instr.checkKey em 10000 k v).run P w = .ok () w
  find : ∀ (w : World) (x : Value), S x → ∀ es : List MapEntry, (∀ e ∈ es, S e.key) →
    ((Instr.findKey k x es).run P w = .ok none w ∧ ∀ e ∈ es, e.key ≠ x) ∨ ∃ j e, (Instr.findKey k x es).run P w = .ok (some (j, e.val)) w ∧ es[j]? = some e ∧ e.key = x
  stays : ∀ (w : World) (v : Value), S v → (Instr.keyThatStays v v).run P w = .ok v w
theorem Keys.of_keyed {P : Program} {k : TypeId} (K : Keyed P k) {S : Value → Prop} (h : ∀ v, S v → ∃ l, keyOf P k v = some l) : Keys P k S where
  check w em v hv := by obtain ⟨l, hl⟩ := h v hv; exact K.check w em hl
  find w x hx es hes := by obtain ⟨l, hl⟩ := h x hx; exact K.find w hl es (fun e he => h _ (hes e he))
  stays w v hv := by obtain ⟨l, hl⟩ := h v hv; exact K.stays w hl
section
variable {P : Program} {k : TypeId} {S : Value → Prop} {w : World} {b n : Nat} {f : Value → Option Value}
theorem MapF.lt (h : MapF S w b f n) : b < w.heap.size := by obtain ⟨_, _, hb, _⟩ := h.ex; exact lt_of_heap hb
theorem MapF.fr {F : Nat → Prop} {w' : World} (h : MapF S w b f n) (hf : Fr F w w') (hn : ¬ F b) : MapF S w' b f n := by
  obtain ⟨es, clock, hb, r⟩ := h.ex
  exact ⟨es, clock, hf.heap hb hn, r⟩
theorem MapF.made (S : Value → Prop) (w : World) : MapF S (w.alloc (.map #[] 0)) w.heap.size (fun _ => none) 0 :=
  ⟨⟨#[], 0, (MapKept.heap_alloc w _).1, rfl, by simp, by simp, by simp⟩⟩
theorem MapF.uniq (h : MapF S w b f n) {es : Array MapEntry} {clock : Nat} (hb : w.heap[b]? = some (.map es clock)) : es.size = n ∧ (∀ e ∈ es.toList, S e.key) ∧ (es.toList.map (·.key)).Nodup ∧ ∀ x v, f x = some v ↔ ∃ e ∈ es.toList, e.key = x ∧ e.val = v := by
  obtain ⟨es', clock', hb', r⟩ := h.ex
  rw [hb] at hb'
  obtain ⟨rfl, rfl⟩ : es = es' ∧ clock = clock' := by simpa using hb'
  exact r
/-- 'v, ok := m[k]' and 'm[k]' -/
theorem MapF.look (h : MapF S w b f n) (K : Keys P k S) {t e : TypeId} (ht : P.underlying t = some (.map k e)) {z : Value} (hz : (zeroValue e).run P w = .ok z w) {key : Value} (hk : S key) (c : Bool) :
    (Instr.lookup t (.map (some b)) key c).run P w = .ok (if c then .tuple #[(f key).getD z, .bool (f key).isSome] else (f key).getD z) w := by
  obtain ⟨es, clock, hb, hs, hS, hnd, hf⟩ := h.ex
  rcases K.find w key hk es.toList hS with ⟨h1, h2⟩ | ⟨j, e0, h1, h2, h3⟩
  · have hn : f key = none := by
      rcases hfk : f key with _ | v
      · rfl
      · obtain ⟨e, he, hk', _⟩ := (hf key v).1 hfk
        exact absurd hk' (h2 e he)
    simp [Instr.lookup, run_underlying ht, MapKept.run_getObj_map hb, K.check w _ key hk, h1, hz, Result.andThen, hn]
  · have hn : f key = some e0.val := (hf key _).2 ⟨e0, List.mem_of_getElem? h2, h3, rfl⟩
    simp [Instr.lookup, run_underlying ht, MapKept.run_getObj_map hb, K.check w _ key hk, h1, Result.andThen, hn]
theorem MapF.len (h : MapF S w b f n) : ∃ es clock, w.heap[b]? = some (.map es clock) ∧ es.size = n := by
  obtain ⟨es, clock, hb, hs, _⟩ := h.ex
  exact ⟨es, clock, hb, hs⟩
theorem MapF.run_len (h : MapF S w b f n) {t e : TypeId} (ht : P.underlying t = some (.map k e)) (ty : TypeId) : (Builtin.len_ #[t] ty #[.map (some b)]).run P w = .ok (.int .i64 n) w := by
  obtain ⟨es, clock, hb, hs⟩ := h.len
  simp [Builtin.len_, run_underlying ht, MapKept.run_getObj_map hb, Result.andThen, hs, goInt]
open Classical in
/-- 'm[k] = v' -/
theorem MapF.store (h : MapF S w b f n) (K : Keys P k S) {t e : TypeId} (ht : P.underlying t = some (.map k e)) {key : Value} (hk : S key) (val : Value) :
    ∃ w', (Instr.mapUpdate t (.map (some b)) key val).run P w = .ok () w' ∧ MapF S w' b (fun x => if x = key then some val else f x) (if (f key).isSome then n else n + 1) ∧ w.grownBy w' (some b) := by
  obtain ⟨es, clock, hb, hs, hS, hnd, hf⟩ := h.ex
  have gb : ∀ o, w.grownBy (ChangeMaps.setBlock w b o) (some b) := fun o => ⟨rfl, rfl, rfl, by simp [ChangeMaps.setBlock], fun i _ hi => ChangeMaps.heap_setBlock_other hb _ (fun e => hi (by rw [e]))⟩
  rcases K.find w key hk es.toList hS with ⟨h1, h2⟩ | ⟨j, e0, h1, h2, h3⟩
  · have hn : f key = none := by
      rcases hfk : f key with _ | v
      · rfl
      · obtain ⟨e, he, hk', _⟩ := (hf key v).1 hfk
        exact absurd hk' (h2 e he)
    refine ⟨ChangeMaps.setBlock w b (.map (es.push ⟨key, val, clock⟩) (clock + 1)), ?_, ⟨_, _, ChangeMaps.heap_setBlock_same hb _, ?_, ?_, ?_, ?_⟩, gb _⟩
    · simp [Instr.mapUpdate, run_underlying ht, MapKept.run_getObj_map hb, K.check w false key hk, h1, MapKept.run_setObj_map _ hb, Result.andThen, ChangeMaps.setBlock]
    · simp [hn, hs]
    · intro e he
      simp only [Array.toList_push, List.mem_append, List.mem_singleton] at he
      rcases he with he | rfl
      · exact hS e he
      · exact hk
    · rw [Array.toList_push, List.map_append, List.nodup_append]
      refine ⟨hnd, by simp, ?_⟩
      intro a ha c hc
      simp only [List.map_cons, List.map_nil, List.mem_singleton] at hc
      obtain ⟨e, he, rfl⟩ := List.mem_map.1 ha
      rw [hc]; exact h2 e he
    · intro x v
      simp only [Array.toList_push, List.mem_append, List.mem_singleton]
      by_cases hx : x = key
      · subst hx
        rw [if_pos rfl]
        constructor
        · intro hv; cases hv; exact ⟨_, .inr rfl, rfl, rfl⟩
        · rintro ⟨e, he | rfl, h4, h5⟩
          · exact absurd h4 (h2 e he)
          · rw [← h5]
      · rw [if_neg hx, hf]
        constructor
        · rintro ⟨e, he, h4⟩; exact ⟨e, .inl he, h4⟩
        · rintro ⟨e, he | rfl, h4, h5⟩
          · exact ⟨e, he, h4, h5⟩
          · exact absurd h4.symm hx
  · have hm0 : e0 ∈ es.toList := List.mem_of_getElem? h2
    have hn : f key = some e0.val := (hf key _).2 ⟨e0, hm0, h3, rfl⟩
    have hj : es[j]? = some e0 := by simpa using h2
    have hjl : j < es.toList.length := (List.getElem?_eq_some_iff.1 h2).1
    have hlist : (es.modify j (fun e' => { e' with key := key, val := val })).toList = es.toList.set j { e0 with key := key, val := val } := by rw [Array.toList_modify, ChangeMaps.modify_eq_set _ _ _ _ h2]
    have hkeys : (es.toList.set j { e0 with key := key, val := val }).map (·.key) = es.toList.map (·.key) := by
      rw [List.map_set]
      apply List.ext_getElem?
      intro i
      rw [List.getElem?_set]
      split
      · rename_i hij
        subst hij
        have hjl' : j < es.size := by simpa using hjl
        have he0 : es[j] = e0 := by rw [Array.getElem?_eq_getElem hjl'] at hj; exact Option.some.inj hj
        simp [hjl', he0, h3]
      · rfl
    have hne : ∀ i e, es.toList[i]? = some e → e.key = key → i = j := by
      intro i e hi he
      have hil := (List.getElem?_eq_some_iff.1 hi).1
      refine (List.getElem_inj (i := i) (j := j) (h₀ := by simpa using hil) (h₁ := by simpa using hjl) hnd).1 ?_
      have e1 := (List.getElem?_eq_some_iff.1 hi).2
      have e2 := (List.getElem?_eq_some_iff.1 h2).2
      simp only [List.getElem_map, e1, e2, he, h3]
    refine ⟨ChangeMaps.setBlock w b (.map (es.modify j (fun e' => { e' with key := key, val := val })) clock), ?_, ⟨_, _, ChangeMaps.heap_setBlock_same hb _, ?_, ?_, ?_, ?_⟩, gb _⟩
    · simp [Instr.mapUpdate, run_underlying ht, MapKept.run_getObj_map hb, K.check w false key hk, h1, hj, h3, K.stays w key hk, MapKept.run_setObj_map _ hb, Result.andThen, ChangeMaps.setBlock]
    · simp [hn, hs]
    · rw [hlist]
      intro e he
      rcases List.mem_or_eq_of_mem_set he with he | rfl
      · exact hS e he
      · exact hk
    · rw [hlist, hkeys]; exact hnd
    · intro x v
      rw [hlist]
      by_cases hx : x = key
      · subst hx
        rw [if_pos rfl]
        constructor
        · intro hv; cases hv; exact ⟨{ e0 with key := x, val := val }, List.mem_iff_getElem.2 ⟨j, by simpa using hjl, by simp⟩, rfl, rfl⟩
        · rintro ⟨e, he, h4, h5⟩
          obtain ⟨i, hi, ex⟩ := List.getElem_of_mem he
          rw [List.getElem_set] at ex
          split at ex
          · rw [← h5, ← ex]
          · rename_i hij
            have := hne i e (by rw [List.getElem?_eq_getElem (by simpa using hi), ex]) h4
            exact absurd this.symm hij
      · rw [if_neg hx, hf]
        constructor
        · rintro ⟨e, he, h4, h5⟩
          obtain ⟨i, hi, ex⟩ := List.getElem_of_mem he
          have hij : j ≠ i := by
            rintro rfl
            have : e = e0 := by
              have := (List.getElem?_eq_some_iff.1 h2).2
              rw [← ex, ← this]
            rw [this, h3] at h4; exact hx h4.symm
          exact ⟨e, List.mem_iff_getElem.2 ⟨i, by simpa using hi, by rw [List.getElem_set_ne hij]; exact ex⟩, h4, h5⟩
        · rintro ⟨e, he, h4, h5⟩
          rcases List.mem_or_eq_of_mem_set he with he | rfl
          · exact ⟨e, he, h4, h5⟩
          · exact absurd h4.symm hx
end
end Go.Proofs.Ytpkegeblfdlibaa
