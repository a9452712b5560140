/- The terms of a store as plain data: nodes, codes of lists of arguments, and what each call makes. Conditions: none. -/
import Derived.Test.YtpkegeblfdlibaaMem
namespace Go.Proofs.Ytpkegeblfdlibaa
set_option linter.unusedVariables false

structure Nd where
  op : Int
  fn : Int
  num : Int
  sort : Int
  args : List Int
deriving DecidableEq

def i64 (x : Int) : Prop := -9223372036854775808 ≤ x ∧ x ≤ 9223372036854775807
def bnd (x : Int) : Prop := -4611686018427387903 ≤ x ∧ x ≤ 4611686018427387903
structure NdOk (n : Nd) : Prop where
  op : 0 ≤ n.op ∧ n.op ≤ 255
  fn : i64 n.fn
  num : bnd n.num
  sort : i64 n.sort
  args : ∀ a ∈ n.args, i64 a
  len : n.args.length ≤ 100000
  plus : n.op = 4 → n.args ≠ []

def z0 : Nd := ⟨0, 0, 0, 0, []⟩

/-! ### codes -/
inductive Code (T : List (Int × Int)) : Int → List Int → Prop
  | nil : Code T 0 []
  | snoc {c : Int} {l : List Int} {x : Int} {i : Nat} (h : Code T c l) (hi : T[i]? = some (c, x)) : Code T ((i : Int) + 1) (l ++ [x])

theorem Code.nonneg {T : List (Int × Int)} {c : Int} {l : List Int} (h : Code T c l) : 0 ≤ c ∧ c ≤ T.length := by
  cases h with
  | nil => omega
  | @snoc c l x i h hi => have := (List.getElem?_eq_some_iff.1 hi).1; omega
theorem Code.fun_ {T : List (Int × Int)} {c : Int} {l : List Int} (h : Code T c l) : ∀ {l' : List Int}, Code T c l' → l = l' := by
  induction h with
  | nil =>
    intro l' h'
    generalize hc : (0 : Int) = c at h'
    cases h' with
    | nil => rfl
    | snoc h hi => omega
  | @snoc c l x i h hi ih =>
    intro l' h'
    generalize hc : (i : Int) + 1 = c' at h'
    cases h' with
    | nil => omega
    | @snoc c2 l2 x2 i2 h2 hi2 =>
      obtain rfl : i = i2 := by omega
      rw [hi] at hi2
      simp only [Option.some.injEq, Prod.mk.injEq] at hi2
      obtain ⟨rfl, rfl⟩ := hi2
      rw [ih h2]
theorem Code.inj {T : List (Int × Int)} (hT : T.Nodup) {c : Int} {l : List Int} (h : Code T c l) : ∀ {c' : Int}, Code T c' l → c = c' := by
  induction h with
  | nil =>
    intro c' h'
    generalize hl : ([] : List Int) = l at h'
    cases h' with
    | nil => rfl
    | snoc h hi => simp at hl
  | @snoc c l x i h hi ih =>
    intro c' h'
    generalize hl : l ++ [x] = l' at h'
    cases h' with
    | nil => simp at hl
    | @snoc c2 l2 x2 i2 h2 hi2 =>
      obtain ⟨rfl, hx⟩ := List.append_inj' hl rfl
      simp only [List.cons.injEq, and_true] at hx
      subst hx
      have hc := ih h2
      subst hc
      have h1 := List.getElem?_eq_some_iff.1 hi
      have h3 := List.getElem?_eq_some_iff.1 hi2
      have : i = i2 := (List.getElem_inj (h₀ := h1.1) (h₁ := h3.1) hT).1 (by rw [h1.2, h3.2])
      rw [this]
theorem Code.ext {T T' : List (Int × Int)} (hT : ∀ (i : Nat) (x : Int × Int), T[i]? = some x → T'[i]? = some x) {c : Int} {l : List Int} (h : Code T c l) : Code T' c l := by
  induction h with
  | nil => exact .nil
  | snoc h hi ih => exact .snoc ih (hT _ _ hi)

/-! ### the calls -/
def sortOf (L : List Nd) (t : Int) : Int := (L.getD t.toNat z0).sort
def thereB (n : Nat) (l : List Int) : Bool := l.all fun t => decide (0 ≤ t) && decide (t < n)
def ofB (L : List Nd) (s : Int) (l : List Int) : Bool := l.all fun t => decide (sortOf L t = s)
/-- a node's term: what there is then, the term, the error -/
def putP (L : List Nd) (n : Nd) : List Nd × Int × Int :=
  if n ∈ L then (L, (L.idxOf n : Int), 0) else if 20000 ≤ L.length then (L, 0, 9) else (L ++ [n], (L.length : Int), 0)
def notP (L : List Nd) (a : Int) : List Nd × Int × Int :=
  if thereB L.length [a] = false then (L, 0, 7) else if ofB L 0 [a] = false then (L, 0, 60) else putP L ⟨9, 0, 0, 0, [a]⟩
def manyP (L : List Nd) (op none : Int) (l : List Int) : List Nd × Int × Int :=
  if thereB L.length l = false then (L, 0, 7) else if 2000 < l.length then (L, 0, 3) else if ofB L 0 l = false then (L, 0, 60)
  else match l with | [] => (L, none, 0) | [x] => (L, x, 0) | l => putP L ⟨op, 0, 0, 0, l⟩
def eqP (L : List Nd) (a b : Int) : List Nd × Int × Int :=
  if thereB L.length [a, b] = false then (L, 0, 7) else if ofB L (sortOf L a) [b] = false then (L, 0, 60) else putP L ⟨7, 0, 0, 0, [a, b]⟩
def iteP (L : List Nd) (c a b : Int) : List Nd × Int × Int :=
  if thereB L.length [c, a, b] = false then (L, 0, 7) else if ofB L 0 [c] = false ∨ ofB L (sortOf L a) [b] = false then (L, 0, 60) else putP L ⟨6, 0, 0, sortOf L a, [c, a, b]⟩
def appP (L : List Nd) (fn sort : Int) (l : List Int) : List Nd × Int × Int :=
  if fn < 0 ∨ sort < 0 then (L, 0, 2) else if thereB L.length l = false then (L, 0, 7) else if 20 < l.length then (L, 0, 3) else putP L ⟨5, fn, 0, sort, l⟩
def boundB (n : Int) : Bool := decide (-4611686018427387903 ≤ n) && decide (n ≤ 4611686018427387903)
def numP (L : List Nd) (n : Int) : List Nd × Int × Int :=
  if boundB n = false then (L, 0, 6) else putP L ⟨3, 0, n, 1, []⟩
def nodeAt (L : List Nd) (t : Int) : Nd := L.getD t.toNat z0
def argAt (n : Nd) (i : Nat) : Int := n.args.getD i 0
/-- base, offset, error -/
def splitP (L : List Nd) (t : Int) : Int × Int × Int :=
  if thereB L.length [t] = false then (0, 0, 7) else
  if (nodeAt L t).sort ≠ 1 then (0, 0, 60) else if (nodeAt L t).op = 3 then (2, (nodeAt L t).num, 0) else if (nodeAt L t).op = 4 then (argAt (nodeAt L t) 0, (nodeAt L t).num, 0) else (t, 0, 0)
def plusP (L : List Nd) (a n : Int) : List Nd × Int × Int :=
  match splitP L a with
  | (base, p, e) => if e ≠ 0 then (L, 0, e) else if boundB n = false ∨ boundB (p + n) = false then (L, 0, 6) else if base = 2 then numP L (p + n)
    else if p + n = 0 then (L, base, 0) else putP L ⟨4, 0, p + n, 1, [base]⟩
def leP (L : List Nd) (a b n : Int) : List Nd × Int × Int :=
  if thereB L.length [a, b] = false then (L, 0, 7) else
  match splitP L a, splitP L b with
  | (x, p, e), (y, q, f) => if e ≠ 0 ∨ f ≠ 0 then (L, 0, 60) else
    if boundB n = false ∨ boundB (n + (q - p)) = false then (L, 0, 6) else if x = y ∧ 0 ≤ n + (q - p) then (L, 0, 0) else if x = y then (L, 1, 0)
    else putP L ⟨8, 0, n + (q - p), 0, [x, y]⟩
def L0 : List Nd := [⟨1, 0, 0, 0, []⟩, ⟨2, 0, 0, 0, []⟩, ⟨3, 0, 0, 1, []⟩]
end Go.Proofs.Ytpkegeblfdlibaa
