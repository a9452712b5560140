/- Walks of Copy and of what it calls: another store just like it, that shares only what nobody writes. -/
import Derived.Test.YtpkegeblfdlibaaSorts0
import Derived.Shelf.SlMaps.Clone
import Derived.Deep.RegionHeld3
namespace Go.Proofs.Ytpkegeblfdlibaa
open Go Go.RowKit
set_option linter.unusedVariables false
set_option linter.unusedSimpArgs false

theorem NodesAt.one {F : Nat → Prop} {w : World} {L : List Nd} {cs : List Value} (h : NodesAt F w L cs) : ∀ u ∈ cs, u.oneCell' = true := by
  intro u hu
  obtain ⟨i, hi, rfl⟩ := List.getElem_of_mem hu
  have hl := h.1
  have hq : i / 5 < L.length := by omega
  obtain ⟨v, hc, hv, _⟩ := h.2 (i / 5) L[i / 5] (by simp [hq])
  obtain ⟨A, c, rfl, _⟩ := own_ints hv
  have h1 := hc (i % 5) (Nat.mod_lt _ (by omega))
  have e : i / 5 * 5 + i % 5 = i := Nat.div_add_mod' i 5
  rw [e, List.getElem?_eq_getElem hi] at h1
  have hm := List.mem_of_getElem? h1.symm
  simp only [nodeCells, List.mem_cons, List.not_mem_nil, or_false] at hm
  rcases hm with h | h | h | h | h <;> rw [h] <;> rfl

/-- a clone of nodes: the cells are the same -/
def ClonedN (n : Nat) (cs : List Value) (w : World) (e : Ending) (w' : World) : Prop :=
  ∃ v, e = .returned v ∧ w'.ownsRow 0 44 5 v n cs ∧ Below w.heap.size w w' ∧ (∀ k, v.ownBlock = some k → w.heap.size ≤ k)
set_option maxHeartbeats 1000000 in
theorem cloneN_st (g c n : Nat) (cs : List Value) (w : World) (hr : w.ownsRow 0 44 5 (.slice (some ⟨g, 0, none⟩) n c) n cs) (h1 : ∀ u ∈ cs, u.oneCell' = true) (hn : n ≤ 20000) :
    Calls Try.prog 39 #[.slice (some ⟨g, 0, none⟩) n c] w (ClonedN n cs w) := by
  have q := fun (w : World) (a : Option Addr) (l c : Nat) => Lib.run_eql_slice_nil (P := Try.prog) w 34 44 a l c 0 0 Try.underlying34
  have HR := Pk.mk hr
  have H1 := Pk.mk h1
  have HCL := Pk.mk hr.1
  clear hr h1
  obtain ⟨i0, hi, hzz⟩ := Option.map_eq_some_iff.1 info44
  simp only [Prod.mk.injEq] at hzz
  obtain ⟨hz0, hz1, hz2⟩ := hzz
  have HI := Pk.mk hi
  have HZ0 := Pk.mk hz0
  have HZ1 := Pk.mk hz1
  have HZ2 := Pk.mk hz2
  clear hi hz0 hz1 hz2
  go_enter Try.func39, Try.ntmps39
  go_wp2_with (at_builtin; refine wpList_append_own_at _ rfl _ _ 34 rfl 0 44 i0 _ 5 56 Try.underlying34 HI.out HZ0.out HZ1.out HZ2.out rfl (by decide) (.slice (some ⟨w.heap.size, 0, none⟩) 0 0) 0 [] rfl (World.ownsRow_made w #[] 0 (Nat.zero_le _) (by simp [maxLen]) rfl) ⟨g, 0, none⟩ n c cs rfl ?c1 ?c2 ?c3 ?c4 ?c5 ?c6 ?_)
  case c1 => rw [HCL.out]
  case c2 => exact (HR.out.alloc _).cells rfl
  case c3 => exact H1.out
  case c4 => simp only [maxLen]; omega
  case c5 => omega
  case c6 => exact Nat.zero_le _
  intro v' w1 hown hg _ hat
  have HO : Pk (w1.ownsRow 0 44 5 v' n cs) := Pk.mk (by simpa using hown)
  have HB : Pk (Below w.heap.size w w1) := Pk.mk (((below_alloc w _).grown hg (by simp) (by intro k hk; simp [Value.ownBlock] at hk; omega)))
  have HT : Pk (∀ k, v'.ownBlock = some k → w.heap.size ≤ k) := Pk.mk (by
    intro k hk
    rcases hat with h | h <;> rw [hk] at h <;> simp [Value.ownBlock] at h <;> omega)
  clear hown hg hat
  go_wp2
  go_ret
  exact ⟨_, rfl, HO.out, HB.out, HT.out⟩

/-- a clone of a map holds what the map holds -/
def ClonedM (S : Value → Prop) (f : Value → Option Value) (n : Nat) (w : World) (e : Ending) (w' : World) : Prop :=
  ∃ m, e = .returned (.map (some m)) ∧ MapF S w' m f n ∧ Below w.heap.size w w' ∧ w.heap.size ≤ m
set_option maxHeartbeats 1000000 in
theorem cloneM40 (b n : Nat) (f : Value → Option Value) (w : World) (h : MapF S72 w b f n) : Calls Try.prog 40 #[.map (some b)] w (ClonedM S72 f n w) := by
  have hq := fun w => run_eql_map_nil_sl (P := Try.prog) w 54 _ _ (some b) Try.underlying54
  obtain ⟨es, clock, hb, hr⟩ := h.ex
  have HR := Pk.mk hr
  have HB := Pk.mk hb
  clear hr hb h
  go_enter Try.func40, Try.ntmps40
  go_wp2
  rw [run_callFunc_extern Try.func56 (by kernel_rfl) (by kernel_rfl) (by kernel_rfl) (e := Extern.MapsClone.clone) (by kernel_rfl), run_maps_clone_sl w 54 HB.out]
  simp only [Result.andThen]
  rw [Oper.upon_value]
  go_wp2
  rw [run_typeAssert_map_sl _ 54 20 _ _ _ Try.underlying54]
  simp only [Result.andThen]
  rw [Oper.upon_value]
  go_wp2
  go_ret
  exact ⟨_, rfl, ⟨⟨es, clock, (MapKept.heap_alloc w _).1, HR.out⟩⟩, below_alloc _ _, Nat.le_refl _⟩
set_option maxHeartbeats 1000000 in
theorem cloneM41 (b n : Nat) (f : Value → Option Value) (w : World) (h : MapF S75 w b f n) : Calls Try.prog 41 #[.map (some b)] w (ClonedM S75 f n w) := by
  have hq := fun w => run_eql_map_nil_sl (P := Try.prog) w 55 _ _ (some b) Try.underlying55
  obtain ⟨es, clock, hb, hr⟩ := h.ex
  have HR := Pk.mk hr
  have HB := Pk.mk hb
  clear hr hb h
  go_enter Try.func41, Try.ntmps41
  go_wp2
  rw [run_callFunc_extern Try.func56 (by kernel_rfl) (by kernel_rfl) (by kernel_rfl) (e := Extern.MapsClone.clone) (by kernel_rfl), run_maps_clone_sl w 55 HB.out]
  simp only [Result.andThen]
  rw [Oper.upon_value]
  go_wp2
  rw [run_typeAssert_map_sl _ 55 20 _ _ _ Try.underlying55]
  simp only [Result.andThen]
  rw [Oper.upon_value]
  go_wp2
  go_ret
  exact ⟨_, rfl, ⟨⟨es, clock, (MapKept.heap_alloc w _).1, HR.out⟩⟩, below_alloc _ _, Nat.le_refl _⟩

/-- a copy: what it tells -/
def Copied (p : Nat) (L : List Nd) (F : Foot) (N : Nat) (w : World) (e : Ending) (w' : World) : Prop :=
  ∃ p' F', e = .returned (.pointer (some ⟨p', 0, none⟩)) ∧ StoreAt w' p' L F' N ∧ Below w.heap.size w w' ∧ (∀ k, F'.m k → w.heap.size ≤ k) ∧ F'.r = F.r
theorem MapF.below {S : Value → Prop} {w w' : World} {b n : Nat} {f : Value → Option Value} (h : MapF S w b f n) (hb : Below w.heap.size w w') : MapF S w' b f n := h.fr (Fr.of_below (F := fun _ => False) hb) (fun h => h)
theorem own_below {w w' : World} {base e size n : Nat} {v : Value} {xs : List Value} (h : w.ownsRow base e size v n xs) (hb : Below w.heap.size w w') : w'.ownsRow base e size v n xs := (Fr.of_below (F := fun _ => False) hb).own h (fun _ _ h => h)
theorem copy_join {w w5 : World} {p : Nat} {L : List Nd} {F : Foot} {N : Nat} (hs : StoreAt w p L F N) (hb : Below w.heap.size w w5) {v : Value} {cs : List Value} {m1 m2 : Nat} {T : List (Int × Int)} {ft fl : Value → Option Value}
    (r : w5.ownsRow 0 44 5 v L.length cs) (rb : ∀ k, v.ownBlock = some k → w.heap.size ≤ k) (h1 : MapF S72 w5 m1 ft L.length) (b1 : w.heap.size ≤ m1) (h2 : MapF S75 w5 m2 fl T.length) (b2 : w.heap.size ≤ m2) (hne : m1 ≠ m2)
    (hn : NodesAt F.r w L cs) (hl : Lists T fl) (ht : Terms T L ft) (hN : T.length ≤ N) :
    Copied p L F N w (.returned (.pointer (some ⟨w5.heap.size, 0, none⟩))) (w5.alloc (.cells #[v, .map (some m1), .map (some m2)] 57)) := by
  have ha := below_alloc w5 (.cells #[v, .map (some m1), .map (some m2)] 57)
  have hsz := hb.size
  refine ⟨_, ⟨fun k => k = w5.heap.size ∨ k = m1 ∨ k = m2 ∨ v.ownBlock = some k, F.r⟩, rfl, ?_, below_then hb ha, ?_, rfl⟩
  · refine ⟨⟨v, m1, m2, cs, T, ft, fl, (MapKept.heap_alloc w5 _).1, own_below r ha, ?_, h1.below ha, h2.below ha, hne, hl, ht, hN, .inl rfl, .inr (.inl rfl), .inr (.inr (.inl rfl)), fun k hk => .inr (.inr (.inr hk))⟩, ?_, ?_, hs.len⟩
    · exact (hn.fr (Fr.of_below (F := fun _ => False) hb) (fun _ _ _ h => h)).fr (Fr.of_below (F := fun _ => False) ha) (fun _ _ _ h => h)
    · rintro k ((rfl | rfl | rfl | hk) | hk)
      · simp
      · have := h1.lt; simp; omega
      · have := h2.lt; simp; omega
      · have := (r.lt k hk).2; simp; omega
      · have := hs.lt k (.inr hk); simp; omega
    · rintro k hk h
      have hkl := hs.lt k (.inr hk)
      rcases h with rfl | rfl | rfl | h
      · omega
      · omega
      · omega
      · have := rb k h; omega
  · rintro k (rfl | rfl | rfl | h)
    · exact hsz
    · exact b1
    · exact b2
    · exact rb k h
set_option maxHeartbeats 2000000 in
theorem copy_st (p : Nat) (L : List Nd) (F : Foot) (N : Nat) (w : World) (hs : StoreAt w p L F N) (h3 : 0 < L.length) : Calls Try.prog 15 #[.pointer (some ⟨p, 0, none⟩)] w (Copied p L F N w) := by
  have HS := Pk.mk hs
  obtain ⟨⟨v, mt, ml, cs, T, ft, fl, h1, h2, h3', h4, h5, h6, h7, h8, h9, _⟩, _, _, hlen⟩ := hs
  obtain ⟨g, cap, rfl⟩ := own_form h2 h3
  have H1 := Pk.mk h1
  have H2 := Pk.mk h2
  have H3 := Pk.mk h3'
  have H4 := Pk.mk h4
  have H5 := Pk.mk h5
  have H7 := Pk.mk h7
  have H8 := Pk.mk h8
  have H9 := Pk.mk h9
  have hp := lt_of_heap h1
  have c0 : w.cell? ⟨p, 0, none⟩ = some (.slice (some ⟨g, 0, none⟩) L.length cap) := cell_of_heap h1 rfl
  have c1 : w.cell? ⟨p, 1, none⟩ = some (.map (some mt)) := cell_of_heap h1 rfl
  have c2 : w.cell? ⟨p, 2, none⟩ = some (.map (some ml)) := cell_of_heap h1 rfl
  clear h1 h2 h3' h4 h5 h6 h7 h8 h9
  go_enter Try.func15, Try.ntmps15
  go_wp2_with fail
  refine (none_ok p mt _ c1).mono ?_
  rintro e w1 ⟨rfl, rfl⟩
  go_wp2_with fail
  have HBW : Pk (Below w.heap.size w w) := ⟨Below.refl _ _⟩
  go_region_held3 (fun W => Pk (Below w.heap.size w W) ∧ W.cell? ⟨p, 0, none⟩ = some (.slice (some ⟨g, 0, none⟩) L.length cap) ∧ W.cell? ⟨p, 1, none⟩ = some (.map (some mt)) ∧ W.cell? ⟨p, 2, none⟩ = some (.map (some ml)))
    ((go_split_ands; first | exact ⟨⟨below_then (Pk.out (by assumption)) hb1⟩, cell_below hb1 (by assumption), cell_below hb1 (by assumption), cell_below hb1 (by assumption)⟩ | exact ⟨⟨below_then (Pk.out (by assumption)) hb2⟩, cell_below hb2 (by assumption), cell_below hb2 (by assumption), cell_below hb2 (by assumption)⟩ | exact ⟨⟨below_then (Pk.out (by assumption)) hb3⟩, cell_below hb3 (by assumption), cell_below hb3 (by assumption), cell_below hb3 (by assumption)⟩ | exact ⟨⟨below_then (Pk.out (by assumption)) (below_alloc _ _)⟩, cell_alloc (by assumption) _, cell_alloc (by assumption) _, cell_alloc (by assumption) _⟩ | exact ⟨⟨below_dr (Pk.out (by assumption)) 1⟩, by simp [*], by simp [*], by simp [*]⟩))
    (first
      | (go_at_call 39; refine (cloneN_st g cap L.length cs _ ?_ H3.out.one hlen).mono ?_; (go_split_ands; exact own_below H2.out (Pk.out (by assumption))); rintro e w1 ⟨v1, rfl, hr1, hb1, hl1⟩; obtain ⟨g1, k1, rfl⟩ := own_form hr1 h3)
      | (go_at_call 40; refine (cloneM40 mt L.length ft _ ?_).mono ?_; (go_split_ands; exact H4.out.below (Pk.out (by assumption))); rintro e w2 ⟨m2, rfl, hr2, hb2, hl2⟩)
      | (go_at_call 41; refine (cloneM41 ml T.length fl _ ?_).mono ?_; (go_split_ands; exact H5.out.below (Pk.out (by assumption))); rintro e w3 ⟨m3, rfl, hr3, hb3, hl3⟩))
  all_goals
    clear c0 c1 c2
    have hd : w.drew.heap.size = w.heap.size := rfl
    have s1 := hb1.size
    have s2 := hb2.size
    have s3 := hb3.size
    have t2 := hr2.lt
    have t3 := hr3.lt
    have HFIN : Pk (Copied p L F N w (.returned (.pointer (some ⟨_, 0, none⟩))) _) := Pk.mk (copy_join (v := .slice (some ⟨g1, 0, none⟩) L.length k1) (cs := cs) (m1 := m2) (m2 := m3) (T := T) (ft := ft) (fl := fl) HS.out (by first | exact below_then (below_then (below_then (below_drewN w 1) hb1) hb2) hb3 | exact below_then (below_then (below_then (below_drewN w 1) hb1) hb3) hb2 | exact below_then (below_then (below_then (below_drewN w 1) hb2) hb1) hb3 | exact below_then (below_then (below_then (below_drewN w 1) hb2) hb3) hb1 | exact below_then (below_then (below_then (below_drewN w 1) hb3) hb1) hb2 | exact below_then (below_then (below_then (below_drewN w 1) hb3) hb2) hb1) (by first | exact hr1 | exact own_below (hr1) hb2 | exact own_below (hr1) hb3 | exact own_below (own_below (hr1) hb2) hb3 | exact own_below (own_below (hr1) hb3) hb2) (fun k hk => by have := hl1 k hk; omega) (by first | exact hr2 | exact MapF.below (hr2) hb1 | exact MapF.below (hr2) hb3 | exact MapF.below (MapF.below (hr2) hb1) hb3 | exact MapF.below (MapF.below (hr2) hb3) hb1) (by omega) (by first | exact hr3 | exact MapF.below (hr3) hb1 | exact MapF.below (hr3) hb2 | exact MapF.below (MapF.below (hr3) hb1) hb2 | exact MapF.below (MapF.below (hr3) hb2) hb1) (by omega) (by omega) H3.out H7.out H8.out H9.out)
    clear hr1 hb1 hl1 hr2 hb2 hl2 hr3 hb3 hl3 hd s1 s2 s3 t2 t3
    go_wp2
    go_ret
    exact HFIN.out
end Go.Proofs.Ytpkegeblfdlibaa
