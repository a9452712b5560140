/- Walks of the reference's Split, put. -/
import Derived.Test.YtpkegeblfdlibaaRef1
namespace Go.Proofs.Ytpkegeblfdlibaa
open Go Go.RowKit
set_option linter.unusedVariables false
set_option linter.unusedSimpArgs false

set_option maxHeartbeats 2000000 in
theorem rsplit_st (x : Int) (p : Nat) (L : List Nd) (F : Foot) (w : World) (hs : RefAt w p L F) :
   Calls Try.prog 44 #[.pointer (some ⟨p, 0, none⟩), .int .i64 x] w fun e w' => e = SplitE (splitP L x) ∧ Below w.heap.size w w' := by
  have HS := Pk.mk hs
  clear hs
  go_enter Try.func44, Try.ntmps44
  go_wp2_with fail
  refine (rthere_st p 1 L F _ [x] _ (by simp) (HS.out.below (below_alloc _ _)) (ints_new _ _ _ [x] _ rfl)).mono ?_
  rintro e w1 ⟨rfl, hb⟩
  have HB := Pk.mk (below_then (below_alloc w _) hb)
  clear hb
  by_cases hr : thereB L.length [x] = true
  · rw [hr]
    have hx := List.all_eq_true.1 hr x (by simp)
    simp only [Bool.and_eq_true, decide_eq_true_eq] at hx
    obtain ⟨hx0, hx1⟩ := hx
    have hS1 := HS.out.below HB.out
    have hl := hS1.len
    obtain ⟨A, cap, c0, hp, hn⟩ := hS1.read
    have hxl : x.toNat < L.length := by omega
    obtain ⟨g, B, cc, rfl, hc, ho, hB, hcc, hok⟩ := hn x.toNat L[x.toNat] (by simp [hxl])
    have HN := Pk.mk (show nodeAt L x = L[x.toNat] by simp [nodeAt, List.getD_eq_getElem?_getD, hxl])
    generalize hnd : L[x.toNat] = nd at *
    clear hnd
    have hp0 : w1.cell? ⟨g, x.toNat * 5, none⟩ = some (.int .u8 nd.op) := hc 0 (by omega)
    have hp1 : w1.cell? ⟨g, x.toNat * 5 + 1, none⟩ = some (.int .i64 nd.fn) := hc 1 (by omega)
    have hp2 : w1.cell? ⟨g, x.toNat * 5 + 2, none⟩ = some (.int .i64 nd.num) := hc 2 (by omega)
    have hp3 : w1.cell? ⟨g, x.toNat * 5 + 3, none⟩ = some (.int .i64 nd.sort) := hc 3 (by omega)
    have hp4 : w1.cell? ⟨g, x.toNat * 5 + 4, none⟩ = some (.slice B nd.args.length cc) := hc 4 (by omega)
    clear hc hn hS1 HS
    have HBA := Pk.mk (below_then HB.out (below_alloc w1 (.cells #[.int .u8 nd.op, .int .i64 nd.fn, .int .i64 nd.num, .int .i64 nd.sort, .slice B nd.args.length cc] 44)))
    have HR := Pk.mk hr
    clear hr ho
    by_cases hs1 : nd.sort = 1
    · have hs1b : (nd.sort != 1) = false := by simp [hs1]
      by_cases h3 : nd.op = 3
      · have h3b : (nd.op == 3) = true := by simp [h3]
        have HP : Pk (splitP L x = (2, nd.num, 0)) := Pk.mk (by simp [splitP, HR.out, HN.out, hs1, h3])
        clear hs1 h3
        go_wp2
        go_quiet (fail)
        go_wp2
        go_ret3
        exact ⟨by rw [HP.out]; rfl, below_dr HBA.out _⟩
      · have h3b : (nd.op == 3) = false := by simp [h3]
        by_cases h4 : nd.op = 4
        · have h4b : (nd.op == 4) = true := by simp [h4]
          have hne := hok.plus h4
          have HP : Pk (splitP L x = (argAt nd 0, nd.num, 0)) := Pk.mk (by simp [splitP, HR.out, HN.out, hs1, h4])
          obtain ⟨y, r, hyr⟩ : ∃ y r, nd.args = y :: r := by
            cases h : nd.args with
            | nil => exact absurd h hne
            | cons y r => exact ⟨y, r, rfl⟩
          have hal : 0 < nd.args.length := by rw [hyr]; simp
          obtain ⟨ad, rfl, hca⟩ := hB 0 y (by rw [hyr]; rfl)
          have HY : Pk (argAt nd 0 = y) := Pk.mk (by rw [argAt, hyr]; rfl)
          rw [add_zero_] at hca
          have hadb := World.block_lt_of_cell? w1 _ hca
          clear hs1 h3 h4 hne hyr hB
          go_wp2
          go_quiet (fail)
          go_wp2
          go_ret3
          exact ⟨by rw [HP.out, HY.out]; rfl, below_dr HBA.out _⟩
        · have h4b : (nd.op == 4) = false := by simp [h4]
          have HP : Pk (splitP L x = (x, 0, 0)) := Pk.mk (by simp [splitP, HR.out, HN.out, hs1, h3, h4])
          clear hs1 h3 h4
          go_wp2
          go_ret3
          exact ⟨by rw [HP.out]; rfl, HBA.out⟩
    · have hs1b : (nd.sort != 1) = true := by simp [hs1]
      have HP : Pk (splitP L x = (0, 0, 60)) := Pk.mk (by simp [splitP, HR.out, HN.out, hs1])
      clear hs1
      go_wp2
      go_ret3
      exact ⟨by rw [HP.out]; rfl, HBA.out⟩
  · have HP : Pk (splitP L x = (0, 0, 7)) := ⟨by simp [splitP, hr]⟩
    rw [Bool.not_eq_true] at hr
    rw [hr]
    clear hr
    go_wp2
    go_ret3
    exact ⟨by rw [HP.out]; rfl, HB.out⟩

/-- what a call of the reference's that makes a term tells -/
def MadeR (w : World) (p : Nat) (F : Foot) (r : List Nd × Int × Int) (e : Ending) (w' : World) : Prop :=
  ∃ F', e = .returned (.tuple #[.int .i64 r.2.1, .int .i64 r.2.2]) ∧ RefAt w' p r.1 F' ∧ Upd F F' w w'
theorem MadeR.same {w w' : World} {p : Nat} {L : List Nd} {F : Foot} {r : List Nd × Int × Int} {t e : Int} (hs : RefAt w p L F) (hb : Below w.heap.size w w') (hr : r = (L, t, e)) : MadeR w p F r (.returned (.tuple #[.int .i64 t, .int .i64 e])) w' := by
  subst hr
  exact ⟨F, rfl, hs.below hb, Upd.of_below hb⟩
theorem MadeR.after {w w1 w' : World} {p : Nat} {F F' : Foot} {r r' : List Nd × Int × Int} (hb : Below w.heap.size w w1) (hr : r = r') (hst : RefAt w' p r'.1 F') (hu : Upd F F' w1 w') : MadeR w p F r (.returned (.tuple #[.int .i64 r'.2.1, .int .i64 r'.2.2])) w' := by
  subst hr
  exact ⟨F', rfl, hst, (Upd.of_below hb).trans hu⟩
theorem take_mem_not {L : List Nd} {nd : Nd} {k : Nat} (hk : k < L.length) (h : nd ∉ L.take k) (he : L[k] ≠ nd) : nd ∉ L.take (k + 1) := by
  rw [List.take_succ_eq_append_getElem hk]
  simp only [List.mem_append, List.mem_singleton, not_or]
  exact ⟨h, fun e => he e.symm⟩
theorem idx_at {L : List Nd} {nd : Nd} {k : Nat} (hk : k < L.length) (h : nd ∉ L.take k) (he : L[k] = nd) : L.idxOf nd = k := by
  have hL : L = L.take k ++ L[k] :: L.drop (k + 1) := by
    rw [List.getElem_cons_drop, List.take_append_drop]
  conv => lhs; rw [hL]
  rw [List.idxOf_append, if_neg h, he]
  simp
  omega

set_option maxRecDepth 100000 in
set_option maxHeartbeats 4000000 in
theorem rput_st (p c : Nat) (L : List Nd) (F : Foot) (nd : Nd) (B : Option Addr) (w : World) (hs : RefAt w p L F) (hok : NdOk nd)
    (hB : IntsAt w B nd.args) (hF : ∀ ad, B = some ad → ¬ F.m ad.block) (hBc : B = none → c = 0) :
    Calls Try.prog 50 #[.pointer (some ⟨p, 0, none⟩), .agg #[.int .u8 nd.op, .int .i64 nd.fn, .int .i64 nd.num, .int .i64 nd.sort, .slice B nd.args.length c]] w (MadeR w p F (putP L nd)) := by
  have hargl := hok.len
  have hl := hs.len
  have HS := Pk.mk hs
  have HB := Pk.mk hB
  have HF := Pk.mk hF
  have HOK := Pk.mk hok
  have HBC := Pk.mk hBc
  obtain ⟨A, cap, c0, hp, _⟩ := hs.read
  have C0 := Pk.mk c0
  clear hs hok hB hF c0 hBc
  go_enter Try.func50, Try.ntmps50
  go_wp2
  obtain ⟨w0, hw0⟩ : ∃ w0, w0 = w.alloc (.cells #[.int .u8 nd.op, .int .i64 nd.fn, .int .i64 nd.num, .int .i64 nd.sort, .slice B nd.args.length c] 44) := ⟨_, rfl⟩
  rw [← hw0]
  have HB0 : Pk (Below w.heap.size w w0) := Pk.mk (by rw [hw0]; exact below_alloc _ _)
  have HBX : Pk (w0.heap[w.heap.size]? = some (.cells #[.int .u8 nd.op, .int .i64 nd.fn, .int .i64 nd.num, .int .i64 nd.sort, .slice B nd.args.length c] 44 (0, 0))) := Pk.mk (by rw [hw0]; exact (MapKept.heap_alloc w _).1)
  clear hw0
  go_loopw [6] (fun v6 wr => ∃ k : Nat, v6 = .int .i64 k ∧ k ≤ L.length ∧ Pk (nd ∉ L.take k) ∧ Pk (Below w0.heap.size w0 wr)) (fun v6 _ => L.length - (intOf v6).toNat)
  case atStart => exact ⟨0, rfl, by omega, ⟨by simp⟩, ⟨Below.refl _ _⟩⟩
  case round =>
    obtain ⟨k, rfl, hk, HT, HW⟩ := hrel
    have HBW := Pk.mk (below_then HB0.out HW.out)
    have hBX := heap_below HW.out HBX.out
    have b0 : wr.cell? ⟨w.heap.size, 0, none⟩ = some (.int .u8 nd.op) := cell_of_heap hBX rfl
    have b1 : wr.cell? ⟨w.heap.size, 1, none⟩ = some (.int .i64 nd.fn) := cell_of_heap hBX rfl
    have b2 : wr.cell? ⟨w.heap.size, 2, none⟩ = some (.int .i64 nd.num) := cell_of_heap hBX rfl
    have b3 : wr.cell? ⟨w.heap.size, 3, none⟩ = some (.int .i64 nd.sort) := cell_of_heap hBX rfl
    have b4 : wr.cell? ⟨w.heap.size, 4, none⟩ = some (.slice B nd.args.length c) := cell_of_heap hBX rfl
    have bsz := lt_of_heap hBX
    have HBXr := Pk.mk hBX
    clear hBX
    by_cases hlt : k < L.length
    · obtain ⟨A', cap', c0', hp', hn⟩ := (HS.out.below HBW.out).read
      obtain ⟨g, B1, cc, rfl, hc, ho, hB1, hcc, hok1⟩ := hn k L[k] (by simp [hlt])
      have HEQ : Pk (L[k] = nd → L.idxOf nd = k) := Pk.mk (idx_at hlt HT.out)
      have HNE : Pk (L[k] ≠ nd → nd ∉ L.take (k + 1)) := Pk.mk (take_mem_not hlt HT.out)
      have HM : Pk (L[k] ∈ L) := Pk.mk (List.getElem_mem hlt)
      generalize L[k] = nk at *
      have hp0 : wr.cell? ⟨g, k * 5, none⟩ = some (.int .u8 nk.op) := hc 0 (by omega)
      have hp1 : wr.cell? ⟨g, k * 5 + 1, none⟩ = some (.int .i64 nk.fn) := hc 1 (by omega)
      have hp2 : wr.cell? ⟨g, k * 5 + 2, none⟩ = some (.int .i64 nk.num) := hc 2 (by omega)
      have hp3 : wr.cell? ⟨g, k * 5 + 3, none⟩ = some (.int .i64 nk.sort) := hc 3 (by omega)
      have hp4 : wr.cell? ⟨g, k * 5 + 4, none⟩ = some (.slice B1 nk.args.length cc) := hc 4 (by omega)
      have HB1 := Pk.mk hB1
      have HL1 := Pk.mk hok1.len
      clear hc hn ho hB1 hcc hok1
      go_wp2
      obtain ⟨wd, hwd⟩ : ∃ wd, wd = wr.drew := ⟨_, rfl⟩
      have HWD := Pk.mk hwd
      have HBD : Pk (Below wr.heap.size wr wd) := Pk.mk (by rw [hwd]; exact below_drewN _ 1)
      clear hwd
      replace b0 := cell_below HBD.out b0
      replace b1 := cell_below HBD.out b1
      replace b2 := cell_below HBD.out b2
      replace b3 := cell_below HBD.out b3
      replace b4 := cell_below HBD.out b4
      replace hp0 := cell_below HBD.out hp0
      replace hp1 := cell_below HBD.out hp1
      replace hp2 := cell_below HBD.out hp2
      replace hp3 := cell_below HBD.out hp3
      replace hp4 := cell_below HBD.out hp4
      replace c0' := cell_below HBD.out c0'
      refine region_tail 8 (by kernel_rfl) (by kernel_rfl) wd HWD.out ?_
      simp only [List.take_succ_cons, List.take_zero, List.drop_succ_cons, List.drop_zero]
      repeat still_step
      refine wpStill_nil ?_
      go_wp2_with fail
      refine (same_ok nk nd B1 B cc c wd (HB1.out.below HBD.out) ((HB.out.below HBW.out).below HBD.out) (by have := HL1.out; omega) (by omega)).mono ?_
      rintro e w2 ⟨rfl, hb2⟩
      have HB2 := Pk.mk (below_then HW.out (below_then HBD.out hb2))
      clear hb2
      by_cases he : nk = nd
      · rw [decide_eq_true he]
        have HP : Pk (putP L nd = (L, (k : Int), 0)) := Pk.mk (by
          have h1 := HEQ.out he
          have h2 : nd ∈ L := by rw [← he]; exact HM.out
          simp [putP, h2, h1])
        clear he
        go_wp2
        go_ret2
        exact MadeR.same HS.out (below_then HB0.out HB2.out) HP.out
      · rw [decide_eq_false he]
        have HN := Pk.mk (HNE.out he)
        clear he
        go_wp2
        go_roundw
        case rel => exact ⟨k + 1, by go_num, by omega, HN, HB2⟩
        case measure => simp [intOf]; omega
    · have HNM : Pk (nd ∉ L) := Pk.mk (by have := HT.out; rwa [List.take_of_length_le (by omega)] at this)
      have c0' := cell_below HBW.out C0.out
      have hpw : p < wr.heap.size := by have := HBW.out.size; omega
      by_cases hfull : 20000 ≤ L.length
      · have HP : Pk (putP L nd = (L, 0, 9)) := Pk.mk (by simp [putP, HNM.out, hfull])
        go_wp2
        go_ret2
        exact MadeR.same HS.out HBW.out HP.out
      · have HP : Pk (putP L nd = (L ++ [nd], (L.length : Int), 0)) := Pk.mk (by simp [putP, HNM.out, hfull])
        obtain ⟨⟨v, cs, h1, h2, h3, hp1, hv1⟩, hnd, hok', hlt', hsep, hlen⟩ := HS.out
        have HP1 := Pk.mk h1
        have HO := Pk.mk h2
        have HN := Pk.mk h3
        have HFp := Pk.mk hp1
        have HFv := Pk.mk hv1
        have HND := Pk.mk hnd
        have HOKL := Pk.mk hok'
        have HLT := Pk.mk hlt'
        have HSEP := Pk.mk hsep
        clear h1 h2 h3 hp1 hv1 hnd hok' hlt' hsep
        have hvL : ∃ A cap, v = .slice A L.length cap := by
          rcases HO.out.2 with ⟨rfl, h0⟩ | ⟨g, cap, cur, rfl, _⟩
          · exact ⟨none, 0, by rw [h0]⟩
          · exact ⟨_, cap, rfl⟩
        clear c0' C0
        obtain ⟨A, cap, rfl⟩ := hvL
        have HPr := Pk.mk (heap_below HBW.out HP1.out)
        have c0' : wr.cell? ⟨p, 0, none⟩ = some (.slice A L.length cap) := cell_of_heap HPr.out rfl
        obtain ⟨i0, hi, hzz⟩ := Option.map_eq_some_iff.1 info30
        simp only [Prod.mk.injEq] at hzz
        obtain ⟨hz0, hz1, hz2⟩ := hzz
        have HI := Pk.mk hi
        have HZ0 := Pk.mk hz0
        have HZ1 := Pk.mk hz1
        have HZ2 := Pk.mk hz2
        clear hi hz0 hz1 hz2
        have HIB := Pk.mk ((HB.out.below HBW.out).below (below_alloc wr (.cells #[] 30)))
        go_wp2_with (at_builtin; refine wpList_append_ints rfl (.tmp 32) (.tmp 34) 29 rfl 30 i0 8 Try.underlying29 HI.out HZ0.out HZ1.out HZ2.out (.slice (some ⟨wr.heap.size, 0, none⟩) 0 0) [] rfl (World.ownsRow_made wr #[] 0 (Nat.zero_le _) (by simp [maxLen]) rfl) B c nd.args rfl HIB.out ?c1 ?c2 ?_)
        case c1 => simp only [maxLen, List.length_nil]; omega
        case c2 => simp only [List.length_nil]; omega
        intro v' w1 hv1 hg1 hat1
        replace hv1 : w1.ownsRow 0 30 1 v' nd.args.length (nums nd.args) := hv1
        obtain ⟨B', c', rfl, _, _, hc', hB', _⟩ := own_ints hv1
        have HV1 : Pk (w1.ownsRow 0 30 1 (.slice B' nd.args.length c') nd.args.length (nums nd.args)) := Pk.mk hv1
        have hv2 : Below wr.heap.size wr w1 := (below_alloc wr _).grown hg1 (by simp) (by intro k hk; simp [Value.ownBlock] at hk; omega)
        have hsz1 : wr.heap.size + 1 ≤ w1.heap.size := by have := hg1.size; simpa using this
        have HV3 : Pk (∀ k, (Value.slice B' nd.args.length c').ownBlock = some k → wr.heap.size ≤ k) := Pk.mk (by
          intro k hk
          rcases hat1 with h | h <;> rw [hk] at h <;> simp [Value.ownBlock] at h <;> omega)
        have HW1 := Pk.mk hv2
        have HBX1 := Pk.mk (heap_below hv2 HBXr.out)
        clear hv1 hg1 hat1 hv2 hB'
        have h14 : w1.cell? ⟨w.heap.size, 4, none⟩ = some (.slice B nd.args.length c) := cell_of_heap HBX1.out rfl
        have f14 : w1.frozen? ⟨w.heap.size, 4, none⟩ = false := frozen_of_heap HBX1.out _
        go_wp2
        clear HIB
        obtain ⟨w2, hw2⟩ : ∃ w2, w2 = w1.setCell ⟨w.heap.size, 4, none⟩ (.slice B' nd.args.length c') := ⟨_, rfl⟩
        rw [← hw2]
        have HF12 : Pk (Fr (fun b => b = w.heap.size) w1 w2) := Pk.mk (by rw [hw2]; exact (Fr.refl (fun b => b = w.heap.size) w1).setCell (p := ⟨w.heap.size, 4, none⟩) (.inl rfl) _)
        have HBX2 : Pk (w2.heap[w.heap.size]? = some (.cells #[.int .u8 nd.op, .int .i64 nd.fn, .int .i64 nd.num, .int .i64 nd.sort, .slice B' nd.args.length c'] 44 (0, 0))) := Pk.mk (by rw [hw2]; exact heap_setCell_same HBX1.out _)
        have HF2 : Pk (Fr (fun _ => False) w w2) := Pk.mk ((Fr.of_below (below_then HBW.out HW1.out)).trans' HF12.out (by rintro i rfl; exact .inr (Nat.le_refl _)))
        clear hw2 h14 f14 b0 b1 b2 b3 b4
        have HP2 := Pk.mk (HF2.out.heap HP1.out id)
        have hw2s : w1.heap.size ≤ w2.heap.size := HF12.out.size
        have g0 : w2.cell? ⟨w.heap.size, 0, none⟩ = some (.int .u8 nd.op) := cell_of_heap HBX2.out rfl
        have g1 : w2.cell? ⟨w.heap.size, 1, none⟩ = some (.int .i64 nd.fn) := cell_of_heap HBX2.out rfl
        have g2 : w2.cell? ⟨w.heap.size, 2, none⟩ = some (.int .i64 nd.num) := cell_of_heap HBX2.out rfl
        have g3 : w2.cell? ⟨w.heap.size, 3, none⟩ = some (.int .i64 nd.sort) := cell_of_heap HBX2.out rfl
        have g4 : w2.cell? ⟨w.heap.size, 4, none⟩ = some (.slice B' nd.args.length c') := cell_of_heap HBX2.out rfl
        have q0 : w2.cell? ⟨p, 0, none⟩ = some (.slice A L.length cap) := cell_of_heap HP2.out rfl
        have qs : p < w2.heap.size := by omega
        have qb : w.heap.size < w2.heap.size := by omega
        have HO2 := Pk.mk ((HF2.out.own HO.out (fun _ _ h => h)).alloc (.cells #[.int .u8 nd.op, .int .i64 nd.fn, .int .i64 nd.num, .int .i64 nd.sort, .slice B' nd.args.length c'] 44))
        have HNC : Pk (∀ j u, (nodeCells nd (.slice B' nd.args.length c'))[j]? = some u → (w2.alloc (.cells #[.int .u8 nd.op, .int .i64 nd.fn, .int .i64 nd.num, .int .i64 nd.sort, .slice B' nd.args.length c'] 44)).cell? ((⟨w2.heap.size, 0, none⟩ : Addr).add j) = some u) := Pk.mk (by
          intro j u hu
          rw [add_plain]
          exact cell_of_heap (MapKept.heap_alloc w2 _).1 (by simpa [nodeCells] using hu))
        have HN1 : Pk (∀ u ∈ nodeCells nd (.slice B' nd.args.length c'), u.oneCell' = true) := Pk.mk (by
          intro u hu
          simp only [nodeCells, List.mem_cons, List.not_mem_nil, or_false] at hu
          rcases hu with rfl | rfl | rfl | rfl | rfl <;> rfl)
        have hml1 : L.length + 1 ≤ maxLen := by simp only [maxLen]; omega
        have hml2 : (L.length + 1) * 56 ≤ 140737488355328 := by omega
        have HPA : Pk ((Value.slice A L.length cap).ownBlock ≠ some p) := Pk.mk (by
          intro hk
          obtain ⟨cur, hc⟩ := own_block HO.out hk
          rw [HP1.out] at hc; cases hc)
        obtain ⟨j0, hi, hzz⟩ := Option.map_eq_some_iff.1 info44
        simp only [Prod.mk.injEq] at hzz
        obtain ⟨hz0, hz1, hz2⟩ := hzz
        have HJ := Pk.mk hi
        have HY0 := Pk.mk hz0
        have HY1 := Pk.mk hz1
        have HY2 := Pk.mk hz2
        clear hi hz0 hz1 hz2
        go_region_law (refine step_append rfl (.tmp 41) (.tmp 43) 34 rfl 44 j0 _ 5 56 Try.underlying34 HJ.out HY0.out HY1.out HY2.out rfl (by decide) (.slice A L.length cap) L.length cs rfl HO2.out ⟨w2.heap.size, 0, none⟩ 1 1 (nodeCells nd (.slice B' nd.args.length c')) rfl rfl HNC.out HN1.out hml1 hml2 ?_; intro v3 w3 hown3 hg3 hat3; obtain ⟨g3, cap3, rfl⟩ := own_form hown3 (by omega); have p3 : w3.heap[p]? = some (.cells #[.slice A L.length cap] 36 (0, 0)) := (hg3.block p (by simp; omega) (fun e => HPA.out e.symm)).trans (heap_alloc HP2.out _); have q3 : w3.cell? ⟨p, 0, none⟩ = some (.slice A L.length cap) := cell_of_heap p3 rfl; have r3 : w3.frozen? ⟨p, 0, none⟩ = false := frozen_of_heap p3 _; have P3 := Pk.mk p3; have HO3 := Pk.mk hown3; have HG3 := Pk.mk hg3; have HA3 := Pk.mk hat3; clear p3 hown3 hg3 hat3)
        all_goals
          obtain ⟨w4, hw4⟩ : ∃ w4, w4 = w3.setCell ⟨p, 0, none⟩ (.slice (some ⟨g3, 0, none⟩) (L.length + 1) cap3) := ⟨_, rfl⟩
          rw [← hw4]
          have P4 : Pk (w4.heap[p]? = some (.cells #[.slice (some ⟨g3, 0, none⟩) (L.length + 1) cap3] 36 (0, 0))) := Pk.mk (by rw [hw4]; exact heap_setCell_same P3.out _)
          have HF24 : Pk (Fr (fun b => b = p ∨ (Value.slice A L.length cap).ownBlock = some b) w2 w4) := Pk.mk (by
            rw [hw4]
            exact (((Fr.refl _ w2).alloc _).drew.grown HG3.out (fun k hk => .inl (.inr hk))).setCell (p := ⟨p, 0, none⟩) (.inl (.inl rfl)) _)
          have HO4 : Pk (w4.ownsRow 0 44 5 (.slice (some ⟨g3, 0, none⟩) (L.length + 1) cap3) (L.length + 1) (cs ++ nodeCells nd (.slice B' nd.args.length c'))) := Pk.mk (by
            rw [hw4]
            refine ((Fr.refl (fun b => b = p) w3).setCell (p := ⟨p, 0, none⟩) (.inl rfl) _).own HO3.out ?_
            intro k hk e
            subst e
            obtain ⟨cur, hc⟩ := own_block HO3.out hk
            rw [P3.out] at hc; cases hc)
          have hAlt : ∀ k, (Value.slice A L.length cap).ownBlock = some k → k < w.heap.size := fun k hk => (HO.out.lt k hk).2
          have HAL := Pk.mk hAlt
          clear hw4 hAlt
          have k5 : w4.cell? ⟨p, 0, none⟩ = some (.slice (some ⟨g3, 0, none⟩) (L.length + 1) cap3) := cell_of_heap P4.out rfl
          clear g0 g1 g2 g4 q0 c0'
          go_wp2
          go_ret2
          have HG4 : Fr F.m w w4 := (HF2.out.mono (fun _ _ h => h.elim)).trans (HF24.out.mono (by
            rintro i _ (e | e)
            · subst e; exact HFp.out
            · exact HFv.out _ e))
          have hlo : ∀ k, (Value.slice B' nd.args.length c').ownBlock = some k → wr.heap.size ≤ k := HV3.out
          have hwr : w.heap.size < wr.heap.size := bsz
          have hv6 := HF24.out.own (HF12.out.own HV1.out (by intro k hk e; have := hlo k hk; omega)) (by
              rintro k hk (e | e)
              · have := hlo k hk; omega
              · have := hlo k hk; have := HAL.out k e; omega)
          have hN6 := ((HN.out.fr HG4 (fun k _ h => HSEP.out k h)).mono (G := fun k => F.r k ∨ (Value.slice B' nd.args.length c').ownBlock = some k) (fun k h => .inl h)).snoc hv6 (fun k hk => .inr hk)
          have h2s : (w2.alloc (.cells #[.int .u8 nd.op, .int .i64 nd.fn, .int .i64 nd.num, .int .i64 nd.sort, .slice B' nd.args.length c'] 44)).drew.heap.size = w2.heap.size + 1 := by simp
          refine ⟨⟨fun k => F.m k ∨ k = g3, fun k => F.r k ∨ (Value.slice B' nd.args.length c').ownBlock = some k⟩, by rw [HP.out]; rfl, ?_, ⟨HG4, ?_, ?_⟩⟩
          · rw [HP.out]
            refine ⟨⟨_, _, P4.out, by simpa using HO4.out, hN6, .inl HFp.out, ?_⟩, ?_, ?_, ?_, ?_, by simp; omega⟩
            · intro k hk
              refine .inr ?_
              simpa [Value.ownBlock] using hk.symm
            · rw [List.nodup_append]
              exact ⟨HND.out, by simp, by intro a ha b hb e; simp at hb; subst hb; subst e; exact HNM.out ha⟩
            · intro x hx
              rcases List.mem_append.1 hx with h | h
              · exact HOKL.out x h
              · simp at h; subst h; exact HOK.out
            · rintro k ((h | h) | (h | h))
              · exact HG4.lt (HLT.out k (.inl h))
              · subst h; exact (HO4.out.lt _ rfl).2
              · exact HG4.lt (HLT.out k (.inr h))
              · exact (hv6.lt k h).2
            · rintro k (h | h) (h' | h')
              · exact HSEP.out k h h'
              · subst h'
                rcases HA3.out with e | e
                · exact HSEP.out _ h (HFv.out _ e.symm)
                · simp only [Value.ownBlock, Option.some.injEq] at e
                  rw [h2s] at e
                  have := HLT.out _ (.inr h)
                  omega
              · have := hlo k h; have := HLT.out k (.inl h'); omega
              · subst h'
                have h1 := hlo _ h
                have h2 := (HV1.out.lt _ h).2
                rcases HA3.out with e | e
                · have h3 : k < w.heap.size := HLT.out _ (.inl (HFv.out _ e.symm))
                  omega
                · simp only [Value.ownBlock, Option.some.injEq] at e
                  rw [h2s] at e
                  omega
          · rintro k (h | h)
            · exact .inl h
            · subst h
              rcases HA3.out with e | e
              · exact .inl (HFv.out _ e.symm)
              · refine .inr ?_
                simp only [Value.ownBlock, Option.some.injEq] at e
                rw [h2s] at e
                omega
          · rintro k (h | h)
            · exact .inl h
            · exact .inr (by have := hlo k h; omega)
end Go.Proofs.Ytpkegeblfdlibaa
