/- Walk of put. -/
import Derived.Test.YtpkegeblfdlibaaWalk2
import Derived.Test.YtpkegeblfdlibaaWalk3
namespace Go.Proofs.Ytpkegeblfdlibaa
open Go Go.RowKit
set_option linter.unusedVariables false
set_option linter.unusedSimpArgs false
theorem laid : laidOutB Try.prog = true := by kernel_rfl
theorem kl72 : WideMaps.KeyLaw Try.prog 72 := deep_law_laid laid (m := 5) (by decide) (of_decide_eq_true (by kernel_rfl)) (by kernel_rfl) (by kernel_rfl)
theorem kl75 : WideMaps.KeyLaw Try.prog 75 := deep_law_laid laid (m := 5) (by decide) (of_decide_eq_true (by kernel_rfl)) (by kernel_rfl) (by kernel_rfl)
theorem lits_int (m : Nat) (t : TypeId) (q : IntKind) (n : Int) (ht : Try.prog.underlying t = some (.int q)) (h : (Lit.int q n).wf = true) : Try.prog.keyLits (m + 1) t [.int q n] = some [.int q n] := by
  simp [Program.keyLits, ht, h]
theorem wfi {x : Int} (h : i64 x) : (Lit.int .i64 x).wf = true := WalkArith.wf_i64 h
theorem keyOf75 (a b : Int) (ha : i64 a) (hb : i64 b) : ∃ l, keyOf Try.prog 75 (.agg #[.int .i64 a, .int .i64 b]) = some l := by
  have h1 : Try.prog.keyType 75 = true := by kernel_rfl
  have h2 : (Value.agg #[.int .i64 a, .int .i64 b]).formed Try.prog 75 = true := by kernel_rfl
  have h4 : Try.prog.cellsOf 75 = 2 := by kernel_rfl
  have h5 : Try.prog.cellsOf 3 = 1 := by kernel_rfl
  have h6 : Try.prog.cellsOf 30 = 1 := by kernel_rfl
  obtain ⟨m, hm⟩ : ∃ m, Try.prog.types.size = m + 1 := ⟨106, by kernel_rfl⟩
  simp only [keyOf, Try.underlying75, h1, h2, hm]
  unfold Program.keyLits
  simp only [Try.underlying75, Value.cells, h4, h5, h6]
  simp [h4, h5, h6, lits_int m 3 .i64 a Try.underlying3 (wfi ha), lits_int m 30 .i64 b Try.underlying30 (wfi hb)]
theorem keyOf72 (a b c d e : Int) (ha : 0 ≤ a ∧ a ≤ 255) (hb : i64 b) (hc : i64 c) (hd : i64 d) (he : i64 e) : ∃ l, keyOf Try.prog 72 (.agg #[.int .u8 a, .int .i64 b, .int .i64 c, .int .i64 d, .int .i64 e]) = some l := by
  have h1 : Try.prog.keyType 72 = true := by kernel_rfl
  have h2 : (Value.agg #[.int .u8 a, .int .i64 b, .int .i64 c, .int .i64 d, .int .i64 e]).formed Try.prog 72 = true := by kernel_rfl
  have h4 : Try.prog.cellsOf 72 = 5 := by kernel_rfl
  have h5 : Try.prog.cellsOf 3 = 1 := by kernel_rfl
  have h6 : Try.prog.cellsOf 42 = 1 := by kernel_rfl
  have h7 : Try.prog.cellsOf 2 = 1 := by kernel_rfl
  have h8 : Try.prog.cellsOf 31 = 1 := by kernel_rfl
  obtain ⟨m, hm⟩ : ∃ m, Try.prog.types.size = m + 1 := ⟨106, by kernel_rfl⟩
  simp only [keyOf, Try.underlying72, h1, h2, hm]
  unfold Program.keyLits
  simp only [Try.underlying72, Value.cells, h4, h5, h6, h7, h8]
  simp [h4, h5, h6, h7, h8, lits_int m 3 .i64 b Try.underlying3 (wfi hb), lits_int m 3 .i64 e Try.underlying3 (wfi he), lits_int m 42 .u8 a Try.underlying42 (WalkArith.wf_u8 ha), lits_int m 2 .i64 c Try.underlying2 (wfi hc), lits_int m 31 .i64 d Try.underlying31 (wfi hd)]
theorem keys75 : Keys Try.prog 75 S75 := Keys.of_keyed (Maps.Keyed.of_law kl75) (by rintro v ⟨c, h1, h2, rfl⟩; exact keyOf75 _ _ h1 h2)
theorem keys72 : Keys Try.prog 72 S72 := Keys.of_keyed (Maps.Keyed.of_law kl72) (by rintro v ⟨nd, c, h1, h2, rfl⟩; exact keyOf72 _ _ _ _ _ h1.op h1.fn ⟨by have := h1.num.1; omega, by have := h1.num.2; omega⟩ h1.sort h2)
theorem zero3 (w : World) : (zeroValue 3).run Try.prog w = .ok (.int .i64 0) w := by kernel_rfl
theorem zero30 (w : World) : (zeroValue 30).run Try.prog w = .ok (.int .i64 0) w := by kernel_rfl

set_option maxRecDepth 100000 in
set_option maxHeartbeats 4000000 in
theorem put_st (p c : Nat) (L : List Nd) (F : Foot) (N : Nat) (nd : Nd) (B : Option Addr) (w : World) (hs : StoreAt w p L F N) (hok : NdOk nd) (hN : N ≤ 1000000000000)
    (hB : IntsAt w B nd.args) (hc : B = none → c = 0) (hF : ∀ ad, B = some ad → ¬ F.m ad.block) :
    Calls Try.prog 20 #[.pointer (some ⟨p, 0, none⟩), .agg #[.int .u8 nd.op, .int .i64 nd.fn, .int .i64 nd.num, .int .i64 nd.sort, .slice B nd.args.length c]] w (Made w p F N (putP L nd)) := by
  obtain ⟨⟨v, mt, ml, cs, T, ft, fl, h1, h2, h3, h4, h5, h6, h7, h8, h9, hp, hmt, hml, hv⟩, hlt, hsep, hlen⟩ := hs
  have hargl := hok.len
  have HP1 := Pk.mk h1
  have HO := Pk.mk h2
  have HN := Pk.mk h3
  have HMT := Pk.mk h4
  have HML := Pk.mk h5
  have HNE := Pk.mk h6
  have HLI := Pk.mk h7
  have HTE := Pk.mk h8
  have HFp := Pk.mk hp
  have HFt := Pk.mk hmt
  have HFl := Pk.mk hml
  have HFv := Pk.mk hv
  have HLT := Pk.mk hlt
  have HSEP := Pk.mk hsep
  have HB := Pk.mk hB
  have HC := Pk.mk hc
  have HF := Pk.mk hF
  have HOK := Pk.mk hok
  have hpl := lt_of_heap h1
  have HARG := Pk.mk hok.args
  clear h1 h2 h3 h4 h5 h6 h7 h8 hp hmt hml hv hlt hsep hB hc hF hok
  go_enter Try.func20, Try.ntmps20
  go_wp2
  go_loopw [6,8,9,10,11,19] (fun v6 v8 v9 v10 v11 v19 wr => ∃ (k : Nat) (cd : Int) (T' : List (Int × Int)) (fl' : Value → Option Value), v6 = .int .i64 cd ∧ v19 = .int .i64 k ∧ k ≤ nd.args.length ∧ 0 ≤ cd ∧ cd ≤ 2000000000000 ∧ T'.length ≤ T.length + k ∧ w.heap.size < wr.heap.size ∧
      Pk (Code T' cd (nd.args.take k)) ∧ Pk (Lists T' fl') ∧ Pk (MapF S75 wr ml fl' T'.length) ∧ Pk (∀ (i : Nat) (x : Int × Int), T[i]? = some x → T'[i]? = some x) ∧ Pk (Fr (fun b => b = ml) w wr) ∧
      Pk (wr.heap[w.heap.size]? = some (.cells #[.int .u8 nd.op, .int .i64 nd.fn, .int .i64 nd.num, .int .i64 nd.sort, .slice B nd.args.length c] 44 (0, 0)))) (fun _ _ _ _ _ v19 _ => nd.args.length - (intOf v19).toNat)
  case atStart =>
    refine ⟨0, 0, T, fl, rfl, rfl, by omega, by omega, by omega, by omega, by simp, ⟨Code.nil⟩, HLI, ⟨HML.out.fr (F := fun _ => False) (Fr.of_below (below_alloc w _)) id⟩, ⟨fun _ _ h => h⟩, ⟨Fr.of_below (below_alloc w _)⟩, ⟨(MapKept.heap_alloc w _).1⟩⟩
  case round =>
    obtain ⟨k, cd, T', fl', rfl, rfl, hk, hcd0, hcd1, hTl, hsz, HCO, HLI', HML', HEX, HFR, HBX⟩ := hrel
    have hplr : p < wr.heap.size := HFR.out.lt hpl
    have hpm : p ≠ ml := by
      rintro rfl
      obtain ⟨es, cl, hb, _⟩ := HML.out.ex
      rw [HP1.out] at hb; cases hb
    have HPr := Pk.mk (HFR.out.heap HP1.out hpm)
    by_cases hlt : k < nd.args.length
    · have hxk : nd.args[k]? = some nd.args[k] := by simp [hlt]
      obtain ⟨ad, hadB, hca⟩ := HB.out k _ hxk
      have hadF := HF.out ad hadB
      subst hadB
      have hca' : wr.cell? (ad.add k) = some (.int .i64 nd.args[k]) := HFR.out.cell hca (by
        have : (ad.add k).block = ad.block := by unfold Addr.add; split <;> rfl
        rw [this]; rintro rfl; exact hadF HFl.out)
      have hxi : i64 nd.args[k] := HARG.out _ (List.getElem_mem hlt)
      have HTK : Pk (nd.args.take (k + 1) = nd.args.take k ++ [nd.args[k]]) := Pk.mk (by rw [List.take_succ_eq_append_getElem hlt])
      clear hxk hca hadF
      generalize nd.args[k] = x at *
      have hp2 : wr.cell? ⟨p, 2, none⟩ = some (.map (some ml)) := cell_of_heap HPr.out rfl
      have hS : S75 (cellV (cd, x)) := ⟨(cd, x), ⟨by show -9223372036854775808 ≤ cd; omega, by show cd ≤ 9223372036854775807; omega⟩, hxi, rfl⟩
      have HA2 := Pk.mk (below_alloc wr (.cells #[.int .i64 cd, .int .i64 x] 75))
      have HLK := Pk.mk (fun n => (HML'.out.fr (F := fun _ => False) (Fr.of_below (below_dr HA2.out n)) id).look keys75 Try.underlying55 (zero3 _) hS true)
      have hb4 : wr.cell? ⟨w.heap.size, 4, none⟩ = some (.slice (some ad) nd.args.length c) := cell_of_heap HBX.out rfl
      rcases HLI'.out.look (cd, x) with ⟨hmem, hf⟩ | ⟨hf, hnin⟩
      · have hlk : ∀ n, (Instr.lookup 55 (.map (some ml)) (.agg #[.int .i64 cd, .int .i64 x]) true).run Try.prog ((wr.alloc (.cells #[.int .i64 cd, .int .i64 x] 75)).drewN n) = .ok (.tuple #[.int .i64 ((T'.idxOf (cd, x) : Nat) + 1 : Int), .bool true]) ((wr.alloc (.cells #[.int .i64 cd, .int .i64 x] 75)).drewN n) := by
          intro n
          have := HLK.out n
          rw [hf] at this
          exact this
        have hil := List.idxOf_lt_length_iff.2 hmem
        have HCO' := Pk.mk (Code.snoc HCO.out (idx_get hmem))
        generalize T'.idxOf (cd, x) = ix at *
        clear hf HLK hS hmem
        go_wp2
        go_quiet (fail)
        go_wp2
        go_roundw
        case rel =>
          refine ⟨k + 1, (ix : Int) + 1, T', fl', by go_num, by go_num, by omega, by omega, by omega, by omega, ?_, ⟨by rw [HTK.out]; exact HCO'.out⟩, HLI', ⟨HML'.out.fr (F := fun _ => False) (Fr.of_below (below_dr HA2.out _)) id⟩, HEX, ⟨HFR.out.trans (Fr.of_below (below_dr HA2.out _))⟩, ⟨heap_below (below_dr HA2.out _) HBX.out⟩⟩
          simp; omega
        case measure => simp [intOf]; omega
      · have hlk : ∀ n, (Instr.lookup 55 (.map (some ml)) (.agg #[.int .i64 cd, .int .i64 x]) true).run Try.prog ((wr.alloc (.cells #[.int .i64 cd, .int .i64 x] 75)).drewN n) = .ok (.tuple #[.int .i64 0, .bool false]) ((wr.alloc (.cells #[.int .i64 cd, .int .i64 x] 75)).drewN n) := by
          intro n
          have := HLK.out n
          rw [hf] at this
          exact this
        have hln : ∀ n, (Builtin.len_ #[55] 3 #[.map (some ml)]).run Try.prog ((wr.alloc (.cells #[.int .i64 cd, .int .i64 x] 75)).drewN n) = .ok (.int .i64 T'.length) ((wr.alloc (.cells #[.int .i64 cd, .int .i64 x] 75)).drewN n) := fun n =>
          (HML'.out.fr (F := fun _ => False) (Fr.of_below (below_dr HA2.out n)) id).run_len Try.underlying55 3
        have HLOOK := Pk.mk hf
        have HNIN := Pk.mk hnin
        have HS := Pk.mk hS
        clear hf HLK hS hnin
        have hT2 : T'.length ≤ 2000000000000 := by omega
        go_wp2
        go_quiet (fail)
        go_wp2
        have HFd : Pk (Below wr.heap.size wr ((wr.alloc (.cells #[.int .i64 cd, .int .i64 x] 75)).drewN nq).drew) := Pk.mk (below_then (below_dr HA2.out nq) (below_drewN _ 1))
        have hcx : ((wr.alloc (.cells #[.int .i64 cd, .int .i64 x] 75)).drewN nq).drew.heap[wr.heap.size]? = some (.cells #[.int .i64 cd, .int .i64 x] 75 (0, 0)) := (MapKept.heap_alloc wr _).1
        obtain ⟨wd, hwd⟩ : ∃ wd, wd = ((wr.alloc (.cells #[.int .i64 cd, .int .i64 x] 75)).drewN nq).drew := ⟨_, rfl⟩
        have HWD := Pk.mk hwd
        rw [← hwd] at HFd hcx
        clear hwd
        have hp2d : wd.cell? ⟨p, 2, none⟩ = some (.map (some ml)) := cell_below HFd.out hp2
        have hx0 : wd.cell? ⟨wr.heap.size, 0, none⟩ = some (.int .i64 cd) := cell_of_heap hcx rfl
        have hx1 : wd.cell? ⟨wr.heap.size, 1, none⟩ = some (.int .i64 x) := cell_of_heap hcx rfl
        clear hcx
        have HMd := HML'.out.fr (F := fun _ => False) (Fr.of_below HFd.out) id
        obtain ⟨w2, hrun, hm2, hg2⟩ := HMd.store keys75 Try.underlying55 HS.out (.int .i64 ((T'.length : Int) + 1))
        have hrun' : (Instr.mapUpdate 55 (.map (some ml)) (.agg #[.int .i64 cd, .int .i64 x]) (.int .i64 ((T'.length : Int) + 1))).run Try.prog wd = .ok () w2 := hrun
        have HM2 := Pk.mk hm2
        have HG2 := Pk.mk hg2
        clear hrun hm2 hg2 HMd
        refine region_tail 6 (by kernel_rfl) (by kernel_rfl) wd HWD.out ?_
        simp only [List.take_succ_cons, List.take_zero, List.drop_succ_cons, List.drop_zero]
        repeat still_step
        refine wpStill_nil ?_
        go_wp2
        go_roundw
        case rel =>
          have hTn : (T' ++ [(cd, x)])[T'.length]? = some (cd, x) := by simp
          have hext : ∀ (i : Nat) (y : Int × Int), T'[i]? = some y → (T' ++ [(cd, x)])[i]? = some y := fun i y hy => by
            rw [List.getElem?_append_left (List.getElem?_eq_some_iff.1 hy).1]; exact hy
          have hM := HM2.out
          rw [HLOOK.out] at hM
          refine ⟨k + 1, (T'.length : Int) + 1, T' ++ [(cd, x)], _, by go_num, by go_num, by omega, by omega, by omega, by simp; omega, ?_, ⟨by rw [HTK.out]; exact Code.snoc (HCO.out.ext hext) hTn⟩, ⟨HLI'.out.push HNIN.out⟩, ⟨by simpa using hM⟩, ⟨fun i y hy => hext i y (HEX.out i y hy)⟩, ⟨(HFR.out.trans (Fr.of_below HFd.out)).grown HG2.out (by intro k hk; cases hk; exact .inl rfl)⟩, ⟨?_⟩⟩
          · have := HFd.out.size; have := HG2.out.size; omega
          · refine (HG2.out.block _ (by have := HFd.out.size; omega) ?_).trans (heap_below HFd.out HBX.out)
            have := HML.out.lt
            intro e; cases e; omega
        case measure => simp [intOf]; omega
    · have hkl : k = nd.args.length := by omega
      have HCN : Pk (Code T' cd nd.args) := Pk.mk (by have := HCO.out; rw [hkl, List.take_length] at this; exact this)
      clear HCO
      have hb0 : wr.cell? ⟨w.heap.size, 0, none⟩ = some (.int .u8 nd.op) := cell_of_heap HBX.out rfl
      have hb1 : wr.cell? ⟨w.heap.size, 1, none⟩ = some (.int .i64 nd.fn) := cell_of_heap HBX.out rfl
      have hb2 : wr.cell? ⟨w.heap.size, 2, none⟩ = some (.int .i64 nd.num) := cell_of_heap HBX.out rfl
      have hb3 : wr.cell? ⟨w.heap.size, 3, none⟩ = some (.int .i64 nd.sort) := cell_of_heap HBX.out rfl
      have hb4 : wr.cell? ⟨w.heap.size, 4, none⟩ = some (.slice B nd.args.length c) := cell_of_heap HBX.out rfl
      have hp0 : wr.cell? ⟨p, 0, none⟩ = some v := cell_of_heap HPr.out rfl
      have hp1 : wr.cell? ⟨p, 1, none⟩ = some (.map (some mt)) := cell_of_heap HPr.out rfl
      have HTE' := Pk.mk (HTE.out.ext HLI'.out.nodup HEX.out)
      have hvL : ∃ A cap, v = .slice A L.length cap := by
        rcases HO.out.2 with ⟨rfl, h0⟩ | ⟨g, cap, cur, rfl, _⟩
        · exact ⟨none, 0, by rw [h0]⟩
        · exact ⟨_, cap, rfl⟩
      have hS : S72 (keyV nd cd) := ⟨nd, cd, HOK.out, ⟨by show -9223372036854775808 ≤ cd; omega, by show cd ≤ 9223372036854775807; omega⟩, rfl⟩
      have HA2 := Pk.mk (below_alloc wr (.cells #[.int .u8 nd.op, .int .i64 nd.fn, .int .i64 nd.num, .int .i64 nd.sort, .int .i64 cd] 72))
      have HMTr := Pk.mk (HMT.out.fr HFR.out HNE.out)
      have HLK := Pk.mk (fun n => (HMTr.out.fr (F := fun _ => False) (Fr.of_below (below_dr HA2.out n)) id).look keys72 Try.underlying54 (zero30 _) hS true)
      have HST : ∀ w', Below wr.heap.size wr w' → StoreAt w' p L F (N + 100000) ∧ Fr F.m w w' := Pk.out (Pk.mk (fun w' hb => by
        have hf : Fr (fun b => b = ml) w w' := HFR.out.trans (Fr.of_below hb)
        refine ⟨⟨⟨v, mt, ml, cs, T', ft, fl', hf.heap HP1.out hpm, hf.own HO.out ?_, HN.out.fr' hf ?_, HMT.out.fr hf HNE.out, HML'.out.fr (F := fun _ => False) (Fr.of_below hb) id, HNE.out, HLI'.out, HTE'.out, by omega, HFp.out, HFt.out, HFl.out, HFv.out⟩, fun k hk => hf.lt (HLT.out k hk), HSEP.out, hlen⟩, hf.mono (by rintro i _ rfl; exact HFl.out)⟩
        · intro k hk e
          subst e
          obtain ⟨cur, hc⟩ := own_block HO.out hk
          obtain ⟨es, cl, hb, _⟩ := HML.out.ex
          rw [hc] at hb; cases hb
        · intro k cur hc _ e
          subst e
          obtain ⟨es, cl, hb, _⟩ := HML.out.ex
          rw [hc] at hb; cases hb))
      have HSTP := Pk.mk HST
      clear HST
      obtain ⟨A, cap, rfl⟩ := hvL
      by_cases hmem : nd ∈ L
      · have HP : Pk (putP L nd = (L, (L.idxOf nd : Int), 0)) := Pk.mk (by simp [putP, hmem])
        have hlk : ∀ n, (Instr.lookup 54 (.map (some mt)) (.agg #[.int .u8 nd.op, .int .i64 nd.fn, .int .i64 nd.num, .int .i64 nd.sort, .int .i64 cd]) true).run Try.prog ((wr.alloc (.cells #[.int .u8 nd.op, .int .i64 nd.fn, .int .i64 nd.num, .int .i64 nd.sort, .int .i64 cd] 72)).drewN n) = .ok (.tuple #[.int .i64 (L.idxOf nd : Nat), .bool true]) ((wr.alloc (.cells #[.int .u8 nd.op, .int .i64 nd.fn, .int .i64 nd.num, .int .i64 nd.sort, .int .i64 cd] 72)).drewN n) := by
          intro n
          have := HLK.out n
          rw [HTE'.out.look nd cd HCN.out hmem] at this
          exact this
        generalize hix : L.idxOf nd = ix at *
        clear hix hmem HLK hS
        go_wp2
        go_quiet (fail)
        go_wp2
        go_ret2
        obtain ⟨hst, hfr⟩ := HSTP.out _ (below_dr HA2.out _)
        exact ⟨F, by rw [HP.out]; rfl, by rw [HP.out]; exact hst, hfr, fun _ h => .inl h, fun _ h => .inl h⟩
      · have hlk : ∀ n, (Instr.lookup 54 (.map (some mt)) (.agg #[.int .u8 nd.op, .int .i64 nd.fn, .int .i64 nd.num, .int .i64 nd.sort, .int .i64 cd]) true).run Try.prog ((wr.alloc (.cells #[.int .u8 nd.op, .int .i64 nd.fn, .int .i64 nd.num, .int .i64 nd.sort, .int .i64 cd] 72)).drewN n) = .ok (.tuple #[.int .i64 0, .bool false]) ((wr.alloc (.cells #[.int .u8 nd.op, .int .i64 nd.fn, .int .i64 nd.num, .int .i64 nd.sort, .int .i64 cd] 72)).drewN n) := by
          intro n
          have := HLK.out n
          rw [HTE'.out.miss HCN.out hmem] at this
          exact this
        by_cases hfull : 20000 ≤ L.length
        · have HP : Pk (putP L nd = (L, 0, 9)) := Pk.mk (by simp [putP, hmem, hfull])
          clear hmem HLK hS
          go_wp2
          go_quiet (fail)
          go_wp2
          go_ret2
          obtain ⟨hst, hfr⟩ := HSTP.out _ (below_dr HA2.out _)
          exact ⟨F, by rw [HP.out]; rfl, by rw [HP.out]; exact hst, hfr, fun _ h => .inl h, fun _ h => .inl h⟩
        · have HP : Pk (putP L nd = (L ++ [nd], (L.length : Int), 0)) := Pk.mk (by simp [putP, hmem, hfull])
          have HNM := Pk.mk hmem
          clear hmem HLK
          go_wp2
          go_quiet (fail)
          go_wp2_with fail
          have HCL : ∀ W, IntsAt W B nd.args → Calls Try.prog 38 #[.slice B nd.args.length c] W (Cloned nd.args W) := by
            intro W hW
            rcases B with _ | ad
            · have ha : nd.args = [] := by
                rcases h : nd.args with _ | ⟨y, r⟩
                · rfl
                · obtain ⟨ad, e, _⟩ := HB.out 0 y (by rw [h]; rfl)
                  cases e
              rw [ha, HC.out rfl]
              exact clone_nil W
            · exact clone_some ad c nd.args W hW (by omega)
          have HD2 := Pk.mk (below_dr HA2.out nq)
          refine (HCL _ (((HB.out.fr HFR.out ?_)).below HD2.out)).mono ?_
          · intro ad had e
            exact HF.out ad had (by rw [e]; exact HFl.out)
          rintro e w1 ⟨v', rfl, hv1, hv2, hv3⟩
          obtain ⟨B', c', rfl, _, _, hc', hB', _⟩ := own_ints hv1
          have HV1 := Pk.mk hv1
          have HV3 := Pk.mk hv3
          have HW1 := Pk.mk (below_then HD2.out hv2)
          clear hv1 hv3 HCL hB'
          have HBX1 := Pk.mk (heap_below HW1.out HBX.out)
          have hKX0 : ((wr.alloc (.cells #[.int .u8 nd.op, .int .i64 nd.fn, .int .i64 nd.num, .int .i64 nd.sort, .int .i64 cd] 72)).drewN nq).heap[wr.heap.size]? = some (.cells #[.int .u8 nd.op, .int .i64 nd.fn, .int .i64 nd.num, .int .i64 nd.sort, .int .i64 cd] 72 (0, 0)) := (MapKept.heap_alloc wr _).1
          have hw1s : wr.heap.size + 1 ≤ w1.heap.size := by have := hv2.size; simpa using this
          have HKX1 := Pk.mk (heap_below hv2 hKX0)
          clear hv2 hKX0
          have h14 : w1.cell? ⟨w.heap.size, 4, none⟩ = some (.slice B nd.args.length c) := cell_of_heap HBX1.out rfl
          have f14 : w1.frozen? ⟨w.heap.size, 4, none⟩ = false := frozen_of_heap HBX1.out _
          go_wp2
          obtain ⟨w2, hw2⟩ : ∃ w2, w2 = w1.setCell ⟨w.heap.size, 4, none⟩ (.slice B' nd.args.length c') := ⟨_, rfl⟩
          rw [← hw2]
          have HF12 : Pk (Fr (fun b => b = w.heap.size) w1 w2) := Pk.mk (by rw [hw2]; exact (Fr.refl (fun b => b = w.heap.size) w1).setCell (p := ⟨w.heap.size, 4, none⟩) (.inl rfl) _)
          have HBX2 : Pk (w2.heap[w.heap.size]? = some (.cells #[.int .u8 nd.op, .int .i64 nd.fn, .int .i64 nd.num, .int .i64 nd.sort, .slice B' nd.args.length c'] 44 (0, 0))) := Pk.mk (by rw [hw2]; exact heap_setCell_same HBX1.out _)
          have HFr2 : Pk (Fr (fun b => b = w.heap.size) wr w2) := Pk.mk ((Fr.of_below HW1.out).trans HF12.out)
          have HF2 : Pk (Fr (fun b => b = ml) w w2) := Pk.mk (HFR.out.trans' HFr2.out (by rintro i rfl; exact .inr (Nat.le_refl _)))
          clear hw2 h14 f14
          have HP2 := Pk.mk (HF2.out.heap HP1.out hpm)
          have HKX2 := Pk.mk (HF12.out.heap HKX1.out (by omega))
          have hw2s : w1.heap.size ≤ w2.heap.size := HF12.out.size
          have g0 : w2.cell? ⟨w.heap.size, 0, none⟩ = some (.int .u8 nd.op) := cell_of_heap HBX2.out rfl
          have g1 : w2.cell? ⟨w.heap.size, 1, none⟩ = some (.int .i64 nd.fn) := cell_of_heap HBX2.out rfl
          have g2 : w2.cell? ⟨w.heap.size, 2, none⟩ = some (.int .i64 nd.num) := cell_of_heap HBX2.out rfl
          have g3 : w2.cell? ⟨w.heap.size, 3, none⟩ = some (.int .i64 nd.sort) := cell_of_heap HBX2.out rfl
          have g4 : w2.cell? ⟨w.heap.size, 4, none⟩ = some (.slice B' nd.args.length c') := cell_of_heap HBX2.out rfl
          have q0 : w2.cell? ⟨p, 0, none⟩ = some (.slice A L.length cap) := cell_of_heap HP2.out rfl
          have qs : p < w2.heap.size := by omega
          have qb : w.heap.size < w2.heap.size := by omega
          have HOW2 : Pk (∀ k, (Value.slice A L.length cap).ownBlock = some k → k ≠ ml) := Pk.mk (by
            intro k hk e
            subst e
            obtain ⟨cur, hc⟩ := own_block HO.out hk
            obtain ⟨es, cl, hb, _⟩ := HML.out.ex
            rw [hc] at hb; cases hb)
          have HO2 := Pk.mk ((HF2.out.own HO.out HOW2.out).alloc (.cells #[.int .u8 nd.op, .int .i64 nd.fn, .int .i64 nd.num, .int .i64 nd.sort, .slice B' nd.args.length c'] 44))
          have HNC : Pk (∀ j u, (nodeCells nd (.slice B' nd.args.length c'))[j]? = some u → (w2.alloc (.cells #[.int .u8 nd.op, .int .i64 nd.fn, .int .i64 nd.num, .int .i64 nd.sort, .slice B' nd.args.length c'] 44)).cell? ((⟨w2.heap.size, 0, none⟩ : Addr).add j) = some u) := Pk.mk (by
            intro j u hu
            rw [add_plain]
            exact cell_of_heap (MapKept.heap_alloc w2 _).1 (by simpa [nodeCells] using hu))
          have HN1 : Pk (∀ u ∈ nodeCells nd (.slice B' nd.args.length c'), u.oneCell' = true) := Pk.mk (by
            intro u hu
            simp only [nodeCells, List.mem_cons, List.not_mem_nil, or_false] at hu
            rcases hu with rfl | rfl | rfl | rfl | rfl <;> rfl)
          have hml1 : L.length + 1 ≤ maxLen := by simp only [maxLen]; omega
          have hml2 : (L.length + 1) * 56 ≤ 140737488355328 := by omega
          have HPw2 : Pk (p ≠ w2.heap.size) := Pk.mk (by omega)
          have HPA : Pk ((Value.slice A L.length cap).ownBlock ≠ some p) := Pk.mk (by
            intro hk
            obtain ⟨cur, hc⟩ := own_block HO.out hk
            rw [HP1.out] at hc; cases hc)
          obtain ⟨i0, hi, hzz⟩ := Option.map_eq_some_iff.1 info44
          simp only [Prod.mk.injEq] at hzz
          obtain ⟨hz0, hz1, hz2⟩ := hzz
          have HI := Pk.mk hi
          have HZ0 := Pk.mk hz0
          have HZ1 := Pk.mk hz1
          have HZ2 := Pk.mk hz2
          clear hi hz0 hz1 hz2
          go_region_law (refine step_append rfl (.tmp 86) (.tmp 88) 34 rfl 44 i0 _ 5 56 Try.underlying34 HI.out HZ0.out HZ1.out HZ2.out rfl (by decide) (.slice A L.length cap) L.length cs rfl HO2.out ⟨w2.heap.size, 0, none⟩ 1 1 (nodeCells nd (.slice B' nd.args.length c')) rfl rfl HNC.out HN1.out hml1 hml2 ?_; intro v3 w3 hown3 hg3 hat3; obtain ⟨g3, cap3, rfl⟩ := own_form hown3 (by omega); have p3 : w3.heap[p]? = some (.cells #[.slice A L.length cap, .map (some mt), .map (some ml)] 57 (0, 0)) := (hg3.block p (by simp; omega) (fun e => HPA.out e.symm)).trans (heap_alloc HP2.out _); have q3 : w3.cell? ⟨p, 0, none⟩ = some (.slice A L.length cap) := cell_of_heap p3 rfl; have r3 : w3.frozen? ⟨p, 0, none⟩ = false := frozen_of_heap p3 _; have P3 := Pk.mk p3; have HO3 := Pk.mk hown3; have HG3 := Pk.mk hg3; have HA3 := Pk.mk hat3; clear p3 hown3 hg3 hat3)
          all_goals
            obtain ⟨w4, hw4⟩ : ∃ w4, w4 = w3.setCell ⟨p, 0, none⟩ (.slice (some ⟨g3, 0, none⟩) (L.length + 1) cap3) := ⟨_, rfl⟩
            rw [← hw4]
            have P4 : Pk (w4.heap[p]? = some (.cells #[.slice (some ⟨g3, 0, none⟩) (L.length + 1) cap3, .map (some mt), .map (some ml)] 57 (0, 0))) := Pk.mk (by rw [hw4]; exact heap_setCell_same P3.out _)
            have HF24 : Pk (Fr (fun b => b = p ∨ (Value.slice A L.length cap).ownBlock = some b) w2 w4) := Pk.mk (by
              rw [hw4]
              exact (((Fr.refl _ w2).alloc _).drew.grown HG3.out (fun k hk => .inl (.inr hk))).setCell (p := ⟨p, 0, none⟩) (.inl (.inl rfl)) _)
            have HO4 : Pk (w4.ownsRow 0 44 5 (.slice (some ⟨g3, 0, none⟩) (L.length + 1) cap3) (L.length + 1) (cs ++ nodeCells nd (.slice B' nd.args.length c'))) := Pk.mk (by
              rw [hw4]
              refine ((Fr.refl (fun b => b = p) w3).setCell (p := ⟨p, 0, none⟩) (.inl rfl) _).own HO3.out ?_
              intro k hk e
              subst e
              obtain ⟨cur, hc⟩ := own_block HO3.out hk
              rw [P3.out] at hc; cases hc)
            have hAlt : ∀ k, (Value.slice A L.length cap).ownBlock = some k → k < w.heap.size := fun k hk => (HO.out.lt k hk).2
            have HAL := Pk.mk hAlt
            have HKX4 := Pk.mk (HF24.out.heap HKX2.out (by rintro (e | e); omega; have := hAlt _ e; omega))
            clear hw4 hAlt
            have k0 : w4.cell? ⟨wr.heap.size, 0, none⟩ = some (.int .u8 nd.op) := cell_of_heap HKX4.out rfl
            have k1 : w4.cell? ⟨wr.heap.size, 1, none⟩ = some (.int .i64 nd.fn) := cell_of_heap HKX4.out rfl
            have k2 : w4.cell? ⟨wr.heap.size, 2, none⟩ = some (.int .i64 nd.num) := cell_of_heap HKX4.out rfl
            have k3 : w4.cell? ⟨wr.heap.size, 3, none⟩ = some (.int .i64 nd.sort) := cell_of_heap HKX4.out rfl
            have k4 : w4.cell? ⟨wr.heap.size, 4, none⟩ = some (.int .i64 cd) := cell_of_heap HKX4.out rfl
            have k5 : w4.cell? ⟨p, 0, none⟩ = some (.slice (some ⟨g3, 0, none⟩) (L.length + 1) cap3) := cell_of_heap P4.out rfl
            have k6 : w4.cell? ⟨p, 1, none⟩ = some (.map (some mt)) := cell_of_heap P4.out rfl
            have hs4 := HF24.out.size
            clear g0 g1 g2 g4 q0
            go_wp2
            have HAm : Pk ((Value.slice A L.length cap).ownBlock ≠ some mt) := Pk.mk (by
              intro hk
              obtain ⟨cur, hc⟩ := own_block HO.out hk
              obtain ⟨es, cl, hb, _⟩ := HMT.out.ex
              rw [hc] at hb; cases hb)
            have hpmt : p ≠ mt := by
              rintro rfl
              obtain ⟨es, cl, hb, _⟩ := HMT.out.ex
              rw [HP1.out] at hb; cases hb
            have HG4 : Pk (Fr (fun b => b = ml ∨ b = p ∨ (Value.slice A L.length cap).ownBlock = some b) w w4) := Pk.mk ((HF2.out.mono (fun _ _ h => .inl h)).trans (HF24.out.mono (fun _ _ h => .inr h)))
            have HMT4 := Pk.mk (HMT.out.fr HG4.out (by rintro (e | e | e); exact HNE.out e; exact hpmt e.symm; exact HAm.out e))
            have HML4 : Pk (MapF S75 w4 ml fl' T'.length) := Pk.mk (by
              refine (HML'.out.fr HFr2.out (by have := HML.out.lt; omega)).fr HF24.out ?_
              rintro (e | e)
              · exact hpm e.symm
              · exact HOW2.out _ e rfl)
            obtain ⟨w5, hw5⟩ : ∃ w5, w5 = w4.drew := ⟨_, rfl⟩
            have HW5 := Pk.mk hw5
            have HB45 : Pk (Below w4.heap.size w4 w5) := Pk.mk (by rw [hw5]; exact below_drewN _ 1)
            clear hw5
            have HMT5 := HMT4.out.fr (F := fun _ => False) (Fr.of_below HB45.out) id
            obtain ⟨w6, hrun, hm6, hg6⟩ := HMT5.store keys72 Try.underlying54 hS (.int .i64 (L.length : Int))
            have hrun' : (Instr.mapUpdate 54 (.map (some mt)) (.agg #[.int .u8 nd.op, .int .i64 nd.fn, .int .i64 nd.num, .int .i64 nd.sort, .int .i64 cd]) (.int .i64 (L.length : Int))).run Try.prog w5 = .ok () w6 := hrun
            rw [HTE'.out.miss HCN.out HNM.out] at hm6
            have HM6 := Pk.mk hm6
            have HG6 := Pk.mk hg6
            clear hrun hm6 hg6 HMT5
            replace k0 := cell_below HB45.out k0
            replace k1 := cell_below HB45.out k1
            replace k2 := cell_below HB45.out k2
            replace k3 := cell_below HB45.out k3
            replace k4 := cell_below HB45.out k4
            replace k6 := cell_below HB45.out k6
            refine region_tail 6 (by kernel_rfl) (by kernel_rfl) w5 HW5.out ?_
            simp only [List.take_succ_cons, List.take_zero, List.drop_succ_cons, List.drop_zero]
            repeat still_step
            refine wpStill_nil ?_
            go_wp2
            go_ret2
            refine ⟨⟨fun k => F.m k ∨ k = g3, fun k => F.r k ∨ (Value.slice B' nd.args.length c').ownBlock = some k⟩, by rw [HP.out]; rfl, ?_, ?_, ?_, ?_⟩
            · rw [HP.out]
              have HF46 : Fr (fun b => b = mt) w4 w6 := (Fr.of_below HB45.out).grown HG6.out (by intro k hk; cases hk; exact .inl rfl)
              have hmap4 : ∀ cur e, w4.heap[mt]? ≠ some (.cells cur e (0, 0)) := by
                intro cur e h
                obtain ⟨es, cl, hb, _⟩ := HMT4.out.ex
                rw [h] at hb; cases hb
              have hml0 : ∀ cur e, w.heap[ml]? ≠ some (.cells cur e (0, 0)) := by
                intro cur e h
                obtain ⟨es, cl, hb, _⟩ := HML.out.ex
                rw [h] at hb; cases hb
              have hO6 := HF46.own HO4.out (by
                intro k hk e
                subst e
                obtain ⟨cur, hc⟩ := own_block HO4.out hk
                exact hmap4 _ _ hc)
              have hlo : ∀ k, (Value.slice B' nd.args.length c').ownBlock = some k → wr.heap.size + 1 ≤ k := fun k hk => by
                have := HV3.out k hk; simpa using this
              have hv6 := HF46.own (HF24.out.own (HF12.out.own HV1.out (by intro k hk e; have := hlo k hk; omega)) (by
                  rintro k hk (e | e)
                  · have := hlo k hk; omega
                  · have := hlo k hk; have := HAL.out k e; omega))
                (by intro k hk e; have := hlo k hk; have := HMT.out.lt; omega)
              have hN6 := (((HN.out.fr' HG4.out (by
                  rintro k cur hc _ (e | e | e)
                  · subst e; exact hml0 _ _ hc
                  · subst e; rw [HP1.out] at hc; cases hc
                  · obtain ⟨cur', hc'⟩ := own_block HO.out e
                    rw [hc] at hc'; cases hc')).fr' HF46 (by
                  rintro k cur hc _ e
                  subst e; exact hmap4 _ _ hc)).mono (G := fun k => F.r k ∨ (Value.slice B' nd.args.length c').ownBlock = some k) (fun k h => .inl h)).snoc hv6 (fun k hk => .inr hk)
              have hM6 := HM6.out
              have hFw : Fr F.m w w6 := ((HG4.out.mono (by
                  rintro i _ (e | e | e)
                  · subst e; exact HFl.out
                  · subst e; exact HFp.out
                  · exact HFv.out _ e)).trans (Fr.of_below HB45.out)).grown HG6.out (by intro k hk; cases hk; exact .inl HFt.out)
              refine ⟨⟨_, mt, ml, _, T', _, fl', (HG6.out.block p (by have := HB45.out.size; omega) (by intro e; cases e; exact hpmt rfl)).trans (heap_below HB45.out P4.out), by simpa using hO6, hN6, by simpa using hM6, HML4.out.fr HF46 (fun e => HNE.out e.symm), HNE.out, HLI'.out, HTE'.out.push HLI'.out.nodup HCN.out HNM.out HOK.out, by omega, .inl HFp.out, .inl HFt.out, .inl HFl.out, ?_⟩, ?_, ?_, by simp; omega⟩
              · intro k hk
                refine .inr ?_
                simpa [Value.ownBlock] using hk.symm
              · rintro k ((h | h) | (h | h))
                · exact hFw.lt (HLT.out k (.inl h))
                · subst h; exact (hO6.lt _ rfl).2
                · exact hFw.lt (HLT.out k (.inr h))
                · exact (hv6.lt k h).2
              · rintro k (h | h) (h' | h')
                · exact HSEP.out k h h'
                · subst h'
                  rcases HA3.out with e | e
                  · exact HSEP.out _ h (HFv.out _ e.symm)
                  · simp only [Value.ownBlock, Option.some.injEq] at e
                    have hq : (w2.alloc (.cells #[.int .u8 nd.op, .int .i64 nd.fn, .int .i64 nd.num, .int .i64 nd.sort, .slice B' nd.args.length c'] 44)).drew.heap.size = w2.heap.size + 1 := by simp
                    rw [hq] at e
                    have := HLT.out _ (.inr h)
                    omega
                · have := hlo k h; have := HLT.out k (.inl h'); omega
                · subst h'
                  have h1 := hlo _ h
                  have h2 := (HV1.out.lt _ h).2
                  rcases HA3.out with e | e
                  · have h3 : k < w.heap.size := HLT.out _ (.inl (HFv.out _ e.symm))
                    omega
                  · simp only [Value.ownBlock, Option.some.injEq] at e
                    have hq : (w2.alloc (.cells #[.int .u8 nd.op, .int .i64 nd.fn, .int .i64 nd.num, .int .i64 nd.sort, .slice B' nd.args.length c'] 44)).drew.heap.size = w2.heap.size + 1 := by simp
                    rw [hq] at e
                    omega
            · exact ((HG4.out.mono (by
                  rintro i _ (e | e | e)
                  · subst e; exact HFl.out
                  · subst e; exact HFp.out
                  · exact HFv.out _ e)).trans (Fr.of_below HB45.out)).grown HG6.out (by intro k hk; cases hk; exact .inl HFt.out)
            · rintro k (h | h)
              · exact .inl h
              · subst h
                rcases HA3.out with e | e
                · exact .inl (HFv.out _ e.symm)
                · refine .inr ?_
                  simp only [Value.ownBlock, Option.some.injEq] at e
                  have hq : (w2.alloc (.cells #[.int .u8 nd.op, .int .i64 nd.fn, .int .i64 nd.num, .int .i64 nd.sort, .slice B' nd.args.length c'] 44)).drew.heap.size = w2.heap.size + 1 := by simp
                  rw [hq] at e
                  omega
            · rintro k (h | h)
              · exact .inl h
              · have : wr.heap.size + 1 ≤ k := by have := HV3.out k h; simpa using this
                exact .inr (by omega)
end Go.Proofs.Ytpkegeblfdlibaa
