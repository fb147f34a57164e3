import Derived.Test.YtaihkflmkopliaaDoorJ
set_option linter.unusedVariables false
set_option linter.unusedSimpArgs false
/- The laws' own helpers: sound, some, printed. -/
namespace Wb
open Go Go.Proofs Enc Row
set_option linter.unusedSimpArgs false
set_option linter.unusedVariables false
set_option maxRecDepth 20000
set_option maxHeartbeats 4000000
theorem binds_data (n : Nat) : Region.binds .any { on := n, ground := .data } = true := rfl
theorem binds_phase (n : Nat) : Region.binds .any { on := n, ground := .phase } = true := rfl
theorem binds_chain (n : Nat) : Region.binds .any { on := n, ground := .chain } = true := rfl
theorem binds_guard (n : Nat) : Region.binds .any { on := n, ground := .guard } = true := rfl
attribute [go_sem] binds_data binds_phase binds_chain binds_guard
-- f42 sound
theorem sound_fn (r : Rack) (hr : okRack r) : Fn E32 0 42 Tryd.f42 (Tryd.f42.body.getD .skip) [.agg (encR r)] (.bool (rackOk r)) := by
  obtain ⟨g, l⟩ := r
  have hη : ∀ y : Issue, (⟨y.lo, y.hi, y.held, y.entries⟩ : Issue) = y := fun y => rfl
  unfold Fn Tryd.f42
  cases hk : rackOk ⟨g, l⟩ with
  | false =>
    simp only [go_sem, Nat.reduceAdd, Nat.reduceSub, Nat.reduceMul, Nat.reduceEqDiff, Nat.reduceLT, Nat.reduceLeDiff, Nat.reduceBEq, Nat.reduceBNe, Int.reduceToNat, Int.reduceLE, Int.reduceLT, Int.reduceNe, Int.reduceNeg, reduceCtorEq, Int.reduceBEq, Int.reduceBNe, @callV_spec E32 20 s20 rfl, @callV_specT E32 20 s20 rfl, @stepV_spec E32 20 s20 rfl, @effV_spec E32 20 s20 rfl, s20, @callV_spec E32 50 sTween rfl, @callV_specT E32 50 sTween rfl, @stepV_spec E32 50 sTween rfl, @effV_spec E32 50 sTween rfl, sTween, encR, callSpec, hr, hk]
    refine ev_loopS [1, 3] (fun i : Nat => [(4, .int .i64 i)]) (fun i H => i = 0 ∧ H (([], 42000000) : Key) = some (.cells [.int .i64 g, .sl (l.map encI) false] 1 false)) (fun i => 0) 0 ?_ ⟨rfl, ?_⟩ ?_
    · simp only [go_sem, Nat.reduceAdd, Nat.reduceSub, Nat.reduceMul, Nat.reduceEqDiff, Nat.reduceLT, Nat.reduceLeDiff, Nat.reduceBEq, Nat.reduceBNe, Int.reduceToNat, Int.reduceLE, Int.reduceLT, Int.reduceNe, Int.reduceNeg, reduceCtorEq, Int.reduceBEq, Int.reduceBNe]
    · simp only [go_sem, Nat.reduceAdd, Nat.reduceSub, Nat.reduceMul, Nat.reduceEqDiff, Nat.reduceLT, Nat.reduceLeDiff, Nat.reduceBEq, Nat.reduceBNe, Int.reduceToNat, Int.reduceLE, Int.reduceLT, Int.reduceNe, Int.reduceNeg, reduceCtorEq, Int.reduceBEq, Int.reduceBNe]
    · simp only [go_sem, Nat.reduceAdd, Nat.reduceSub, Nat.reduceMul, Nat.reduceEqDiff, Nat.reduceLT, Nat.reduceLeDiff, Nat.reduceBEq, Nat.reduceBNe, Int.reduceToNat, Int.reduceLE, Int.reduceLT, Int.reduceNe, Int.reduceNeg, reduceCtorEq, Int.reduceBEq, Int.reduceBNe]
      intro K i H ⟨hi, h1⟩ hE
      simp only [go_sem, Nat.reduceAdd, Nat.reduceSub, Nat.reduceMul, Nat.reduceEqDiff, Nat.reduceLT, Nat.reduceLeDiff, Nat.reduceBEq, Nat.reduceBNe, Int.reduceToNat, Int.reduceLE, Int.reduceLT, Int.reduceNe, Int.reduceNeg, reduceCtorEq, Int.reduceBEq, Int.reduceBNe, h1]
      exact hE _ _ _ (by simp) (by simp only [go_sem, Nat.reduceAdd, Nat.reduceSub, Nat.reduceMul, Nat.reduceEqDiff, Nat.reduceLT, Nat.reduceLeDiff, Nat.reduceBEq, Nat.reduceBNe, Int.reduceToNat, Int.reduceLE, Int.reduceLT, Int.reduceNe, Int.reduceNeg, reduceCtorEq, Int.reduceBEq, Int.reduceBNe])
  | true =>
    have hG := rack_good hk
    have hg := hG.goods
    have hl := hG.len
    simp only at hg hl
    have hl1 : (1 : Int) ≤ (l.length : Int) := by omega
    have hl4 : (l.length : Int) ≤ 4 := by omega
    simp only [go_sem, Nat.reduceAdd, Nat.reduceSub, Nat.reduceMul, Nat.reduceEqDiff, Nat.reduceLT, Nat.reduceLeDiff, Nat.reduceBEq, Nat.reduceBNe, Int.reduceToNat, Int.reduceLE, Int.reduceLT, Int.reduceNe, Int.reduceNeg, reduceCtorEq, Int.reduceBEq, Int.reduceBNe, @callV_spec E32 20 s20 rfl, @callV_specT E32 20 s20 rfl, @stepV_spec E32 20 s20 rfl, @effV_spec E32 20 s20 rfl, s20, @callV_spec E32 50 sTween rfl, @callV_specT E32 50 sTween rfl, @stepV_spec E32 50 sTween rfl, @effV_spec E32 50 sTween rfl, sTween, encR, callSpec, hr, hk, hg.1, hg.2, hl1, hl4]
    refine ev_loopS [1] (fun i : Nat => [(3, .bool true), (4, .int .i64 i)])
      (fun i H => i ≤ l.length ∧ H (([], 42000000) : Key) = some (.cells [.int .i64 g, .sl (l.map encI) false] 1 false))
      (fun i => l.length - i) 0 ?_ ⟨Nat.zero_le _, ?_⟩ ?_
    · simp only [go_sem, Nat.reduceAdd, Nat.reduceSub, Nat.reduceMul, Nat.reduceEqDiff, Nat.reduceLT, Nat.reduceLeDiff, Nat.reduceBEq, Nat.reduceBNe, Int.reduceToNat, Int.reduceLE, Int.reduceLT, Int.reduceNe, Int.reduceNeg, reduceCtorEq, Int.reduceBEq, Int.reduceBNe]
    · simp only [go_sem, Nat.reduceAdd, Nat.reduceSub, Nat.reduceMul, Nat.reduceEqDiff, Nat.reduceLT, Nat.reduceLeDiff, Nat.reduceBEq, Nat.reduceBNe, Int.reduceToNat, Int.reduceLE, Int.reduceLT, Int.reduceNe, Int.reduceNeg, reduceCtorEq, Int.reduceBEq, Int.reduceBNe]
    · simp only [go_sem, Nat.reduceAdd, Nat.reduceSub, Nat.reduceMul, Nat.reduceEqDiff, Nat.reduceLT, Nat.reduceLeDiff, Nat.reduceBEq, Nat.reduceBNe, Int.reduceToNat, Int.reduceLE, Int.reduceLT, Int.reduceNe, Int.reduceNeg, reduceCtorEq, Int.reduceBEq, Int.reduceBNe]
      intro K i H ⟨hi, h1⟩ hK hE
      simp only [go_sem, Nat.reduceAdd, Nat.reduceSub, Nat.reduceMul, Nat.reduceEqDiff, Nat.reduceLT, Nat.reduceLeDiff, Nat.reduceBEq, Nat.reduceBNe, Int.reduceToNat, Int.reduceLE, Int.reduceLT, Int.reduceNe, Int.reduceNeg, reduceCtorEq, Int.reduceBEq, Int.reduceBNe, h1]
      rw [condK_bool]
      refine ⟨fun h => ?_, fun h => ?_⟩
      · have h' : i < l.length := by simpa using h
        have hii : (i : Int) < (l.length : Int) := by omega
        have w2 : IntKind.i64.wrap ((i : Int) + 1) = (i : Int) + 1 := wrap_id (by omega)
        have hy : l.getD i default ∈ l := by simp [List.getD_eq_getElem?_getD, h']
        have gy := hG.issues _ hy
        generalize hyy : l.getD i default = y at *
        have hd := gy.days
        have hh := gy.held
        have h24 := gy.len
        have a1 : (y.entries.length : Int) ≤ 24 := by omega
        simp only [go_sem, Nat.reduceAdd, Nat.reduceSub, Nat.reduceMul, Nat.reduceEqDiff, Nat.reduceLT, Nat.reduceLeDiff, Nat.reduceBEq, Nat.reduceBNe, Int.reduceToNat, Int.reduceLE, Int.reduceLT, Int.reduceNe, Int.reduceNeg, reduceCtorEq, Int.reduceBEq, Int.reduceBNe, @callV_spec E32 69 sProper rfl, @callV_specT E32 69 sProper rfl, @stepV_spec E32 69 sProper rfl, @effV_spec E32 69 sProper rfl, sProper, @callV_spec E32 50 sTween rfl, @callV_specT E32 50 sTween rfl, @stepV_spec E32 50 sTween rfl, @effV_spec E32 50 sTween rfl, sTween, callSpec, h1, hii, getD_mapN encI l i _ h', hyy, encI, hd.1, hd.2.1, hd.2.2, hh.1, hh.2, a1]
        generalize hv : verOf H ([], 42005005) + 1 = v
        refine ev_loopS [1, 4, 5] (fun k : Nat => [(3, .bool true), (6, .int .i64 k)])
          (fun k H => k ≤ y.entries.length ∧ H (([], 42000000) : Key) = some (.cells [.int .i64 g, .sl (l.map encI) false] 1 false) ∧ H (([], 42005005) : Key) = some (.cells (encI y) v false))
          (fun k => y.entries.length - k) 0 ?_ ⟨Nat.zero_le _, ?_, ?_⟩ ?_
        · simp only [go_sem, Nat.reduceAdd, Nat.reduceSub, Nat.reduceMul, Nat.reduceEqDiff, Nat.reduceLT, Nat.reduceLeDiff, Nat.reduceBEq, Nat.reduceBNe, Int.reduceToNat, Int.reduceLE, Int.reduceLT, Int.reduceNe, Int.reduceNeg, reduceCtorEq, Int.reduceBEq, Int.reduceBNe]
        · simp only [go_sem, Nat.reduceAdd, Nat.reduceSub, Nat.reduceMul, Nat.reduceEqDiff, Nat.reduceLT, Nat.reduceLeDiff, Nat.reduceBEq, Nat.reduceBNe, Int.reduceToNat, Int.reduceLE, Int.reduceLT, Int.reduceNe, Int.reduceNeg, reduceCtorEq, Int.reduceBEq, Int.reduceBNe, h1]
        · simp only [go_sem, Nat.reduceAdd, Nat.reduceSub, Nat.reduceMul, Nat.reduceEqDiff, Nat.reduceLT, Nat.reduceLeDiff, Nat.reduceBEq, Nat.reduceBNe, Int.reduceToNat, Int.reduceLE, Int.reduceLT, Int.reduceNe, Int.reduceNeg, reduceCtorEq, Int.reduceBEq, Int.reduceBNe, encI]
        · simp only [go_sem, Nat.reduceAdd, Nat.reduceSub, Nat.reduceMul, Nat.reduceEqDiff, Nat.reduceLT, Nat.reduceLeDiff, Nat.reduceBEq, Nat.reduceBNe, Int.reduceToNat, Int.reduceLE, Int.reduceLT, Int.reduceNe, Int.reduceNeg, reduceCtorEq, Int.reduceBEq, Int.reduceBNe]
          intro K2 k H2 ⟨hk2, k1, k2⟩ hK2 hE2
          simp only [go_sem, Nat.reduceAdd, Nat.reduceSub, Nat.reduceMul, Nat.reduceEqDiff, Nat.reduceLT, Nat.reduceLeDiff, Nat.reduceBEq, Nat.reduceBNe, Int.reduceToNat, Int.reduceLE, Int.reduceLT, Int.reduceNe, Int.reduceNeg, reduceCtorEq, Int.reduceBEq, Int.reduceBNe, k1, k2, encI]
          rw [condK_bool]
          refine ⟨fun h => ?_, fun h => ?_⟩
          · have hk' : k < y.entries.length := by simpa using h
            have hkk : (k : Int) < (y.entries.length : Int) := by omega
            have w3 : IntKind.i64.wrap ((k : Int) + 1) = (k : Int) + 1 := wrap_id (by omega)
            have he : y.entries.getD k default ∈ y.entries := by simp [List.getD_eq_getElem?_getD, hk']
            have ge := gy.entries _ he
            simp only at ge
            generalize hee : y.entries.getD k default = e at *
            have e1 := ge.number
            have e2 := ge.good
            have e3 := ge.colours
            have e4 := ge.sizes
            have wg : IntKind.i64.wrap (g - 1) = g - 1 := wrap_id (by omega)
            have b1 : (1 : Int) ≤ (e.sizes.length : Int) := by omega
            have b8 : (e.sizes.length : Int) ≤ 8 := by omega
            simp only [go_sem, Nat.reduceAdd, Nat.reduceSub, Nat.reduceMul, Nat.reduceEqDiff, Nat.reduceLT, Nat.reduceLeDiff, Nat.reduceBEq, Nat.reduceBNe, Int.reduceToNat, Int.reduceLE, Int.reduceLT, Int.reduceNe, Int.reduceNeg, reduceCtorEq, Int.reduceBEq, Int.reduceBNe, @callV_spec E32 50 sTween rfl, @callV_specT E32 50 sTween rfl, @stepV_spec E32 50 sTween rfl, @effV_spec E32 50 sTween rfl, sTween, callSpec, k1, k2, hkk, getD_mapN encE y.entries k _ hk', hee, encI, encE, wg, e1.1, e1.2, e2.1, e2.2, e3.1, e3.2, b1, b8]
            generalize hv2 : verOf H2 ([], 42010005) + 1 = v2
            refine ev_loopS [1, 4, 5, 6, 7] (fun m : Nat => [(3, .bool true), (8, .int .i64 m)])
              (fun m H => m ≤ e.sizes.length ∧ H (([], 42000000) : Key) = some (.cells [.int .i64 g, .sl (l.map encI) false] 1 false) ∧ H (([], 42005005) : Key) = some (.cells (encI y) v false) ∧ H (([], 42010005) : Key) = some (.cells (encE e) v2 false))
              (fun m => e.sizes.length - m) 0 ?_ ⟨Nat.zero_le _, ?_, ?_, ?_⟩ ?_
            · simp only [go_sem, Nat.reduceAdd, Nat.reduceSub, Nat.reduceMul, Nat.reduceEqDiff, Nat.reduceLT, Nat.reduceLeDiff, Nat.reduceBEq, Nat.reduceBNe, Int.reduceToNat, Int.reduceLE, Int.reduceLT, Int.reduceNe, Int.reduceNeg, reduceCtorEq, Int.reduceBEq, Int.reduceBNe]
            · simp only [go_sem, Nat.reduceAdd, Nat.reduceSub, Nat.reduceMul, Nat.reduceEqDiff, Nat.reduceLT, Nat.reduceLeDiff, Nat.reduceBEq, Nat.reduceBNe, Int.reduceToNat, Int.reduceLE, Int.reduceLT, Int.reduceNe, Int.reduceNeg, reduceCtorEq, Int.reduceBEq, Int.reduceBNe, k1]
            · simp only [go_sem, Nat.reduceAdd, Nat.reduceSub, Nat.reduceMul, Nat.reduceEqDiff, Nat.reduceLT, Nat.reduceLeDiff, Nat.reduceBEq, Nat.reduceBNe, Int.reduceToNat, Int.reduceLE, Int.reduceLT, Int.reduceNe, Int.reduceNeg, reduceCtorEq, Int.reduceBEq, Int.reduceBNe, k2, encI]
            · simp only [go_sem, Nat.reduceAdd, Nat.reduceSub, Nat.reduceMul, Nat.reduceEqDiff, Nat.reduceLT, Nat.reduceLeDiff, Nat.reduceBEq, Nat.reduceBNe, Int.reduceToNat, Int.reduceLE, Int.reduceLT, Int.reduceNe, Int.reduceNeg, reduceCtorEq, Int.reduceBEq, Int.reduceBNe, encE]
            · simp only [go_sem, Nat.reduceAdd, Nat.reduceSub, Nat.reduceMul, Nat.reduceEqDiff, Nat.reduceLT, Nat.reduceLeDiff, Nat.reduceBEq, Nat.reduceBNe, Int.reduceToNat, Int.reduceLE, Int.reduceLT, Int.reduceNe, Int.reduceNeg, reduceCtorEq, Int.reduceBEq, Int.reduceBNe]
              intro K3 m H3 ⟨hm, m1, m2, m3⟩ hK3 hE3
              simp only [go_sem, Nat.reduceAdd, Nat.reduceSub, Nat.reduceMul, Nat.reduceEqDiff, Nat.reduceLT, Nat.reduceLeDiff, Nat.reduceBEq, Nat.reduceBNe, Int.reduceToNat, Int.reduceLE, Int.reduceLT, Int.reduceNe, Int.reduceNeg, reduceCtorEq, Int.reduceBEq, Int.reduceBNe, m1, m2, m3, encE]
              rw [condK_bool]
              refine ⟨fun h => ?_, fun h => ?_⟩
              · have hm' : m < e.sizes.length := by simpa using h
                have hmm : (m : Int) < (e.sizes.length : Int) := by omega
                have w4 : IntKind.i64.wrap ((m : Int) + 1) = (m : Int) + 1 := wrap_id (by omega)
                have hf : e.sizes.getD m default ∈ e.sizes := by simp [List.getD_eq_getElem?_getD, hm']
                have gf := ge.fits _ hf
                generalize hff : e.sizes.getD m default = f at *
                have f1 := gf.size
                have f2 := gf.foot
                have f3 := gf.price
                simp only [go_sem, Nat.reduceAdd, Nat.reduceSub, Nat.reduceMul, Nat.reduceEqDiff, Nat.reduceLT, Nat.reduceLeDiff, Nat.reduceBEq, Nat.reduceBNe, Int.reduceToNat, Int.reduceLE, Int.reduceLT, Int.reduceNe, Int.reduceNeg, reduceCtorEq, Int.reduceBEq, Int.reduceBNe, @callV_spec E32 50 sTween rfl, @callV_specT E32 50 sTween rfl, @stepV_spec E32 50 sTween rfl, @effV_spec E32 50 sTween rfl, sTween, @callV_spec E32 69 sProper rfl, @callV_specT E32 69 sProper rfl, @stepV_spec E32 69 sProper rfl, @effV_spec E32 69 sProper rfl, sProper, callSpec, m1, m2, m3, hmm, getD_mapN encF e.sizes m _ hm', hff, encE, encF, f1.1, f1.2, f2.1, f2.2.1, f2.2.2, f3.1, f3.2]
                refine hK3 (m + 1) _ _ ?_ ⟨hm', ?_, ?_, ?_⟩ (by omega)
                · simp only [go_sem, Nat.reduceAdd, Nat.reduceSub, Nat.reduceMul, Nat.reduceEqDiff, Nat.reduceLT, Nat.reduceLeDiff, Nat.reduceBEq, Nat.reduceBNe, Int.reduceToNat, Int.reduceLE, Int.reduceLT, Int.reduceNe, Int.reduceNeg, reduceCtorEq, Int.reduceBEq, Int.reduceBNe, w4, Int.natCast_add, Int.natCast_one]
                · simp only [go_sem, Nat.reduceAdd, Nat.reduceSub, Nat.reduceMul, Nat.reduceEqDiff, Nat.reduceLT, Nat.reduceLeDiff, Nat.reduceBEq, Nat.reduceBNe, Int.reduceToNat, Int.reduceLE, Int.reduceLT, Int.reduceNe, Int.reduceNeg, reduceCtorEq, Int.reduceBEq, Int.reduceBNe, m1]
                · simp only [go_sem, Nat.reduceAdd, Nat.reduceSub, Nat.reduceMul, Nat.reduceEqDiff, Nat.reduceLT, Nat.reduceLeDiff, Nat.reduceBEq, Nat.reduceBNe, Int.reduceToNat, Int.reduceLE, Int.reduceLT, Int.reduceNe, Int.reduceNeg, reduceCtorEq, Int.reduceBEq, Int.reduceBNe, m2, encI]
                · simp only [go_sem, Nat.reduceAdd, Nat.reduceSub, Nat.reduceMul, Nat.reduceEqDiff, Nat.reduceLT, Nat.reduceLeDiff, Nat.reduceBEq, Nat.reduceBNe, Int.reduceToNat, Int.reduceLE, Int.reduceLT, Int.reduceNe, Int.reduceNeg, reduceCtorEq, Int.reduceBEq, Int.reduceBNe, m3, encE]
              · refine hE3 _ _ _ (by simp) ?_
                simp only [go_sem, Nat.reduceAdd, Nat.reduceSub, Nat.reduceMul, Nat.reduceEqDiff, Nat.reduceLT, Nat.reduceLeDiff, Nat.reduceBEq, Nat.reduceBNe, Int.reduceToNat, Int.reduceLE, Int.reduceLT, Int.reduceNe, Int.reduceNeg, reduceCtorEq, Int.reduceBEq, Int.reduceBNe]
                refine hK2 (k + 1) _ _ ?_ ⟨hk', m1, m2⟩ (by omega)
                simp only [go_sem, Nat.reduceAdd, Nat.reduceSub, Nat.reduceMul, Nat.reduceEqDiff, Nat.reduceLT, Nat.reduceLeDiff, Nat.reduceBEq, Nat.reduceBNe, Int.reduceToNat, Int.reduceLE, Int.reduceLT, Int.reduceNe, Int.reduceNeg, reduceCtorEq, Int.reduceBEq, Int.reduceBNe, w3, Int.natCast_add, Int.natCast_one]
          · refine hE2 _ _ _ (by simp) ?_
            simp only [go_sem, Nat.reduceAdd, Nat.reduceSub, Nat.reduceMul, Nat.reduceEqDiff, Nat.reduceLT, Nat.reduceLeDiff, Nat.reduceBEq, Nat.reduceBNe, Int.reduceToNat, Int.reduceLE, Int.reduceLT, Int.reduceNe, Int.reduceNeg, reduceCtorEq, Int.reduceBEq, Int.reduceBNe]
            refine hK (i + 1) _ _ ?_ ⟨h', k1⟩ (by omega)
            simp only [go_sem, Nat.reduceAdd, Nat.reduceSub, Nat.reduceMul, Nat.reduceEqDiff, Nat.reduceLT, Nat.reduceLeDiff, Nat.reduceBEq, Nat.reduceBNe, Int.reduceToNat, Int.reduceLE, Int.reduceLT, Int.reduceNe, Int.reduceNeg, reduceCtorEq, Int.reduceBEq, Int.reduceBNe, w2, Int.natCast_add, Int.natCast_one]
      · exact hE _ _ _ (by simp) (by simp only [go_sem, Nat.reduceAdd, Nat.reduceSub, Nat.reduceMul, Nat.reduceEqDiff, Nat.reduceLT, Nat.reduceLeDiff, Nat.reduceBEq, Nat.reduceBNe, Int.reduceToNat, Int.reduceLE, Int.reduceLT, Int.reduceNe, Int.reduceNeg, reduceCtorEq, Int.reduceBEq, Int.reduceBNe])
def s42 : Spec := spec1 (fun (r : Rack) => okRack r) (fun r => .bool (rackOk r))
theorem s42_ok : SpecOK Tryd.prog glB 42 s42 := spec1_ok E32_ok Tryd.func42 rfl (by kernel_rfl) fun r h => sound_fn r h
-- f48 some
theorem spin_range {n m : Int} (h : 1 ≤ m) : 0 ≤ spinF n m ∧ spinF n m < m := by
  unfold spinF
  rw [if_neg (by omega)]
  exact ⟨Int.emod_nonneg _ (by omega), Int.emod_lt_of_pos _ (by omega)⟩
def someI (r : Rack) (a : Int) : Nat := (spinF a r.issues.length).toNat
def someT (r : Rack) (a b c d : Int) : Item :=
  if (r.issues.getD (someI r a) default).entries.length = 0 then ⟨spinF b r.goods, 1 + spinF c 99, spinF d 4⟩
  else
    let y := (r.issues.getD (someI r a) default).entries.getD (spinF b (r.issues.getD (someI r a) default).entries.length).toNat default
    ⟨y.good, (y.sizes.getD (spinF c y.sizes.length).toNat default).size, spinF d 4⟩
theorem some_fn (r : Rack) (hG : GRack r) (a b c d : Int) : Fn E32 0 48 Tryd.f48 (Tryd.f48.body.getD .skip) [.agg (encR r), .agg [.int .i64 a, .int .i64 b, .int .i64 c, .int .i64 d]] (.tup [.agg (encT (someT r a b c d)), .int .i64 (someI r a)]) := by
  obtain ⟨g, l⟩ := r
  have hl := hG.len
  have hg := hG.goods
  simp only at hl hg
  obtain ⟨p1, p2⟩ := spin_range (n := a) (m := (l.length : Int)) (by omega)
  unfold Fn Tryd.f48
  have hil : ((someI ⟨g, l⟩ a : Nat) : Int) = spinF a l.length := by unfold someI; simp only; omega
  have hi' : someI ⟨g, l⟩ a < l.length := by omega
  have hy : l.getD (someI ⟨g, l⟩ a) default ∈ l := by simp [List.getD_eq_getElem?_getD, hi']
  have gy := hG.issues _ hy
  unfold someT
  simp only
  rw [← hil] at p1 p2
  generalize someI ⟨g, l⟩ a = i at *
  generalize hyy : l.getD i default = y at *
  have h24 := gy.len
  have wl : (l.length : Int) ≤ 9223372036854775807 := by omega
  simp only [go_sem, Nat.reduceAdd, Nat.reduceSub, Nat.reduceMul, Nat.reduceEqDiff, Nat.reduceLT, Nat.reduceLeDiff, Nat.reduceBEq, Nat.reduceBNe, Int.reduceToNat, Int.reduceLE, Int.reduceLT, Int.reduceNe, Int.reduceNeg, reduceCtorEq, Int.reduceBEq, Int.reduceBNe, @callV_spec E32 43 sSpin rfl, @callV_specT E32 43 sSpin rfl, @stepV_spec E32 43 sSpin rfl, @effV_spec E32 43 sSpin rfl, sSpin, callSpec, encR, wl, ← hil, p1, p2, getD_mapN encI l i _ hi', hyy, encI]
  rw [condK_bool]
  refine ⟨fun h => ?_, fun h => ?_⟩
  · have h0 : y.entries.length = 0 := by simpa using h
    obtain ⟨q1, q2⟩ := spin_range (n := c) (m := 99) (by omega)
    have wg : g ≤ 9223372036854775807 := by omega
    have w1 : IntKind.i64.wrap (1 + spinF c 99) = 1 + spinF c 99 := wrap_id (by omega)
    simp only [go_sem, Nat.reduceAdd, Nat.reduceSub, Nat.reduceMul, Nat.reduceEqDiff, Nat.reduceLT, Nat.reduceLeDiff, Nat.reduceBEq, Nat.reduceBNe, Int.reduceToNat, Int.reduceLE, Int.reduceLT, Int.reduceNe, Int.reduceNeg, reduceCtorEq, Int.reduceBEq, Int.reduceBNe, @callV_spec E32 43 sSpin rfl, @callV_specT E32 43 sSpin rfl, @stepV_spec E32 43 sSpin rfl, @effV_spec E32 43 sSpin rfl, sSpin, @callV_spec E32 54 sthing rfl, @callV_specT E32 54 sthing rfl, @stepV_spec E32 54 sthing rfl, @effV_spec E32 54 sthing rfl, sthing, callSpec, wg, w1, encT, h0]
  · have h0 : y.entries.length ≠ 0 := by simpa using h
    obtain ⟨q1, q2⟩ := spin_range (n := b) (m := (y.entries.length : Int)) (by omega)
    have we : (y.entries.length : Int) ≤ 9223372036854775807 := by omega
    obtain ⟨k, hkk⟩ := Int.eq_ofNat_of_zero_le q1
    have hk' : k < y.entries.length := by omega
    have hki : (k : Int) < (y.entries.length : Int) := by omega
    have he : y.entries.getD k default ∈ y.entries := by simp [List.getD_eq_getElem?_getD, hk']
    have ge := gy.entries _ he
    generalize hee : y.entries.getD k default = e at *
    have e4 := ge.sizes
    obtain ⟨r1, r2⟩ := spin_range (n := c) (m := (e.sizes.length : Int)) (by omega)
    have ws : (e.sizes.length : Int) ≤ 9223372036854775807 := by omega
    obtain ⟨m, hmm⟩ := Int.eq_ofNat_of_zero_le r1
    have hm' : m < e.sizes.length := by omega
    have hmi : (m : Int) < (e.sizes.length : Int) := by omega
    simp only [go_sem, Nat.reduceAdd, Nat.reduceSub, Nat.reduceMul, Nat.reduceEqDiff, Nat.reduceLT, Nat.reduceLeDiff, Nat.reduceBEq, Nat.reduceBNe, Int.reduceToNat, Int.reduceLE, Int.reduceLT, Int.reduceNe, Int.reduceNeg, reduceCtorEq, Int.reduceBEq, Int.reduceBNe, @callV_spec E32 43 sSpin rfl, @callV_specT E32 43 sSpin rfl, @stepV_spec E32 43 sSpin rfl, @effV_spec E32 43 sSpin rfl, sSpin, @callV_spec E32 54 sthing rfl, @callV_specT E32 54 sthing rfl, @stepV_spec E32 54 sthing rfl, @effV_spec E32 54 sthing rfl, sthing, callSpec, we, ws, hkk, hmm, hki, hmi, getD_mapN encE y.entries k _ hk', hee, getD_mapN encF e.sizes m _ hm', encE, encF, encT, h0]
def s48 : Spec := fun args => match args with
  | [.agg cs, .agg [.int .i64 a, .int .i64 b, .int .i64 c, .int .i64 d]] => (dR cs).map fun r => (GRack r, .tup [.agg (encT (someT r a b c d)), .int .i64 (someI r a)])
  | _ => none
theorem s48_ok : SpecOK Tryd.prog glB 48 s48 := specOK_of E32_ok Tryd.func48 (by kernel_rfl) fun args pre v h hp => by
  unfold s48 at h
  split at h
  · simp only [Option.map_eq_some_iff] at h
    obtain ⟨r, h1, h2⟩ := h
    cases h2
    exact ⟨[.agg (encR r), .agg [.int .i64 _, .int .i64 _, .int .i64 _, .int .i64 _]], _, ⟨dR_wk _ _ h1, wk_refl _, trivial⟩, rfl, some_fn r hp _ _ _ _⟩
  · cases h
end Wb
/- BookMeant: what a number means. -/
namespace Wb
open Go Go.Proofs Enc Row
set_option linter.unusedSimpArgs false
set_option linter.unusedVariables false
set_option maxRecDepth 20000
set_option maxHeartbeats 4000000
def E34t : List (Nat × Spec) := [(42, s42), (48, s48)] ++ E32t
theorem E34t_ok : AllOK E34t := ⟨⟨s42_ok, Tryd.call42⟩, ⟨s48_ok, Tryd.call48⟩, E32t_ok⟩
noncomputable def E34 : Env := mkE E34t []
theorem E34_ok : EnvOK Tryd.prog E34 := envOK E34t_ok trivial
theorem E34_ti {t : Nat} : E34.ti t = ti t := rfl
theorem E34_q0 : (E34).eqt 152 = true := rfl
theorem E34_q1 : (E34).eqt 69 = true := rfl
theorem E34_q2 : (E34).keyt 3 = true := rfl
theorem E34_q3 : (E34).keyt 108 = true := rfl
attribute [go_sem] E34_ti E34_q0 E34_q1 E34_q2 E34_q3
def lotF (a b n : Int) : Int := if b ≤ a then a else a + spinF n (b - a + 1)
theorem lot_range {a b : Int} (n : Int) (h : a ≤ b) : a ≤ lotF a b n ∧ lotF a b n ≤ b := by
  unfold lotF
  split
  · omega
  · obtain ⟨h1, h2⟩ := spin_range (n := n) (m := b - a + 1) (by omega)
    omega
theorem lot_eq (a b n : Int) : (if b ≤ a then a else a + spinF n (b - a + 1)) = lotF a b n := rfl
theorem meansL_pre (r : Rack) (d : Int × Int) (n : Int) : ∀ {i j : Nat}, i ≤ j → ∃ t, meansL r d n j = meansL r d n i ++ t
  | i, 0, h => ⟨[], by obtain rfl : i = 0 := by omega
                       simp⟩
  | i, j + 1, h => by
    by_cases e : i = j + 1
    · subst e; exact ⟨[], by simp⟩
    · obtain ⟨t, ht⟩ := meansL_pre r d n (show i ≤ j by omega)
      exact ⟨t ++ (meanOf r d n j).toList, by rw [meansL_succ, ht, List.append_assoc]⟩
theorem meanOf_lt {r : Rack} {d : Int × Int} {n : Int} {i : Nat} (h : i < r.issues.length) : meanOf r d n i = if ovl 0 d.1 d.2 (r.issues.getD i default) then (entNo n (r.issues.getD i default).entries).map (fun e => ((i : Int), e.good)) else none := by
  unfold meanOf entAt
  rw [if_pos (show (0 : Int) ≤ i ∧ (i : Int) < r.issues.length by omega)]
  rfl
/-- Has an entry of this number been met? -/
def hitB (d : Int × Int) (n : Int) (y : Issue) (k : Nat) : Bool := ovl 0 d.1 d.2 y && (y.entries.take k).any (fun e => e.number == n)
def cnt (r : Rack) (d : Int × Int) (n : Int) (i k : Nat) : Nat := (meansL r d n i).length + if hitB d n (r.issues.getD i default) k then 1 else 0
theorem take_any {α : Type} [Inhabited α] (p : α → Bool) {l : List α} {k : Nat} (h : k < l.length) : (l.take (k + 1)).any p = ((l.take k).any p || p (l.getD k default)) := by
  rw [List.take_succ_eq_append_getElem h, List.any_append]
  simp [h]
theorem no_before {l : List Entry} (hn : (l.map (·.number)).Nodup) {k : Nat} (hk : k < l.length) {n : Int} (he : (l.getD k default).number = n) : (l.take k).any (fun e => e.number == n) = false := by
  rw [List.any_eq_false]
  intro e hm
  obtain ⟨j, hj, hje⟩ := List.mem_take_iff_getElem.1 hm
  have hjk : j < k := by omega
  have hjl : j < l.length := by omega
  have hp := List.pairwise_iff_getElem.1 hn j k (by simpa using hjl) (by simpa using hk) hjk
  simp only [List.getElem_map] at hp
  have h1 : l.getD k default = l[k] := by simp [hk]
  rw [h1] at he
  simp only [beq_iff_eq]
  intro q
  rw [← hje] at q
  exact hp (q.trans he.symm)
theorem cnt_end {r : Rack} {d : Int × Int} {n : Int} {i : Nat} (h : i < r.issues.length) : cnt r d n i (r.issues.getD i default).entries.length = (meansL r d n (i + 1)).length := by
  unfold cnt hitB
  rw [meansL_succ, List.length_append, meanOf_lt h, List.take_length]
  congr 1
  generalize r.issues.getD i default = y
  cases hov : ovl 0 d.1 d.2 y with
  | false => simp
  | true =>
    simp only [Bool.true_and, if_true]
    unfold entNo
    cases hf : y.entries.find? (fun e => e.number == n) with
    | none =>
      have : y.entries.any (fun e => e.number == n) = false := by
        rw [List.any_eq_false]; exact List.find?_eq_none.1 hf
      simp [this]
    | some e =>
      have : y.entries.any (fun e => e.number == n) = true := List.any_eq_true.2 ⟨e, List.mem_of_find?_eq_some hf, (List.find?_some hf :)⟩
      simp [this]
/-- An entry that is told: where it stands. -/
theorem cnt_hit {r : Rack} (hG : GRack r) {d : Int × Int} {n : Int} {i k : Nat} (h : i < r.issues.length) (hk : k < (r.issues.getD i default).entries.length) (he : ((r.issues.getD i default).entries.getD k default).number = n) (ho : ovl 0 d.1 d.2 (r.issues.getD i default) = true) :
    cnt r d n i k < (meansL r d n r.issues.length).length ∧ (meansL r d n r.issues.length).getD (cnt r d n i k) default = ((i : Int), ((r.issues.getD i default).entries.getD k default).good) ∧ cnt r d n i (k + 1) = cnt r d n i k + 1 := by
  have hy : r.issues.getD i default ∈ r.issues := by simp [List.getD_eq_getElem?_getD, h]
  have hn := (hG.issues _ hy).numbers
  have hno := no_before hn hk he
  have hem : (r.issues.getD i default).entries.getD k default ∈ (r.issues.getD i default).entries := by rw [List.getD_eq_getElem?_getD (l := (r.issues.getD i default).entries), List.getElem?_eq_getElem hk]; exact List.getElem_mem hk
  have hmo : meanOf r d n i = some ((i : Int), ((r.issues.getD i default).entries.getD k default).good) := by
    rw [meanOf_lt h, if_pos ho, ← he, entNo_of hn hem]; rfl
  obtain ⟨t, ht⟩ := meansL_pre r d n (show i + 1 ≤ r.issues.length by omega)
  have hc0 : cnt r d n i k = (meansL r d n i).length := by unfold cnt hitB; rw [hno]; simp
  have hc1 : cnt r d n i (k + 1) = (meansL r d n i).length + 1 := by
    unfold cnt hitB
    rw [take_any _ hk, hno, ho, he]; simp
  rw [hc0, hc1, ht, meansL_succ, hmo]
  refine ⟨by simp, ?_, rfl⟩
  simp
theorem cnt_miss {r : Rack} {d : Int × Int} {n : Int} {i k : Nat} (hk : k < (r.issues.getD i default).entries.length) (he : (((r.issues.getD i default).entries.getD k default).number == n && ovl 0 d.1 d.2 (r.issues.getD i default)) = false) : cnt r d n i (k + 1) = cnt r d n i k := by
  unfold cnt hitB
  rw [take_any _ hk]
  congr 2
  generalize (r.issues.getD i default).entries.getD k default = e at *
  cases h1 : ovl 0 d.1 d.2 (r.issues.getD i default) with
  | false => simp
  | true =>
    rw [h1, Bool.and_true] at he
    rw [he]; simp
theorem meansL_sub {r : Rack} {d d' : Int × Int} {n : Int} (h1 : d.1 ≤ d'.1) (h2 : d'.2 ≤ d.2) (k : Nat) : ∀ x ∈ meansL r d' n k, x ∈ meansL r d n k := fun x hx => by
  unfold meansL at hx ⊢
  obtain ⟨i, hi, hm⟩ := List.mem_filterMap.1 hx
  refine List.mem_filterMap.2 ⟨i, hi, ?_⟩
  unfold meanOf at hm ⊢
  split at hm
  · rename_i ho
    have : ovl 0 d.1 d.2 (r.issues.getD i default) = true := by
      simp only [ovl, hiK, if_true, Bool.and_eq_true, decide_eq_true_eq] at ho ⊢
      omega
    rw [if_pos this]; exact hm
  · cases hm
theorem meant_law (r : Rack) (hr : okRack r) (a b c e f : Int) : Fn E34 0 7 Tryd.f7 (Tryd.f7.body.getD .skip) [.agg (encR r), .agg [.int .i64 a, .int .i64 b, .int .i64 c, .int .i64 e, .int .i64 f]] (.bool true) := by
  obtain ⟨g, l⟩ := r
  unfold Fn Tryd.f7
  cases hk : rackOk ⟨g, l⟩ with
  | false => simp only [go_sem, Nat.reduceAdd, Nat.reduceSub, Nat.reduceMul, Nat.reduceEqDiff, Nat.reduceLT, Nat.reduceLeDiff, Nat.reduceBEq, Nat.reduceBNe, Int.reduceToNat, Int.reduceLE, Int.reduceLT, Int.reduceNe, Int.reduceNeg, reduceCtorEq, Int.reduceBEq, Int.reduceBNe, @callV_spec E34 42 s42 rfl, @callV_specT E34 42 s42 rfl, @stepV_spec E34 42 s42 rfl, @effV_spec E34 42 s42 rfl, s42, @callV_spec E34 27 s27 rfl, @callV_specT E34 27 s27 rfl, @stepV_spec E34 27 s27 rfl, @effV_spec E34 27 s27 rfl, s27, encR, callSpec, hr, hk]
  | true =>
    have hG := rack_good hk
    have hl := hG.len
    simp only at hl
    obtain ⟨p1, p2⟩ := spin_range (n := a) (m := 600) (by omega)
    obtain ⟨q1, q2⟩ := spin_range (n := b) (m := 300) (by omega)
    obtain ⟨u1, u2⟩ := spin_range (n := f) (m := 40) (by omega)
    have w1 : IntKind.i64.wrap (spinF a 600 + spinF b 300) = spinF a 600 + spinF b 300 := wrap_id (by omega)
    have w2 : IntKind.i64.wrap (1 + spinF f 40) = 1 + spinF f 40 := wrap_id (by omega)
    generalize hlo : spinF a 600 = lo at *
    generalize hhi : lo + spinF b 300 = hi at *
    generalize hnum : 1 + spinF f 40 = n at *
    obtain ⟨f1, f2⟩ := lot_range (a := lo) (b := hi) c (by omega)
    obtain ⟨g1, g2⟩ := lot_range (a := lotF lo hi c) (b := hi) e f2
    have c1 : lo ≤ 1000000000 := by omega
    have c2 : 0 ≤ hi := by omega
    have c3 : hi ≤ 1000000000 := by omega
    have c4 : 0 ≤ lotF lo hi c := by omega
    have c5 : lotF lo hi c ≤ 1000000000 := by omega
    have hm1 : meansM ⟨g, l⟩ (lo, hi) n = (meansL ⟨g, l⟩ (lo, hi) n l.length, 0) := by
      unfold meansM
      rw [if_pos hk, if_pos]
      simp only [qMeans, isDaysB, isNumB, Bool.and_eq_true, decide_eq_true_eq]; omega
    have hm2 : meansM ⟨g, l⟩ (lotF lo hi c, lotF (lotF lo hi c) hi e) n = (meansL ⟨g, l⟩ (lotF lo hi c, lotF (lotF lo hi c) hi e) n l.length, 0) := by
      unfold meansM
      rw [if_pos hk, if_pos]
      simp only [qMeans, isDaysB, isNumB, Bool.and_eq_true, decide_eq_true_eq]; omega
    simp only [go_sem, Nat.reduceAdd, Nat.reduceSub, Nat.reduceMul, Nat.reduceEqDiff, Nat.reduceLT, Nat.reduceLeDiff, Nat.reduceBEq, Nat.reduceBNe, Int.reduceToNat, Int.reduceLE, Int.reduceLT, Int.reduceNe, Int.reduceNeg, reduceCtorEq, Int.reduceBEq, Int.reduceBNe, @callV_spec E34 42 s42 rfl, @callV_specT E34 42 s42 rfl, @stepV_spec E34 42 s42 rfl, @effV_spec E34 42 s42 rfl, s42, @callV_spec E34 43 sSpin rfl, @callV_specT E34 43 sSpin rfl, @stepV_spec E34 43 sSpin rfl, @effV_spec E34 43 sSpin rfl, sSpin, @callV_spec E34 44 sTo rfl, @callV_specT E34 44 sTo rfl, @stepV_spec E34 44 sTo rfl, @effV_spec E34 44 sTo rfl, sTo, @callV_spec E34 45 s45 rfl, @callV_specT E34 45 s45 rfl, @stepV_spec E34 45 s45 rfl, @effV_spec E34 45 s45 rfl, s45, @callV_spec E34 17 s17 rfl, @callV_specT E34 17 s17 rfl, @stepV_spec E34 17 s17 rfl, @effV_spec E34 17 s17 rfl, s17, encR, callSpec, hr, hk, hlo, w1, hhi, w2, hnum, p1, c1, c2, c3, c4, c5, lot_eq, hm1, hm2]
    have hmlS : ∀ q : List (Int × Int), ml q = q.map encS := fun q => rfl
    have hsub := meansL_sub (r := ⟨g, l⟩) (d := (lo, hi)) (d' := (lotF lo hi c, lotF (lotF lo hi c) hi e)) (n := n) f1 g2 l.length
    have hlenL := meansL_len ⟨g, l⟩ (lo, hi) n l.length
    have hlenM := meansL_len ⟨g, l⟩ (lotF lo hi c, lotF (lotF lo hi c) hi e) n l.length
    have hcz : ∀ i, cnt ⟨g, l⟩ (lo, hi) n i 0 = (meansL ⟨g, l⟩ (lo, hi) n i).length := fun i => by simp [cnt, hitB]
    have hce := fun i => cnt_end (r := ⟨g, l⟩) (d := (lo, hi)) (n := n) (i := i)
    have hch := fun i k => cnt_hit hG (d := (lo, hi)) (n := n) (i := i) (k := k)
    have hcm := fun i k => cnt_miss (r := ⟨g, l⟩) (d := (lo, hi)) (n := n) (i := i) (k := k)
    simp only at hce hch hcm
    generalize hM : meansL ⟨g, l⟩ (lotF lo hi c, lotF (lotF lo hi c) hi e) n l.length = M at *
    generalize hL : meansL ⟨g, l⟩ (lo, hi) n l.length = L at *
    refine ev_loopS [2, 6, 9, 10, 12] (fun i : Nat => [(14, .int .i64 (meansL ⟨g, l⟩ (lo, hi) n i).length), (15, .int .i64 i)])
      (fun i H => i ≤ l.length ∧ H (([], 7000000) : Key) = some (.cells [.int .i64 g, .sl (l.map encI) false] 1 false) ∧ H (([], 7004007) : Key) = some (.cells [.int .i64 lo, .int .i64 hi] 1 false))
      (fun i => l.length - i) 0 ?_ ⟨Nat.zero_le _, ?_, ?_⟩ ?_
    · simp only [go_sem, Nat.reduceAdd, Nat.reduceSub, Nat.reduceMul, Nat.reduceEqDiff, Nat.reduceLT, Nat.reduceLeDiff, Nat.reduceBEq, Nat.reduceBNe, Int.reduceToNat, Int.reduceLE, Int.reduceLT, Int.reduceNe, Int.reduceNeg, reduceCtorEq, Int.reduceBEq, Int.reduceBNe]; rfl
    · simp only [go_sem, Nat.reduceAdd, Nat.reduceSub, Nat.reduceMul, Nat.reduceEqDiff, Nat.reduceLT, Nat.reduceLeDiff, Nat.reduceBEq, Nat.reduceBNe, Int.reduceToNat, Int.reduceLE, Int.reduceLT, Int.reduceNe, Int.reduceNeg, reduceCtorEq, Int.reduceBEq, Int.reduceBNe]
    · simp only [go_sem, Nat.reduceAdd, Nat.reduceSub, Nat.reduceMul, Nat.reduceEqDiff, Nat.reduceLT, Nat.reduceLeDiff, Nat.reduceBEq, Nat.reduceBNe, Int.reduceToNat, Int.reduceLE, Int.reduceLT, Int.reduceNe, Int.reduceNeg, reduceCtorEq, Int.reduceBEq, Int.reduceBNe]
    · simp only [go_sem, Nat.reduceAdd, Nat.reduceSub, Nat.reduceMul, Nat.reduceEqDiff, Nat.reduceLT, Nat.reduceLeDiff, Nat.reduceBEq, Nat.reduceBNe, Int.reduceToNat, Int.reduceLE, Int.reduceLT, Int.reduceNe, Int.reduceNeg, reduceCtorEq, Int.reduceBEq, Int.reduceBNe]
      intro K i H ⟨hi', h1, h2⟩ hK hE
      simp only [go_sem, Nat.reduceAdd, Nat.reduceSub, Nat.reduceMul, Nat.reduceEqDiff, Nat.reduceLT, Nat.reduceLeDiff, Nat.reduceBEq, Nat.reduceBNe, Int.reduceToNat, Int.reduceLE, Int.reduceLT, Int.reduceNe, Int.reduceNeg, reduceCtorEq, Int.reduceBEq, Int.reduceBNe, h1]
      rw [condK_bool]
      refine ⟨fun h => ?_, fun h => ?_⟩
      · have h' : i < l.length := by simpa using h
        have hii : (i : Int) < (l.length : Int) := by omega
        have w3 : IntKind.i64.wrap ((i : Int) + 1) = (i : Int) + 1 := wrap_id (by omega)
        have hy : l.getD i default ∈ l := by simp [List.getD_eq_getElem?_getD, h']
        have h24 := (hG.issues _ hy).len
        have hcz := hcz i
        have hce := hce i h'
        have hch := fun k => hch i k h'
        have hcm := hcm i
        generalize hyy : l.getD i default = y at *
        simp only [go_sem, Nat.reduceAdd, Nat.reduceSub, Nat.reduceMul, Nat.reduceEqDiff, Nat.reduceLT, Nat.reduceLeDiff, Nat.reduceBEq, Nat.reduceBNe, Int.reduceToNat, Int.reduceLE, Int.reduceLT, Int.reduceNe, Int.reduceNeg, reduceCtorEq, Int.reduceBEq, Int.reduceBNe, h1, hii, getD_mapN encI l i _ h', hyy, encI]
        generalize hv : verOf H ([], 7016005) + 1 = v
        refine ev_loopS [2, 6, 9, 10, 12, 15, 16] (fun k : Nat => [(14, .int .i64 (cnt ⟨g, l⟩ (lo, hi) n i k)), (17, .int .i64 k)])
          (fun k H => k ≤ y.entries.length ∧ H (([], 7000000) : Key) = some (.cells [.int .i64 g, .sl (l.map encI) false] 1 false) ∧ H (([], 7004007) : Key) = some (.cells [.int .i64 lo, .int .i64 hi] 1 false) ∧ H (([], 7016005) : Key) = some (.cells (encI y) v false))
          (fun k => y.entries.length - k) 0 ?_ ⟨Nat.zero_le _, ?_, ?_, ?_⟩ ?_
        · simp only [go_sem, Nat.reduceAdd, Nat.reduceSub, Nat.reduceMul, Nat.reduceEqDiff, Nat.reduceLT, Nat.reduceLeDiff, Nat.reduceBEq, Nat.reduceBNe, Int.reduceToNat, Int.reduceLE, Int.reduceLT, Int.reduceNe, Int.reduceNeg, reduceCtorEq, Int.reduceBEq, Int.reduceBNe, hcz]
        · simp only [go_sem, Nat.reduceAdd, Nat.reduceSub, Nat.reduceMul, Nat.reduceEqDiff, Nat.reduceLT, Nat.reduceLeDiff, Nat.reduceBEq, Nat.reduceBNe, Int.reduceToNat, Int.reduceLE, Int.reduceLT, Int.reduceNe, Int.reduceNeg, reduceCtorEq, Int.reduceBEq, Int.reduceBNe, h1]
        · simp only [go_sem, Nat.reduceAdd, Nat.reduceSub, Nat.reduceMul, Nat.reduceEqDiff, Nat.reduceLT, Nat.reduceLeDiff, Nat.reduceBEq, Nat.reduceBNe, Int.reduceToNat, Int.reduceLE, Int.reduceLT, Int.reduceNe, Int.reduceNeg, reduceCtorEq, Int.reduceBEq, Int.reduceBNe, h2]
        · simp only [go_sem, Nat.reduceAdd, Nat.reduceSub, Nat.reduceMul, Nat.reduceEqDiff, Nat.reduceLT, Nat.reduceLeDiff, Nat.reduceBEq, Nat.reduceBNe, Int.reduceToNat, Int.reduceLE, Int.reduceLT, Int.reduceNe, Int.reduceNeg, reduceCtorEq, Int.reduceBEq, Int.reduceBNe, encI]
        · simp only [go_sem, Nat.reduceAdd, Nat.reduceSub, Nat.reduceMul, Nat.reduceEqDiff, Nat.reduceLT, Nat.reduceLeDiff, Nat.reduceBEq, Nat.reduceBNe, Int.reduceToNat, Int.reduceLE, Int.reduceLT, Int.reduceNe, Int.reduceNeg, reduceCtorEq, Int.reduceBEq, Int.reduceBNe]
          intro K2 k H2 ⟨hk2, k1, k2, k3⟩ hK2 hE2
          simp only [go_sem, Nat.reduceAdd, Nat.reduceSub, Nat.reduceMul, Nat.reduceEqDiff, Nat.reduceLT, Nat.reduceLeDiff, Nat.reduceBEq, Nat.reduceBNe, Int.reduceToNat, Int.reduceLE, Int.reduceLT, Int.reduceNe, Int.reduceNeg, reduceCtorEq, Int.reduceBEq, Int.reduceBNe, k1, k2, k3, encI]
          rw [condK_bool]
          refine ⟨fun h => ?_, fun h => ?_⟩
          · have hk' : k < y.entries.length := by simpa using h
            have hkk : (k : Int) < (y.entries.length : Int) := by omega
            have w4 : IntKind.i64.wrap ((k : Int) + 1) = (k : Int) + 1 := wrap_id (by omega)
            have hch := hch k hk'
            have hcm := hcm k hk'
            generalize hee : y.entries.getD k default = en at *
            have hov : ovl 0 lo hi y = (decide (y.lo ≤ hi) && decide (lo ≤ y.hi)) := rfl
            simp only [go_sem, Nat.reduceAdd, Nat.reduceSub, Nat.reduceMul, Nat.reduceEqDiff, Nat.reduceLT, Nat.reduceLeDiff, Nat.reduceBEq, Nat.reduceBNe, Int.reduceToNat, Int.reduceLE, Int.reduceLT, Int.reduceNe, Int.reduceNeg, reduceCtorEq, Int.reduceBEq, Int.reduceBNe, k1, k2, k3, hkk, getD_mapN encE y.entries k _ hk', hee, encI, encE]
            rw [condK_bool]
            refine ⟨fun hc => ?_, fun hc => ?_⟩
            · have hq : (en.number == n && ovl 0 lo hi y) = false := by
                rw [hov, Bool.eq_false_iff]
                intro q
                simp only [Bool.and_eq_true, beq_iff_eq, decide_eq_true_eq] at q
                simp only [Bool.or_eq_true, bne_iff_ne, ne_eq, decide_eq_true_eq] at hc
                omega
              simp only [go_sem, Nat.reduceAdd, Nat.reduceSub, Nat.reduceMul, Nat.reduceEqDiff, Nat.reduceLT, Nat.reduceLeDiff, Nat.reduceBEq, Nat.reduceBNe, Int.reduceToNat, Int.reduceLE, Int.reduceLT, Int.reduceNe, Int.reduceNeg, reduceCtorEq, Int.reduceBEq, Int.reduceBNe]
              refine hK2 (k + 1) _ _ ?_ ⟨hk', k1, k2, k3⟩ (by omega)
              simp only [go_sem, Nat.reduceAdd, Nat.reduceSub, Nat.reduceMul, Nat.reduceEqDiff, Nat.reduceLT, Nat.reduceLeDiff, Nat.reduceBEq, Nat.reduceBNe, Int.reduceToNat, Int.reduceLE, Int.reduceLT, Int.reduceNe, Int.reduceNeg, reduceCtorEq, Int.reduceBEq, Int.reduceBNe, w4, Int.natCast_add, Int.natCast_one, hcm hq]
            · have hq : en.number = n ∧ y.lo ≤ hi ∧ lo ≤ y.hi := by
                simp only [Bool.or_eq_false_iff, bne_eq_false_iff_eq, decide_eq_false_iff_not] at hc
                omega
              obtain ⟨r1, r2, r3⟩ := hch hq.1 (by rw [hov]; simp; omega)
              have hcl := meansL_len ⟨g, l⟩ (lo, hi) n i
              generalize cnt ⟨g, l⟩ (lo, hi) n i k = m at *
              have r4 : (m : Int) < (L.length : Int) := by omega
              have r5 : ((m : Int) ≥ (L.length : Int)) = False := by simp; omega
              have w5 : IntKind.i64.wrap ((m : Int) + 1) = (m : Int) + 1 := wrap_id (by omega)
              simp only [go_sem, Nat.reduceAdd, Nat.reduceSub, Nat.reduceMul, Nat.reduceEqDiff, Nat.reduceLT, Nat.reduceLeDiff, Nat.reduceBEq, Nat.reduceBNe, Int.reduceToNat, Int.reduceLE, Int.reduceLT, Int.reduceNe, Int.reduceNeg, reduceCtorEq, Int.reduceBEq, Int.reduceBNe, k1, k2, k3, hkk, getD_mapN encE y.entries k _ hk', hee, encI, encE, hmlS, r4, r5, getD_mapN encS L m _ r1, r2, encS, bne_self_eq_false]
              refine hK2 (k + 1) _ _ ?_ ⟨hk', k1, k2, k3⟩ (by omega)
              simp only [go_sem, Nat.reduceAdd, Nat.reduceSub, Nat.reduceMul, Nat.reduceEqDiff, Nat.reduceLT, Nat.reduceLeDiff, Nat.reduceBEq, Nat.reduceBNe, Int.reduceToNat, Int.reduceLE, Int.reduceLT, Int.reduceNe, Int.reduceNeg, reduceCtorEq, Int.reduceBEq, Int.reduceBNe, w4, w5, Int.natCast_add, Int.natCast_one, r3, hmlS]
          · have hk' : k = y.entries.length := by have : ¬ ((k : Int) < (y.entries.length : Int)) := by simpa using h
                                                  omega
            subst hk'
            refine hE2 _ _ _ (by simp) ?_
            simp only [go_sem, Nat.reduceAdd, Nat.reduceSub, Nat.reduceMul, Nat.reduceEqDiff, Nat.reduceLT, Nat.reduceLeDiff, Nat.reduceBEq, Nat.reduceBNe, Int.reduceToNat, Int.reduceLE, Int.reduceLT, Int.reduceNe, Int.reduceNeg, reduceCtorEq, Int.reduceBEq, Int.reduceBNe]
            refine hK (i + 1) _ _ ?_ ⟨h', k1, k2⟩ (by omega)
            simp only [go_sem, Nat.reduceAdd, Nat.reduceSub, Nat.reduceMul, Nat.reduceEqDiff, Nat.reduceLT, Nat.reduceLeDiff, Nat.reduceBEq, Nat.reduceBNe, Int.reduceToNat, Int.reduceLE, Int.reduceLT, Int.reduceNe, Int.reduceNeg, reduceCtorEq, Int.reduceBEq, Int.reduceBNe, w3, Int.natCast_add, Int.natCast_one, hce]
      · have h' : i = l.length := by have : ¬ ((i : Int) < (l.length : Int)) := by simpa using h
                                     omega
        subst h'
        rw [hL]
        refine hE _ _ _ (by simp) ?_
        simp only [go_sem, Nat.reduceAdd, Nat.reduceSub, Nat.reduceMul, Nat.reduceEqDiff, Nat.reduceLT, Nat.reduceLeDiff, Nat.reduceBEq, Nat.reduceBNe, Int.reduceToNat, Int.reduceLE, Int.reduceLT, Int.reduceNe, Int.reduceNeg, reduceCtorEq, Int.reduceBEq, Int.reduceBNe]
        refine ev_loopS [10, 12, 14] (fun i : Nat => [(18, .int .i64 i)]) (fun i H => i ≤ M.length) (fun i => M.length - i) 0 ?_ (Nat.zero_le _) ?_
        · simp only [go_sem, Nat.reduceAdd, Nat.reduceSub, Nat.reduceMul, Nat.reduceEqDiff, Nat.reduceLT, Nat.reduceLeDiff, Nat.reduceBEq, Nat.reduceBNe, Int.reduceToNat, Int.reduceLE, Int.reduceLT, Int.reduceNe, Int.reduceNeg, reduceCtorEq, Int.reduceBEq, Int.reduceBNe]
        · simp only [go_sem, Nat.reduceAdd, Nat.reduceSub, Nat.reduceMul, Nat.reduceEqDiff, Nat.reduceLT, Nat.reduceLeDiff, Nat.reduceBEq, Nat.reduceBNe, Int.reduceToNat, Int.reduceLE, Int.reduceLT, Int.reduceNe, Int.reduceNeg, reduceCtorEq, Int.reduceBEq, Int.reduceBNe]
          intro K2 k H2 hk2 hK2 hE2
          simp only [go_sem, Nat.reduceAdd, Nat.reduceSub, Nat.reduceMul, Nat.reduceEqDiff, Nat.reduceLT, Nat.reduceLeDiff, Nat.reduceBEq, Nat.reduceBNe, Int.reduceToNat, Int.reduceLE, Int.reduceLT, Int.reduceNe, Int.reduceNeg, reduceCtorEq, Int.reduceBEq, Int.reduceBNe, hmlS]
          rw [condK_bool]
          refine ⟨fun h => ?_, fun h => ?_⟩
          · have hk' : k < M.length := by simpa using h
            have hkk : (k : Int) < (M.length : Int) := by omega
            have w4 : IntKind.i64.wrap ((k : Int) + 1) = (k : Int) + 1 := wrap_id (by omega)
            have hxm : M.getD k default ∈ L := hsub _ (by simp [List.getD_eq_getElem?_getD, hk'])
            generalize hxx : M.getD k default = x at *
            simp only [go_sem, Nat.reduceAdd, Nat.reduceSub, Nat.reduceMul, Nat.reduceEqDiff, Nat.reduceLT, Nat.reduceLeDiff, Nat.reduceBEq, Nat.reduceBNe, Int.reduceToNat, Int.reduceLE, Int.reduceLT, Int.reduceNe, Int.reduceNeg, reduceCtorEq, Int.reduceBEq, Int.reduceBNe]
            refine ev_loopS [10, 12, 14, 18] (fun j : Nat => [(19, .bool ((L.take j).any fun z => z.1 == x.1 && z.2 == x.2)), (20, .int .i64 j)]) (fun j H => j ≤ L.length) (fun j => L.length - j) 0 ?_ (Nat.zero_le _) ?_
            · simp only [go_sem, Nat.reduceAdd, Nat.reduceSub, Nat.reduceMul, Nat.reduceEqDiff, Nat.reduceLT, Nat.reduceLeDiff, Nat.reduceBEq, Nat.reduceBNe, Int.reduceToNat, Int.reduceLE, Int.reduceLT, Int.reduceNe, Int.reduceNeg, reduceCtorEq, Int.reduceBEq, Int.reduceBNe, hmlS]
            · simp only [go_sem, Nat.reduceAdd, Nat.reduceSub, Nat.reduceMul, Nat.reduceEqDiff, Nat.reduceLT, Nat.reduceLeDiff, Nat.reduceBEq, Nat.reduceBNe, Int.reduceToNat, Int.reduceLE, Int.reduceLT, Int.reduceNe, Int.reduceNeg, reduceCtorEq, Int.reduceBEq, Int.reduceBNe, hmlS]
              intro K3 j H3 hj3 hK3 hE3
              rw [condK_bool]
              refine ⟨fun h => ?_, fun h => ?_⟩
              · have hj' : j < L.length := by simpa using h
                have hjj : (j : Int) < (L.length : Int) := by omega
                have w5 : IntKind.i64.wrap ((j : Int) + 1) = (j : Int) + 1 := wrap_id (by omega)
                have hta := take_any (fun z : Int × Int => z.1 == x.1 && z.2 == x.2) hj'
                generalize hzz : L.getD j default = z at *
                simp only [go_sem, Nat.reduceAdd, Nat.reduceSub, Nat.reduceMul, Nat.reduceEqDiff, Nat.reduceLT, Nat.reduceLeDiff, Nat.reduceBEq, Nat.reduceBNe, Int.reduceToNat, Int.reduceLE, Int.reduceLT, Int.reduceNe, Int.reduceNeg, reduceCtorEq, Int.reduceBEq, Int.reduceBNe, hjj, hkk, getD_mapN encS L j _ hj', getD_mapN encS M k _ hk', hxx, hzz, encS]
                refine hK3 (j + 1) _ _ ?_ hj' (by omega)
                simp only [go_sem, Nat.reduceAdd, Nat.reduceSub, Nat.reduceMul, Nat.reduceEqDiff, Nat.reduceLT, Nat.reduceLeDiff, Nat.reduceBEq, Nat.reduceBNe, Int.reduceToNat, Int.reduceLE, Int.reduceLT, Int.reduceNe, Int.reduceNeg, reduceCtorEq, Int.reduceBEq, Int.reduceBNe, w5, Int.natCast_add, Int.natCast_one, hta, hmlS]
              · have hj' : j = L.length := by have : ¬ ((j : Int) < (L.length : Int)) := by simpa using h
                                              omega
                subst hj'
                have hyes : (L.any fun z => z.1 == x.1 && z.2 == x.2) = true := List.any_eq_true.2 ⟨x, hxm, by simp⟩
                refine hE3 _ _ _ (by simp) ?_
                simp only [go_sem, Nat.reduceAdd, Nat.reduceSub, Nat.reduceMul, Nat.reduceEqDiff, Nat.reduceLT, Nat.reduceLeDiff, Nat.reduceBEq, Nat.reduceBNe, Int.reduceToNat, Int.reduceLE, Int.reduceLT, Int.reduceNe, Int.reduceNeg, reduceCtorEq, Int.reduceBEq, Int.reduceBNe, List.take_length, hyes]
                refine hK2 (k + 1) _ _ ?_ hk' (by omega)
                simp only [go_sem, Nat.reduceAdd, Nat.reduceSub, Nat.reduceMul, Nat.reduceEqDiff, Nat.reduceLT, Nat.reduceLeDiff, Nat.reduceBEq, Nat.reduceBNe, Int.reduceToNat, Int.reduceLE, Int.reduceLT, Int.reduceNe, Int.reduceNeg, reduceCtorEq, Int.reduceBEq, Int.reduceBNe, w4, Int.natCast_add, Int.natCast_one, hmlS]
          · refine hE2 _ _ _ (by simp) ?_
            simp only [go_sem, Nat.reduceAdd, Nat.reduceSub, Nat.reduceMul, Nat.reduceEqDiff, Nat.reduceLT, Nat.reduceLeDiff, Nat.reduceBEq, Nat.reduceBNe, Int.reduceToNat, Int.reduceLE, Int.reduceLT, Int.reduceNe, Int.reduceNeg, reduceCtorEq, Int.reduceBEq, Int.reduceBNe, @callV_spec E34 27 s27 rfl, @callV_specT E34 27 s27 rfl, @stepV_spec E34 27 s27 rfl, @effV_spec E34 27 s27 rfl, s27, hmlS]
end Wb
