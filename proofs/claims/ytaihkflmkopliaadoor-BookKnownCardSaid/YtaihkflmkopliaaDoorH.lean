import Derived.Test.YtaihkflmkopliaaDoorG
set_option linter.unusedVariables false
set_option linter.unusedSimpArgs false
/- The reference: asked, cost. -/
namespace Wb
open Go Go.Proofs Enc Row
set_option linter.unusedSimpArgs false
set_option linter.unusedVariables false
set_option maxRecDepth 20000
set_option maxHeartbeats 4000000
def E18t : List (Nat × Spec) := [(36, s36), (30, s30), (24, s24), (17, s17), (28, s28), (34, s34), (32, s32), (21, s21)] ++ E17t
theorem E18t_ok : AllOK E18t := ⟨⟨s36_ok, Tryd.call36⟩, ⟨s30_ok, Tryd.call30⟩, ⟨s24_ok, Tryd.call24⟩, ⟨s17_ok, Tryd.call17⟩, ⟨s28_ok, Tryd.call28⟩, ⟨s34_ok, Tryd.call34⟩, ⟨s32_ok, Tryd.call32⟩, ⟨s21_ok, Tryd.call21⟩, E17t_ok⟩
noncomputable def E18 : Env := mkE E18t []
theorem E18_ok : EnvOK Tryd.prog E18 := envOK E18t_ok trivial
theorem E18_ti {t : Nat} : E18.ti t = ti t := rfl
theorem E18_q0 : (E18).eqt 152 = true := rfl
theorem E18_q1 : (E18).eqt 69 = true := rfl
theorem E18_q2 : (E18).keyt 3 = true := rfl
theorem E18_q3 : (E18).keyt 108 = true := rfl
attribute [go_sem] E18_ti E18_q0 E18_q1 E18_q2 E18_q3
-- f61 asked
def askM (r : Rack) (q : Bool) : Int := if rackOk r then (if q then 0 else 11) else 10
theorem asked_fn (r : Rack) (hr : okRack r) (q : Bool) : Fn E18 0 61 Tryd.f61 (Tryd.f61.body.getD .skip) [.agg (encR r), .bool q] (.int .i64 (askM r q)) := by
  unfold Fn Tryd.f61 askM
  cases hk : rackOk r with
  | false => simp only [go_sem, Nat.reduceAdd, Nat.reduceSub, Nat.reduceMul, Nat.reduceEqDiff, Nat.reduceLT, Nat.reduceLeDiff, Nat.reduceBEq, Nat.reduceBNe, Int.reduceToNat, Int.reduceLE, Int.reduceLT, Int.reduceNe, Int.reduceNeg, reduceCtorEq, Int.reduceBEq, Int.reduceBNe, @callV_spec E18 21 s21 rfl, @callV_specT E18 21 s21 rfl, @stepV_spec E18 21 s21 rfl, @effV_spec E18 21 s21 rfl, s21, encR, callSpec, hr, hk]
  | true => cases q <;> simp only [go_sem, Nat.reduceAdd, Nat.reduceSub, Nat.reduceMul, Nat.reduceEqDiff, Nat.reduceLT, Nat.reduceLeDiff, Nat.reduceBEq, Nat.reduceBNe, Int.reduceToNat, Int.reduceLE, Int.reduceLT, Int.reduceNe, Int.reduceNeg, reduceCtorEq, Int.reduceBEq, Int.reduceBNe, @callV_spec E18 21 s21 rfl, @callV_specT E18 21 s21 rfl, @stepV_spec E18 21 s21 rfl, @effV_spec E18 21 s21 rfl, s21, encR, callSpec, hr, hk]
def s61 : Spec := spec2 (fun (r : Rack) (_ : Bool) => okRack r) (fun r q => .int .i64 (askM r q))
theorem s61_ok : SpecOK Tryd.prog glB 61 s61 := spec2_ok E18_ok Tryd.func61 rfl (by kernel_rfl) fun r q h => asked_fn r h q
-- f84 cost
theorem fold_take {α β : Type} [Inhabited α] (f : β → α → β) (b : β) {l : List α} {i : Nat} (h : i < l.length) : (l.take (i + 1)).foldl f b = f ((l.take i).foldl f b) (l.getD i default) := by
  have e : l.getD i default = l[i] := by simp [h]
  rw [e, List.take_succ_eq_append_getElem h, List.foldl_append]; rfl
theorem entryOf_find (good : Int) : ∀ l : List Entry, entryOf good l = l.find? (fun e => e.good == good)
  | [] => rfl
  | e :: l => by
    unfold entryOf
    rw [List.find?_cons]
    cases h : e.good == good <;> simp [entryOf_find good l]
def costS1 (z a : Int) (f : Fit) : Int := if f.size = z ∧ (a = 0 ∨ f.price < a) then f.price else a
def costI (on : Int) (t : Item) (a : Int) (y : Issue) : Int :=
  match entryOf t.good y.entries with
  | some e => if decide (y.lo ≤ on) && decide (on ≤ y.held) && inF e.colours t.colour then e.sizes.foldl (costS1 t.size) a else a
  | none => a
def costL (on : Int) (t : Item) (l : List Issue) : Int := l.foldl (costI on t) 0
theorem col_any (l : List Entry) : ∃ f : Nat → Int, ∀ k, ((l.map encE).getD k [.int .i64 0, .int .i64 0, .int .i64 0, .sl [] true]).getD 2 (.int .i64 0) = .int .i64 (f k) := by
  refine ⟨fun k => if k < l.length then (l.getD k default).colours else 0, fun k => ?_⟩
  dsimp only
  split
  · rename_i h; rw [getD_mapN encE l k _ h]; rfl
  · rename_i h
    rw [List.getD_eq_getElem?_getD (l := l.map encE), List.getElem?_eq_none (by rw [List.length_map]; omega)]; rfl
theorem cost_fn (r : Rack) (on : Int) (t : Item) (hs : Sane r) (hc : 0 ≤ t.colour) : Fn E18 0 84 Tryd.f84 (Tryd.f84.body.getD .skip) [.agg (encR r), .int .i64 on, .agg (encT t)] (.int .i64 (costL on t r.issues)) := by
  obtain ⟨g, l⟩ := r
  obtain ⟨a, b, c⟩ := t
  simp only at hc
  obtain ⟨hs1, hs2, hs3⟩ := hs
  simp only at hs1 hs2 hs3
  unfold Fn Tryd.f84 costL
  simp only [go_sem, Nat.reduceAdd, Nat.reduceSub, Nat.reduceMul, Nat.reduceEqDiff, Nat.reduceLT, Nat.reduceLeDiff, Nat.reduceBEq, Nat.reduceBNe, Int.reduceToNat, Int.reduceLE, Int.reduceLT, Int.reduceNe, Int.reduceNeg, reduceCtorEq, Int.reduceBEq, Int.reduceBNe, encR, encT]
  refine ev_loopS [1, 3, 5] (fun i : Nat => [(7, .int .i64 ((l.take i).foldl (costI on ⟨a, b, c⟩) 0)), (8, .int .i64 i)])
    (fun i H => i ≤ l.length ∧ H (([], 84000000) : Key) = some (.cells [.int .i64 g, .sl (l.map encI) false] 1 false) ∧ H (([], 84000001) : Key) = some (.cells [.int .i64 a, .int .i64 b, .int .i64 c] 1 false))
    (fun i => l.length - i) 0 ?_ ⟨Nat.zero_le _, ?_, ?_⟩ ?_
  · simp only [go_sem, Nat.reduceAdd, Nat.reduceSub, Nat.reduceMul, Nat.reduceEqDiff, Nat.reduceLT, Nat.reduceLeDiff, Nat.reduceBEq, Nat.reduceBNe, Int.reduceToNat, Int.reduceLE, Int.reduceLT, Int.reduceNe, Int.reduceNeg, reduceCtorEq, Int.reduceBEq, Int.reduceBNe]; rfl
  · simp only [go_sem, Nat.reduceAdd, Nat.reduceSub, Nat.reduceMul, Nat.reduceEqDiff, Nat.reduceLT, Nat.reduceLeDiff, Nat.reduceBEq, Nat.reduceBNe, Int.reduceToNat, Int.reduceLE, Int.reduceLT, Int.reduceNe, Int.reduceNeg, reduceCtorEq, Int.reduceBEq, Int.reduceBNe]
  · simp only [go_sem, Nat.reduceAdd, Nat.reduceSub, Nat.reduceMul, Nat.reduceEqDiff, Nat.reduceLT, Nat.reduceLeDiff, Nat.reduceBEq, Nat.reduceBNe, Int.reduceToNat, Int.reduceLE, Int.reduceLT, Int.reduceNe, Int.reduceNeg, reduceCtorEq, Int.reduceBEq, Int.reduceBNe]
  · simp only [go_sem, Nat.reduceAdd, Nat.reduceSub, Nat.reduceMul, Nat.reduceEqDiff, Nat.reduceLT, Nat.reduceLeDiff, Nat.reduceBEq, Nat.reduceBNe, Int.reduceToNat, Int.reduceLE, Int.reduceLT, Int.reduceNe, Int.reduceNeg, reduceCtorEq, Int.reduceBEq, Int.reduceBNe]
    intro K i H ⟨hi, h1, h2⟩ hK hE
    simp only [go_sem, Nat.reduceAdd, Nat.reduceSub, Nat.reduceMul, Nat.reduceEqDiff, Nat.reduceLT, Nat.reduceLeDiff, Nat.reduceBEq, Nat.reduceBNe, Int.reduceToNat, Int.reduceLE, Int.reduceLT, Int.reduceNe, Int.reduceNeg, reduceCtorEq, Int.reduceBEq, Int.reduceBNe, h1]
    rw [condK_bool]
    refine ⟨fun h => ?_, fun h => ?_⟩
    · have h' : i < l.length := by simpa using h
      have hii : (i : Int) < (l.length : Int) := by omega
      have w2 : IntKind.i64.wrap ((i : Int) + 1) = (i : Int) + 1 := wrap_id (by omega)
      have hft := fold_take (costI on ⟨a, b, c⟩) 0 h'
      have hy : l.getD i default ∈ l := by simp [List.getD_eq_getElem?_getD, h']
      have hy24 := hs2 _ hy
      have hy8 := hs3 _ hy
      generalize hyy : l.getD i default = y at *
      generalize (l.take i).foldl (costI on ⟨a, b, c⟩) 0 = acc at *
      have hb24 : big y.entries.length := Nat.lt_of_le_of_lt hy24 (by omega)
      have hbg : y.entries.length < 4611686018427387904 := hb24
      have hof := findI_find (fun e => e.good == a) y.entries 0
      rw [← entryOf_find] at hof
      have hcI : costI on ⟨a, b, c⟩ acc y = (match entryOf a y.entries with | some e => if decide (y.lo ≤ on) && decide (on ≤ y.held) && inF e.colours c then e.sizes.foldl (costS1 b) acc else acc | none => acc) := rfl
      rw [hcI] at hft
      simp only [go_sem, Nat.reduceAdd, Nat.reduceSub, Nat.reduceMul, Nat.reduceEqDiff, Nat.reduceLT, Nat.reduceLeDiff, Nat.reduceBEq, Nat.reduceBNe, Int.reduceToNat, Int.reduceLE, Int.reduceLT, Int.reduceNe, Int.reduceNeg, reduceCtorEq, Int.reduceBEq, Int.reduceBNe, @callV_spec E18 74 sOf rfl, @callV_specT E18 74 sOf rfl, @stepV_spec E18 74 sOf rfl, @effV_spec E18 74 sOf rfl, sOf, h1, h2, hii, getD_mapN encI l i _ h', hyy, encI, hbg, callSpec]
      obtain ⟨vf, hvf⟩ := col_any y.entries
      cases hsp : (decide (y.lo ≤ on) && decide (on ≤ y.held)) with
      | false =>
        have hft' : (l.take (i + 1)).foldl (costI on ⟨a, b, c⟩) 0 = acc := by rw [hft]; cases entryOf a y.entries <;> simp [hsp]
        simp only [go_sem, Nat.reduceAdd, Nat.reduceSub, Nat.reduceMul, Nat.reduceEqDiff, Nat.reduceLT, Nat.reduceLeDiff, Nat.reduceBEq, Nat.reduceBNe, Int.reduceToNat, Int.reduceLE, Int.reduceLT, Int.reduceNe, Int.reduceNeg, reduceCtorEq, Int.reduceBEq, Int.reduceBNe, @callV_spec E18 50 sTween rfl, @callV_specT E18 50 sTween rfl, @stepV_spec E18 50 sTween rfl, @effV_spec E18 50 sTween rfl, sTween, @callV_spec E18 104 sIn rfl, @callV_specT E18 104 sIn rfl, @stepV_spec E18 104 sIn rfl, @effV_spec E18 104 sIn rfl, sIn, h1, h2, hc, hvf, hsp]
        refine hK (i + 1) _ _ ?_ ⟨h', ?_, ?_⟩ (by omega)
        · simp only [go_sem, Nat.reduceAdd, Nat.reduceSub, Nat.reduceMul, Nat.reduceEqDiff, Nat.reduceLT, Nat.reduceLeDiff, Nat.reduceBEq, Nat.reduceBNe, Int.reduceToNat, Int.reduceLE, Int.reduceLT, Int.reduceNe, Int.reduceNeg, reduceCtorEq, Int.reduceBEq, Int.reduceBNe, w2, Int.natCast_add, Int.natCast_one, hft']
        · simp only [go_sem, Nat.reduceAdd, Nat.reduceSub, Nat.reduceMul, Nat.reduceEqDiff, Nat.reduceLT, Nat.reduceLeDiff, Nat.reduceBEq, Nat.reduceBNe, Int.reduceToNat, Int.reduceLE, Int.reduceLT, Int.reduceNe, Int.reduceNeg, reduceCtorEq, Int.reduceBEq, Int.reduceBNe, h1]
        · simp only [go_sem, Nat.reduceAdd, Nat.reduceSub, Nat.reduceMul, Nat.reduceEqDiff, Nat.reduceLT, Nat.reduceLeDiff, Nat.reduceBEq, Nat.reduceBNe, Int.reduceToNat, Int.reduceLE, Int.reduceLT, Int.reduceNe, Int.reduceNeg, reduceCtorEq, Int.reduceBEq, Int.reduceBNe, h2]
      | true =>
        rcases hof with ⟨e1, e2⟩ | ⟨j, hj, e1, e2⟩
        · rw [e1] at hft
          simp only at hft
          simp only [go_sem, Nat.reduceAdd, Nat.reduceSub, Nat.reduceMul, Nat.reduceEqDiff, Nat.reduceLT, Nat.reduceLeDiff, Nat.reduceBEq, Nat.reduceBNe, Int.reduceToNat, Int.reduceLE, Int.reduceLT, Int.reduceNe, Int.reduceNeg, reduceCtorEq, Int.reduceBEq, Int.reduceBNe, @callV_spec E18 50 sTween rfl, @callV_specT E18 50 sTween rfl, @stepV_spec E18 50 sTween rfl, @effV_spec E18 50 sTween rfl, sTween, @callV_spec E18 104 sIn rfl, @callV_specT E18 104 sIn rfl, @stepV_spec E18 104 sIn rfl, @effV_spec E18 104 sIn rfl, sIn, h1, h2, hc, hvf, hsp, e2]
          refine hK (i + 1) _ _ ?_ ⟨h', ?_, ?_⟩ (by omega)
          · simp only [go_sem, Nat.reduceAdd, Nat.reduceSub, Nat.reduceMul, Nat.reduceEqDiff, Nat.reduceLT, Nat.reduceLeDiff, Nat.reduceBEq, Nat.reduceBNe, Int.reduceToNat, Int.reduceLE, Int.reduceLT, Int.reduceNe, Int.reduceNeg, reduceCtorEq, Int.reduceBEq, Int.reduceBNe, w2, Int.natCast_add, Int.natCast_one, hft]
          · simp only [go_sem, Nat.reduceAdd, Nat.reduceSub, Nat.reduceMul, Nat.reduceEqDiff, Nat.reduceLT, Nat.reduceLeDiff, Nat.reduceBEq, Nat.reduceBNe, Int.reduceToNat, Int.reduceLE, Int.reduceLT, Int.reduceNe, Int.reduceNeg, reduceCtorEq, Int.reduceBEq, Int.reduceBNe, h1]
          · simp only [go_sem, Nat.reduceAdd, Nat.reduceSub, Nat.reduceMul, Nat.reduceEqDiff, Nat.reduceLT, Nat.reduceLeDiff, Nat.reduceBEq, Nat.reduceBNe, Int.reduceToNat, Int.reduceLE, Int.reduceLT, Int.reduceNe, Int.reduceNeg, reduceCtorEq, Int.reduceBEq, Int.reduceBNe, h2]
        · rw [e1] at hft
          have hjj : (j : Int) < (y.entries.length : Int) := by omega
          have hje : y.entries.getD j default ∈ y.entries := by simp [List.getD_eq_getElem?_getD, hj]
          have he8 := hy8 _ hje
          generalize hee : y.entries.getD j default = e at *
          have hj0 : ¬ ((j : Int) < 0) := by omega
          have e3 : findI (fun e => e.good == a) y.entries 0 = (j : Int) := by rw [e2, Nat.zero_add]
          simp only [hsp, Bool.true_and] at hft
          cases hin : inF e.colours c with
          | false =>
            simp only [hin, if_false, Bool.false_eq_true] at hft
            simp only [go_sem, Nat.reduceAdd, Nat.reduceSub, Nat.reduceMul, Nat.reduceEqDiff, Nat.reduceLT, Nat.reduceLeDiff, Nat.reduceBEq, Nat.reduceBNe, Int.reduceToNat, Int.reduceLE, Int.reduceLT, Int.reduceNe, Int.reduceNeg, reduceCtorEq, Int.reduceBEq, Int.reduceBNe, @callV_spec E18 50 sTween rfl, @callV_specT E18 50 sTween rfl, @stepV_spec E18 50 sTween rfl, @effV_spec E18 50 sTween rfl, sTween, @callV_spec E18 104 sIn rfl, @callV_specT E18 104 sIn rfl, @stepV_spec E18 104 sIn rfl, @effV_spec E18 104 sIn rfl, sIn, h1, h2, hsp, e3, hj0, hjj, getD_mapN encE y.entries j _ hj, hee, encE, hc, hin, Int.natCast_nonneg]
            refine hK (i + 1) _ _ ?_ ⟨h', ?_, ?_⟩ (by omega)
            · simp only [go_sem, Nat.reduceAdd, Nat.reduceSub, Nat.reduceMul, Nat.reduceEqDiff, Nat.reduceLT, Nat.reduceLeDiff, Nat.reduceBEq, Nat.reduceBNe, Int.reduceToNat, Int.reduceLE, Int.reduceLT, Int.reduceNe, Int.reduceNeg, reduceCtorEq, Int.reduceBEq, Int.reduceBNe, w2, Int.natCast_add, Int.natCast_one, hft]
            · simp only [go_sem, Nat.reduceAdd, Nat.reduceSub, Nat.reduceMul, Nat.reduceEqDiff, Nat.reduceLT, Nat.reduceLeDiff, Nat.reduceBEq, Nat.reduceBNe, Int.reduceToNat, Int.reduceLE, Int.reduceLT, Int.reduceNe, Int.reduceNeg, reduceCtorEq, Int.reduceBEq, Int.reduceBNe, h1]
            · simp only [go_sem, Nat.reduceAdd, Nat.reduceSub, Nat.reduceMul, Nat.reduceEqDiff, Nat.reduceLT, Nat.reduceLeDiff, Nat.reduceBEq, Nat.reduceBNe, Int.reduceToNat, Int.reduceLE, Int.reduceLT, Int.reduceNe, Int.reduceNeg, reduceCtorEq, Int.reduceBEq, Int.reduceBNe, h2]
          | true =>
            simp only [hin, if_true] at hft
            simp only [go_sem, Nat.reduceAdd, Nat.reduceSub, Nat.reduceMul, Nat.reduceEqDiff, Nat.reduceLT, Nat.reduceLeDiff, Nat.reduceBEq, Nat.reduceBNe, Int.reduceToNat, Int.reduceLE, Int.reduceLT, Int.reduceNe, Int.reduceNeg, reduceCtorEq, Int.reduceBEq, Int.reduceBNe, @callV_spec E18 50 sTween rfl, @callV_specT E18 50 sTween rfl, @stepV_spec E18 50 sTween rfl, @effV_spec E18 50 sTween rfl, sTween, @callV_spec E18 104 sIn rfl, @callV_specT E18 104 sIn rfl, @stepV_spec E18 104 sIn rfl, @effV_spec E18 104 sIn rfl, sIn, h1, h2, hsp, e3, hj0, hjj, getD_mapN encE y.entries j _ hj, hee, encE, hc, hin, Int.natCast_nonneg]
            refine ev_loopS [1, 3, 5, 8, 11] (fun m : Nat => [(7, .int .i64 ((e.sizes.take m).foldl (costS1 b) acc)), (12, .int .i64 m)])
              (fun m H => m ≤ e.sizes.length ∧ H (([], 84000000) : Key) = some (.cells [.int .i64 g, .sl (l.map encI) false] 1 false) ∧ H (([], 84000001) : Key) = some (.cells [.int .i64 a, .int .i64 b, .int .i64 c] 1 false))
              (fun m => e.sizes.length - m) 0 ?_ ⟨Nat.zero_le _, ?_, ?_⟩ ?_
            · simp only [go_sem, Nat.reduceAdd, Nat.reduceSub, Nat.reduceMul, Nat.reduceEqDiff, Nat.reduceLT, Nat.reduceLeDiff, Nat.reduceBEq, Nat.reduceBNe, Int.reduceToNat, Int.reduceLE, Int.reduceLT, Int.reduceNe, Int.reduceNeg, reduceCtorEq, Int.reduceBEq, Int.reduceBNe]; rfl
            · simp only [go_sem, Nat.reduceAdd, Nat.reduceSub, Nat.reduceMul, Nat.reduceEqDiff, Nat.reduceLT, Nat.reduceLeDiff, Nat.reduceBEq, Nat.reduceBNe, Int.reduceToNat, Int.reduceLE, Int.reduceLT, Int.reduceNe, Int.reduceNeg, reduceCtorEq, Int.reduceBEq, Int.reduceBNe, h1]
            · simp only [go_sem, Nat.reduceAdd, Nat.reduceSub, Nat.reduceMul, Nat.reduceEqDiff, Nat.reduceLT, Nat.reduceLeDiff, Nat.reduceBEq, Nat.reduceBNe, Int.reduceToNat, Int.reduceLE, Int.reduceLT, Int.reduceNe, Int.reduceNeg, reduceCtorEq, Int.reduceBEq, Int.reduceBNe, h2]
            · simp only [go_sem, Nat.reduceAdd, Nat.reduceSub, Nat.reduceMul, Nat.reduceEqDiff, Nat.reduceLT, Nat.reduceLeDiff, Nat.reduceBEq, Nat.reduceBNe, Int.reduceToNat, Int.reduceLE, Int.reduceLT, Int.reduceNe, Int.reduceNeg, reduceCtorEq, Int.reduceBEq, Int.reduceBNe]
              intro K2 m H2 ⟨hm, k1, k2⟩ hK2 hE2
              rw [condK_bool]
              refine ⟨fun h => ?_, fun h => ?_⟩
              · have hm' : m < e.sizes.length := by simpa using h
                have hmm : (m : Int) < (e.sizes.length : Int) := by omega
                have w3 : IntKind.i64.wrap ((m : Int) + 1) = (m : Int) + 1 := wrap_id (by unfold big at he8; omega)
                have hfm := fold_take (costS1 b) acc hm'
                generalize hff : e.sizes.getD m default = f at *
                generalize (e.sizes.take m).foldl (costS1 b) acc = ac at *
                simp only [go_sem, Nat.reduceAdd, Nat.reduceSub, Nat.reduceMul, Nat.reduceEqDiff, Nat.reduceLT, Nat.reduceLeDiff, Nat.reduceBEq, Nat.reduceBNe, Int.reduceToNat, Int.reduceLE, Int.reduceLT, Int.reduceNe, Int.reduceNeg, reduceCtorEq, Int.reduceBEq, Int.reduceBNe, k1, k2, hmm, getD_mapN encF e.sizes m _ hm', hff, encF]
                refine ⟨fun q1 q2 => ⟨q1, q2⟩, ?_⟩
                rw [condK_bool]
                refine ⟨fun hcd => ?_, fun hcd => ?_⟩
                · have hcd' : f.size = b ∧ (ac = 0 ∨ f.price < ac) := by simpa using hcd
                  rw [show costS1 b ac f = f.price from if_pos hcd'] at hfm
                  simp only [go_sem, Nat.reduceAdd, Nat.reduceSub, Nat.reduceMul, Nat.reduceEqDiff, Nat.reduceLT, Nat.reduceLeDiff, Nat.reduceBEq, Nat.reduceBNe, Int.reduceToNat, Int.reduceLE, Int.reduceLT, Int.reduceNe, Int.reduceNeg, reduceCtorEq, Int.reduceBEq, Int.reduceBNe, k1, k2, hmm, getD_mapN encF e.sizes m _ hm', hff, encF]
                  refine hK2 (m + 1) _ _ ?_ ⟨hm', k1, k2⟩ (by omega)
                  simp only [go_sem, Nat.reduceAdd, Nat.reduceSub, Nat.reduceMul, Nat.reduceEqDiff, Nat.reduceLT, Nat.reduceLeDiff, Nat.reduceBEq, Nat.reduceBNe, Int.reduceToNat, Int.reduceLE, Int.reduceLT, Int.reduceNe, Int.reduceNeg, reduceCtorEq, Int.reduceBEq, Int.reduceBNe, w3, Int.natCast_add, Int.natCast_one, hfm]
                · have hcd' : ¬ (f.size = b ∧ (ac = 0 ∨ f.price < ac)) := by simpa using hcd
                  rw [show costS1 b ac f = ac from if_neg hcd'] at hfm
                  simp only [go_sem, Nat.reduceAdd, Nat.reduceSub, Nat.reduceMul, Nat.reduceEqDiff, Nat.reduceLT, Nat.reduceLeDiff, Nat.reduceBEq, Nat.reduceBNe, Int.reduceToNat, Int.reduceLE, Int.reduceLT, Int.reduceNe, Int.reduceNeg, reduceCtorEq, Int.reduceBEq, Int.reduceBNe]
                  refine hK2 (m + 1) _ _ ?_ ⟨hm', k1, k2⟩ (by omega)
                  simp only [go_sem, Nat.reduceAdd, Nat.reduceSub, Nat.reduceMul, Nat.reduceEqDiff, Nat.reduceLT, Nat.reduceLeDiff, Nat.reduceBEq, Nat.reduceBNe, Int.reduceToNat, Int.reduceLE, Int.reduceLT, Int.reduceNe, Int.reduceNeg, reduceCtorEq, Int.reduceBEq, Int.reduceBNe, w3, Int.natCast_add, Int.natCast_one, hfm]
              · refine hE2 _ _ _ (by simp) ?_
                have hm' : m = e.sizes.length := by have : ¬ ((m : Int) < (e.sizes.length : Int)) := by simpa using h
                                                    omega
                subst hm'
                simp only [go_sem, Nat.reduceAdd, Nat.reduceSub, Nat.reduceMul, Nat.reduceEqDiff, Nat.reduceLT, Nat.reduceLeDiff, Nat.reduceBEq, Nat.reduceBNe, Int.reduceToNat, Int.reduceLE, Int.reduceLT, Int.reduceNe, Int.reduceNeg, reduceCtorEq, Int.reduceBEq, Int.reduceBNe, List.take_length]
                refine hK (i + 1) _ _ ?_ ⟨h', ?_, ?_⟩ (by omega)
                · simp only [go_sem, Nat.reduceAdd, Nat.reduceSub, Nat.reduceMul, Nat.reduceEqDiff, Nat.reduceLT, Nat.reduceLeDiff, Nat.reduceBEq, Nat.reduceBNe, Int.reduceToNat, Int.reduceLE, Int.reduceLT, Int.reduceNe, Int.reduceNeg, reduceCtorEq, Int.reduceBEq, Int.reduceBNe, w2, Int.natCast_add, Int.natCast_one, hft]
                · simp only [go_sem, Nat.reduceAdd, Nat.reduceSub, Nat.reduceMul, Nat.reduceEqDiff, Nat.reduceLT, Nat.reduceLeDiff, Nat.reduceBEq, Nat.reduceBNe, Int.reduceToNat, Int.reduceLE, Int.reduceLT, Int.reduceNe, Int.reduceNeg, reduceCtorEq, Int.reduceBEq, Int.reduceBNe, k1]
                · simp only [go_sem, Nat.reduceAdd, Nat.reduceSub, Nat.reduceMul, Nat.reduceEqDiff, Nat.reduceLT, Nat.reduceLeDiff, Nat.reduceBEq, Nat.reduceBNe, Int.reduceToNat, Int.reduceLE, Int.reduceLT, Int.reduceNe, Int.reduceNeg, reduceCtorEq, Int.reduceBEq, Int.reduceBNe, k2]
    · have h' : i = l.length := by have : ¬ ((i : Int) < (l.length : Int)) := by simpa using h
                                   omega
      subst h'
      refine hE _ _ _ (by simp) ?_
      simp only [go_sem, Nat.reduceAdd, Nat.reduceSub, Nat.reduceMul, Nat.reduceEqDiff, Nat.reduceLT, Nat.reduceLeDiff, Nat.reduceBEq, Nat.reduceBNe, Int.reduceToNat, Int.reduceLE, Int.reduceLT, Int.reduceNe, Int.reduceNeg, reduceCtorEq, Int.reduceBEq, Int.reduceBNe, List.take_length]
-- the maths: the cost is the price
def comb (a : Int) : Option Int → Int
  | none => a
  | some m => if a = 0 ∨ m < a then m else a
theorem costS_none {z : Int} : ∀ {l : List Fit} (a : Int), (∀ f ∈ l, f.size ≠ z) → l.foldl (costS1 z) a = a
  | [], a, _ => rfl
  | f :: l, a, h => by
    rw [List.foldl_cons, show costS1 z a f = a from if_neg (fun e => h f (by simp) e.1)]
    exact costS_none a fun x hx => h x (by simp [hx])
theorem costS_find {z : Int} : ∀ {l : List Fit} (a : Int), (l.map (·.size)).Pairwise (· < ·) → l.foldl (costS1 z) a = comb a ((l.find? (fun f => f.size == z)).map (·.price))
  | [], a, _ => rfl
  | f :: l, a, h => by
    rw [List.map_cons, List.pairwise_cons] at h
    rw [List.foldl_cons, List.find?_cons]
    by_cases hz : f.size = z
    · have hz' : (f.size == z) = true := by simpa using hz
      rw [hz', costS_none]
      · simp only [costS1, hz, true_and, comb, Option.map]
      · intro x hx
        have := h.1 x.size (List.mem_map_of_mem hx)
        omega
    · have hz' : (f.size == z) = false := by simpa using hz
      rw [hz', show costS1 z a f = a from if_neg (fun e => hz e.1)]
      exact costS_find a h.2
theorem costI_eq {g : Int} {y : Issue} (h : GIssue g y) (on : Int) (t : Item) (a : Int) : costI on t a y = comb a (if ovl 1 on on y then inP t y.entries else none) := by
  have ho : ovl 1 on on y = (decide (y.lo ≤ on) && decide (on ≤ y.held)) := rfl
  unfold costI inP
  rw [ho]
  cases he : entryOf t.good y.entries with
  | none => simp [comb]
  | some e =>
    have hm := entryOf_mem he
    have hr := (h.entries e hm.1).rising
    cases hs : (decide (y.lo ≤ on) && decide (on ≤ y.held)) with
    | false => simp [comb]
    | true =>
      cases hi : inF e.colours t.colour with
      | false => simp [comb, hi]
      | true => simp [hi, costS_find a hr]
theorem costL_eq {g : Int} (on : Int) (t : Item) : ∀ {l : List Issue} (a : Int), (∀ y ∈ l, GIssue g y) → l.foldl (costI on t) a = (offers on t l).foldl (fun a m => comb a (some m)) a
  | [], a, _ => rfl
  | y :: l, a, h => by
    rw [List.foldl_cons, costI_eq (h y (by simp)), costL_eq on t _ fun x hx => h x (by simp [hx])]
    unfold offers
    rw [List.filter_cons]
    cases ovl 1 on on y with
    | false => simp [comb]
    | true =>
      simp only [if_true]
      rw [List.filterMap_cons]
      cases inP t y.entries <;> simp [comb]
theorem inP_pos {g : Int} {y : Issue} (h : GIssue g y) {t : Item} {m : Int} (hm : inP t y.entries = some m) : 1 ≤ m := by
  unfold inP at hm
  split at hm
  · rename_i e he
    split at hm
    · rw [Option.map_eq_some_iff] at hm
      obtain ⟨f, hf, rfl⟩ := hm
      exact ((h.entries e (entryOf_mem he).1).fits f (List.mem_of_find?_eq_some hf)).price.1
    · cases hm
  · cases hm
theorem offers_pos {g : Int} {l : List Issue} (h : ∀ y ∈ l, GIssue g y) (on : Int) (t : Item) : ∀ m ∈ offers on t l, 1 ≤ m := by
  intro m hm
  unfold offers at hm
  rw [List.mem_filterMap] at hm
  obtain ⟨y, hy, hm⟩ := hm
  exact inP_pos (h y (List.mem_filter.1 hy).1) hm
theorem comb_least : ∀ (l : List Int) (a : Int), 1 ≤ a → (∀ m ∈ l, 1 ≤ m) → l.foldl (fun a m => comb a (some m)) a = leastF a l
  | [], a, _, _ => rfl
  | m :: l, a, ha, h => by
    have h1 := h m (by simp)
    rw [List.foldl_cons, leastF]
    have e : comb a (some m) = if m < a then m else a := by
      simp only [comb]
      by_cases hm : m < a
      · rw [if_pos (.inr hm), if_pos hm]
      · rw [if_neg hm, if_neg (by omega)]
    rw [e]
    exact comb_least l _ (by split <;> omega) fun x hx => h x (by simp [hx])
theorem cost_price {r : Rack} (h : GRack r) (on : Int) (t : Item) : costL on t r.issues = (priceP r on t).getD 0 := by
  unfold costL priceP
  rw [costL_eq on t 0 h.issues]
  have hp := offers_pos h.issues on t
  cases ho : offers on t r.issues with
  | nil => rfl
  | cons a l =>
    rw [ho] at hp
    have h1 := hp a (by simp)
    rw [List.foldl_cons]
    have e : comb 0 (some a) = a := by simp [comb]
    rw [e, comb_least l a h1 fun x hx => hp x (by simp [hx])]
    simp only [Option.getD, leastF]
    simp
def s84 : Spec := spec3 (fun (r : Rack) (_ : Int) (t : Item) => GRack r ∧ 0 ≤ t.colour) (fun r on t => .int .i64 ((priceP r on t).getD 0))
theorem s84_ok : SpecOK Tryd.prog glB 84 s84 := spec3_ok E18_ok Tryd.func84 rfl (by kernel_rfl) fun r on t h => by rw [← cost_price h.1]; exact cost_fn r on t h.1.sane h.2
end Wb
/- The reference: Price, Last. -/
namespace Wb
open Go Go.Proofs Enc Row
set_option linter.unusedSimpArgs false
set_option linter.unusedVariables false
set_option maxRecDepth 20000
set_option maxHeartbeats 4000000
-- f83 isItem, for every rack
def itemW (g a b c : Int) : Bool := decide (0 ≤ a) && decide (a ≤ IntKind.i64.wrap (g - 1)) && (decide (1 ≤ b) && decide (b ≤ 99)) && (decide (0 ≤ c) && decide (c ≤ 3))
theorem itemW_good {r : Rack} (h : rackOk r = true) (a b c : Int) : itemW r.goods a b c = itemOk r.goods a b c := by
  have := (rack_good h).goods
  unfold itemW itemOk
  rw [wrap_id (by omega)]
theorem itemW_fn (r : Rack) (t : Item) : Fn E18 0 83 Tryd.f83 (Tryd.f83.body.getD .skip) [.agg (encR r), .agg (encT t)] (.bool (itemW r.goods t.good t.size t.colour)) := by
  obtain ⟨g, l⟩ := r
  obtain ⟨a, b, c⟩ := t
  unfold Fn Tryd.f83 itemW
  simp only [go_sem, Nat.reduceAdd, Nat.reduceSub, Nat.reduceMul, Nat.reduceEqDiff, Nat.reduceLT, Nat.reduceLeDiff, Nat.reduceBEq, Nat.reduceBNe, Int.reduceToNat, Int.reduceLE, Int.reduceLT, Int.reduceNe, Int.reduceNeg, reduceCtorEq, Int.reduceBEq, Int.reduceBNe, @callV_spec E18 50 sTween rfl, @callV_specT E18 50 sTween rfl, @stepV_spec E18 50 sTween rfl, @effV_spec E18 50 sTween rfl, sTween, encR, encT]
def s83w : Spec := spec2 (fun (x : Rack) (t : Item) => True) (fun x t => .bool (itemW x.goods t.good t.size t.colour))
theorem s83w_ok : SpecOK Tryd.prog glB 83 s83w := spec2_ok E18_ok Tryd.func83 rfl (by kernel_rfl) fun x t h => itemW_fn x t
def E19t : List (Nat × Spec) := [(83, s83w), (61, s61), (84, s84)] ++ E18t
theorem E19t_ok : AllOK E19t := ⟨⟨s83w_ok, Tryd.call83⟩, ⟨s61_ok, Tryd.call61⟩, ⟨s84_ok, Tryd.call84⟩, E18t_ok⟩
noncomputable def E19 : Env := mkE E19t []
theorem E19_ok : EnvOK Tryd.prog E19 := envOK E19t_ok trivial
theorem E19_ti {t : Nat} : E19.ti t = ti t := rfl
theorem E19_q0 : (E19).eqt 152 = true := rfl
theorem E19_q1 : (E19).eqt 69 = true := rfl
theorem E19_q2 : (E19).keyt 3 = true := rfl
theorem E19_q3 : (E19).keyt 108 = true := rfl
attribute [go_sem] E19_ti E19_q0 E19_q1 E19_q2 E19_q3
theorem askM_bad {r : Rack} (h : rackOk r = false) (q : Bool) : askM r q = 10 := by simp [askM, h]
theorem askM_no {r : Rack} (h : rackOk r = true) : askM r false = 11 := by simp [askM, h]
theorem askM_yes {r : Rack} (h : rackOk r = true) : askM r true = 0 := by simp [askM, h]
-- f29 Price
theorem refPrice_fn (r : Rack) (hr : okRack r) (on : Int) (t : Item) : Fn E19 0 29 Tryd.f29 (Tryd.f29.body.getD .skip) [.agg (encR r), .int .i64 on, .agg (encT t)] (.tup [.int .i64 (priceM r on t).1, .int .i64 (priceM r on t).2]) := by
  obtain ⟨g, l⟩ := r
  obtain ⟨a, b, c⟩ := t
  unfold Fn Tryd.f29 priceM asked3
  cases hk : rackOk ⟨g, l⟩ with
  | false => simp only [go_sem, Nat.reduceAdd, Nat.reduceSub, Nat.reduceMul, Nat.reduceEqDiff, Nat.reduceLT, Nat.reduceLeDiff, Nat.reduceBEq, Nat.reduceBNe, Int.reduceToNat, Int.reduceLE, Int.reduceLT, Int.reduceNe, Int.reduceNeg, reduceCtorEq, Int.reduceBEq, Int.reduceBNe, @callV_spec E19 77 sisDayR rfl, @callV_specT E19 77 sisDayR rfl, @stepV_spec E19 77 sisDayR rfl, @effV_spec E19 77 sisDayR rfl, sisDayR, @callV_spec E19 83 s83w rfl, @callV_specT E19 83 s83w rfl, @stepV_spec E19 83 s83w rfl, @effV_spec E19 83 s83w rfl, s83w, @callV_spec E19 61 s61 rfl, @callV_specT E19 61 s61 rfl, @stepV_spec E19 61 s61 rfl, @effV_spec E19 61 s61 rfl, s61, encR, encT, callSpec, hr, askM_bad hk, hk]
  | true =>
    have hw : itemW g a b c = itemOk g a b c := itemW_good hk a b c
    have hq : (decide (0 ≤ on) && decide (on ≤ 20000) && itemOk g a b c) = qPrice on ⟨a, b, c⟩ ⟨g, l⟩ := rfl
    cases hqq : qPrice on ⟨a, b, c⟩ ⟨g, l⟩ with
    | false => simp only [go_sem, Nat.reduceAdd, Nat.reduceSub, Nat.reduceMul, Nat.reduceEqDiff, Nat.reduceLT, Nat.reduceLeDiff, Nat.reduceBEq, Nat.reduceBNe, Int.reduceToNat, Int.reduceLE, Int.reduceLT, Int.reduceNe, Int.reduceNeg, reduceCtorEq, Int.reduceBEq, Int.reduceBNe, @callV_spec E19 77 sisDayR rfl, @callV_specT E19 77 sisDayR rfl, @stepV_spec E19 77 sisDayR rfl, @effV_spec E19 77 sisDayR rfl, sisDayR, @callV_spec E19 83 s83w rfl, @callV_specT E19 83 s83w rfl, @stepV_spec E19 83 s83w rfl, @effV_spec E19 83 s83w rfl, s83w, @callV_spec E19 61 s61 rfl, @callV_specT E19 61 s61 rfl, @stepV_spec E19 61 s61 rfl, @effV_spec E19 61 s61 rfl, s61, encR, encT, callSpec, hr, askM_no hk, hk, hw, hq, hqq]
    | true =>
      have hc := item_colour (r := ⟨g, l⟩) (t := ⟨a, b, c⟩) (by have := hqq; unfold qPrice at this; simp only [Bool.and_eq_true] at this; exact this.2)
      simp only at hc
      have hG := rack_good hk
      have hcc := hG.cents on ⟨a, b, c⟩
      simp only [go_sem, Nat.reduceAdd, Nat.reduceSub, Nat.reduceMul, Nat.reduceEqDiff, Nat.reduceLT, Nat.reduceLeDiff, Nat.reduceBEq, Nat.reduceBNe, Int.reduceToNat, Int.reduceLE, Int.reduceLT, Int.reduceNe, Int.reduceNeg, reduceCtorEq, Int.reduceBEq, Int.reduceBNe, @callV_spec E19 77 sisDayR rfl, @callV_specT E19 77 sisDayR rfl, @stepV_spec E19 77 sisDayR rfl, @effV_spec E19 77 sisDayR rfl, sisDayR, @callV_spec E19 83 s83w rfl, @callV_specT E19 83 s83w rfl, @stepV_spec E19 83 s83w rfl, @effV_spec E19 83 s83w rfl, s83w, @callV_spec E19 61 s61 rfl, @callV_specT E19 61 s61 rfl, @stepV_spec E19 61 s61 rfl, @effV_spec E19 61 s61 rfl, s61, @callV_spec E19 84 s84 rfl, @callV_specT E19 84 s84 rfl, @stepV_spec E19 84 s84 rfl, @effV_spec E19 84 s84 rfl, s84, encR, encT, callSpec, hr, askM_yes hk, hk, hw, hq, hqq, hc, hG]
      cases hp : priceP ⟨g, l⟩ on ⟨a, b, c⟩ with
      | none => simp only [go_sem, Nat.reduceAdd, Nat.reduceSub, Nat.reduceMul, Nat.reduceEqDiff, Nat.reduceLT, Nat.reduceLeDiff, Nat.reduceBEq, Nat.reduceBNe, Int.reduceToNat, Int.reduceLE, Int.reduceLT, Int.reduceNe, Int.reduceNeg, reduceCtorEq, Int.reduceBEq, Int.reduceBNe, Option.getD]
      | some n =>
        have hn : (n == 0) = false := by have := (hcc n hp).1; simp; omega
        simp only [go_sem, Nat.reduceAdd, Nat.reduceSub, Nat.reduceMul, Nat.reduceEqDiff, Nat.reduceLT, Nat.reduceLeDiff, Nat.reduceBEq, Nat.reduceBNe, Int.reduceToNat, Int.reduceLE, Int.reduceLT, Int.reduceNe, Int.reduceNeg, reduceCtorEq, Int.reduceBEq, Int.reduceBNe, Option.getD, hn]
theorem s29_ok : SpecOK Tryd.prog glB 29 s28 := spec3_ok E19_ok Tryd.func29 rfl (by kernel_rfl) fun r on t h => refPrice_fn r h on t
-- f33 Last
def mxH (R : Issue → Bool) (a : Int) (y : Issue) : Int := if y.held > a ∧ R y = true then y.held else a
theorem mx_ge (R : Issue → Bool) : ∀ (l : List Issue) (a : Int), a ≤ l.foldl (mxH R) a ∧ ∀ y ∈ l, R y = true → y.held ≤ l.foldl (mxH R) a
  | [], a => ⟨by simp, fun y h => by cases h⟩
  | x :: l, a => by
    rw [List.foldl_cons]
    obtain ⟨h1, h2⟩ := mx_ge R l (mxH R a x)
    have h3 : a ≤ mxH R a x ∧ (R x = true → x.held ≤ mxH R a x) := by
      unfold mxH
      by_cases h : x.held > a ∧ R x = true
      · rw [if_pos h]; omega
      · rw [if_neg h]
        exact ⟨by omega, fun hr => by have : ¬ x.held > a := fun e => h ⟨e, hr⟩
                                      omega⟩
    refine ⟨by omega, fun y hy hr => ?_⟩
    rcases List.mem_cons.1 hy with rfl | hy
    · have := h3.2 hr; omega
    · exact h2 y hy hr
theorem mx_mem (R : Issue → Bool) : ∀ (l : List Issue) (a : Int), l.foldl (mxH R) a = a ∨ ∃ y ∈ l, R y = true ∧ l.foldl (mxH R) a = y.held
  | [], a => .inl rfl
  | x :: l, a => by
    rw [List.foldl_cons]
    rcases mx_mem R l (mxH R a x) with h | ⟨y, h1, h2, h3⟩
    · rw [h]
      unfold mxH
      split
      · rename_i h; exact .inr ⟨x, by simp, h.2, rfl⟩
      · exact .inl rfl
    · exact .inr ⟨y, by simp [h1], h2, h3⟩
theorem lastF_mx (t : Item) : ∀ (l : List Issue) (a : Int), lastF t a l = l.foldl (mxH fun y => (inP t y.entries).isSome) a
  | [], a => rfl
  | y :: l, a => by
    rw [List.foldl_cons, lastF, lastF_mx t l]
    congr 1
    unfold mxH
    cases h : (inP t y.entries).isSome <;> simp only [h, and_true, and_false, if_true, if_false, Bool.false_eq_true]
def dear (r : Rack) (t : Item) (y : Issue) : Bool := decide (0 < (priceP r y.held t).getD 0)
theorem price_of_offer {r : Rack} (h : GRack r) {on : Int} {t : Item} (hne : offers on t r.issues ≠ []) : 0 < (priceP r on t).getD 0 := by
  cases hp : priceP r on t with
  | none =>
    unfold priceP at hp
    split at hp
    · rename_i e; exact absurd e hne
    · cases hp
  | some n => have := (h.cents on t n hp).1; simp only [Option.getD]; omega
theorem last_eq {r : Rack} (h : GRack r) (t : Item) : r.issues.foldl (mxH (dear r t)) (-1) = lastF t (-1) r.issues := by
  rw [lastF_mx]
  obtain ⟨g1, g2⟩ := mx_ge (dear r t) r.issues (-1)
  obtain ⟨k1, k2⟩ := mx_ge (fun y => (inP t y.entries).isSome) r.issues (-1)
  have up : ∀ y ∈ r.issues, (inP t y.entries).isSome = true → dear r t y = true := fun y hy hi => by
    unfold dear
    rw [decide_eq_true_eq]
    refine price_of_offer h ?_
    obtain ⟨m, hm⟩ := Option.isSome_iff_exists.1 hi
    have hov : ovl 1 y.held y.held y = true := by
      have := (h.issues y hy).held
      show (decide (y.lo ≤ y.held) && decide (y.held ≤ y.held)) = true
      simp; omega
    have : m ∈ offers y.held t r.issues := List.mem_filterMap.2 ⟨y, List.mem_filter.2 ⟨hy, hov⟩, hm⟩
    intro e; rw [e] at this; cases this
  have dn : ∀ y ∈ r.issues, dear r t y = true → ∃ z ∈ r.issues, (inP t z.entries).isSome = true ∧ y.held ≤ z.held := fun y hy hd => by
    unfold dear at hd
    rw [decide_eq_true_eq] at hd
    cases ho : offers y.held t r.issues with
    | nil => unfold priceP at hd; rw [ho] at hd; simp at hd
    | cons a l =>
      have ha : a ∈ offers y.held t r.issues := by rw [ho]; simp
      obtain ⟨z, hz, hm⟩ := List.mem_filterMap.1 ha
      obtain ⟨hz1, hz2⟩ := List.mem_filter.1 hz
      have hz3 : (decide (z.lo ≤ y.held) && decide (y.held ≤ z.held)) = true := hz2
      simp only [Bool.and_eq_true, decide_eq_true_eq] at hz3
      exact ⟨z, hz1, by rw [hm]; rfl, hz3.2⟩
  have e1 : r.issues.foldl (mxH (dear r t)) (-1) ≤ r.issues.foldl (mxH fun y => (inP t y.entries).isSome) (-1) := by
    rcases mx_mem (dear r t) r.issues (-1) with e | ⟨y, a1, a2, a3⟩
    · rw [e]; exact k1
    · obtain ⟨z, b1, b2, b3⟩ := dn y a1 a2
      have := k2 z b1 b2
      omega
  have e2 : r.issues.foldl (mxH fun y => (inP t y.entries).isSome) (-1) ≤ r.issues.foldl (mxH (dear r t)) (-1) := by
    rcases mx_mem (fun y => (inP t y.entries).isSome) r.issues (-1) with e | ⟨y, a1, a2, a3⟩
    · rw [e]; exact g1
    · have := g2 y a1 (up y a1 a2)
      omega
  omega
theorem refLast_fn (r : Rack) (hr : okRack r) (t : Item) : Fn E19 0 33 Tryd.f33 (Tryd.f33.body.getD .skip) [.agg (encR r), .agg (encT t)] (.tup [.int .i64 (lastM r t).1, .int .i64 (lastM r t).2]) := by
  obtain ⟨g, l⟩ := r
  obtain ⟨a, b, c⟩ := t
  unfold Fn Tryd.f33 lastM asked3
  cases hk : rackOk ⟨g, l⟩ with
  | false => simp only [go_sem, Nat.reduceAdd, Nat.reduceSub, Nat.reduceMul, Nat.reduceEqDiff, Nat.reduceLT, Nat.reduceLeDiff, Nat.reduceBEq, Nat.reduceBNe, Int.reduceToNat, Int.reduceLE, Int.reduceLT, Int.reduceNe, Int.reduceNeg, reduceCtorEq, Int.reduceBEq, Int.reduceBNe, @callV_spec E19 83 s83w rfl, @callV_specT E19 83 s83w rfl, @stepV_spec E19 83 s83w rfl, @effV_spec E19 83 s83w rfl, s83w, @callV_spec E19 61 s61 rfl, @callV_specT E19 61 s61 rfl, @stepV_spec E19 61 s61 rfl, @effV_spec E19 61 s61 rfl, s61, encR, encT, callSpec, hr, askM_bad hk, hk]
  | true =>
    have hw : itemW g a b c = itemOk g a b c := itemW_good hk a b c
    have hq : itemOk g a b c = isItemB ⟨g, l⟩ ⟨a, b, c⟩ := rfl
    cases hqq : isItemB ⟨g, l⟩ ⟨a, b, c⟩ with
    | false => simp only [go_sem, Nat.reduceAdd, Nat.reduceSub, Nat.reduceMul, Nat.reduceEqDiff, Nat.reduceLT, Nat.reduceLeDiff, Nat.reduceBEq, Nat.reduceBNe, Int.reduceToNat, Int.reduceLE, Int.reduceLT, Int.reduceNe, Int.reduceNeg, reduceCtorEq, Int.reduceBEq, Int.reduceBNe, @callV_spec E19 83 s83w rfl, @callV_specT E19 83 s83w rfl, @stepV_spec E19 83 s83w rfl, @effV_spec E19 83 s83w rfl, s83w, @callV_spec E19 61 s61 rfl, @callV_specT E19 61 s61 rfl, @stepV_spec E19 61 s61 rfl, @effV_spec E19 61 s61 rfl, s61, encR, encT, callSpec, hr, askM_no hk, hk, hw, hq, hqq]
    | true =>
      have hc := item_colour (r := ⟨g, l⟩) (t := ⟨a, b, c⟩) hqq
      simp only at hc
      have hG := rack_good hk
      have hl := hG.len
      simp only at hl
      unfold lastO
      rw [← last_eq hG]
      simp only [go_sem, Nat.reduceAdd, Nat.reduceSub, Nat.reduceMul, Nat.reduceEqDiff, Nat.reduceLT, Nat.reduceLeDiff, Nat.reduceBEq, Nat.reduceBNe, Int.reduceToNat, Int.reduceLE, Int.reduceLT, Int.reduceNe, Int.reduceNeg, reduceCtorEq, Int.reduceBEq, Int.reduceBNe, @callV_spec E19 83 s83w rfl, @callV_specT E19 83 s83w rfl, @stepV_spec E19 83 s83w rfl, @effV_spec E19 83 s83w rfl, s83w, @callV_spec E19 61 s61 rfl, @callV_specT E19 61 s61 rfl, @stepV_spec E19 61 s61 rfl, @effV_spec E19 61 s61 rfl, s61, encR, encT, callSpec, hr, askM_yes hk, hk, hw, hq, hqq]
      refine ev_loopS [2, 3] (fun i : Nat => [(7, .int .i64 ((l.take i).foldl (mxH (dear ⟨g, l⟩ ⟨a, b, c⟩)) (-1))), (8, .int .i64 i)])
        (fun i H => i ≤ l.length ∧ H (([], 33000000) : Key) = some (.cells [.int .i64 g, .sl (l.map encI) false] 1 false) ∧ H (([], 33000001) : Key) = some (.cells [.int .i64 a, .int .i64 b, .int .i64 c] 1 false))
        (fun i => l.length - i) 0 ?_ ⟨Nat.zero_le _, ?_, ?_⟩ ?_
      · simp only [go_sem, Nat.reduceAdd, Nat.reduceSub, Nat.reduceMul, Nat.reduceEqDiff, Nat.reduceLT, Nat.reduceLeDiff, Nat.reduceBEq, Nat.reduceBNe, Int.reduceToNat, Int.reduceLE, Int.reduceLT, Int.reduceNe, Int.reduceNeg, reduceCtorEq, Int.reduceBEq, Int.reduceBNe]; rfl
      · simp only [go_sem, Nat.reduceAdd, Nat.reduceSub, Nat.reduceMul, Nat.reduceEqDiff, Nat.reduceLT, Nat.reduceLeDiff, Nat.reduceBEq, Nat.reduceBNe, Int.reduceToNat, Int.reduceLE, Int.reduceLT, Int.reduceNe, Int.reduceNeg, reduceCtorEq, Int.reduceBEq, Int.reduceBNe]
      · simp only [go_sem, Nat.reduceAdd, Nat.reduceSub, Nat.reduceMul, Nat.reduceEqDiff, Nat.reduceLT, Nat.reduceLeDiff, Nat.reduceBEq, Nat.reduceBNe, Int.reduceToNat, Int.reduceLE, Int.reduceLT, Int.reduceNe, Int.reduceNeg, reduceCtorEq, Int.reduceBEq, Int.reduceBNe]
      · simp only [go_sem, Nat.reduceAdd, Nat.reduceSub, Nat.reduceMul, Nat.reduceEqDiff, Nat.reduceLT, Nat.reduceLeDiff, Nat.reduceBEq, Nat.reduceBNe, Int.reduceToNat, Int.reduceLE, Int.reduceLT, Int.reduceNe, Int.reduceNeg, reduceCtorEq, Int.reduceBEq, Int.reduceBNe]
        intro K i H ⟨hi, h1, h2⟩ hK hE
        simp only [go_sem, Nat.reduceAdd, Nat.reduceSub, Nat.reduceMul, Nat.reduceEqDiff, Nat.reduceLT, Nat.reduceLeDiff, Nat.reduceBEq, Nat.reduceBNe, Int.reduceToNat, Int.reduceLE, Int.reduceLT, Int.reduceNe, Int.reduceNeg, reduceCtorEq, Int.reduceBEq, Int.reduceBNe, h1]
        rw [condK_bool]
        refine ⟨fun h => ?_, fun h => ?_⟩
        · have h' : i < l.length := by simpa using h
          have hii : (i : Int) < (l.length : Int) := by omega
          have w2 : IntKind.i64.wrap ((i : Int) + 1) = (i : Int) + 1 := wrap_id (by omega)
          have hft := fold_take (mxH (dear ⟨g, l⟩ ⟨a, b, c⟩)) (-1) h'
          generalize hyy : l.getD i default = y at *
          generalize (l.take i).foldl (mxH (dear ⟨g, l⟩ ⟨a, b, c⟩)) (-1) = acc at *
          simp only [go_sem, Nat.reduceAdd, Nat.reduceSub, Nat.reduceMul, Nat.reduceEqDiff, Nat.reduceLT, Nat.reduceLeDiff, Nat.reduceBEq, Nat.reduceBNe, Int.reduceToNat, Int.reduceLE, Int.reduceLT, Int.reduceNe, Int.reduceNeg, reduceCtorEq, Int.reduceBEq, Int.reduceBNe, @callV_spec E19 84 s84 rfl, @callV_specT E19 84 s84 rfl, @stepV_spec E19 84 s84 rfl, @effV_spec E19 84 s84 rfl, s84, h1, h2, hii, getD_mapN encI l i _ h', hyy, encI, callSpec, hG, hc]
          rw [condK_bool]
          have hdd : dear ⟨g, l⟩ ⟨a, b, c⟩ y = decide (0 < (priceP ⟨g, l⟩ y.held ⟨a, b, c⟩).getD 0) := rfl
          refine ⟨fun hcd => ?_, fun hcd => ?_⟩
          · have hcd' : y.held > acc ∧ dear ⟨g, l⟩ ⟨a, b, c⟩ y = true := by rw [hdd]; simpa using hcd
            rw [show mxH (dear ⟨g, l⟩ ⟨a, b, c⟩) acc y = y.held from if_pos hcd'] at hft
            simp only [go_sem, Nat.reduceAdd, Nat.reduceSub, Nat.reduceMul, Nat.reduceEqDiff, Nat.reduceLT, Nat.reduceLeDiff, Nat.reduceBEq, Nat.reduceBNe, Int.reduceToNat, Int.reduceLE, Int.reduceLT, Int.reduceNe, Int.reduceNeg, reduceCtorEq, Int.reduceBEq, Int.reduceBNe]
            refine hK (i + 1) _ _ ?_ ⟨h', h1, h2⟩ (by omega)
            simp only [go_sem, Nat.reduceAdd, Nat.reduceSub, Nat.reduceMul, Nat.reduceEqDiff, Nat.reduceLT, Nat.reduceLeDiff, Nat.reduceBEq, Nat.reduceBNe, Int.reduceToNat, Int.reduceLE, Int.reduceLT, Int.reduceNe, Int.reduceNeg, reduceCtorEq, Int.reduceBEq, Int.reduceBNe, w2, Int.natCast_add, Int.natCast_one, hft]
          · have hcd' : ¬ (y.held > acc ∧ dear ⟨g, l⟩ ⟨a, b, c⟩ y = true) := by rw [hdd]; simpa using hcd
            rw [show mxH (dear ⟨g, l⟩ ⟨a, b, c⟩) acc y = acc from if_neg hcd'] at hft
            simp only [go_sem, Nat.reduceAdd, Nat.reduceSub, Nat.reduceMul, Nat.reduceEqDiff, Nat.reduceLT, Nat.reduceLeDiff, Nat.reduceBEq, Nat.reduceBNe, Int.reduceToNat, Int.reduceLE, Int.reduceLT, Int.reduceNe, Int.reduceNeg, reduceCtorEq, Int.reduceBEq, Int.reduceBNe]
            refine hK (i + 1) _ _ ?_ ⟨h', h1, h2⟩ (by omega)
            simp only [go_sem, Nat.reduceAdd, Nat.reduceSub, Nat.reduceMul, Nat.reduceEqDiff, Nat.reduceLT, Nat.reduceLeDiff, Nat.reduceBEq, Nat.reduceBNe, Int.reduceToNat, Int.reduceLE, Int.reduceLT, Int.reduceNe, Int.reduceNeg, reduceCtorEq, Int.reduceBEq, Int.reduceBNe, w2, Int.natCast_add, Int.natCast_one, hft]
        · have h' : i = l.length := by have : ¬ ((i : Int) < (l.length : Int)) := by simpa using h
                                       omega
          subst h'
          refine hE _ _ _ (by simp) ?_
          simp only [go_sem, Nat.reduceAdd, Nat.reduceSub, Nat.reduceMul, Nat.reduceEqDiff, Nat.reduceLT, Nat.reduceLeDiff, Nat.reduceBEq, Nat.reduceBNe, Int.reduceToNat, Int.reduceLE, Int.reduceLT, Int.reduceNe, Int.reduceNeg, reduceCtorEq, Int.reduceBEq, Int.reduceBNe, List.take_length]
          rw [condK_bool]
          refine ⟨fun h => ?_, fun h => ?_⟩
          · have h0 : l.foldl (mxH (dear ⟨g, l⟩ ⟨a, b, c⟩)) (-1) < 0 := by simpa using h
            simp only [go_sem, Nat.reduceAdd, Nat.reduceSub, Nat.reduceMul, Nat.reduceEqDiff, Nat.reduceLT, Nat.reduceLeDiff, Nat.reduceBEq, Nat.reduceBNe, Int.reduceToNat, Int.reduceLE, Int.reduceLT, Int.reduceNe, Int.reduceNeg, reduceCtorEq, Int.reduceBEq, Int.reduceBNe, h0]
          · have h0 : ¬ l.foldl (mxH (dear ⟨g, l⟩ ⟨a, b, c⟩)) (-1) < 0 := by simpa using h
            simp only [go_sem, Nat.reduceAdd, Nat.reduceSub, Nat.reduceMul, Nat.reduceEqDiff, Nat.reduceLT, Nat.reduceLeDiff, Nat.reduceBEq, Nat.reduceBNe, Int.reduceToNat, Int.reduceLE, Int.reduceLT, Int.reduceNe, Int.reduceNeg, reduceCtorEq, Int.reduceBEq, Int.reduceBNe, h0]
theorem s33_ok : SpecOK Tryd.prog glB 33 s32 := spec2_ok E19_ok Tryd.func33 rfl (by kernel_rfl) fun r t h => refLast_fn r h t
end Wb
/- The reference: areLines, adds, Sum. -/
namespace Wb
open Go Go.Proofs Enc Row
set_option linter.unusedSimpArgs false
set_option linter.unusedVariables false
set_option maxRecDepth 20000
set_option maxHeartbeats 4000000
-- f95 areLines
def lineW (g : Int) (l : Line) : Bool := itemW g l.item.good l.item.size l.item.colour && (decide (1 ≤ l.many) && decide (l.many ≤ 1000))
def linesW (g : Int) (ls : List Line) : Bool := decide ((ls.length : Int) ≤ 20) && ls.all (lineW g)
theorem linesW_good {r : Rack} (h : rackOk r = true) (ls : List Line) : linesW r.goods ls = areLinesB r.goods ls := by
  unfold linesW areLinesB
  congr 1
  congr 1
  funext l
  unfold lineW lineOk
  rw [itemW_good h]
theorem refLines_fn (r : Rack) (ls : List Line) (hl : big ls.length) : Fn E19 0 95 Tryd.f95 (Tryd.f95.body.getD .skip) [.agg (encR r), .sl (ls.map encL) false] (.bool (linesW r.goods ls)) := by
  obtain ⟨g, l⟩ := r
  unfold Fn Tryd.f95
  have hl' : ls.length < 4611686018427387904 := hl
  simp only [go_sem, Nat.reduceAdd, Nat.reduceSub, Nat.reduceMul, Nat.reduceEqDiff, Nat.reduceLT, Nat.reduceLeDiff, Nat.reduceBEq, Nat.reduceBNe, Int.reduceToNat, Int.reduceLE, Int.reduceLT, Int.reduceNe, Int.reduceNeg, reduceCtorEq, Int.reduceBEq, Int.reduceBNe, encR]
  refine ev_loopS [1, 2] (fun x : Nat × Bool => [(5, .bool x.2), (6, .int .i64 x.1)])
    (fun x H => x.1 ≤ ls.length ∧ H (([], 95000000) : Key) = some (.cells [.int .i64 g, .sl (l.map encI) false] 1 false) ∧ linesW g ls = (x.2 && (ls.drop x.1).all (lineW g)))
    (fun x => ls.length - x.1) (0, decide ((ls.length : Int) ≤ 20)) ?_ ⟨Nat.zero_le _, ?_, rfl⟩ ?_
  · simp only [go_sem, Nat.reduceAdd, Nat.reduceSub, Nat.reduceMul, Nat.reduceEqDiff, Nat.reduceLT, Nat.reduceLeDiff, Nat.reduceBEq, Nat.reduceBNe, Int.reduceToNat, Int.reduceLE, Int.reduceLT, Int.reduceNe, Int.reduceNeg, reduceCtorEq, Int.reduceBEq, Int.reduceBNe]
  · simp only [go_sem, Nat.reduceAdd, Nat.reduceSub, Nat.reduceMul, Nat.reduceEqDiff, Nat.reduceLT, Nat.reduceLeDiff, Nat.reduceBEq, Nat.reduceBNe, Int.reduceToNat, Int.reduceLE, Int.reduceLT, Int.reduceNe, Int.reduceNeg, reduceCtorEq, Int.reduceBEq, Int.reduceBNe]
  · simp only [go_sem, Nat.reduceAdd, Nat.reduceSub, Nat.reduceMul, Nat.reduceEqDiff, Nat.reduceLT, Nat.reduceLeDiff, Nat.reduceBEq, Nat.reduceBNe, Int.reduceToNat, Int.reduceLE, Int.reduceLT, Int.reduceNe, Int.reduceNeg, reduceCtorEq, Int.reduceBEq, Int.reduceBNe]
    intro K x H ⟨hi, h1, hf⟩ hK hE
    obtain ⟨i, ok⟩ := x
    simp only at hi hf
    dsimp only
    rw [condK_bool]
    refine ⟨fun h => ?_, fun h => ?_⟩
    · obtain ⟨hok, h''⟩ : ok = true ∧ (i : Int) < (ls.length : Int) := by simpa using h
      subst hok
      have h' : i < ls.length := by omega
      have w2 : IntKind.i64.wrap ((i : Int) + 1) = (i : Int) + 1 := wrap_id (by omega)
      rw [all_drop (lineW g) h'] at hf
      generalize hyy : ls.getD i default = y at *
      simp only [go_sem, Nat.reduceAdd, Nat.reduceSub, Nat.reduceMul, Nat.reduceEqDiff, Nat.reduceLT, Nat.reduceLeDiff, Nat.reduceBEq, Nat.reduceBNe, Int.reduceToNat, Int.reduceLE, Int.reduceLT, Int.reduceNe, Int.reduceNeg, reduceCtorEq, Int.reduceBEq, Int.reduceBNe, @callV_spec E19 83 s83w rfl, @callV_specT E19 83 s83w rfl, @stepV_spec E19 83 s83w rfl, @effV_spec E19 83 s83w rfl, s83w, @callV_spec E19 50 sTween rfl, @callV_specT E19 50 sTween rfl, @stepV_spec E19 50 sTween rfl, @effV_spec E19 50 sTween rfl, sTween, h1, h'', getD_mapN encL ls i _ h', hyy, encL, callSpec, encT]
      refine hK (i + 1, lineW g y) _ _ ?_ ⟨h', ?_, by simpa using hf⟩ (by simp only; omega)
      · simp only [go_sem, Nat.reduceAdd, Nat.reduceSub, Nat.reduceMul, Nat.reduceEqDiff, Nat.reduceLT, Nat.reduceLeDiff, Nat.reduceBEq, Nat.reduceBNe, Int.reduceToNat, Int.reduceLE, Int.reduceLT, Int.reduceNe, Int.reduceNeg, reduceCtorEq, Int.reduceBEq, Int.reduceBNe, w2, Int.natCast_add, Int.natCast_one, lineW]
      · simp only [go_sem, Nat.reduceAdd, Nat.reduceSub, Nat.reduceMul, Nat.reduceEqDiff, Nat.reduceLT, Nat.reduceLeDiff, Nat.reduceBEq, Nat.reduceBNe, Int.reduceToNat, Int.reduceLE, Int.reduceLT, Int.reduceNe, Int.reduceNeg, reduceCtorEq, Int.reduceBEq, Int.reduceBNe, h1]
    · refine hE _ _ _ (by simp) ?_
      simp only [go_sem, Nat.reduceAdd, Nat.reduceSub, Nat.reduceMul, Nat.reduceEqDiff, Nat.reduceLT, Nat.reduceLeDiff, Nat.reduceBEq, Nat.reduceBNe, Int.reduceToNat, Int.reduceLE, Int.reduceLT, Int.reduceNe, Int.reduceNeg, reduceCtorEq, Int.reduceBEq, Int.reduceBNe]
      cases ok with
      | false => simp only [Bool.false_and] at hf; simp only [go_sem, Nat.reduceAdd, Nat.reduceSub, Nat.reduceMul, Nat.reduceEqDiff, Nat.reduceLT, Nat.reduceLeDiff, Nat.reduceBEq, Nat.reduceBNe, Int.reduceToNat, Int.reduceLE, Int.reduceLT, Int.reduceNe, Int.reduceNeg, reduceCtorEq, Int.reduceBEq, Int.reduceBNe, hf]
      | true =>
        have h' : i = ls.length := by have : ¬ ((i : Int) < (ls.length : Int)) := by simpa using h
                                      omega
        subst h'
        simp only [List.drop_length, List.all_nil, Bool.and_true] at hf
        simp only [go_sem, Nat.reduceAdd, Nat.reduceSub, Nat.reduceMul, Nat.reduceEqDiff, Nat.reduceLT, Nat.reduceLeDiff, Nat.reduceBEq, Nat.reduceBNe, Int.reduceToNat, Int.reduceLE, Int.reduceLT, Int.reduceNe, Int.reduceNeg, reduceCtorEq, Int.reduceBEq, Int.reduceBNe, hf]
def s95 : Spec := spec2 (fun (x : Rack) (l : List Line) => big l.length) (fun x l => .bool (linesW x.goods l))
theorem s95_ok : SpecOK Tryd.prog glB 95 s95 := spec2_ok E19_ok Tryd.func95 rfl (by kernel_rfl) fun x l h => refLines_fn x l h
-- f96 adds
def add1 (r : Rack) (on : Int) (a : Int × Bool) (l : Line) : Int × Bool := (a.1 + (priceP r on l.item).getD 0 * (l.many - l.many / 12), a.2 && decide (0 < (priceP r on l.item).getD 0))
theorem adds_fn (r : Rack) (on : Int) (ls : List Line) (hG : GRack r) (hn : ls.length ≤ 20) (hl : ∀ l ∈ ls, (0 ≤ l.item.colour ∧ l.item.colour ≤ 3) ∧ 1 ≤ l.many ∧ l.many ≤ 1000) :
    Fn E19 0 96 Tryd.f96 (Tryd.f96.body.getD .skip) [.agg (encR r), .int .i64 on, .sl (ls.map encL) false] (.tup [.int .i64 (ls.foldl (add1 r on) (0, true)).1, .bool (ls.foldl (add1 r on) (0, true)).2]) := by
  obtain ⟨g, l⟩ := r
  unfold Fn Tryd.f96
  simp only [go_sem, Nat.reduceAdd, Nat.reduceSub, Nat.reduceMul, Nat.reduceEqDiff, Nat.reduceLT, Nat.reduceLeDiff, Nat.reduceBEq, Nat.reduceBNe, Int.reduceToNat, Int.reduceLE, Int.reduceLT, Int.reduceNe, Int.reduceNeg, reduceCtorEq, Int.reduceBEq, Int.reduceBNe, encR]
  refine ev_loopS [1, 2, 3] (fun i : Nat => [(8, .int .i64 ((ls.take i).foldl (add1 ⟨g, l⟩ on) (0, true)).1), (9, .bool ((ls.take i).foldl (add1 ⟨g, l⟩ on) (0, true)).2), (10, .int .i64 i)])
    (fun i H => i ≤ ls.length ∧ H (([], 96000000) : Key) = some (.cells [.int .i64 g, .sl (l.map encI) false] 1 false) ∧ 0 ≤ ((ls.take i).foldl (add1 ⟨g, l⟩ on) (0, true)).1 ∧ ((ls.take i).foldl (add1 ⟨g, l⟩ on) (0, true)).1 ≤ 100000000 * i)
    (fun i => ls.length - i) 0 ?_ ⟨Nat.zero_le _, ?_, by simp, by simp⟩ ?_
  · simp only [go_sem, Nat.reduceAdd, Nat.reduceSub, Nat.reduceMul, Nat.reduceEqDiff, Nat.reduceLT, Nat.reduceLeDiff, Nat.reduceBEq, Nat.reduceBNe, Int.reduceToNat, Int.reduceLE, Int.reduceLT, Int.reduceNe, Int.reduceNeg, reduceCtorEq, Int.reduceBEq, Int.reduceBNe]; exact ⟨rfl, rfl⟩
  · simp only [go_sem, Nat.reduceAdd, Nat.reduceSub, Nat.reduceMul, Nat.reduceEqDiff, Nat.reduceLT, Nat.reduceLeDiff, Nat.reduceBEq, Nat.reduceBNe, Int.reduceToNat, Int.reduceLE, Int.reduceLT, Int.reduceNe, Int.reduceNeg, reduceCtorEq, Int.reduceBEq, Int.reduceBNe]
  · simp only [go_sem, Nat.reduceAdd, Nat.reduceSub, Nat.reduceMul, Nat.reduceEqDiff, Nat.reduceLT, Nat.reduceLeDiff, Nat.reduceBEq, Nat.reduceBNe, Int.reduceToNat, Int.reduceLE, Int.reduceLT, Int.reduceNe, Int.reduceNeg, reduceCtorEq, Int.reduceBEq, Int.reduceBNe]
    intro K i H ⟨hi, h1, b1, b2⟩ hK hE
    rw [condK_bool]
    refine ⟨fun h => ?_, fun h => ?_⟩
    · have h' : i < ls.length := by simpa using h
      have hii : (i : Int) < (ls.length : Int) := by omega
      have w2 : IntKind.i64.wrap ((i : Int) + 1) = (i : Int) + 1 := wrap_id (by omega)
      have hft := fold_take (add1 ⟨g, l⟩ on) (0, true) h'
      have hy : ls.getD i default ∈ ls := by simp [List.getD_eq_getElem?_getD, h']
      have hly := hl _ hy
      generalize hyy : ls.getD i default = y at *
      generalize (ls.take i).foldl (add1 ⟨g, l⟩ on) (0, true) = acc at *
      have hcc := hG.cents on y.item
      have hc0 : 0 ≤ (priceP ⟨g, l⟩ on y.item).getD 0 ∧ (priceP ⟨g, l⟩ on y.item).getD 0 ≤ 100000 := by
        cases hp : priceP ⟨g, l⟩ on y.item with
        | none => simp
        | some n => have := hcc n hp; simp only [Option.getD]; omega
      have e1 : add1 ⟨g, l⟩ on acc y = (acc.1 + (priceP ⟨g, l⟩ on y.item).getD 0 * (y.many - y.many / 12), acc.2 && decide (0 < (priceP ⟨g, l⟩ on y.item).getD 0)) := rfl
      rw [e1] at hft
      have he : (⟨y.item.good, y.item.size, y.item.colour⟩ : Item) = y.item := rfl
      generalize hpn : (priceP ⟨g, l⟩ on y.item).getD 0 = n at *
      have ht : y.many.tdiv 12 = y.many / 12 := Int.tdiv_eq_ediv_of_nonneg (by omega)
      have hq : 0 ≤ y.many / 12 ∧ y.many / 12 ≤ y.many := by omega
      have hm1 : n * (y.many - y.many / 12) ≤ 100000 * 1000 := Int.mul_le_mul hc0.2 (by omega) (by omega) (by omega)
      have hm0 : 0 ≤ n * (y.many - y.many / 12) := Int.mul_nonneg (by omega) (by omega)
      have w0 : IntKind.i64.wrap (y.many / 12) = y.many / 12 := wrap_id (by omega)
      have w1 : IntKind.i64.wrap (y.many - y.many / 12) = y.many - y.many / 12 := wrap_id (by omega)
      have w3 : IntKind.i64.wrap (n * (y.many - y.many / 12)) = n * (y.many - y.many / 12) := wrap_id (by omega)
      have w4 : IntKind.i64.wrap (acc.1 + n * (y.many - y.many / 12)) = acc.1 + n * (y.many - y.many / 12) := wrap_id (by omega)
      simp only [go_sem, Nat.reduceAdd, Nat.reduceSub, Nat.reduceMul, Nat.reduceEqDiff, Nat.reduceLT, Nat.reduceLeDiff, Nat.reduceBEq, Nat.reduceBNe, Int.reduceToNat, Int.reduceLE, Int.reduceLT, Int.reduceNe, Int.reduceNeg, reduceCtorEq, Int.reduceBEq, Int.reduceBNe, @callV_spec E19 84 s84 rfl, @callV_specT E19 84 s84 rfl, @stepV_spec E19 84 s84 rfl, @effV_spec E19 84 s84 rfl, s84, h1, hii, getD_mapN encL ls i _ h', hyy, encL, callSpec, encT, hG, hly.1.1, ht, w0, w1, w3, w4, he, hpn, gt_iff_lt]
      refine ⟨by omega, hK (i + 1) _ _ ?_ ⟨h', ?_, ?_, ?_⟩ (by omega)⟩
      · simp only [go_sem, Nat.reduceAdd, Nat.reduceSub, Nat.reduceMul, Nat.reduceEqDiff, Nat.reduceLT, Nat.reduceLeDiff, Nat.reduceBEq, Nat.reduceBNe, Int.reduceToNat, Int.reduceLE, Int.reduceLT, Int.reduceNe, Int.reduceNeg, reduceCtorEq, Int.reduceBEq, Int.reduceBNe, w2, Int.natCast_add, Int.natCast_one, hft]
      · simp only [go_sem, Nat.reduceAdd, Nat.reduceSub, Nat.reduceMul, Nat.reduceEqDiff, Nat.reduceLT, Nat.reduceLeDiff, Nat.reduceBEq, Nat.reduceBNe, Int.reduceToNat, Int.reduceLE, Int.reduceLT, Int.reduceNe, Int.reduceNeg, reduceCtorEq, Int.reduceBEq, Int.reduceBNe, h1]
      · rw [hft]; simp only; omega
      · rw [hft]; simp only; push_cast; omega
    · have h' : i = ls.length := by have : ¬ ((i : Int) < (ls.length : Int)) := by simpa using h
                                    omega
      subst h'
      refine hE _ _ _ (by simp) ?_
      simp only [go_sem, Nat.reduceAdd, Nat.reduceSub, Nat.reduceMul, Nat.reduceEqDiff, Nat.reduceLT, Nat.reduceLeDiff, Nat.reduceBEq, Nat.reduceBNe, Int.reduceToNat, Int.reduceLE, Int.reduceLT, Int.reduceNe, Int.reduceNeg, reduceCtorEq, Int.reduceBEq, Int.reduceBNe, List.take_length]
theorem add_none (r : Rack) (on : Int) : ∀ (ls : List Line) (a : Int), (ls.foldl (add1 r on) (a, false)).2 = false
  | [], a => rfl
  | l :: ls, a => by rw [List.foldl_cons]; exact add_none r on ls _
theorem add_sum {r : Rack} (h : cents r) (on : Int) : ∀ (ls : List Line) (a : Int), sumF r on a ls = if (ls.foldl (add1 r on) (a, true)).2 then some (ls.foldl (add1 r on) (a, true)).1 else none
  | [], a => rfl
  | l :: ls, a => by
    rw [List.foldl_cons, sumF]
    cases hp : priceP r on l.item with
    | none =>
      have e : add1 r on (a, true) l = (a, false) := by simp [add1, hp]
      rw [e, add_none]; rfl
    | some n =>
      have := h on l.item n hp
      have e : add1 r on (a, true) l = (a + n * (l.many - l.many / 12), true) := by
        have h0 : 0 < n := by omega
        simp [add1, hp, h0]
      rw [e]
      exact add_sum h on ls _
def s96 : Spec := spec3 (fun (r : Rack) (_ : Int) (ls : List Line) => GRack r ∧ ls.length ≤ 20 ∧ ∀ l ∈ ls, (0 ≤ l.item.colour ∧ l.item.colour ≤ 3) ∧ 1 ≤ l.many ∧ l.many ≤ 1000) (fun r on ls => .tup [.int .i64 (ls.foldl (add1 r on) (0, true)).1, .bool (ls.foldl (add1 r on) (0, true)).2])
theorem s96_ok : SpecOK Tryd.prog glB 96 s96 := spec3_ok E19_ok Tryd.func96 rfl (by kernel_rfl) fun r on ls h => adds_fn r on ls h.1 h.2.1 h.2.2
def E20t : List (Nat × Spec) := [(95, s95), (96, s96), (29, s28), (33, s32)] ++ E19t
theorem E20t_ok : AllOK E20t := ⟨⟨s95_ok, Tryd.call95⟩, ⟨s96_ok, Tryd.call96⟩, ⟨s29_ok, Tryd.call29⟩, ⟨s33_ok, Tryd.call33⟩, E19t_ok⟩
noncomputable def E20 : Env := mkE E20t []
theorem E20_ok : EnvOK Tryd.prog E20 := envOK E20t_ok trivial
theorem E20_ti {t : Nat} : E20.ti t = ti t := rfl
theorem E20_q0 : (E20).eqt 152 = true := rfl
theorem E20_q1 : (E20).eqt 69 = true := rfl
theorem E20_q2 : (E20).keyt 3 = true := rfl
theorem E20_q3 : (E20).keyt 108 = true := rfl
attribute [go_sem] E20_ti E20_q0 E20_q1 E20_q2 E20_q3
-- f35 Sum
theorem refSum_fn (r : Rack) (hr : okRack r) (on : Int) (ls : List Line) (hls : big ls.length) : Fn E20 0 35 Tryd.f35 (Tryd.f35.body.getD .skip) [.agg (encR r), .int .i64 on, .sl (ls.map encL) false] (.tup [.int .i64 (sumM r on ls).1, .int .i64 (sumM r on ls).2]) := by
  obtain ⟨g, l⟩ := r
  unfold Fn Tryd.f35 sumM asked3
  cases hk : rackOk ⟨g, l⟩ with
  | false => simp only [go_sem, Nat.reduceAdd, Nat.reduceSub, Nat.reduceMul, Nat.reduceEqDiff, Nat.reduceLT, Nat.reduceLeDiff, Nat.reduceBEq, Nat.reduceBNe, Int.reduceToNat, Int.reduceLE, Int.reduceLT, Int.reduceNe, Int.reduceNeg, reduceCtorEq, Int.reduceBEq, Int.reduceBNe, @callV_spec E20 77 sisDayR rfl, @callV_specT E20 77 sisDayR rfl, @stepV_spec E20 77 sisDayR rfl, @effV_spec E20 77 sisDayR rfl, sisDayR, @callV_spec E20 95 s95 rfl, @callV_specT E20 95 s95 rfl, @stepV_spec E20 95 s95 rfl, @effV_spec E20 95 s95 rfl, s95, @callV_spec E20 61 s61 rfl, @callV_specT E20 61 s61 rfl, @stepV_spec E20 61 s61 rfl, @effV_spec E20 61 s61 rfl, s61, encR, callSpec, dLn_map, dec_lines, hr, hls, askM_bad hk, hk]
  | true =>
    have hw : linesW g ls = areLinesB g ls := linesW_good hk ls
    have hq : (decide (0 ≤ on) && decide (on ≤ 20000) && areLinesB g ls) = qSum on ls ⟨g, l⟩ := rfl
    cases hqq : qSum on ls ⟨g, l⟩ with
    | false => simp only [go_sem, Nat.reduceAdd, Nat.reduceSub, Nat.reduceMul, Nat.reduceEqDiff, Nat.reduceLT, Nat.reduceLeDiff, Nat.reduceBEq, Nat.reduceBNe, Int.reduceToNat, Int.reduceLE, Int.reduceLT, Int.reduceNe, Int.reduceNeg, reduceCtorEq, Int.reduceBEq, Int.reduceBNe, @callV_spec E20 77 sisDayR rfl, @callV_specT E20 77 sisDayR rfl, @stepV_spec E20 77 sisDayR rfl, @effV_spec E20 77 sisDayR rfl, sisDayR, @callV_spec E20 95 s95 rfl, @callV_specT E20 95 s95 rfl, @stepV_spec E20 95 s95 rfl, @effV_spec E20 95 s95 rfl, s95, @callV_spec E20 61 s61 rfl, @callV_specT E20 61 s61 rfl, @stepV_spec E20 61 s61 rfl, @effV_spec E20 61 s61 rfl, s61, encR, callSpec, dLn_map, dec_lines, hr, hls, askM_no hk, hk, hw, hq, hqq]
    | true =>
      have hl := lines_ok (g := g) (ls := ls) (by rw [← hq] at hqq; simp only [Bool.and_eq_true] at hqq; exact hqq.2)
      have hG := rack_good hk
      simp only [go_sem, Nat.reduceAdd, Nat.reduceSub, Nat.reduceMul, Nat.reduceEqDiff, Nat.reduceLT, Nat.reduceLeDiff, Nat.reduceBEq, Nat.reduceBNe, Int.reduceToNat, Int.reduceLE, Int.reduceLT, Int.reduceNe, Int.reduceNeg, reduceCtorEq, Int.reduceBEq, Int.reduceBNe, @callV_spec E20 77 sisDayR rfl, @callV_specT E20 77 sisDayR rfl, @stepV_spec E20 77 sisDayR rfl, @effV_spec E20 77 sisDayR rfl, sisDayR, @callV_spec E20 95 s95 rfl, @callV_specT E20 95 s95 rfl, @stepV_spec E20 95 s95 rfl, @effV_spec E20 95 s95 rfl, s95, @callV_spec E20 61 s61 rfl, @callV_specT E20 61 s61 rfl, @stepV_spec E20 61 s61 rfl, @effV_spec E20 61 s61 rfl, s61, @callV_spec E20 96 s96 rfl, @callV_specT E20 96 s96 rfl, @stepV_spec E20 96 s96 rfl, @effV_spec E20 96 s96 rfl, s96, encR, callSpec, dLn_map, dec_lines, hr, hls, askM_yes hk, hk, hw, hq, hqq, hG, hl.1]
      refine ⟨hl.2, ?_⟩
      rw [add_sum hG.cents]
      generalize ls.foldl (add1 ⟨g, l⟩ on) (0, true) = x
      obtain ⟨s, b⟩ := x
      cases b <;> simp only [go_sem, Nat.reduceAdd, Nat.reduceSub, Nat.reduceMul, Nat.reduceEqDiff, Nat.reduceLT, Nat.reduceLeDiff, Nat.reduceBEq, Nat.reduceBNe, Int.reduceToNat, Int.reduceLE, Int.reduceLT, Int.reduceNe, Int.reduceNeg, reduceCtorEq, Int.reduceBEq, Int.reduceBNe]
theorem s35_ok : SpecOK Tryd.prog glB 35 s34 := spec3_ok E20_ok Tryd.func35 rfl (by kernel_rfl) fun r on ls h => refSum_fn r h.1 on ls h.2
end Wb
/- The reference: sizes, Number. -/
namespace Wb
open Go Go.Proofs Enc Row
set_option linter.unusedSimpArgs false
set_option linter.unusedVariables false
set_option maxRecDepth 20000
set_option maxHeartbeats 4000000
def sizesPV (r : Rack) (i n : Int) (d : Int × Int) : PV :=
  match entErr r (qSizes i n d) i n with
  | (some e, _) => .tup [.sl (e.sizes.map encF) false, .int .i64 0]
  | (none, k) => .tup [.sl [] true, .int .i64 k]
theorem refSizes_fn (r : Rack) (hr : okRack r) (i n : Int) (d : Int × Int) : Fn E20 0 100 Tryd.f100 (Tryd.f100.body.getD .skip) [.agg (encR r), .int .i64 i, .int .i64 n, .agg [.int .i64 d.1, .int .i64 d.2]] (sizesPV r i n d) := by
  obtain ⟨g, l⟩ := r
  have hll : l.length ≤ 17592186044416 := hr.2.1
  have w1 : IntKind.i64.wrap ((l.length : Int) - 1) = (l.length : Int) - 1 := wrap_id (by omega)
  unfold Fn Tryd.f100 sizesPV entErr
  cases hk : rackOk ⟨g, l⟩ with
  | false => simp only [go_sem, Nat.reduceAdd, Nat.reduceSub, Nat.reduceMul, Nat.reduceEqDiff, Nat.reduceLT, Nat.reduceLeDiff, Nat.reduceBEq, Nat.reduceBNe, Int.reduceToNat, Int.reduceLE, Int.reduceLT, Int.reduceNe, Int.reduceNeg, reduceCtorEq, Int.reduceBEq, Int.reduceBNe, @callV_spec E20 50 sTween rfl, @callV_specT E20 50 sTween rfl, @stepV_spec E20 50 sTween rfl, @effV_spec E20 50 sTween rfl, sTween, @callV_spec E20 63 sIsNumber rfl, @callV_specT E20 63 sIsNumber rfl, @stepV_spec E20 63 sIsNumber rfl, @effV_spec E20 63 sIsNumber rfl, sIsNumber, @callV_spec E20 69 sProper rfl, @callV_specT E20 69 sProper rfl, @stepV_spec E20 69 sProper rfl, @effV_spec E20 69 sProper rfl, sProper, @callV_spec E20 61 s61 rfl, @callV_specT E20 61 s61 rfl, @stepV_spec E20 61 s61 rfl, @effV_spec E20 61 s61 rfl, s61, encR, callSpec, hr, w1, askM_bad hk, hk]
  | true =>
    have hq : (decide (0 ≤ i) && decide (i ≤ (l.length : Int) - 1) && (decide (1 ≤ n) && decide (n ≤ 9999)) && (decide (1 ≤ d.1) && decide (d.1 ≤ d.2) && decide (d.2 ≤ 400))) = qSizes i n d ⟨g, l⟩ := rfl
    cases hqq : qSizes i n d ⟨g, l⟩ with
    | false => simp only [go_sem, Nat.reduceAdd, Nat.reduceSub, Nat.reduceMul, Nat.reduceEqDiff, Nat.reduceLT, Nat.reduceLeDiff, Nat.reduceBEq, Nat.reduceBNe, Int.reduceToNat, Int.reduceLE, Int.reduceLT, Int.reduceNe, Int.reduceNeg, reduceCtorEq, Int.reduceBEq, Int.reduceBNe, @callV_spec E20 50 sTween rfl, @callV_specT E20 50 sTween rfl, @stepV_spec E20 50 sTween rfl, @effV_spec E20 50 sTween rfl, sTween, @callV_spec E20 63 sIsNumber rfl, @callV_specT E20 63 sIsNumber rfl, @stepV_spec E20 63 sIsNumber rfl, @effV_spec E20 63 sIsNumber rfl, sIsNumber, @callV_spec E20 69 sProper rfl, @callV_specT E20 69 sProper rfl, @stepV_spec E20 69 sProper rfl, @effV_spec E20 69 sProper rfl, sProper, @callV_spec E20 61 s61 rfl, @callV_specT E20 61 s61 rfl, @stepV_spec E20 61 s61 rfl, @effV_spec E20 61 s61 rfl, s61, encR, callSpec, hr, w1, askM_no hk, hk, hq, hqq]
    | true =>
      have hi : 0 ≤ i ∧ i < (l.length : Int) := by
        have := hqq; rw [← hq] at this; simp only [Bool.and_eq_true, decide_eq_true_eq] at this; omega
      have hG := rack_good hk
      simp only [go_sem, Nat.reduceAdd, Nat.reduceSub, Nat.reduceMul, Nat.reduceEqDiff, Nat.reduceLT, Nat.reduceLeDiff, Nat.reduceBEq, Nat.reduceBNe, Int.reduceToNat, Int.reduceLE, Int.reduceLT, Int.reduceNe, Int.reduceNeg, reduceCtorEq, Int.reduceBEq, Int.reduceBNe, @callV_spec E20 50 sTween rfl, @callV_specT E20 50 sTween rfl, @stepV_spec E20 50 sTween rfl, @effV_spec E20 50 sTween rfl, sTween, @callV_spec E20 63 sIsNumber rfl, @callV_specT E20 63 sIsNumber rfl, @stepV_spec E20 63 sIsNumber rfl, @effV_spec E20 63 sIsNumber rfl, sIsNumber, @callV_spec E20 69 sProper rfl, @callV_specT E20 69 sProper rfl, @stepV_spec E20 69 sProper rfl, @effV_spec E20 69 sProper rfl, sProper, @callV_spec E20 61 s61 rfl, @callV_specT E20 61 s61 rfl, @stepV_spec E20 61 s61 rfl, @effV_spec E20 61 s61 rfl, s61, encR, callSpec, hr, w1, askM_yes hk, hk, hq, hqq]
      obtain ⟨j, rfl⟩ := Int.eq_ofNat_of_zero_le hi.1
      have hj : j < l.length := by omega
      have hjj : (j : Int) < (l.length : Int) := by omega
      have hy : l.getD j default ∈ l := by simp [List.getD_eq_getElem?_getD, hj]
      have hy24 : (l.getD j default).entries.length < 4611686018427387904 := Nat.lt_of_le_of_lt (hG.sane.2.1 _ hy) (by omega)
      have ha : entAt ⟨g, l⟩ j n = entNo n (l.getD j default).entries := by unfold entAt; rw [if_pos hi]; rfl
      rw [ha]
      generalize hyy : l.getD j default = y at *
      simp only [go_sem, Nat.reduceAdd, Nat.reduceSub, Nat.reduceMul, Nat.reduceEqDiff, Nat.reduceLT, Nat.reduceLeDiff, Nat.reduceBEq, Nat.reduceBNe, Int.reduceToNat, Int.reduceLE, Int.reduceLT, Int.reduceNe, Int.reduceNeg, reduceCtorEq, Int.reduceBEq, Int.reduceBNe, @callV_spec E20 65 sAt rfl, @callV_specT E20 65 sAt rfl, @stepV_spec E20 65 sAt rfl, @effV_spec E20 65 sAt rfl, sAt, callSpec, hjj, getD_mapN encI l j _ hj, hyy, encI, hy24]
      unfold entNo
      rcases findI_find (fun e => e.number == n) y.entries 0 with ⟨e1, e2⟩ | ⟨k, hk', e1, e2⟩
      · simp only [go_sem, Nat.reduceAdd, Nat.reduceSub, Nat.reduceMul, Nat.reduceEqDiff, Nat.reduceLT, Nat.reduceLeDiff, Nat.reduceBEq, Nat.reduceBNe, Int.reduceToNat, Int.reduceLE, Int.reduceLT, Int.reduceNe, Int.reduceNeg, reduceCtorEq, Int.reduceBEq, Int.reduceBNe, e1, e2]
      · rw [Nat.zero_add] at e2
        have hkk : (k : Int) < (y.entries.length : Int) := by omega
        have hk0 : ¬ ((k : Int) < 0) := by omega
        generalize hee : y.entries.getD k default = e at *
        simp only [go_sem, Nat.reduceAdd, Nat.reduceSub, Nat.reduceMul, Nat.reduceEqDiff, Nat.reduceLT, Nat.reduceLeDiff, Nat.reduceBEq, Nat.reduceBNe, Int.reduceToNat, Int.reduceLE, Int.reduceLT, Int.reduceNe, Int.reduceNeg, reduceCtorEq, Int.reduceBEq, Int.reduceBNe, e1, e2, hk0, hkk, hjj, getD_mapN encI l j _ hj, hyy, encI, getD_mapN encE y.entries k _ hk', hee, encE]
def s100 : Spec := spec4 (fun (r : Rack) (_ : Int) (_ : Int) (_ : Int × Int) => okRack r) (fun r i n d => sizesPV r i n d)
theorem s100_ok : SpecOK Tryd.prog glB 100 s100 := spec4_ok E20_ok Tryd.func100 rfl (by kernel_rfl) fun r i n d h => refSizes_fn r h i n d
def E21t : List (Nat × Spec) := [(100, s100), (35, s34)] ++ E20t
theorem E21t_ok : AllOK E21t := ⟨⟨s100_ok, Tryd.call100⟩, ⟨s35_ok, Tryd.call35⟩, E20t_ok⟩
noncomputable def E21 : Env := mkE E21t []
theorem E21_ok : EnvOK Tryd.prog E21 := envOK E21t_ok trivial
theorem E21_ti {t : Nat} : E21.ti t = ti t := rfl
theorem E21_q0 : (E21).eqt 152 = true := rfl
theorem E21_q1 : (E21).eqt 69 = true := rfl
theorem E21_q2 : (E21).keyt 3 = true := rfl
theorem E21_q3 : (E21).keyt 108 = true := rfl
attribute [go_sem] E21_ti E21_q0 E21_q1 E21_q2 E21_q3
theorem find_drop {p : Fit → Bool} {l : List Fit} {i : Nat} (h : i < l.length) : (l.drop i).find? p = if p (l.getD i default) then some (l.getD i default) else (l.drop (i + 1)).find? p := by
  have e : l.getD i default = l[i] := by simp [h]
  rw [e, List.drop_eq_getElem_cons h, List.find?_cons]
  cases p l[i] <;> rfl
theorem ent_sizes {r : Rack} {i n : Int} {e : Entry} (h3 : entAt r i n = some e) (h4 : rackOk r = true) : GEntry r.goods e := by
  obtain ⟨a, b, _⟩ := entAt_mem h3
  have hm : (r.issues.getD i.toNat default) ∈ r.issues := by
    have : i.toNat < r.issues.length := by have := a.2; omega
    simp [List.getD_eq_getElem?_getD, this]
  exact ((rack_good h4).issues _ hm).entries e b
-- f41 Sure
theorem refSure_fn (r : Rack) (hr : okRack r) (i n : Int) (d : Int × Int) : Fn E21 0 41 Tryd.f41 (Tryd.f41.body.getD .skip) [.agg (encR r), .int .i64 i, .int .i64 n, .agg [.int .i64 d.1, .int .i64 d.2]] (.tup [.int .i64 (sureM r i n d).1, .int .i64 (sureM r i n d).2]) := by
  obtain ⟨g, l⟩ := r
  have hd : (d.1, d.2) = d := rfl
  unfold Fn Tryd.f41 sureM
  rcases hE : entErr ⟨g, l⟩ (qSizes i n d) i n with ⟨o, k⟩
  rcases entErr_err ⟨g, l⟩ (qSizes i n d) i n with ⟨h1, e, h2, h3, h4, h5⟩ | ⟨h1, h2⟩
  · rw [hE] at h1 h2
    simp only at h1 h2
    subst h1; subst h2
    have hsz : e.sizes.length ≤ 8 := (ent_sizes h3 h4).sizes.2
    simp only [go_sem, Nat.reduceAdd, Nat.reduceSub, Nat.reduceMul, Nat.reduceEqDiff, Nat.reduceLT, Nat.reduceLeDiff, Nat.reduceBEq, Nat.reduceBNe, Int.reduceToNat, Int.reduceLE, Int.reduceLT, Int.reduceNe, Int.reduceNeg, reduceCtorEq, Int.reduceBEq, Int.reduceBNe, @callV_spec E21 100 s100 rfl, @callV_specT E21 100 s100 rfl, @stepV_spec E21 100 s100 rfl, @effV_spec E21 100 s100 rfl, s100, encR, callSpec, hr, hd, sizesPV, hE]
    refine ev_loopS [7, 10] (fun j : Nat => [(12, .int .i64 j)])
      (fun j H => j ≤ e.sizes.length ∧ H (([], 41000001) : Key) = some (.cells [.int .i64 d.1, .int .i64 d.2] 1 false) ∧ e.sizes.find? (sureP d) = (e.sizes.drop j).find? (sureP d))
      (fun j => e.sizes.length - j) 0 ?_ ⟨Nat.zero_le _, ?_, rfl⟩ ?_
    · simp only [go_sem, Nat.reduceAdd, Nat.reduceSub, Nat.reduceMul, Nat.reduceEqDiff, Nat.reduceLT, Nat.reduceLeDiff, Nat.reduceBEq, Nat.reduceBNe, Int.reduceToNat, Int.reduceLE, Int.reduceLT, Int.reduceNe, Int.reduceNeg, reduceCtorEq, Int.reduceBEq, Int.reduceBNe]
    · simp only [go_sem, Nat.reduceAdd, Nat.reduceSub, Nat.reduceMul, Nat.reduceEqDiff, Nat.reduceLT, Nat.reduceLeDiff, Nat.reduceBEq, Nat.reduceBNe, Int.reduceToNat, Int.reduceLE, Int.reduceLT, Int.reduceNe, Int.reduceNeg, reduceCtorEq, Int.reduceBEq, Int.reduceBNe]
    · simp only [go_sem, Nat.reduceAdd, Nat.reduceSub, Nat.reduceMul, Nat.reduceEqDiff, Nat.reduceLT, Nat.reduceLeDiff, Nat.reduceBEq, Nat.reduceBNe, Int.reduceToNat, Int.reduceLE, Int.reduceLT, Int.reduceNe, Int.reduceNeg, reduceCtorEq, Int.reduceBEq, Int.reduceBNe]
      intro K j H ⟨hj, g1, hf⟩ hK hE2
      rw [condK_bool]
      refine ⟨fun h => ?_, fun h => ?_⟩
      · have hj' : j < e.sizes.length := by simpa using h
        have hjj : (j : Int) < (e.sizes.length : Int) := by omega
        have w2 : IntKind.i64.wrap ((j : Int) + 1) = (j : Int) + 1 := wrap_id (by omega)
        rw [find_drop hj'] at hf
        generalize hfe : e.sizes.getD j default = f at *
        simp only [go_sem, Nat.reduceAdd, Nat.reduceSub, Nat.reduceMul, Nat.reduceEqDiff, Nat.reduceLT, Nat.reduceLeDiff, Nat.reduceBEq, Nat.reduceBNe, Int.reduceToNat, Int.reduceLE, Int.reduceLT, Int.reduceNe, Int.reduceNeg, reduceCtorEq, Int.reduceBEq, Int.reduceBNe, @callV_spec E21 103 sInner rfl, @callV_specT E21 103 sInner rfl, @stepV_spec E21 103 sInner rfl, @effV_spec E21 103 sInner rfl, sInner, callSpec, g1, hjj, getD_mapN encF e.sizes j _ hj', hfe, encF]
        rw [condK_bool]
        refine ⟨fun hin => ?_, fun hin => ?_⟩
        · have hin' : sureP d f = true := hin
          rw [if_pos hin'] at hf
          simp only [go_sem, Nat.reduceAdd, Nat.reduceSub, Nat.reduceMul, Nat.reduceEqDiff, Nat.reduceLT, Nat.reduceLeDiff, Nat.reduceBEq, Nat.reduceBNe, Int.reduceToNat, Int.reduceLE, Int.reduceLT, Int.reduceNe, Int.reduceNeg, reduceCtorEq, Int.reduceBEq, Int.reduceBNe, g1, hjj, getD_mapN encF e.sizes j _ hj', hfe, encF]
          refine hE2 _ _ _ (by simp) ?_
          simp only [go_sem, Nat.reduceAdd, Nat.reduceSub, Nat.reduceMul, Nat.reduceEqDiff, Nat.reduceLT, Nat.reduceLeDiff, Nat.reduceBEq, Nat.reduceBNe, Int.reduceToNat, Int.reduceLE, Int.reduceLT, Int.reduceNe, Int.reduceNeg, reduceCtorEq, Int.reduceBEq, Int.reduceBNe, hf]
        · have hin' : sureP d f = false := hin
          rw [if_neg (by rw [hin']; simp)] at hf
          simp only [go_sem, Nat.reduceAdd, Nat.reduceSub, Nat.reduceMul, Nat.reduceEqDiff, Nat.reduceLT, Nat.reduceLeDiff, Nat.reduceBEq, Nat.reduceBNe, Int.reduceToNat, Int.reduceLE, Int.reduceLT, Int.reduceNe, Int.reduceNeg, reduceCtorEq, Int.reduceBEq, Int.reduceBNe]
          refine hK (j + 1) _ _ ?_ ⟨hj', g1, hf⟩ (by omega)
          simp only [go_sem, Nat.reduceAdd, Nat.reduceSub, Nat.reduceMul, Nat.reduceEqDiff, Nat.reduceLT, Nat.reduceLeDiff, Nat.reduceBEq, Nat.reduceBNe, Int.reduceToNat, Int.reduceLE, Int.reduceLT, Int.reduceNe, Int.reduceNeg, reduceCtorEq, Int.reduceBEq, Int.reduceBNe, w2, Int.natCast_add, Int.natCast_one]
      · have hj' : j = e.sizes.length := by have : ¬ ((j : Int) < (e.sizes.length : Int)) := by simpa using h
                                            omega
        subst hj'
        simp only [List.drop_length, List.find?_nil] at hf
        refine hE2 _ _ _ (by simp) ?_
        simp only [go_sem, Nat.reduceAdd, Nat.reduceSub, Nat.reduceMul, Nat.reduceEqDiff, Nat.reduceLT, Nat.reduceLeDiff, Nat.reduceBEq, Nat.reduceBNe, Int.reduceToNat, Int.reduceLE, Int.reduceLT, Int.reduceNe, Int.reduceNeg, reduceCtorEq, Int.reduceBEq, Int.reduceBNe, hf]
  · rw [hE] at h1 h2
    simp only at h1 h2
    subst h2
    have h6 : (k != 0) = true := by simpa using h1
    simp only [go_sem, Nat.reduceAdd, Nat.reduceSub, Nat.reduceMul, Nat.reduceEqDiff, Nat.reduceLT, Nat.reduceLeDiff, Nat.reduceBEq, Nat.reduceBNe, Int.reduceToNat, Int.reduceLE, Int.reduceLT, Int.reduceNe, Int.reduceNeg, reduceCtorEq, Int.reduceBEq, Int.reduceBNe, @callV_spec E21 100 s100 rfl, @callV_specT E21 100 s100 rfl, @stepV_spec E21 100 s100 rfl, @effV_spec E21 100 s100 rfl, s100, encR, callSpec, hr, hd, sizesPV, hE, h6]
theorem s41_ok : SpecOK Tryd.prog glB 41 s40 := spec4_ok E21_ok Tryd.func41 rfl (by kernel_rfl) fun r i n d h => refSure_fn r h i n d
-- f39 Fits
theorem both_some {d : Int × Int} {f : Fit} (hf : f.lo ≤ f.hi) (hd : d.1 ≤ d.2) : decide ((if d.1 > f.lo then d.1 else f.lo) ≤ (if d.2 < f.hi then d.2 else f.hi)) = someP d f := by
  unfold someP
  rw [Bool.eq_iff_iff]
  simp only [decide_eq_true_eq, Bool.and_eq_true]
  split <;> split <;> omega
theorem refFits_fn (r : Rack) (hr : okRack r) (i n : Int) (d : Int × Int) : Fn E21 0 39 Tryd.f39 (Tryd.f39.body.getD .skip) [.agg (encR r), .int .i64 i, .int .i64 n, .agg [.int .i64 d.1, .int .i64 d.2]] (.tup [.sl (il (fitsM r i n d).1) false, .int .i64 (fitsM r i n d).2]) := by
  obtain ⟨g, l⟩ := r
  have hd : (d.1, d.2) = d := rfl
  unfold Fn Tryd.f39 fitsM
  rcases hE : entErr ⟨g, l⟩ (qSizes i n d) i n with ⟨o, k⟩
  rcases entErr_err ⟨g, l⟩ (qSizes i n d) i n with ⟨h1, e, h2, h3, h4, h5⟩ | ⟨h1, h2⟩
  · rw [hE] at h1 h2
    simp only at h1 h2
    subst h1; subst h2
    have hGE := ent_sizes h3 h4
    have hsz : e.sizes.length ≤ 8 := hGE.sizes.2
    have hdd : d.1 ≤ d.2 := by
      simp only [qSizes, isFootB, Bool.and_eq_true, decide_eq_true_eq] at h5; omega
    simp only [go_sem, Nat.reduceAdd, Nat.reduceSub, Nat.reduceMul, Nat.reduceEqDiff, Nat.reduceLT, Nat.reduceLeDiff, Nat.reduceBEq, Nat.reduceBNe, Int.reduceToNat, Int.reduceLE, Int.reduceLT, Int.reduceNe, Int.reduceNeg, reduceCtorEq, Int.reduceBEq, Int.reduceBNe, @callV_spec E21 100 s100 rfl, @callV_specT E21 100 s100 rfl, @stepV_spec E21 100 s100 rfl, @effV_spec E21 100 s100 rfl, s100, encR, callSpec, hr, hd, sizesPV, hE]
    refine ev_loopS [7, 10] (fun x : Nat × PV => [(12, x.2), (13, .int .i64 x.1)])
      (fun x H => x.1 ≤ e.sizes.length ∧ H (([], 39000001) : Key) = some (.cells [.int .i64 d.1, .int .i64 d.2] 1 false) ∧ Own H (fun K => K = ([], 39010007)) x.2 1 (il (fitsL d (e.sizes.take x.1))))
      (fun x => e.sizes.length - x.1) (0, .sl [] true) ?_ ⟨Nat.zero_le _, ?_, .inl ⟨rfl, rfl⟩⟩ ?_
    · simp only [go_sem, Nat.reduceAdd, Nat.reduceSub, Nat.reduceMul, Nat.reduceEqDiff, Nat.reduceLT, Nat.reduceLeDiff, Nat.reduceBEq, Nat.reduceBNe, Int.reduceToNat, Int.reduceLE, Int.reduceLT, Int.reduceNe, Int.reduceNeg, reduceCtorEq, Int.reduceBEq, Int.reduceBNe]
    · simp only [go_sem, Nat.reduceAdd, Nat.reduceSub, Nat.reduceMul, Nat.reduceEqDiff, Nat.reduceLT, Nat.reduceLeDiff, Nat.reduceBEq, Nat.reduceBNe, Int.reduceToNat, Int.reduceLE, Int.reduceLT, Int.reduceNe, Int.reduceNeg, reduceCtorEq, Int.reduceBEq, Int.reduceBNe]
    · simp only [go_sem, Nat.reduceAdd, Nat.reduceSub, Nat.reduceMul, Nat.reduceEqDiff, Nat.reduceLT, Nat.reduceLeDiff, Nat.reduceBEq, Nat.reduceBNe, Int.reduceToNat, Int.reduceLE, Int.reduceLT, Int.reduceNe, Int.reduceNeg, reduceCtorEq, Int.reduceBEq, Int.reduceBNe]
      intro K x H ⟨hj, g1, g4⟩ hK hE2
      obtain ⟨j, p⟩ := x
      simp only at hj g4
      dsimp only
      rw [condK_bool]
      refine ⟨fun h => ?_, fun h => ?_⟩
      · have hj' : j < e.sizes.length := by simpa using h
        have hjj : (j : Int) < (e.sizes.length : Int) := by omega
        have w2 : IntKind.i64.wrap ((j : Int) + 1) = (j : Int) + 1 := wrap_id (by omega)
        have hft := fitsL_take d hj'
        have hfl := fitsL_len d (e.sizes.take j)
        have hfl2 : (e.sizes.take j).length ≤ 8 := Nat.le_trans (List.length_take_le' _ _) hsz
        have hfm : e.sizes.getD j default ∈ e.sizes := by simp [List.getD_eq_getElem?_getD, hj']
        generalize hfe : e.sizes.getD j default = f at *
        have hbs := both_some (d := d) (hGE.fits f hfm).foot.2.1 hdd
        simp only [go_sem, Nat.reduceAdd, Nat.reduceSub, Nat.reduceMul, Nat.reduceEqDiff, Nat.reduceLT, Nat.reduceLeDiff, Nat.reduceBEq, Nat.reduceBNe, Int.reduceToNat, Int.reduceLE, Int.reduceLT, Int.reduceNe, Int.reduceNeg, reduceCtorEq, Int.reduceBEq, Int.reduceBNe, @callV_spec E21 64 sCommon rfl, @callV_specT E21 64 sCommon rfl, @stepV_spec E21 64 sCommon rfl, @effV_spec E21 64 sCommon rfl, sCommon, callSpec, g1, hjj, getD_mapN encF e.sizes j _ hj', hfe, encF, hbs]
        refine ⟨rfl, ?_⟩
        rw [condK_bool]
        refine ⟨fun hin => ?_, fun hin => ?_⟩
        · rw [if_pos hin] at hft
          have hil : il (fitsL d (e.sizes.take (j + 1))) = il (fitsL d (e.sizes.take j)) ++ [[.int .i64 f.size]] := by rw [hft, il_append]; rfl
          generalize fitsL d (e.sizes.take j) = acc at *
          rcases g4 with ⟨e1, rfl⟩ | ⟨K2, v, rfl, rfl, g5⟩
          · simp only [go_sem, Nat.reduceAdd, Nat.reduceSub, Nat.reduceMul, Nat.reduceEqDiff, Nat.reduceLT, Nat.reduceLeDiff, Nat.reduceBEq, Nat.reduceBNe, Int.reduceToNat, Int.reduceLE, Int.reduceLT, Int.reduceNe, Int.reduceNeg, reduceCtorEq, Int.reduceBEq, Int.reduceBNe, g1, hjj, getD_mapN encF e.sizes j _ hj', hfe, encF, app, rowsOf, List.not_mem_nil, cells1, cellP, forall_eq]
            refine hK (j + 1, .sref ([], 39010007) (verOf H ([], 39010007) + 1) 1 1 false) _ _ ?_ ⟨hj', ?_, .inr ⟨_, verOf H ([], 39010007) + 1, rfl, ?_, ?_⟩⟩ (by simp only; omega)
            · simp only [go_sem, Nat.reduceAdd, Nat.reduceSub, Nat.reduceMul, Nat.reduceEqDiff, Nat.reduceLT, Nat.reduceLeDiff, Nat.reduceBEq, Nat.reduceBNe, Int.reduceToNat, Int.reduceLE, Int.reduceLT, Int.reduceNe, Int.reduceNeg, reduceCtorEq, Int.reduceBEq, Int.reduceBNe, w2, Int.natCast_add, Int.natCast_one]
            · simp only [go_sem, Nat.reduceAdd, Nat.reduceSub, Nat.reduceMul, Nat.reduceEqDiff, Nat.reduceLT, Nat.reduceLeDiff, Nat.reduceBEq, Nat.reduceBNe, Int.reduceToNat, Int.reduceLE, Int.reduceLT, Int.reduceNe, Int.reduceNeg, reduceCtorEq, Int.reduceBEq, Int.reduceBNe, g1]
            · rw [hil, e1]; rfl
            · rw [hil, e1]; simp only [go_sem, Nat.reduceAdd, Nat.reduceSub, Nat.reduceMul, Nat.reduceEqDiff, Nat.reduceLT, Nat.reduceLeDiff, Nat.reduceBEq, Nat.reduceBNe, Int.reduceToNat, Int.reduceLE, Int.reduceLT, Int.reduceNe, Int.reduceNeg, reduceCtorEq, Int.reduceBEq, Int.reduceBNe]
          · simp only [go_sem, Nat.reduceAdd, Nat.reduceSub, Nat.reduceMul, Nat.reduceEqDiff, Nat.reduceLT, Nat.reduceLeDiff, Nat.reduceBEq, Nat.reduceBNe, Int.reduceToNat, Int.reduceLE, Int.reduceLT, Int.reduceNe, Int.reduceNeg, reduceCtorEq, Int.reduceBEq, Int.reduceBNe, g1, g5, hjj, getD_mapN encF e.sizes j _ hj', hfe, encF, app, rowsOf, List.not_mem_nil, cells1, cellP, forall_eq, il_length]
            refine ⟨by omega, hK (j + 1, .sref ([], 39010007) (v + 1) 1 (acc.length + 1) false) _ _ ?_ ⟨hj', ?_, .inr ⟨_, v + 1, rfl, ?_, ?_⟩⟩ (by simp only; omega)⟩
            · simp only [go_sem, Nat.reduceAdd, Nat.reduceSub, Nat.reduceMul, Nat.reduceEqDiff, Nat.reduceLT, Nat.reduceLeDiff, Nat.reduceBEq, Nat.reduceBNe, Int.reduceToNat, Int.reduceLE, Int.reduceLT, Int.reduceNe, Int.reduceNeg, reduceCtorEq, Int.reduceBEq, Int.reduceBNe, w2, Int.natCast_add, Int.natCast_one]
            · simp only [go_sem, Nat.reduceAdd, Nat.reduceSub, Nat.reduceMul, Nat.reduceEqDiff, Nat.reduceLT, Nat.reduceLeDiff, Nat.reduceBEq, Nat.reduceBNe, Int.reduceToNat, Int.reduceLE, Int.reduceLT, Int.reduceNe, Int.reduceNeg, reduceCtorEq, Int.reduceBEq, Int.reduceBNe, g1]
            · rw [hil]; simp [il_length]
            · rw [hil]; simp only [go_sem, Nat.reduceAdd, Nat.reduceSub, Nat.reduceMul, Nat.reduceEqDiff, Nat.reduceLT, Nat.reduceLeDiff, Nat.reduceBEq, Nat.reduceBNe, Int.reduceToNat, Int.reduceLE, Int.reduceLT, Int.reduceNe, Int.reduceNeg, reduceCtorEq, Int.reduceBEq, Int.reduceBNe]
        · rw [if_neg (by rw [hin]; simp), List.append_nil] at hft
          simp only [go_sem, Nat.reduceAdd, Nat.reduceSub, Nat.reduceMul, Nat.reduceEqDiff, Nat.reduceLT, Nat.reduceLeDiff, Nat.reduceBEq, Nat.reduceBNe, Int.reduceToNat, Int.reduceLE, Int.reduceLT, Int.reduceNe, Int.reduceNeg, reduceCtorEq, Int.reduceBEq, Int.reduceBNe]
          refine hK (j + 1, p) _ _ ?_ ⟨hj', ?_, ?_⟩ (by simp only; omega)
          · simp only [go_sem, Nat.reduceAdd, Nat.reduceSub, Nat.reduceMul, Nat.reduceEqDiff, Nat.reduceLT, Nat.reduceLeDiff, Nat.reduceBEq, Nat.reduceBNe, Int.reduceToNat, Int.reduceLE, Int.reduceLT, Int.reduceNe, Int.reduceNeg, reduceCtorEq, Int.reduceBEq, Int.reduceBNe, w2, Int.natCast_add, Int.natCast_one]
          · simp only [go_sem, Nat.reduceAdd, Nat.reduceSub, Nat.reduceMul, Nat.reduceEqDiff, Nat.reduceLT, Nat.reduceLeDiff, Nat.reduceBEq, Nat.reduceBNe, Int.reduceToNat, Int.reduceLE, Int.reduceLT, Int.reduceNe, Int.reduceNeg, reduceCtorEq, Int.reduceBEq, Int.reduceBNe, g1]
          · rw [hft]
            refine g4.frame fun K hK => ?_
            subst hK
            simp only [go_sem, Nat.reduceAdd, Nat.reduceSub, Nat.reduceMul, Nat.reduceEqDiff, Nat.reduceLT, Nat.reduceLeDiff, Nat.reduceBEq, Nat.reduceBNe, Int.reduceToNat, Int.reduceLE, Int.reduceLT, Int.reduceNe, Int.reduceNeg, reduceCtorEq, Int.reduceBEq, Int.reduceBNe]
      · have hj' : j = e.sizes.length := by have : ¬ ((j : Int) < (e.sizes.length : Int)) := by simpa using h
                                            omega
        subst hj'
        simp only [List.take_length] at g4
        refine hE2 _ _ _ (by simp) ?_
        rcases g4 with ⟨e1, rfl⟩ | ⟨K2, v, rfl, rfl, g5⟩
        · simp only [go_sem, Nat.reduceAdd, Nat.reduceSub, Nat.reduceMul, Nat.reduceEqDiff, Nat.reduceLT, Nat.reduceLeDiff, Nat.reduceBEq, Nat.reduceBNe, Int.reduceToNat, Int.reduceLE, Int.reduceLT, Int.reduceNe, Int.reduceNeg, reduceCtorEq, Int.reduceBEq, Int.reduceBNe, e1]
        · simp only [go_sem, Nat.reduceAdd, Nat.reduceSub, Nat.reduceMul, Nat.reduceEqDiff, Nat.reduceLT, Nat.reduceLeDiff, Nat.reduceBEq, Nat.reduceBNe, Int.reduceToNat, Int.reduceLE, Int.reduceLT, Int.reduceNe, Int.reduceNeg, reduceCtorEq, Int.reduceBEq, Int.reduceBNe, g5, il_length]
  · rw [hE] at h1 h2
    simp only at h1 h2
    subst h2
    have h6 : (k != 0) = true := by simpa using h1
    simp only [go_sem, Nat.reduceAdd, Nat.reduceSub, Nat.reduceMul, Nat.reduceEqDiff, Nat.reduceLT, Nat.reduceLeDiff, Nat.reduceBEq, Nat.reduceBNe, Int.reduceToNat, Int.reduceLE, Int.reduceLT, Int.reduceNe, Int.reduceNeg, reduceCtorEq, Int.reduceBEq, Int.reduceBNe, @callV_spec E21 100 s100 rfl, @callV_specT E21 100 s100 rfl, @stepV_spec E21 100 s100 rfl, @effV_spec E21 100 s100 rfl, s100, encR, callSpec, hr, hd, sizesPV, hE, h6, il_nil']
def s39 : Spec := spec4 (fun (r : Rack) (_ : Int) (_ : Int) (_ : Int × Int) => okRack r) (fun r i n d => .tup [.sl (il (fitsM r i n d).1) false, .int .i64 (fitsM r i n d).2])
theorem s39_ok : SpecOK Tryd.prog glB 39 s39 := spec4_ok E21_ok Tryd.func39 rfl (by kernel_rfl) fun r i n d h => refFits_fn r h i n d
end Wb
/- The reference: Number, Means, SameMeant. -/
namespace Wb
open Go Go.Proofs Enc Row
set_option linter.unusedSimpArgs false
set_option linter.unusedVariables false
set_option maxRecDepth 20000
set_option maxHeartbeats 4000000
def E22t : List (Nat × Spec) := [(39, s39), (41, s40)] ++ E21t
theorem E22t_ok : AllOK E22t := ⟨⟨s39_ok, Tryd.call39⟩, ⟨s41_ok, Tryd.call41⟩, E21t_ok⟩
noncomputable def E22 : Env := mkE E22t []
theorem E22_ok : EnvOK Tryd.prog E22 := envOK E22t_ok trivial
theorem E22_ti {t : Nat} : E22.ti t = ti t := rfl
theorem E22_q0 : (E22).eqt 152 = true := rfl
theorem E22_q1 : (E22).eqt 69 = true := rfl
theorem E22_q2 : (E22).keyt 3 = true := rfl
theorem E22_q3 : (E22).keyt 108 = true := rfl
attribute [go_sem] E22_ti E22_q0 E22_q1 E22_q2 E22_q3
-- f23 Number
theorem refNumber_fn (r : Rack) (hr : okRack r) (i n o : Int) : Fn E22 0 23 Tryd.f23 (Tryd.f23.body.getD .skip) [.agg (encR r), .int .i64 i, .int .i64 n, .int .i64 o] (.tup [.int .i64 (numM r i n o).1, .int .i64 (numM r i n o).2]) := by
  obtain ⟨g, l⟩ := r
  have hll : l.length ≤ 17592186044416 := hr.2.1
  have w1 : IntKind.i64.wrap ((l.length : Int) - 1) = (l.length : Int) - 1 := wrap_id (by omega)
  unfold Fn Tryd.f23 numM entErr
  cases hk : rackOk ⟨g, l⟩ with
  | false => simp only [go_sem, Nat.reduceAdd, Nat.reduceSub, Nat.reduceMul, Nat.reduceEqDiff, Nat.reduceLT, Nat.reduceLeDiff, Nat.reduceBEq, Nat.reduceBNe, Int.reduceToNat, Int.reduceLE, Int.reduceLT, Int.reduceNe, Int.reduceNeg, reduceCtorEq, Int.reduceBEq, Int.reduceBNe, @callV_spec E22 50 sTween rfl, @callV_specT E22 50 sTween rfl, @stepV_spec E22 50 sTween rfl, @effV_spec E22 50 sTween rfl, sTween, @callV_spec E22 63 sIsNumber rfl, @callV_specT E22 63 sIsNumber rfl, @stepV_spec E22 63 sIsNumber rfl, @effV_spec E22 63 sIsNumber rfl, sIsNumber, @callV_spec E22 61 s61 rfl, @callV_specT E22 61 s61 rfl, @stepV_spec E22 61 s61 rfl, @effV_spec E22 61 s61 rfl, s61, encR, callSpec, hr, w1, askM_bad hk, hk]
  | true =>
    have hq : (decide (0 ≤ i) && decide (i ≤ (l.length : Int) - 1) && (decide (0 ≤ o) && decide (o ≤ (l.length : Int) - 1)) && (decide (1 ≤ n) && decide (n ≤ 9999))) = qNum i o n ⟨g, l⟩ := rfl
    cases hqq : qNum i o n ⟨g, l⟩ with
    | false => simp only [go_sem, Nat.reduceAdd, Nat.reduceSub, Nat.reduceMul, Nat.reduceEqDiff, Nat.reduceLT, Nat.reduceLeDiff, Nat.reduceBEq, Nat.reduceBNe, Int.reduceToNat, Int.reduceLE, Int.reduceLT, Int.reduceNe, Int.reduceNeg, reduceCtorEq, Int.reduceBEq, Int.reduceBNe, @callV_spec E22 50 sTween rfl, @callV_specT E22 50 sTween rfl, @stepV_spec E22 50 sTween rfl, @effV_spec E22 50 sTween rfl, sTween, @callV_spec E22 63 sIsNumber rfl, @callV_specT E22 63 sIsNumber rfl, @stepV_spec E22 63 sIsNumber rfl, @effV_spec E22 63 sIsNumber rfl, sIsNumber, @callV_spec E22 61 s61 rfl, @callV_specT E22 61 s61 rfl, @stepV_spec E22 61 s61 rfl, @effV_spec E22 61 s61 rfl, s61, encR, callSpec, hr, w1, askM_no hk, hk, hq, hqq]
    | true =>
      have hi : (0 ≤ i ∧ i < (l.length : Int)) ∧ 0 ≤ o ∧ o < (l.length : Int) := by
        have := hqq; rw [← hq] at this; simp only [Bool.and_eq_true, decide_eq_true_eq] at this; omega
      have hG := rack_good hk
      simp only [go_sem, Nat.reduceAdd, Nat.reduceSub, Nat.reduceMul, Nat.reduceEqDiff, Nat.reduceLT, Nat.reduceLeDiff, Nat.reduceBEq, Nat.reduceBNe, Int.reduceToNat, Int.reduceLE, Int.reduceLT, Int.reduceNe, Int.reduceNeg, reduceCtorEq, Int.reduceBEq, Int.reduceBNe, @callV_spec E22 50 sTween rfl, @callV_specT E22 50 sTween rfl, @stepV_spec E22 50 sTween rfl, @effV_spec E22 50 sTween rfl, sTween, @callV_spec E22 63 sIsNumber rfl, @callV_specT E22 63 sIsNumber rfl, @stepV_spec E22 63 sIsNumber rfl, @effV_spec E22 63 sIsNumber rfl, sIsNumber, @callV_spec E22 61 s61 rfl, @callV_specT E22 61 s61 rfl, @stepV_spec E22 61 s61 rfl, @effV_spec E22 61 s61 rfl, s61, encR, callSpec, hr, w1, askM_yes hk, hk, hq, hqq]
      obtain ⟨j, rfl⟩ := Int.eq_ofNat_of_zero_le hi.1.1
      obtain ⟨m, rfl⟩ := Int.eq_ofNat_of_zero_le hi.2.1
      have hj : j < l.length := by omega
      have hm : m < l.length := by omega
      have hjj : (j : Int) < (l.length : Int) := by omega
      have hmm : (m : Int) < (l.length : Int) := by omega
      have hy : l.getD j default ∈ l := by simp [List.getD_eq_getElem?_getD, hj]
      have hz : l.getD m default ∈ l := by simp [List.getD_eq_getElem?_getD, hm]
      have hy24 : (l.getD j default).entries.length < 4611686018427387904 := Nat.lt_of_le_of_lt (hG.sane.2.1 _ hy) (by omega)
      have hz24 : (l.getD m default).entries.length < 4611686018427387904 := Nat.lt_of_le_of_lt (hG.sane.2.1 _ hz) (by omega)
      have ha : entAt ⟨g, l⟩ j n = entNo n (l.getD j default).entries := by unfold entAt; rw [if_pos hi.1]; rfl
      rw [ha]
      simp only [show ((m : Int)).toNat = m from rfl]
      generalize hyy : l.getD j default = y at *
      generalize hzz : l.getD m default = z at *
      simp only [go_sem, Nat.reduceAdd, Nat.reduceSub, Nat.reduceMul, Nat.reduceEqDiff, Nat.reduceLT, Nat.reduceLeDiff, Nat.reduceBEq, Nat.reduceBNe, Int.reduceToNat, Int.reduceLE, Int.reduceLT, Int.reduceNe, Int.reduceNeg, reduceCtorEq, Int.reduceBEq, Int.reduceBNe, @callV_spec E22 65 sAt rfl, @callV_specT E22 65 sAt rfl, @stepV_spec E22 65 sAt rfl, @effV_spec E22 65 sAt rfl, sAt, callSpec, hjj, getD_mapN encI l j _ hj, hyy, encI, hy24]
      unfold entNo
      rcases findI_find (fun e => e.number == n) y.entries 0 with ⟨e1, e2⟩ | ⟨k, hk', e1, e2⟩
      · simp only [go_sem, Nat.reduceAdd, Nat.reduceSub, Nat.reduceMul, Nat.reduceEqDiff, Nat.reduceLT, Nat.reduceLeDiff, Nat.reduceBEq, Nat.reduceBNe, Int.reduceToNat, Int.reduceLE, Int.reduceLT, Int.reduceNe, Int.reduceNeg, reduceCtorEq, Int.reduceBEq, Int.reduceBNe, e1, e2]
      · rw [Nat.zero_add] at e2
        have hkk : (k : Int) < (y.entries.length : Int) := by omega
        have hk0 : ¬ ((k : Int) < 0) := by omega
        generalize hee : y.entries.getD k default = e at *
        simp only [go_sem, Nat.reduceAdd, Nat.reduceSub, Nat.reduceMul, Nat.reduceEqDiff, Nat.reduceLT, Nat.reduceLeDiff, Nat.reduceBEq, Nat.reduceBNe, Int.reduceToNat, Int.reduceLE, Int.reduceLT, Int.reduceNe, Int.reduceNeg, reduceCtorEq, Int.reduceBEq, Int.reduceBNe, @callV_spec E22 74 sOf rfl, @callV_specT E22 74 sOf rfl, @stepV_spec E22 74 sOf rfl, @effV_spec E22 74 sOf rfl, sOf, callSpec, e1, e2, hk0, hkk, hjj, hmm, getD_mapN encI l j _ hj, getD_mapN encI l m _ hm, hyy, hzz, encI, getD_mapN encE y.entries k _ hk', hee, encE, hz24]
        have hof := findI_find (fun x => x.good == e.good) z.entries 0
        rw [← entryOf_find] at hof
        rcases hof with ⟨q1, q2⟩ | ⟨p, hp, q1, q2⟩
        · simp only [go_sem, Nat.reduceAdd, Nat.reduceSub, Nat.reduceMul, Nat.reduceEqDiff, Nat.reduceLT, Nat.reduceLeDiff, Nat.reduceBEq, Nat.reduceBNe, Int.reduceToNat, Int.reduceLE, Int.reduceLT, Int.reduceNe, Int.reduceNeg, reduceCtorEq, Int.reduceBEq, Int.reduceBNe, q1, q2]
        · rw [Nat.zero_add] at q2
          have hpp : (p : Int) < (z.entries.length : Int) := by omega
          have hp0 : ¬ ((p : Int) < 0) := by omega
          generalize hxx : z.entries.getD p default = x at *
          simp only [go_sem, Nat.reduceAdd, Nat.reduceSub, Nat.reduceMul, Nat.reduceEqDiff, Nat.reduceLT, Nat.reduceLeDiff, Nat.reduceBEq, Nat.reduceBNe, Int.reduceToNat, Int.reduceLE, Int.reduceLT, Int.reduceNe, Int.reduceNeg, reduceCtorEq, Int.reduceBEq, Int.reduceBNe, q1, q2, hp0, hpp, hmm, getD_mapN encI l m _ hm, hzz, encI, getD_mapN encE z.entries p _ hp, hxx, encE]
theorem s23_ok : SpecOK Tryd.prog glB 23 s22 := spec4_ok E22_ok Tryd.func23 rfl (by kernel_rfl) fun r i n j h => refNumber_fn r h i n j
-- f18 Means
theorem both_ovl {d : Int × Int} {y : Issue} (hf : y.lo ≤ y.hi) (hd : d.1 ≤ d.2) : decide ((if d.1 > y.lo then d.1 else y.lo) ≤ (if d.2 < y.hi then d.2 else y.hi)) = ovl 0 d.1 d.2 y := by
  show _ = (decide (y.lo ≤ d.2) && decide (d.1 ≤ y.hi))
  rw [Bool.eq_iff_iff]
  simp only [decide_eq_true_eq, Bool.and_eq_true]
  split <;> split <;> omega
theorem refMeans_fn (r : Rack) (hr : okRack r) (d : Int × Int) (n : Int) : Fn E22 0 18 Tryd.f18 (Tryd.f18.body.getD .skip) [.agg (encR r), .agg [.int .i64 d.1, .int .i64 d.2], .int .i64 n] (.tup [.sl (ml (meansM r d n).1) false, .int .i64 (meansM r d n).2]) := by
  obtain ⟨g, l⟩ := r
  unfold Fn Tryd.f18 meansM
  cases hk : rackOk ⟨g, l⟩ with
  | false => simp only [go_sem, Nat.reduceAdd, Nat.reduceSub, Nat.reduceMul, Nat.reduceEqDiff, Nat.reduceLT, Nat.reduceLeDiff, Nat.reduceBEq, Nat.reduceBNe, Int.reduceToNat, Int.reduceLE, Int.reduceLT, Int.reduceNe, Int.reduceNeg, reduceCtorEq, Int.reduceBEq, Int.reduceBNe, @callV_spec E22 62 sIsDays rfl, @callV_specT E22 62 sIsDays rfl, @stepV_spec E22 62 sIsDays rfl, @effV_spec E22 62 sIsDays rfl, sIsDays, @callV_spec E22 63 sIsNumber rfl, @callV_specT E22 63 sIsNumber rfl, @stepV_spec E22 63 sIsNumber rfl, @effV_spec E22 63 sIsNumber rfl, sIsNumber, @callV_spec E22 61 s61 rfl, @callV_specT E22 61 s61 rfl, @stepV_spec E22 61 s61 rfl, @effV_spec E22 61 s61 rfl, s61, encR, callSpec, hr, askM_bad hk, hk, ml_nil]
  | true =>
    have hq : (decide (0 ≤ d.1) && decide (d.1 ≤ d.2) && decide (d.2 ≤ 20000) && (decide (1 ≤ n) && decide (n ≤ 9999))) = qMeans d n ⟨g, l⟩ := rfl
    cases hqq : qMeans d n ⟨g, l⟩ with
    | false => simp only [go_sem, Nat.reduceAdd, Nat.reduceSub, Nat.reduceMul, Nat.reduceEqDiff, Nat.reduceLT, Nat.reduceLeDiff, Nat.reduceBEq, Nat.reduceBNe, Int.reduceToNat, Int.reduceLE, Int.reduceLT, Int.reduceNe, Int.reduceNeg, reduceCtorEq, Int.reduceBEq, Int.reduceBNe, @callV_spec E22 62 sIsDays rfl, @callV_specT E22 62 sIsDays rfl, @stepV_spec E22 62 sIsDays rfl, @effV_spec E22 62 sIsDays rfl, sIsDays, @callV_spec E22 63 sIsNumber rfl, @callV_specT E22 63 sIsNumber rfl, @stepV_spec E22 63 sIsNumber rfl, @effV_spec E22 63 sIsNumber rfl, sIsNumber, @callV_spec E22 61 s61 rfl, @callV_specT E22 61 s61 rfl, @stepV_spec E22 61 s61 rfl, @effV_spec E22 61 s61 rfl, s61, encR, callSpec, hr, askM_no hk, hk, hq, hqq, ml_nil]
    | true =>
      have hG := rack_good hk
      have hl4 : l.length ≤ 4 := hG.len.2
      have hdd : d.1 ≤ d.2 := by have := hqq; rw [← hq] at this; simp only [Bool.and_eq_true, decide_eq_true_eq] at this; omega
      simp only [go_sem, Nat.reduceAdd, Nat.reduceSub, Nat.reduceMul, Nat.reduceEqDiff, Nat.reduceLT, Nat.reduceLeDiff, Nat.reduceBEq, Nat.reduceBNe, Int.reduceToNat, Int.reduceLE, Int.reduceLT, Int.reduceNe, Int.reduceNeg, reduceCtorEq, Int.reduceBEq, Int.reduceBNe, @callV_spec E22 62 sIsDays rfl, @callV_specT E22 62 sIsDays rfl, @stepV_spec E22 62 sIsDays rfl, @effV_spec E22 62 sIsDays rfl, sIsDays, @callV_spec E22 63 sIsNumber rfl, @callV_specT E22 63 sIsNumber rfl, @stepV_spec E22 63 sIsNumber rfl, @effV_spec E22 63 sIsNumber rfl, sIsNumber, @callV_spec E22 61 s61 rfl, @callV_specT E22 61 s61 rfl, @stepV_spec E22 61 s61 rfl, @effV_spec E22 61 s61 rfl, s61, encR, callSpec, hr, askM_yes hk, hk, hq, hqq]
      refine ev_loopS [2, 3, 4] (fun x : Nat × PV => [(9, x.2), (10, .int .i64 x.1)])
        (fun x H => x.1 ≤ l.length ∧ H (([], 18000000) : Key) = some (.cells [.int .i64 g, .sl (l.map encI) false] 1 false) ∧ H (([], 18000001) : Key) = some (.cells [.int .i64 d.1, .int .i64 d.2] 1 false) ∧ Own H (fun K => K = ([], 18012010)) x.2 2 (ml (meansL ⟨g, l⟩ d n x.1)))
        (fun x => l.length - x.1) (0, .sl [] true) ?_ ⟨Nat.zero_le _, ?_, ?_, .inl ⟨rfl, rfl⟩⟩ ?_
      · simp only [go_sem, Nat.reduceAdd, Nat.reduceSub, Nat.reduceMul, Nat.reduceEqDiff, Nat.reduceLT, Nat.reduceLeDiff, Nat.reduceBEq, Nat.reduceBNe, Int.reduceToNat, Int.reduceLE, Int.reduceLT, Int.reduceNe, Int.reduceNeg, reduceCtorEq, Int.reduceBEq, Int.reduceBNe]
      · simp only [go_sem, Nat.reduceAdd, Nat.reduceSub, Nat.reduceMul, Nat.reduceEqDiff, Nat.reduceLT, Nat.reduceLeDiff, Nat.reduceBEq, Nat.reduceBNe, Int.reduceToNat, Int.reduceLE, Int.reduceLT, Int.reduceNe, Int.reduceNeg, reduceCtorEq, Int.reduceBEq, Int.reduceBNe]
      · simp only [go_sem, Nat.reduceAdd, Nat.reduceSub, Nat.reduceMul, Nat.reduceEqDiff, Nat.reduceLT, Nat.reduceLeDiff, Nat.reduceBEq, Nat.reduceBNe, Int.reduceToNat, Int.reduceLE, Int.reduceLT, Int.reduceNe, Int.reduceNeg, reduceCtorEq, Int.reduceBEq, Int.reduceBNe]
      · simp only [go_sem, Nat.reduceAdd, Nat.reduceSub, Nat.reduceMul, Nat.reduceEqDiff, Nat.reduceLT, Nat.reduceLeDiff, Nat.reduceBEq, Nat.reduceBNe, Int.reduceToNat, Int.reduceLE, Int.reduceLT, Int.reduceNe, Int.reduceNeg, reduceCtorEq, Int.reduceBEq, Int.reduceBNe]
        intro K x H ⟨hj, g1, g2, g4⟩ hK hE
        obtain ⟨j, p⟩ := x
        simp only at hj g4
        dsimp only
        simp only [go_sem, Nat.reduceAdd, Nat.reduceSub, Nat.reduceMul, Nat.reduceEqDiff, Nat.reduceLT, Nat.reduceLeDiff, Nat.reduceBEq, Nat.reduceBNe, Int.reduceToNat, Int.reduceLE, Int.reduceLT, Int.reduceNe, Int.reduceNeg, reduceCtorEq, Int.reduceBEq, Int.reduceBNe, g1]
        rw [condK_bool]
        refine ⟨fun h => ?_, fun h => ?_⟩
        · have hj' : j < l.length := by simpa using h
          have hjj : (j : Int) < (l.length : Int) := by omega
          have w2 : IntKind.i64.wrap ((j : Int) + 1) = (j : Int) + 1 := wrap_id (by omega)
          have hsu := meansL_succ ⟨g, l⟩ d n j
          have hln := meansL_len ⟨g, l⟩ d n j
          have hy : l.getD j default ∈ l := by simp [List.getD_eq_getElem?_getD, hj']
          have hy24 : (l.getD j default).entries.length < 4611686018427387904 := Nat.lt_of_le_of_lt (hG.sane.2.1 _ hy) (by omega)
          have ha : entAt ⟨g, l⟩ j n = entNo n (l.getD j default).entries := by unfold entAt; rw [if_pos ⟨by omega, hjj⟩]; rfl
          have hb := both_ovl (d := d) (hG.issues _ hy).days.2.1 hdd
          have hmo : meanOf ⟨g, l⟩ d n j = if ovl 0 d.1 d.2 (l.getD j default) then (entNo n (l.getD j default).entries).map (fun e => ((j : Int), e.good)) else none := by rw [← ha]; rfl
          rw [hmo] at hsu
          generalize hyy : l.getD j default = y at *
          unfold entNo at hsu
          simp only [go_sem, Nat.reduceAdd, Nat.reduceSub, Nat.reduceMul, Nat.reduceEqDiff, Nat.reduceLT, Nat.reduceLeDiff, Nat.reduceBEq, Nat.reduceBNe, Int.reduceToNat, Int.reduceLE, Int.reduceLT, Int.reduceNe, Int.reduceNeg, reduceCtorEq, Int.reduceBEq, Int.reduceBNe, @callV_spec E22 64 sCommon rfl, @callV_specT E22 64 sCommon rfl, @stepV_spec E22 64 sCommon rfl, @effV_spec E22 64 sCommon rfl, sCommon, @callV_spec E22 65 sAt rfl, @callV_specT E22 65 sAt rfl, @stepV_spec E22 65 sAt rfl, @effV_spec E22 65 sAt rfl, sAt, callSpec, g1, g2, hjj, getD_mapN encI l j _ hj', hyy, encI, hy24, hb]
          have hm1 : ((-1 : Int) ≥ 0) = False := by simp
          cases hov : ovl 0 d.1 d.2 y with
          | false =>
            rw [hov] at hsu
            simp only [if_false, Bool.false_eq_true, Option.toList, List.append_nil] at hsu
            simp only [go_sem, Nat.reduceAdd, Nat.reduceSub, Nat.reduceMul, Nat.reduceEqDiff, Nat.reduceLT, Nat.reduceLeDiff, Nat.reduceBEq, Nat.reduceBNe, Int.reduceToNat, Int.reduceLE, Int.reduceLT, Int.reduceNe, Int.reduceNeg, reduceCtorEq, Int.reduceBEq, Int.reduceBNe]
            refine hK (j + 1, p) _ _ ?_ ⟨hj', ?_, ?_, ?_⟩ (by simp only; omega)
            · simp only [go_sem, Nat.reduceAdd, Nat.reduceSub, Nat.reduceMul, Nat.reduceEqDiff, Nat.reduceLT, Nat.reduceLeDiff, Nat.reduceBEq, Nat.reduceBNe, Int.reduceToNat, Int.reduceLE, Int.reduceLT, Int.reduceNe, Int.reduceNeg, reduceCtorEq, Int.reduceBEq, Int.reduceBNe, w2, Int.natCast_add, Int.natCast_one]
            · simp only [go_sem, Nat.reduceAdd, Nat.reduceSub, Nat.reduceMul, Nat.reduceEqDiff, Nat.reduceLT, Nat.reduceLeDiff, Nat.reduceBEq, Nat.reduceBNe, Int.reduceToNat, Int.reduceLE, Int.reduceLT, Int.reduceNe, Int.reduceNeg, reduceCtorEq, Int.reduceBEq, Int.reduceBNe, g1]
            · simp only [go_sem, Nat.reduceAdd, Nat.reduceSub, Nat.reduceMul, Nat.reduceEqDiff, Nat.reduceLT, Nat.reduceLeDiff, Nat.reduceBEq, Nat.reduceBNe, Int.reduceToNat, Int.reduceLE, Int.reduceLT, Int.reduceNe, Int.reduceNeg, reduceCtorEq, Int.reduceBEq, Int.reduceBNe, g2]
            · rw [hsu]
              refine Own.frame (H := H) (by simpa using g4) fun K hK => ?_
              subst hK
              simp only [go_sem, Nat.reduceAdd, Nat.reduceSub, Nat.reduceMul, Nat.reduceEqDiff, Nat.reduceLT, Nat.reduceLeDiff, Nat.reduceBEq, Nat.reduceBNe, Int.reduceToNat, Int.reduceLE, Int.reduceLT, Int.reduceNe, Int.reduceNeg, reduceCtorEq, Int.reduceBEq, Int.reduceBNe]
          | true =>
            rw [hov] at hsu
            simp only [if_true] at hsu
            rcases findI_find (fun e => e.number == n) y.entries 0 with ⟨e1, e2⟩ | ⟨k, hk', e1, e2⟩
            · rw [e1] at hsu
              simp only [Option.map, Option.toList, List.append_nil] at hsu
              simp only [go_sem, Nat.reduceAdd, Nat.reduceSub, Nat.reduceMul, Nat.reduceEqDiff, Nat.reduceLT, Nat.reduceLeDiff, Nat.reduceBEq, Nat.reduceBNe, Int.reduceToNat, Int.reduceLE, Int.reduceLT, Int.reduceNe, Int.reduceNeg, reduceCtorEq, Int.reduceBEq, Int.reduceBNe, e2, hm1]
              refine hK (j + 1, p) _ _ ?_ ⟨hj', ?_, ?_, ?_⟩ (by simp only; omega)
              · simp only [go_sem, Nat.reduceAdd, Nat.reduceSub, Nat.reduceMul, Nat.reduceEqDiff, Nat.reduceLT, Nat.reduceLeDiff, Nat.reduceBEq, Nat.reduceBNe, Int.reduceToNat, Int.reduceLE, Int.reduceLT, Int.reduceNe, Int.reduceNeg, reduceCtorEq, Int.reduceBEq, Int.reduceBNe, w2, Int.natCast_add, Int.natCast_one]
              · simp only [go_sem, Nat.reduceAdd, Nat.reduceSub, Nat.reduceMul, Nat.reduceEqDiff, Nat.reduceLT, Nat.reduceLeDiff, Nat.reduceBEq, Nat.reduceBNe, Int.reduceToNat, Int.reduceLE, Int.reduceLT, Int.reduceNe, Int.reduceNeg, reduceCtorEq, Int.reduceBEq, Int.reduceBNe, g1]
              · simp only [go_sem, Nat.reduceAdd, Nat.reduceSub, Nat.reduceMul, Nat.reduceEqDiff, Nat.reduceLT, Nat.reduceLeDiff, Nat.reduceBEq, Nat.reduceBNe, Int.reduceToNat, Int.reduceLE, Int.reduceLT, Int.reduceNe, Int.reduceNeg, reduceCtorEq, Int.reduceBEq, Int.reduceBNe, g2]
              · rw [hsu]
                refine Own.frame (H := H) (by simpa using g4) fun K hK => ?_
                subst hK
                simp only [go_sem, Nat.reduceAdd, Nat.reduceSub, Nat.reduceMul, Nat.reduceEqDiff, Nat.reduceLT, Nat.reduceLeDiff, Nat.reduceBEq, Nat.reduceBNe, Int.reduceToNat, Int.reduceLE, Int.reduceLT, Int.reduceNe, Int.reduceNeg, reduceCtorEq, Int.reduceBEq, Int.reduceBNe]
            · rw [e1] at hsu
              simp only [Option.map, Option.toList] at hsu
              rw [Nat.zero_add] at e2
              have hkk : (k : Int) < (y.entries.length : Int) := by omega
              have q0 : (0 : Int) ≤ (k : Int) := by omega
              generalize hee : y.entries.getD k default = e at *
              have hil : ml (meansL ⟨g, l⟩ d n (j + 1)) = ml (meansL ⟨g, l⟩ d n j) ++ [[.int .i64 j, .int .i64 e.good]] := by rw [hsu, ml_append]; rfl
              rcases g4 with ⟨q1, rfl⟩ | ⟨K2, v, rfl, rfl, g5⟩
              · simp only [go_sem, Nat.reduceAdd, Nat.reduceSub, Nat.reduceMul, Nat.reduceEqDiff, Nat.reduceLT, Nat.reduceLeDiff, Nat.reduceBEq, Nat.reduceBNe, Int.reduceToNat, Int.reduceLE, Int.reduceLT, Int.reduceNe, Int.reduceNeg, reduceCtorEq, Int.reduceBEq, Int.reduceBNe, ge_iff_le, q0, e2, g1, g2, hkk, getD_mapN encE y.entries k _ hk', hee, encE, app, rowsOf, List.not_mem_nil, cells1, cellP, List.mem_singleton, forall_eq]
                refine hK (j + 1, .sref ([], 18012010) (verOf H ([], 18012010) + 1) 2 1 false) _ _ ?_ ⟨hj', ?_, ?_, .inr ⟨_, verOf H ([], 18012010) + 1, rfl, ?_, ?_⟩⟩ (by simp only; omega)
                · simp only [go_sem, Nat.reduceAdd, Nat.reduceSub, Nat.reduceMul, Nat.reduceEqDiff, Nat.reduceLT, Nat.reduceLeDiff, Nat.reduceBEq, Nat.reduceBNe, Int.reduceToNat, Int.reduceLE, Int.reduceLT, Int.reduceNe, Int.reduceNeg, reduceCtorEq, Int.reduceBEq, Int.reduceBNe, w2, Int.natCast_add, Int.natCast_one]
                · simp only [go_sem, Nat.reduceAdd, Nat.reduceSub, Nat.reduceMul, Nat.reduceEqDiff, Nat.reduceLT, Nat.reduceLeDiff, Nat.reduceBEq, Nat.reduceBNe, Int.reduceToNat, Int.reduceLE, Int.reduceLT, Int.reduceNe, Int.reduceNeg, reduceCtorEq, Int.reduceBEq, Int.reduceBNe, g1]
                · simp only [go_sem, Nat.reduceAdd, Nat.reduceSub, Nat.reduceMul, Nat.reduceEqDiff, Nat.reduceLT, Nat.reduceLeDiff, Nat.reduceBEq, Nat.reduceBNe, Int.reduceToNat, Int.reduceLE, Int.reduceLT, Int.reduceNe, Int.reduceNeg, reduceCtorEq, Int.reduceBEq, Int.reduceBNe, g2]
                · rw [hil, q1]; rfl
                · rw [hil, q1]; simp only [go_sem, Nat.reduceAdd, Nat.reduceSub, Nat.reduceMul, Nat.reduceEqDiff, Nat.reduceLT, Nat.reduceLeDiff, Nat.reduceBEq, Nat.reduceBNe, Int.reduceToNat, Int.reduceLE, Int.reduceLT, Int.reduceNe, Int.reduceNeg, reduceCtorEq, Int.reduceBEq, Int.reduceBNe]
              · simp only [go_sem, Nat.reduceAdd, Nat.reduceSub, Nat.reduceMul, Nat.reduceEqDiff, Nat.reduceLT, Nat.reduceLeDiff, Nat.reduceBEq, Nat.reduceBNe, Int.reduceToNat, Int.reduceLE, Int.reduceLT, Int.reduceNe, Int.reduceNeg, reduceCtorEq, Int.reduceBEq, Int.reduceBNe, ge_iff_le, q0, e2, g1, g2, g5, hkk, getD_mapN encE y.entries k _ hk', hee, encE, app, rowsOf, List.not_mem_nil, cells1, cellP, List.mem_singleton, forall_eq, ml_length]
                refine ⟨by omega, hK (j + 1, .sref ([], 18012010) (v + 1) 2 ((meansL ⟨g, l⟩ d n j).length + 1) false) _ _ ?_ ⟨hj', ?_, ?_, .inr ⟨_, v + 1, rfl, ?_, ?_⟩⟩ (by simp only; omega)⟩
                · simp only [go_sem, Nat.reduceAdd, Nat.reduceSub, Nat.reduceMul, Nat.reduceEqDiff, Nat.reduceLT, Nat.reduceLeDiff, Nat.reduceBEq, Nat.reduceBNe, Int.reduceToNat, Int.reduceLE, Int.reduceLT, Int.reduceNe, Int.reduceNeg, reduceCtorEq, Int.reduceBEq, Int.reduceBNe, w2, Int.natCast_add, Int.natCast_one]
                · simp only [go_sem, Nat.reduceAdd, Nat.reduceSub, Nat.reduceMul, Nat.reduceEqDiff, Nat.reduceLT, Nat.reduceLeDiff, Nat.reduceBEq, Nat.reduceBNe, Int.reduceToNat, Int.reduceLE, Int.reduceLT, Int.reduceNe, Int.reduceNeg, reduceCtorEq, Int.reduceBEq, Int.reduceBNe, g1]
                · simp only [go_sem, Nat.reduceAdd, Nat.reduceSub, Nat.reduceMul, Nat.reduceEqDiff, Nat.reduceLT, Nat.reduceLeDiff, Nat.reduceBEq, Nat.reduceBNe, Int.reduceToNat, Int.reduceLE, Int.reduceLT, Int.reduceNe, Int.reduceNeg, reduceCtorEq, Int.reduceBEq, Int.reduceBNe, g2]
                · rw [hil]; simp [ml_length]
                · rw [hil]; simp only [go_sem, Nat.reduceAdd, Nat.reduceSub, Nat.reduceMul, Nat.reduceEqDiff, Nat.reduceLT, Nat.reduceLeDiff, Nat.reduceBEq, Nat.reduceBNe, Int.reduceToNat, Int.reduceLE, Int.reduceLT, Int.reduceNe, Int.reduceNeg, reduceCtorEq, Int.reduceBEq, Int.reduceBNe]
        · have hj' : j = l.length := by have : ¬ ((j : Int) < (l.length : Int)) := by simpa using h
                                        omega
          subst hj'
          refine hE _ _ _ (by simp) ?_
          generalize meansL ⟨g, l⟩ d n l.length = acc at *
          rcases g4 with ⟨e1, rfl⟩ | ⟨K2, v, rfl, rfl, g5⟩
          · simp only [go_sem, Nat.reduceAdd, Nat.reduceSub, Nat.reduceMul, Nat.reduceEqDiff, Nat.reduceLT, Nat.reduceLeDiff, Nat.reduceBEq, Nat.reduceBNe, Int.reduceToNat, Int.reduceLE, Int.reduceLT, Int.reduceNe, Int.reduceNeg, reduceCtorEq, Int.reduceBEq, Int.reduceBNe, e1]
          · simp only [go_sem, Nat.reduceAdd, Nat.reduceSub, Nat.reduceMul, Nat.reduceEqDiff, Nat.reduceLT, Nat.reduceLeDiff, Nat.reduceBEq, Nat.reduceBNe, Int.reduceToNat, Int.reduceLE, Int.reduceLT, Int.reduceNe, Int.reduceNeg, reduceCtorEq, Int.reduceBEq, Int.reduceBNe, g5, ml_length]
def s18 : Spec := spec3 (fun (r : Rack) (_ : Int × Int) (_ : Int) => okRack r) (fun r d n => .tup [.sl (ml (meansM r d n).1) false, .int .i64 (meansM r d n).2])
theorem s18_ok : SpecOK Tryd.prog glB 18 s18 := spec3_ok E22_ok Tryd.func18 rfl (by kernel_rfl) fun r d n h => refMeans_fn r h d n
-- f19 SameMeant
def encM (a : Int × Int) : List PV := [.int .i64 a.1, .int .i64 a.2]
theorem same_drop {a b : List (Int × Int)} {i : Nat} (ha : i < a.length) (hb : i < b.length) : (a.drop i == b.drop i) = ((a.getD i default == b.getD i default) && (a.drop (i + 1) == b.drop (i + 1))) := by
  have e1 : a.getD i default = a[i] := by simp [ha]
  have e2 : b.getD i default = b[i] := by simp [hb]
  rw [e1, e2, List.drop_eq_getElem_cons ha, List.drop_eq_getElem_cons hb]; rfl
theorem SameMeant_fn (a b : List (Int × Int)) (ha : big a.length) (hb : big b.length) : Fn E22 0 19 Tryd.f19 (Tryd.f19.body.getD .skip) [.sl (a.map encM) false, .sl (b.map encM) false] (.bool (a == b)) := by
  have ha' : a.length < 4611686018427387904 := ha
  unfold Fn Tryd.f19
  simp only [go_sem, Nat.reduceAdd, Nat.reduceSub, Nat.reduceMul, Nat.reduceEqDiff, Nat.reduceLT, Nat.reduceLeDiff, Nat.reduceBEq, Nat.reduceBNe, Int.reduceToNat, Int.reduceLE, Int.reduceLT, Int.reduceNe, Int.reduceNeg, reduceCtorEq, Int.reduceBEq, Int.reduceBNe]
  refine ev_loopS [0, 1] (fun x : Nat × Bool => [(5, .bool x.2), (6, .int .i64 x.1)])
    (fun x H => x.1 ≤ a.length ∧ (x.2 = true → a.length = b.length) ∧ (a == b) = (x.2 && (a.drop x.1 == b.drop x.1)))
    (fun x => a.length - x.1) (0, ((a.length : Int) == (b.length : Int))) ?_ ⟨Nat.zero_le _, ?_, ?_⟩ ?_
  · simp only [go_sem, Nat.reduceAdd, Nat.reduceSub, Nat.reduceMul, Nat.reduceEqDiff, Nat.reduceLT, Nat.reduceLeDiff, Nat.reduceBEq, Nat.reduceBNe, Int.reduceToNat, Int.reduceLE, Int.reduceLT, Int.reduceNe, Int.reduceNeg, reduceCtorEq, Int.reduceBEq, Int.reduceBNe]
  · intro h; have : (a.length : Int) = (b.length : Int) := by simpa using h
    omega
  · simp only [List.drop_zero]
    by_cases h : a.length = b.length
    · simp [h]
    · have : ¬ a = b := fun e => h (by rw [e])
      have h2 : ¬ ((a.length : Int) = (b.length : Int)) := by omega
      simp [h2, this]
  · simp only [go_sem, Nat.reduceAdd, Nat.reduceSub, Nat.reduceMul, Nat.reduceEqDiff, Nat.reduceLT, Nat.reduceLeDiff, Nat.reduceBEq, Nat.reduceBNe, Int.reduceToNat, Int.reduceLE, Int.reduceLT, Int.reduceNe, Int.reduceNeg, reduceCtorEq, Int.reduceBEq, Int.reduceBNe]
    intro K x H ⟨hi, hlen, hf⟩ hK hE
    obtain ⟨i, ok⟩ := x
    simp only at hi hlen hf
    dsimp only
    rw [condK_bool]
    refine ⟨fun h => ?_, fun h => ?_⟩
    · obtain ⟨hok, h''⟩ : ok = true ∧ (i : Int) < (a.length : Int) := by simpa using h
      subst hok
      have hl := hlen rfl
      have h' : i < a.length := by omega
      have hb' : i < b.length := by omega
      have hbb : (i : Int) < (b.length : Int) := by omega
      have w2 : IntKind.i64.wrap ((i : Int) + 1) = (i : Int) + 1 := wrap_id (by omega)
      rw [same_drop h' hb', Bool.true_and] at hf
      generalize hxx : a.getD i default = x at *
      generalize hyy : b.getD i default = y at *
      simp only [go_sem, Nat.reduceAdd, Nat.reduceSub, Nat.reduceMul, Nat.reduceEqDiff, Nat.reduceLT, Nat.reduceLeDiff, Nat.reduceBEq, Nat.reduceBNe, Int.reduceToNat, Int.reduceLE, Int.reduceLT, Int.reduceNe, Int.reduceNeg, reduceCtorEq, Int.reduceBEq, Int.reduceBNe, h'', hbb, getD_mapN encM a i _ h', getD_mapN encM b i _ hb', hxx, hyy, encM]
      refine hK (i + 1, x == y) _ _ ?_ ⟨h', fun _ => hl, hf⟩ (by simp only; omega)
      · simp only [go_sem, Nat.reduceAdd, Nat.reduceSub, Nat.reduceMul, Nat.reduceEqDiff, Nat.reduceLT, Nat.reduceLeDiff, Nat.reduceBEq, Nat.reduceBNe, Int.reduceToNat, Int.reduceLE, Int.reduceLT, Int.reduceNe, Int.reduceNeg, reduceCtorEq, Int.reduceBEq, Int.reduceBNe, w2, Int.natCast_add, Int.natCast_one]; try rfl
    · refine hE _ _ _ (by simp) ?_
      simp only [go_sem, Nat.reduceAdd, Nat.reduceSub, Nat.reduceMul, Nat.reduceEqDiff, Nat.reduceLT, Nat.reduceLeDiff, Nat.reduceBEq, Nat.reduceBNe, Int.reduceToNat, Int.reduceLE, Int.reduceLT, Int.reduceNe, Int.reduceNeg, reduceCtorEq, Int.reduceBEq, Int.reduceBNe]
      cases ok with
      | false => simp only [Bool.false_and] at hf; simp only [go_sem, Nat.reduceAdd, Nat.reduceSub, Nat.reduceMul, Nat.reduceEqDiff, Nat.reduceLT, Nat.reduceLeDiff, Nat.reduceBEq, Nat.reduceBNe, Int.reduceToNat, Int.reduceLE, Int.reduceLT, Int.reduceNe, Int.reduceNeg, reduceCtorEq, Int.reduceBEq, Int.reduceBNe, hf]
      | true =>
        have hl := hlen rfl
        have h' : i = a.length := by have : ¬ ((i : Int) < (a.length : Int)) := by simpa using h
                                     omega
        subst h'
        have e : (a.drop a.length == b.drop a.length) = true := by rw [hl]; simp [hl ▸ List.drop_length]
        rw [e] at hf
        simp only [go_sem, Nat.reduceAdd, Nat.reduceSub, Nat.reduceMul, Nat.reduceEqDiff, Nat.reduceLT, Nat.reduceLeDiff, Nat.reduceBEq, Nat.reduceBNe, Int.reduceToNat, Int.reduceLE, Int.reduceLT, Int.reduceNe, Int.reduceNeg, reduceCtorEq, Int.reduceBEq, Int.reduceBNe, hf, Bool.and_true]
def s19 : Spec := spec2 (fun (a b : List (Int × Int)) => big a.length ∧ big b.length) (fun a b => .bool (a == b))
theorem s19_ok : SpecOK Tryd.prog glB 19 s19 := spec2_ok E22_ok Tryd.func19 rfl (by kernel_rfl) fun a b h => SameMeant_fn a b h.1 h.2
end Wb
/- The reference: sorted, turns. -/
namespace Wb
open Go Go.Proofs Enc Row
set_option linter.unusedSimpArgs false
set_option linter.unusedVariables false
set_option maxRecDepth 20000
set_option maxHeartbeats 4000000
theorem sortL_perm (l : List Int) : (sortL l).Perm l := List.mergeSort_perm l _
theorem sortL_sorted (l : List Int) : (sortL l).Pairwise (· ≤ ·) := by
  have := List.pairwise_mergeSort (le := fun (x y : Int) => decide (x ≤ y)) (fun a b c => by simp; omega) (fun a b => by simp; omega) l
  exact this.imp fun h => by simpa using h
theorem sortL_strict {l : List Int} (h : l.Nodup) : (sortL l).Pairwise (· < ·) := by
  have h1 := sortL_sorted l
  have h2 : (sortL l).Nodup := (sortL_perm l).nodup_iff.2 h
  exact (h1.and h2).imp fun ⟨a, b⟩ => by omega
def sel1 (out : List Int) (a x : Int) : Int := if decide (x ∉ out) && (decide (a < 0) || decide (x < a)) then x else a
theorem sel_spec (out : List Int) : ∀ (l : List Int) (a : Int), (∀ x ∈ l, 0 ≤ x) → (0 ≤ a → a ∉ out) →
    (l.foldl (sel1 out) a = a ∨ (l.foldl (sel1 out) a ∈ l ∧ l.foldl (sel1 out) a ∉ out)) ∧ (0 ≤ a → l.foldl (sel1 out) a ≤ a ∧ 0 ≤ l.foldl (sel1 out) a) ∧ ∀ x ∈ l, x ∉ out → 0 ≤ l.foldl (sel1 out) a ∧ l.foldl (sel1 out) a ≤ x
  | [], a, _, _ => ⟨.inl rfl, fun h => ⟨by simp, by simpa using h⟩, fun x h => by cases h⟩
  | y :: l, a, h, ha => by
    rw [List.foldl_cons]
    have hy := h y (by simp)
    by_cases hc : y ∉ out ∧ (a < 0 ∨ y < a)
    · have e : sel1 out a y = y := if_pos (by simpa using hc)
      rw [e]
      obtain ⟨h1, h2, h3⟩ := sel_spec out l y (fun x hx => h x (by simp [hx])) fun _ => hc.1
      have h2 := h2 hy
      refine ⟨.inr ?_, fun h0 => ⟨by omega, by omega⟩, fun x hx hxo => ?_⟩
      · rcases h1 with h1 | h1
        · rw [h1]; exact ⟨by simp, hc.1⟩
        · exact ⟨by simp [h1.1], h1.2⟩
      · rcases List.mem_cons.1 hx with rfl | hx
        · exact ⟨h2.2, h2.1⟩
        · exact h3 x hx hxo
    · have e : sel1 out a y = a := if_neg (by simpa using hc)
      rw [e]
      obtain ⟨h1, h2, h3⟩ := sel_spec out l a (fun x hx => h x (by simp [hx])) ha
      refine ⟨?_, h2, fun x hx hxo => ?_⟩
      · rcases h1 with h1 | h1
        · exact .inl h1
        · exact .inr ⟨by simp [h1.1], h1.2⟩
      · rcases List.mem_cons.1 hx with rfl | hx
        · have : ¬ (a < 0 ∨ x < a) := fun q => hc ⟨hxo, q⟩
          have := h2 (by omega)
          omega
        · exact h3 x hx hxo
theorem sel_next {l : List Int} (hn : l.Nodup) (h0 : ∀ x ∈ l, 0 ≤ x) {k : Nat} (hk : k < l.length) : l.foldl (sel1 ((sortL l).take k)) (-1) = (sortL l).getD k 0 := by
  have hp := sortL_perm l
  have hs := sortL_strict hn
  have hks : k < (sortL l).length := by rw [hp.length_eq]; exact hk
  have ev : (sortL l).getD k 0 = (sortL l)[k] := by simp [hks]
  have hsplit : sortL l = (sortL l).take k ++ ((sortL l)[k] :: (sortL l).drop (k + 1)) := by
    rw [← List.drop_eq_getElem_cons hks, List.take_append_drop]
  rw [ev]
  generalize (sortL l)[k] = v at *
  generalize (sortL l).take k = t at *
  generalize (sortL l).drop (k + 1) = u at *
  rw [hsplit] at hs hp
  rw [List.pairwise_append, List.pairwise_cons] at hs
  obtain ⟨_, ⟨s1, _⟩, s2⟩ := hs
  have hv : v ∈ l := hp.mem_iff.1 (by simp)
  have hvt : v ∉ t := fun h => by have := s2 v h v (by simp); omega
  obtain ⟨h1, _, h3⟩ := sel_spec t l (-1) h0 (fun h => by omega)
  have h3 := h3 v hv hvt
  rcases h1 with h1 | ⟨h1, h2⟩
  · rw [h1] at h3; omega
  · have hm := hp.mem_iff.2 h1
    rw [List.mem_append, List.mem_cons] at hm
    rcases hm with hm | hm | hm
    · exact absurd hm h2
    · exact hm
    · have := s1 _ hm; omega
def E23t : List (Nat × Spec) := [(18, s18), (19, s19), (23, s22)] ++ E22t
theorem E23t_ok : AllOK E23t := ⟨⟨s18_ok, Tryd.call18⟩, ⟨s19_ok, Tryd.call19⟩, ⟨s23_ok, Tryd.call23⟩, E22t_ok⟩
noncomputable def E23 : Env := mkE E23t []
theorem E23_ok : EnvOK Tryd.prog E23 := envOK E23t_ok trivial
theorem E23_ti {t : Nat} : E23.ti t = ti t := rfl
theorem E23_q0 : (E23).eqt 152 = true := rfl
theorem E23_q1 : (E23).eqt 69 = true := rfl
theorem E23_q2 : (E23).keyt 3 = true := rfl
theorem E23_q3 : (E23).keyt 108 = true := rfl
attribute [go_sem] E23_ti E23_q0 E23_q1 E23_q2 E23_q3
theorem place_neg (n : Int) (l : List Int) : decide (findI (fun a => a == n) l 0 < 0) = decide (n ∉ l) := by
  rcases findI_find (fun a => a == n) l 0 with ⟨h1, h2⟩ | ⟨j, hj, h1, h2⟩
  · have : n ∉ l := fun h => by have := List.find?_eq_none.1 h1 n h; simp at this
    simp [h2, this]
  · have h3 := List.find?_some h1
    have h4 : l.getD j default = n := by simpa using h3
    have : n ∈ l := by rw [← h4]; simp [List.getD_eq_getElem?_getD, hj]
    have h5 : ¬ (((0 + j : Nat) : Int) < 0) := by omega
    simp [h2, this, h5]
-- f79 sorted
theorem sorted_fn (l : List Int) (hn : l.Nodup) (h0 : ∀ x ∈ l, 0 ≤ x) (hb : l.length ≤ 1000000) : Fn E23 0 79 Tryd.f79 (Tryd.f79.body.getD .skip) [.sl (il l) false] (.sl (il (sortL l)) false) := by
  have hsl : (sortL l).length = l.length := (sortL_perm l).length_eq
  unfold Fn Tryd.f79
  simp only [go_sem, Nat.reduceAdd, Nat.reduceSub, Nat.reduceMul, Nat.reduceEqDiff, Nat.reduceLT, Nat.reduceLeDiff, Nat.reduceBEq, Nat.reduceBNe, Int.reduceToNat, Int.reduceLE, Int.reduceLT, Int.reduceNe, Int.reduceNeg, reduceCtorEq, Int.reduceBEq, Int.reduceBNe]
  refine ev_loopS [0] (fun x : Nat × PV => [(3, x.2)])
    (fun x H => x.1 ≤ l.length ∧ Own H (fun K => K = ([], 79009003)) x.2 1 (il ((sortL l).take x.1)))
    (fun x => l.length - x.1) (0, .sl [] true) ?_ ⟨Nat.zero_le _, .inl ⟨rfl, rfl⟩⟩ ?_
  · simp only [go_sem, Nat.reduceAdd, Nat.reduceSub, Nat.reduceMul, Nat.reduceEqDiff, Nat.reduceLT, Nat.reduceLeDiff, Nat.reduceBEq, Nat.reduceBNe, Int.reduceToNat, Int.reduceLE, Int.reduceLT, Int.reduceNe, Int.reduceNeg, reduceCtorEq, Int.reduceBEq, Int.reduceBNe]
  · intro K x H ⟨hk, g4⟩ hK hE
    obtain ⟨k, p⟩ := x
    simp only at hk g4
    have hlt : ((sortL l).take k).length = k := by rw [List.length_take]; omega
    rcases g4 with ⟨e1, rfl⟩ | ⟨K2, v, rfl, rfl, g5⟩
    · have hL : (il ((sortL l).take k)).length = k := by rw [il_length, hlt]
      have hk0 : k = 0 := by rw [e1] at hL; exact hL.symm
      simp only [go_sem, Nat.reduceAdd, Nat.reduceSub, Nat.reduceMul, Nat.reduceEqDiff, Nat.reduceLT, Nat.reduceLeDiff, Nat.reduceBEq, Nat.reduceBNe, Int.reduceToNat, Int.reduceLE, Int.reduceLT, Int.reduceNe, Int.reduceNeg, reduceCtorEq, Int.reduceBEq, Int.reduceBNe, hL, il_length, hlt]
      rw [condK_bool]
      refine ⟨fun h => ?_, fun h => ?_⟩
      · have h' : k < l.length := by simpa [hk0] using h
        have hsel := sel_next hn h0 h'
        have hil : il ((sortL l).take (k + 1)) = il ((sortL l).take k) ++ [[.int .i64 ((sortL l).getD k 0)]] := by
          have hks : k < (sortL l).length := by omega
          rw [List.take_succ_eq_append_getElem hks, il_append, show (sortL l)[k] = (sortL l).getD k 0 by simp [hks]]; rfl
        rw [← hsel] at hil
        have hbt : ((sortL l).take k).length < 4611686018427387904 := by omega
        generalize (sortL l).take k = t at *
        have ht : t = [] := by cases t with
          | nil => rfl
          | cons x l => simp [il] at e1
        subst ht
        simp only [go_sem, Nat.reduceAdd, Nat.reduceSub, Nat.reduceMul, Nat.reduceEqDiff, Nat.reduceLT, Nat.reduceLeDiff, Nat.reduceBEq, Nat.reduceBNe, Int.reduceToNat, Int.reduceLE, Int.reduceLT, Int.reduceNe, Int.reduceNeg, reduceCtorEq, Int.reduceBEq, Int.reduceBNe]
        refine ev_loopS [0, 3] (fun i : Nat => [(4, .int .i64 ((l.take i).foldl (sel1 []) (-1))), (5, .int .i64 i)])
          (fun i H2 => i ≤ l.length ∧ H2 ([], 79009003) = H ([], 79009003)) (fun i => l.length - i) 0 ?_ ⟨Nat.zero_le _, rfl⟩ ?_
        · simp only [go_sem, Nat.reduceAdd, Nat.reduceSub, Nat.reduceMul, Nat.reduceEqDiff, Nat.reduceLT, Nat.reduceLeDiff, Nat.reduceBEq, Nat.reduceBNe, Int.reduceToNat, Int.reduceLE, Int.reduceLT, Int.reduceNe, Int.reduceNeg, reduceCtorEq, Int.reduceBEq, Int.reduceBNe]; rfl
        · simp only [go_sem, Nat.reduceAdd, Nat.reduceSub, Nat.reduceMul, Nat.reduceEqDiff, Nat.reduceLT, Nat.reduceLeDiff, Nat.reduceBEq, Nat.reduceBNe, Int.reduceToNat, Int.reduceLE, Int.reduceLT, Int.reduceNe, Int.reduceNeg, reduceCtorEq, Int.reduceBEq, Int.reduceBNe, il_length]
          intro K2 i H2 ⟨hi, q2⟩ hK2 hE2
          rw [condK_bool]
          refine ⟨fun h => ?_, fun h => ?_⟩
          · have hi' : i < l.length := by simpa using h
            have hii : (i : Int) < (l.length : Int) := by omega
            have w2 : IntKind.i64.wrap ((i : Int) + 1) = (i : Int) + 1 := wrap_id (by omega)
            have hft := fold_take (sel1 []) (-1) hi'
            rw [show l.getD i default = l.getD i 0 from rfl] at hft
            generalize hxx : l.getD i 0 = x at *
            generalize (l.take i).foldl (sel1 []) (-1) = acc at *
            simp only [go_sem, Nat.reduceAdd, Nat.reduceSub, Nat.reduceMul, Nat.reduceEqDiff, Nat.reduceLT, Nat.reduceLeDiff, Nat.reduceBEq, Nat.reduceBNe, Int.reduceToNat, Int.reduceLE, Int.reduceLT, Int.reduceNe, Int.reduceNeg, reduceCtorEq, Int.reduceBEq, Int.reduceBNe, @callV_spec E23 47 sPlace rfl, @callV_specT E23 47 sPlace rfl, @stepV_spec E23 47 sPlace rfl, @effV_spec E23 47 sPlace rfl, sPlace, callSpec, show dL dZ [] = some [] from rfl, q2, hii, il_length, il_get, hxx, hbt, place_neg]
            rw [condK_bool]
            refine ⟨fun hc => ?_, fun hc => ?_⟩
            · rw [show sel1 [] acc x = x from if_pos (by simpa using hc)] at hft
              simp only [go_sem, Nat.reduceAdd, Nat.reduceSub, Nat.reduceMul, Nat.reduceEqDiff, Nat.reduceLT, Nat.reduceLeDiff, Nat.reduceBEq, Nat.reduceBNe, Int.reduceToNat, Int.reduceLE, Int.reduceLT, Int.reduceNe, Int.reduceNeg, reduceCtorEq, Int.reduceBEq, Int.reduceBNe, hii, il_length, il_get, hxx]
              refine hK2 (i + 1) _ _ ?_ ⟨hi', q2⟩ (by omega)
              simp only [go_sem, Nat.reduceAdd, Nat.reduceSub, Nat.reduceMul, Nat.reduceEqDiff, Nat.reduceLT, Nat.reduceLeDiff, Nat.reduceBEq, Nat.reduceBNe, Int.reduceToNat, Int.reduceLE, Int.reduceLT, Int.reduceNe, Int.reduceNeg, reduceCtorEq, Int.reduceBEq, Int.reduceBNe, w2, Int.natCast_add, Int.natCast_one, hft]
            · rw [show sel1 [] acc x = acc from if_neg (by simpa using hc)] at hft
              simp only [go_sem, Nat.reduceAdd, Nat.reduceSub, Nat.reduceMul, Nat.reduceEqDiff, Nat.reduceLT, Nat.reduceLeDiff, Nat.reduceBEq, Nat.reduceBNe, Int.reduceToNat, Int.reduceLE, Int.reduceLT, Int.reduceNe, Int.reduceNeg, reduceCtorEq, Int.reduceBEq, Int.reduceBNe, hii, il_length, il_get, hxx]
              refine hK2 (i + 1) _ _ ?_ ⟨hi', q2⟩ (by omega)
              simp only [go_sem, Nat.reduceAdd, Nat.reduceSub, Nat.reduceMul, Nat.reduceEqDiff, Nat.reduceLT, Nat.reduceLeDiff, Nat.reduceBEq, Nat.reduceBNe, Int.reduceToNat, Int.reduceLE, Int.reduceLT, Int.reduceNe, Int.reduceNeg, reduceCtorEq, Int.reduceBEq, Int.reduceBNe, w2, Int.natCast_add, Int.natCast_one, hft]
          · have hi' : i = l.length := by
              have : ¬ ((i : Int) < (l.length : Int)) := by simpa using h
              omega
            subst hi'
            refine hE2 _ _ _ (by simp) ?_
            generalize hms : l.foldl (sel1 []) (-1) = m at *
            simp only [go_sem, Nat.reduceAdd, Nat.reduceSub, Nat.reduceMul, Nat.reduceEqDiff, Nat.reduceLT, Nat.reduceLeDiff, Nat.reduceBEq, Nat.reduceBNe, Int.reduceToNat, Int.reduceLE, Int.reduceLT, Int.reduceNe, Int.reduceNeg, reduceCtorEq, Int.reduceBEq, Int.reduceBNe, List.take_length, hms, q2, app, rowsOf, List.not_mem_nil, cells1, cellP, List.mem_singleton, forall_eq, il_length, hlt]
            refine hK (k + 1, .sref ([], 79009003) (verOf H2 ([], 79009003) + 1) 1 1 false) _ _ ?_ ⟨h', .inr ⟨_, verOf H2 ([], 79009003) + 1, rfl, ?_, ?_⟩⟩ (by simp only; omega)
            · simp only [go_sem, Nat.reduceAdd, Nat.reduceSub, Nat.reduceMul, Nat.reduceEqDiff, Nat.reduceLT, Nat.reduceLeDiff, Nat.reduceBEq, Nat.reduceBNe, Int.reduceToNat, Int.reduceLE, Int.reduceLT, Int.reduceNe, Int.reduceNeg, reduceCtorEq, Int.reduceBEq, Int.reduceBNe]
            · rw [hil]; simp [il_length]
            · rw [hil]; simp only [go_sem, Nat.reduceAdd, Nat.reduceSub, Nat.reduceMul, Nat.reduceEqDiff, Nat.reduceLT, Nat.reduceLeDiff, Nat.reduceBEq, Nat.reduceBNe, Int.reduceToNat, Int.reduceLE, Int.reduceLT, Int.reduceNe, Int.reduceNeg, reduceCtorEq, Int.reduceBEq, Int.reduceBNe, il_nil']
      · have h' : k = l.length := by
          have : ¬ ((0 : Int) < (l.length : Int)) := by simpa using h
          omega
        have hfull : (sortL l).take k = sortL l := by rw [h', ← hsl, List.take_length]
        rw [hfull] at e1
        refine hE _ _ _ (by simp) ?_
        simp only [go_sem, Nat.reduceAdd, Nat.reduceSub, Nat.reduceMul, Nat.reduceEqDiff, Nat.reduceLT, Nat.reduceLeDiff, Nat.reduceBEq, Nat.reduceBNe, Int.reduceToNat, Int.reduceLE, Int.reduceLT, Int.reduceNe, Int.reduceNeg, reduceCtorEq, Int.reduceBEq, Int.reduceBNe, e1]
    · have hL : (il ((sortL l).take k)).length = k := by rw [il_length, hlt]
      simp only [go_sem, Nat.reduceAdd, Nat.reduceSub, Nat.reduceMul, Nat.reduceEqDiff, Nat.reduceLT, Nat.reduceLeDiff, Nat.reduceBEq, Nat.reduceBNe, Int.reduceToNat, Int.reduceLE, Int.reduceLT, Int.reduceNe, Int.reduceNeg, reduceCtorEq, Int.reduceBEq, Int.reduceBNe, hL, il_length, hlt]
      rw [condK_bool]
      refine ⟨fun h => ?_, fun h => ?_⟩
      · have h' : k < l.length := by simpa using h
        have hsel := sel_next hn h0 h'
        have hil : il ((sortL l).take (k + 1)) = il ((sortL l).take k) ++ [[.int .i64 ((sortL l).getD k 0)]] := by
          have hks : k < (sortL l).length := by omega
          rw [List.take_succ_eq_append_getElem hks, il_append, show (sortL l)[k] = (sortL l).getD k 0 by simp [hks]]; rfl
        rw [← hsel] at hil
        have hbt : ((sortL l).take k).length < 4611686018427387904 := by omega
        generalize (sortL l).take k = t at *
        simp only [go_sem, Nat.reduceAdd, Nat.reduceSub, Nat.reduceMul, Nat.reduceEqDiff, Nat.reduceLT, Nat.reduceLeDiff, Nat.reduceBEq, Nat.reduceBNe, Int.reduceToNat, Int.reduceLE, Int.reduceLT, Int.reduceNe, Int.reduceNeg, reduceCtorEq, Int.reduceBEq, Int.reduceBNe]
        refine ev_loopS [0, 3] (fun i : Nat => [(4, .int .i64 ((l.take i).foldl (sel1 t) (-1))), (5, .int .i64 i)])
          (fun i H2 => i ≤ l.length ∧ H2 ([], 79009003) = H ([], 79009003)) (fun i => l.length - i) 0 ?_ ⟨Nat.zero_le _, rfl⟩ ?_
        · simp only [go_sem, Nat.reduceAdd, Nat.reduceSub, Nat.reduceMul, Nat.reduceEqDiff, Nat.reduceLT, Nat.reduceLeDiff, Nat.reduceBEq, Nat.reduceBNe, Int.reduceToNat, Int.reduceLE, Int.reduceLT, Int.reduceNe, Int.reduceNeg, reduceCtorEq, Int.reduceBEq, Int.reduceBNe]; rfl
        · simp only [go_sem, Nat.reduceAdd, Nat.reduceSub, Nat.reduceMul, Nat.reduceEqDiff, Nat.reduceLT, Nat.reduceLeDiff, Nat.reduceBEq, Nat.reduceBNe, Int.reduceToNat, Int.reduceLE, Int.reduceLT, Int.reduceNe, Int.reduceNeg, reduceCtorEq, Int.reduceBEq, Int.reduceBNe, il_length]
          intro K2 i H2 ⟨hi, q2⟩ hK2 hE2
          have h5 := q2.trans g5
          rw [condK_bool]
          refine ⟨fun h => ?_, fun h => ?_⟩
          · have hi' : i < l.length := by simpa using h
            have hii : (i : Int) < (l.length : Int) := by omega
            have w2 : IntKind.i64.wrap ((i : Int) + 1) = (i : Int) + 1 := wrap_id (by omega)
            have hft := fold_take (sel1 t) (-1) hi'
            rw [show l.getD i default = l.getD i 0 from rfl] at hft
            generalize hxx : l.getD i 0 = x at *
            generalize (l.take i).foldl (sel1 t) (-1) = acc at *
            simp only [go_sem, Nat.reduceAdd, Nat.reduceSub, Nat.reduceMul, Nat.reduceEqDiff, Nat.reduceLT, Nat.reduceLeDiff, Nat.reduceBEq, Nat.reduceBNe, Int.reduceToNat, Int.reduceLE, Int.reduceLT, Int.reduceNe, Int.reduceNeg, reduceCtorEq, Int.reduceBEq, Int.reduceBNe, @callV_spec E23 47 sPlace rfl, @callV_specT E23 47 sPlace rfl, @stepV_spec E23 47 sPlace rfl, @effV_spec E23 47 sPlace rfl, sPlace, callSpec, show dL dZ [] = some [] from rfl, h5, hii, il_length, il_get, hxx, hbt, place_neg]
            refine ⟨hlt.symm, fun q1 q2 => ⟨q1, q2⟩, ?_⟩
            rw [condK_bool]
            refine ⟨fun hc => ?_, fun hc => ?_⟩
            · rw [show sel1 t acc x = x from if_pos (by simpa using hc)] at hft
              simp only [go_sem, Nat.reduceAdd, Nat.reduceSub, Nat.reduceMul, Nat.reduceEqDiff, Nat.reduceLT, Nat.reduceLeDiff, Nat.reduceBEq, Nat.reduceBNe, Int.reduceToNat, Int.reduceLE, Int.reduceLT, Int.reduceNe, Int.reduceNeg, reduceCtorEq, Int.reduceBEq, Int.reduceBNe, hii, il_length, il_get, hxx]
              refine hK2 (i + 1) _ _ ?_ ⟨hi', q2⟩ (by omega)
              simp only [go_sem, Nat.reduceAdd, Nat.reduceSub, Nat.reduceMul, Nat.reduceEqDiff, Nat.reduceLT, Nat.reduceLeDiff, Nat.reduceBEq, Nat.reduceBNe, Int.reduceToNat, Int.reduceLE, Int.reduceLT, Int.reduceNe, Int.reduceNeg, reduceCtorEq, Int.reduceBEq, Int.reduceBNe, w2, Int.natCast_add, Int.natCast_one, hft]
            · rw [show sel1 t acc x = acc from if_neg (by simpa using hc)] at hft
              simp only [go_sem, Nat.reduceAdd, Nat.reduceSub, Nat.reduceMul, Nat.reduceEqDiff, Nat.reduceLT, Nat.reduceLeDiff, Nat.reduceBEq, Nat.reduceBNe, Int.reduceToNat, Int.reduceLE, Int.reduceLT, Int.reduceNe, Int.reduceNeg, reduceCtorEq, Int.reduceBEq, Int.reduceBNe, hii, il_length, il_get, hxx]
              refine hK2 (i + 1) _ _ ?_ ⟨hi', q2⟩ (by omega)
              simp only [go_sem, Nat.reduceAdd, Nat.reduceSub, Nat.reduceMul, Nat.reduceEqDiff, Nat.reduceLT, Nat.reduceLeDiff, Nat.reduceBEq, Nat.reduceBNe, Int.reduceToNat, Int.reduceLE, Int.reduceLT, Int.reduceNe, Int.reduceNeg, reduceCtorEq, Int.reduceBEq, Int.reduceBNe, w2, Int.natCast_add, Int.natCast_one, hft]
          · have hi' : i = l.length := by
              have : ¬ ((i : Int) < (l.length : Int)) := by simpa using h
              omega
            subst hi'
            refine hE2 _ _ _ (by simp) ?_
            generalize hms : l.foldl (sel1 t) (-1) = m at *
            simp only [go_sem, Nat.reduceAdd, Nat.reduceSub, Nat.reduceMul, Nat.reduceEqDiff, Nat.reduceLT, Nat.reduceLeDiff, Nat.reduceBEq, Nat.reduceBNe, Int.reduceToNat, Int.reduceLE, Int.reduceLT, Int.reduceNe, Int.reduceNeg, reduceCtorEq, Int.reduceBEq, Int.reduceBNe, List.take_length, hms, q2.trans g5, app, rowsOf, List.not_mem_nil, cells1, cellP, List.mem_singleton, forall_eq, il_length, hlt]
            refine ⟨by omega, hK (k + 1, .sref ([], 79009003) (v + 1) 1 (k + 1) false) _ _ ?_ ⟨h', .inr ⟨_, v + 1, rfl, ?_, ?_⟩⟩ (by simp only; omega)⟩
            · simp only [go_sem, Nat.reduceAdd, Nat.reduceSub, Nat.reduceMul, Nat.reduceEqDiff, Nat.reduceLT, Nat.reduceLeDiff, Nat.reduceBEq, Nat.reduceBNe, Int.reduceToNat, Int.reduceLE, Int.reduceLT, Int.reduceNe, Int.reduceNeg, reduceCtorEq, Int.reduceBEq, Int.reduceBNe]
            · rw [hil]; simp [il_length, hlt]
            · rw [hil]; simp only [go_sem, Nat.reduceAdd, Nat.reduceSub, Nat.reduceMul, Nat.reduceEqDiff, Nat.reduceLT, Nat.reduceLeDiff, Nat.reduceBEq, Nat.reduceBNe, Int.reduceToNat, Int.reduceLE, Int.reduceLT, Int.reduceNe, Int.reduceNeg, reduceCtorEq, Int.reduceBEq, Int.reduceBNe]
      · have h' : k = l.length := by
          have : ¬ ((k : Int) < (l.length : Int)) := by simpa using h
          omega
        have hfull : (sortL l).take k = sortL l := by rw [h', ← hsl, List.take_length]
        rw [hfull] at g5
        refine hE _ _ _ (by simp) ?_
        simp only [go_sem, Nat.reduceAdd, Nat.reduceSub, Nat.reduceMul, Nat.reduceEqDiff, Nat.reduceLT, Nat.reduceLeDiff, Nat.reduceBEq, Nat.reduceBNe, Int.reduceToNat, Int.reduceLE, Int.reduceLT, Int.reduceNe, Int.reduceNeg, reduceCtorEq, Int.reduceBEq, Int.reduceBNe, g5, il_length, hfull, hsl, h']
end Wb
