import Derived.Test.YtaihkflmkopliaaDoorH
set_option linter.unusedVariables false
set_option linter.unusedSimpArgs false
/- The reference: turns. -/
namespace Wb
open Go Go.Proofs Enc Row
set_option linter.unusedSimpArgs false
set_option linter.unusedVariables false
set_option maxRecDepth 20000
set_option maxHeartbeats 4000000
theorem compact_up (d : Array Int) (h : ∀ i j, i ≤ j → j < d.size → d[i]! ≤ d[j]!) : ∀ m, m ≤ d.size → (Lib.compactUpTo d m).Pairwise (· < ·) ∧ ∀ x, x ∈ Lib.compactUpTo d m ↔ ∃ j, j < m ∧ d[j]! = x
  | 0, _ => ⟨by simp [Lib.compactUpTo], fun x => by simp [Lib.compactUpTo]⟩
  | m + 1, hm => by
    obtain ⟨h1, h2⟩ := compact_up d h m (by omega)
    rw [Lib.compactUpTo_succ]
    by_cases hk : Lib.keeps d m = true
    · rw [if_pos hk]
      have hk' : m = 0 ∨ d[m]! ≠ d[m - 1]! := by simpa [Lib.keeps] using hk
      refine ⟨?_, fun x => ?_⟩
      · rw [List.pairwise_append]
        refine ⟨h1, by simp, fun a ha b hb => ?_⟩
        obtain ⟨j, hj, rfl⟩ := (h2 a).1 ha
        have hb : b = d[m]! := by simpa using hb
        subst hb
        rcases hk' with hk' | hk'
        · omega
        · have := h j (m - 1) (by omega) (by omega)
          have := h (m - 1) m (by omega) (by omega)
          omega
      · rw [List.mem_append, h2]
        constructor
        · rintro (⟨j, hj, e⟩ | hx)
          · exact ⟨j, by omega, e⟩
          · exact ⟨m, by omega, (by simpa using hx : x = d[m]!).symm⟩
        · rintro ⟨j, hj, e⟩
          by_cases hjm : j = m
          · subst hjm; exact .inr (by simp [e])
          · exact .inl ⟨j, by omega, e⟩
    · rw [if_neg hk, List.append_nil]
      have hk' : ¬ (m = 0 ∨ d[m]! ≠ d[m - 1]!) := by simpa [Lib.keeps] using hk
      refine ⟨h1, fun x => ?_⟩
      rw [h2]
      constructor
      · rintro ⟨j, hj, e⟩; exact ⟨j, by omega, e⟩
      · rintro ⟨j, hj, e⟩
        by_cases hjm : j = m
        · subst hjm
          have hm0 : j ≠ 0 := fun q => hk' (.inl q)
          have e2 : d[j]! = d[j - 1]! := Classical.byContradiction fun q => hk' (.inr q)
          exact ⟨j - 1, by omega, by rw [← e2, e]⟩
        · exact ⟨j, by omega, e⟩
theorem compact_sort (l : List Int) : (Lib.compact (sortL l)).Pairwise (· < ·) ∧ ∀ x, x ∈ Lib.compact (sortL l) ↔ x ∈ l := by
  have hs := sortL_sorted l
  have hp := sortL_perm l
  generalize sortL l = s at *
  have hget : ∀ j, j < s.length → s.toArray[j]! = s.getD j 0 := fun j hj => by simp [hj]
  have hm : ∀ i j, i ≤ j → j < s.toArray.size → s.toArray[i]! ≤ s.toArray[j]! := fun i j hij hj => by
    have hj' : j < s.length := by simpa using hj
    by_cases e : i = j
    · subst e; omega
    · have := List.pairwise_iff_getElem.1 hs i j (by omega) hj' (by omega)
      have hi' : i < s.length := by omega
      simpa [hi', hj'] using this
  obtain ⟨h1, h2⟩ := compact_up s.toArray hm s.length (by simp)
  refine ⟨h1, fun x => (h2 x).trans ?_⟩
  rw [← hp.mem_iff, List.mem_iff_getElem]
  constructor
  · rintro ⟨j, hj, e⟩; exact ⟨j, hj, by rw [← e]; simp [hj]⟩
  · rintro ⟨j, hj, e⟩; exact ⟨j, hj, by rw [← e]; simp [hj]⟩
theorem strict_ext : ∀ {a b : List Int}, a.Pairwise (· < ·) → b.Pairwise (· < ·) → (∀ x, x ∈ a ↔ x ∈ b) → a = b
  | [], [], _, _, _ => rfl
  | [], y :: b, _, _, h => by have := (h y).2 (by simp); cases this
  | x :: a, [], _, _, h => by have := (h x).1 (by simp); cases this
  | x :: a, y :: b, ha, hb, h => by
    rw [List.pairwise_cons] at ha hb
    have e : x = y := by
      have h1 := (h x).1 (by simp)
      have h2 := (h y).2 (by simp)
      rw [List.mem_cons] at h1 h2
      rcases h1 with h1 | h1
      · exact h1
      · rcases h2 with h2 | h2
        · exact h2.symm
        · have := hb.1 x h1; have := ha.1 y h2; omega
    subst e
    congr 1
    refine strict_ext ha.2 hb.2 fun z => ⟨fun hz => ?_, fun hz => ?_⟩
    · have := (h z).1 (by simp [hz])
      rw [List.mem_cons] at this
      rcases this with rfl | q
      · have := ha.1 z hz; omega
      · exact q
    · have := (h z).2 (by simp [hz])
      rw [List.mem_cons] at this
      rcases this with rfl | q
      · have := hb.1 z hz; omega
      · exact q
/-- A list that holds each of some numbers once, sorted, is the sorted numbers made compact. -/
theorem sort_once {l s : List Int} (hn : s.Nodup) (h : ∀ x, x ∈ s ↔ x ∈ l) : sortL s = Lib.compact (sortL l) := by
  obtain ⟨h1, h2⟩ := compact_sort l
  exact strict_ext (sortL_strict hn) h1 fun x => by rw [(sortL_perm s).mem_iff, h2, h]
def s79 : Spec := spec1 (fun (l : List Int) => l.Nodup ∧ (∀ x ∈ l, 0 ≤ x) ∧ l.length ≤ 1000000) (fun l => .sl (il (sortL l)) false)
theorem s79_ok : SpecOK Tryd.prog glB 79 s79 := spec1_ok E23_ok Tryd.func79 rfl (by kernel_rfl) fun l h => sorted_fn l h.1 h.2.1 h.2.2
def E24t : List (Nat × Spec) := [(79, s79)] ++ E23t
theorem E24t_ok : AllOK E24t := ⟨⟨s79_ok, Tryd.call79⟩, E23t_ok⟩
noncomputable def E24 : Env := mkE E24t []
theorem E24_ok : EnvOK Tryd.prog E24 := envOK E24t_ok trivial
theorem E24_ti {t : Nat} : E24.ti t = ti t := rfl
theorem E24_q0 : (E24).eqt 152 = true := rfl
theorem E24_q1 : (E24).eqt 69 = true := rfl
theorem E24_q2 : (E24).keyt 3 = true := rfl
theorem E24_q3 : (E24).keyt 108 = true := rfl
attribute [go_sem] E24_ti E24_q0 E24_q1 E24_q2 E24_q3
end Wb
/- The reference: turns. -/
namespace Wb
open Go Go.Proofs Enc Row
set_option linter.unusedSimpArgs false
set_option linter.unusedVariables false
set_option maxRecDepth 20000
set_option maxHeartbeats 4000000
def turn1 (d : Int × Int) (out : List Int) (x : Int) : List Int := if inDays d x && decide (x ∉ out) then out ++ [x] else out
def turnsL (d : Int × Int) (l : List Issue) : List Int := (l.flatMap ends2).foldl (turn1 d) [d.1]
theorem turn_spec (d : Int × Int) : ∀ (xs out : List Int), out.Nodup → (xs.foldl (turn1 d) out).Nodup ∧ (∀ x, x ∈ xs.foldl (turn1 d) out ↔ x ∈ out ∨ x ∈ xs ∧ inDays d x = true) ∧ (xs.foldl (turn1 d) out).length ≤ out.length + xs.length
  | [], out, h => ⟨h, fun x => by simp, by simp⟩
  | y :: xs, out, h => by
    rw [List.foldl_cons]
    by_cases hc : (inDays d y && decide (y ∉ out)) = true
    · rw [show turn1 d out y = out ++ [y] from if_pos hc]
      simp only [Bool.and_eq_true, decide_eq_true_eq] at hc
      have hn : (out ++ [y]).Nodup := by
        rw [List.nodup_append]
        exact ⟨h, by simp, fun a ha b hb => by
          have : b = y := by simpa using hb
          subst this
          exact fun e => hc.2 (e ▸ ha)⟩
      obtain ⟨h1, h2, h3⟩ := turn_spec d xs (out ++ [y]) hn
      refine ⟨h1, fun x => ?_, by simp at h3 ⊢; omega⟩
      rw [h2]
      simp only [List.mem_append, List.mem_cons, List.not_mem_nil, or_false]
      constructor
      · rintro ((q | rfl) | q)
        · exact .inl q
        · exact .inr ⟨.inl rfl, hc.1⟩
        · exact .inr ⟨.inr q.1, q.2⟩
      · rintro (q | ⟨rfl | q, q2⟩)
        · exact .inl (.inl q)
        · exact .inl (.inr rfl)
        · exact .inr ⟨q, q2⟩
    · rw [show turn1 d out y = out from if_neg hc]
      obtain ⟨h1, h2, h3⟩ := turn_spec d xs out h
      refine ⟨h1, fun x => ?_, by simp; omega⟩
      rw [h2]
      constructor
      · rintro (q | q)
        · exact .inl q
        · exact .inr ⟨by simp [q.1], q.2⟩
      · rintro (q | ⟨q, q2⟩)
        · exact .inl q
        · rcases List.mem_cons.1 q with rfl | q
          · by_cases hx : x ∈ out
            · exact .inl hx
            · exact absurd (by simp [q2, hx]) hc
          · exact .inr ⟨q, q2⟩
theorem turns_cuts (r : Rack) (d : Int × Int) : sortL (turnsL d r.issues) = cutsM r d := by
  obtain ⟨h1, h2, _⟩ := turn_spec d (r.issues.flatMap ends2) [d.1] (by simp)
  unfold cutsM
  refine sort_once h1 fun x => (h2 x).trans ?_
  unfold rawCuts
  simp only [List.mem_cons, List.not_mem_nil, or_false, List.mem_flatMap, List.mem_filter]
  constructor
  · rintro (q | ⟨⟨y, hy, hx⟩, q⟩)
    · exact .inl q
    · exact .inr ⟨y, hy, hx, q⟩
  · rintro (q | ⟨y, hy, hx, q⟩)
    · exact .inl q
    · exact .inr ⟨⟨y, hy, hx⟩, q⟩
theorem turns_take (d : Int × Int) {l : List Issue} {i : Nat} (h : i < l.length) : turnsL d (l.take (i + 1)) = (ends2 (l.getD i default)).foldl (turn1 d) (turnsL d (l.take i)) := by
  have e : l.getD i default = l[i] := by simp [h]
  unfold turnsL
  rw [e, List.take_succ_eq_append_getElem h, List.flatMap_append, List.foldl_append]
  simp
theorem turns_fn (r : Rack) (d : Int × Int) (hG : GRack r) (hd : 0 ≤ d.1) : Fn E24 0 89 Tryd.f89 (Tryd.f89.body.getD .skip) [.agg (encR r), .agg [.int .i64 d.1, .int .i64 d.2]] (.sl (il (sortL (turnsL d r.issues))) false) := by
  obtain ⟨g, l⟩ := r
  have hl4 := hG.len
  simp only at hl4
  unfold Fn Tryd.f89
  simp only [go_sem, Nat.reduceAdd, Nat.reduceSub, Nat.reduceMul, Nat.reduceEqDiff, Nat.reduceLT, Nat.reduceLeDiff, Nat.reduceBEq, Nat.reduceBNe, Int.reduceToNat, Int.reduceLE, Int.reduceLT, Int.reduceNe, Int.reduceNeg, reduceCtorEq, Int.reduceBEq, Int.reduceBNe, encR]
  refine ev_loopS [2, 3] (fun x : Nat × PV => [(5, x.2), (6, .int .i64 x.1)])
    (fun x H => x.1 ≤ l.length ∧ H (([], 89000000) : Key) = some (.cells [.int .i64 g, .sl (l.map encI) false] 1 false) ∧ H (([], 89000001) : Key) = some (.cells [.int .i64 d.1, .int .i64 d.2] 1 false) ∧ OwnB H ([], 89001002) 1 ([], 89010006) x.2 (il (turnsL d (l.take x.1))))
    (fun x => l.length - x.1) (0, .sref ([], 89001002) 1 1 1 true) ?_ ⟨Nat.zero_le _, ?_, ?_, .inl ⟨rfl, ?_⟩⟩ ?_
  · simp only [go_sem, Nat.reduceAdd, Nat.reduceSub, Nat.reduceMul, Nat.reduceEqDiff, Nat.reduceLT, Nat.reduceLeDiff, Nat.reduceBEq, Nat.reduceBNe, Int.reduceToNat, Int.reduceLE, Int.reduceLT, Int.reduceNe, Int.reduceNeg, reduceCtorEq, Int.reduceBEq, Int.reduceBNe]
  · simp only [go_sem, Nat.reduceAdd, Nat.reduceSub, Nat.reduceMul, Nat.reduceEqDiff, Nat.reduceLT, Nat.reduceLeDiff, Nat.reduceBEq, Nat.reduceBNe, Int.reduceToNat, Int.reduceLE, Int.reduceLT, Int.reduceNe, Int.reduceNeg, reduceCtorEq, Int.reduceBEq, Int.reduceBNe]
  · simp only [go_sem, Nat.reduceAdd, Nat.reduceSub, Nat.reduceMul, Nat.reduceEqDiff, Nat.reduceLT, Nat.reduceLeDiff, Nat.reduceBEq, Nat.reduceBNe, Int.reduceToNat, Int.reduceLE, Int.reduceLT, Int.reduceNe, Int.reduceNeg, reduceCtorEq, Int.reduceBEq, Int.reduceBNe]
  · simp only [go_sem, Nat.reduceAdd, Nat.reduceSub, Nat.reduceMul, Nat.reduceEqDiff, Nat.reduceLT, Nat.reduceLeDiff, Nat.reduceBEq, Nat.reduceBNe, Int.reduceToNat, Int.reduceLE, Int.reduceLT, Int.reduceNe, Int.reduceNeg, reduceCtorEq, Int.reduceBEq, Int.reduceBNe, turnsL, il, List.take, List.flatMap_nil, List.map, List.foldl]
  · simp only [go_sem, Nat.reduceAdd, Nat.reduceSub, Nat.reduceMul, Nat.reduceEqDiff, Nat.reduceLT, Nat.reduceLeDiff, Nat.reduceBEq, Nat.reduceBNe, Int.reduceToNat, Int.reduceLE, Int.reduceLT, Int.reduceNe, Int.reduceNeg, reduceCtorEq, Int.reduceBEq, Int.reduceBNe]
    intro K x H ⟨hi, h1, h2, h3⟩ hK hE
    obtain ⟨i, p⟩ := x
    simp only at hi h3
    dsimp only
    simp only [go_sem, Nat.reduceAdd, Nat.reduceSub, Nat.reduceMul, Nat.reduceEqDiff, Nat.reduceLT, Nat.reduceLeDiff, Nat.reduceBEq, Nat.reduceBNe, Int.reduceToNat, Int.reduceLE, Int.reduceLT, Int.reduceNe, Int.reduceNeg, reduceCtorEq, Int.reduceBEq, Int.reduceBNe, h1]
    rw [condK_bool]
    refine ⟨fun h => ?_, fun h => ?_⟩
    · have h' : i < l.length := by simpa using h
      have hii : (i : Int) < (l.length : Int) := by omega
      have w2 : IntKind.i64.wrap ((i : Int) + 1) = (i : Int) + 1 := wrap_id (by omega)
      have hy : l.getD i default ∈ l := by simp [List.getD_eq_getElem?_getD, h']
      have hgy := (hG.issues _ hy).held
      have hgd := (hG.issues _ hy).days
      have htt := turns_take d h'
      generalize hyy : l.getD i default = y at *
      have hw : IntKind.i64.wrap (y.held + 1) = y.held + 1 := wrap_id (by omega)
      simp only [go_sem, Nat.reduceAdd, Nat.reduceSub, Nat.reduceMul, Nat.reduceEqDiff, Nat.reduceLT, Nat.reduceLeDiff, Nat.reduceBEq, Nat.reduceBNe, Int.reduceToNat, Int.reduceLE, Int.reduceLT, Int.reduceNe, Int.reduceNeg, reduceCtorEq, Int.reduceBEq, Int.reduceBNe, h1, h2, hii, getD_mapN encI l i _ h', hyy, encI, hw]
      generalize hvs : verOf H ([], 89005014) + 1 = vs
      have hnd := (turn_spec d ((l.take i).flatMap ends2) [d.1] (by simp)).2.2
      have hfl : ((l.take i).flatMap ends2).length ≤ 8 := by
        have : ∀ m : List Issue, (m.flatMap ends2).length = 2 * m.length := fun m => by
          induction m with
          | nil => rfl
          | cons a m ih => rw [List.flatMap_cons, List.length_append, ih]; simp [ends2]; omega
        rw [this, List.length_take]; omega
      have ht9 : (turnsL d (l.take i)).length ≤ 9 := by unfold turnsL; simp only [List.length_singleton] at hnd; omega
      have ht0 : (turnsL d (l.take i)).Nodup := (turn_spec d ((l.take i).flatMap ends2) [d.1] (by simp)).1
      generalize turnsL d (l.take i) = t0 at *
      have he2 : (ends2 y).length = 2 := rfl
      refine ev_loopS [2, 3, 6, 7] (fun x : Nat × PV => [(5, x.2), (8, .int .i64 x.1)])
        (fun x H => x.1 ≤ 2 ∧ H (([], 89000000) : Key) = some (.cells [.int .i64 g, .sl (l.map encI) false] 1 false) ∧ H (([], 89000001) : Key) = some (.cells [.int .i64 d.1, .int .i64 d.2] 1 false) ∧ H (([], 89005014) : Key) = some (.rows 1 (il (ends2 y)) vs false) ∧ OwnB H ([], 89001002) 1 ([], 89010006) x.2 (il (((ends2 y).take x.1).foldl (turn1 d) t0)))
        (fun x => 2 - x.1) (0, p) ?_ ⟨Nat.zero_le _, ?_, ?_, ?_, ?_⟩ ?_
      · simp only [go_sem, Nat.reduceAdd, Nat.reduceSub, Nat.reduceMul, Nat.reduceEqDiff, Nat.reduceLT, Nat.reduceLeDiff, Nat.reduceBEq, Nat.reduceBNe, Int.reduceToNat, Int.reduceLE, Int.reduceLT, Int.reduceNe, Int.reduceNeg, reduceCtorEq, Int.reduceBEq, Int.reduceBNe]
      · simp only [go_sem, Nat.reduceAdd, Nat.reduceSub, Nat.reduceMul, Nat.reduceEqDiff, Nat.reduceLT, Nat.reduceLeDiff, Nat.reduceBEq, Nat.reduceBNe, Int.reduceToNat, Int.reduceLE, Int.reduceLT, Int.reduceNe, Int.reduceNeg, reduceCtorEq, Int.reduceBEq, Int.reduceBNe, h1]
      · simp only [go_sem, Nat.reduceAdd, Nat.reduceSub, Nat.reduceMul, Nat.reduceEqDiff, Nat.reduceLT, Nat.reduceLeDiff, Nat.reduceBEq, Nat.reduceBNe, Int.reduceToNat, Int.reduceLE, Int.reduceLT, Int.reduceNe, Int.reduceNeg, reduceCtorEq, Int.reduceBEq, Int.reduceBNe, h2]
      · simp only [go_sem, Nat.reduceAdd, Nat.reduceSub, Nat.reduceMul, Nat.reduceEqDiff, Nat.reduceLT, Nat.reduceLeDiff, Nat.reduceBEq, Nat.reduceBNe, Int.reduceToNat, Int.reduceLE, Int.reduceLT, Int.reduceNe, Int.reduceNeg, reduceCtorEq, Int.reduceBEq, Int.reduceBNe]; rfl
      · rcases h3 with ⟨rfl, e2⟩ | ⟨v, rfl, e2⟩
        · exact .inl ⟨rfl, by simp only [go_sem, Nat.reduceAdd, Nat.reduceSub, Nat.reduceMul, Nat.reduceEqDiff, Nat.reduceLT, Nat.reduceLeDiff, Nat.reduceBEq, Nat.reduceBNe, Int.reduceToNat, Int.reduceLE, Int.reduceLT, Int.reduceNe, Int.reduceNeg, reduceCtorEq, Int.reduceBEq, Int.reduceBNe, e2]; rfl⟩
        · exact .inr ⟨v, rfl, by simp only [go_sem, Nat.reduceAdd, Nat.reduceSub, Nat.reduceMul, Nat.reduceEqDiff, Nat.reduceLT, Nat.reduceLeDiff, Nat.reduceBEq, Nat.reduceBNe, Int.reduceToNat, Int.reduceLE, Int.reduceLT, Int.reduceNe, Int.reduceNeg, reduceCtorEq, Int.reduceBEq, Int.reduceBNe, e2]; rfl⟩
      · simp only [go_sem, Nat.reduceAdd, Nat.reduceSub, Nat.reduceMul, Nat.reduceEqDiff, Nat.reduceLT, Nat.reduceLeDiff, Nat.reduceBEq, Nat.reduceBNe, Int.reduceToNat, Int.reduceLE, Int.reduceLT, Int.reduceNe, Int.reduceNeg, reduceCtorEq, Int.reduceBEq, Int.reduceBNe]
        intro K2 x H2 ⟨hj, k1, k2, k3, k4⟩ hK2 hE2
        obtain ⟨j, p2⟩ := x
        simp only at hj k4
        dsimp only
        rw [condK_bool]
        refine ⟨fun h => ?_, fun h => ?_⟩
        · have hj' : j < 2 := by have : (j : Int) < 2 := by simpa using h
                                 omega
          have hjj : (j : Int) < 2 := by omega
          have w3 : IntKind.i64.wrap ((j : Int) + 1) = (j : Int) + 1 := wrap_id (by omega)
          have hft := fold_take (turn1 d) t0 (show j < (ends2 y).length from hj')
          have h20 := (turn_spec d ((ends2 y).take j) t0 ht0).2.2
          have hlj : ((ends2 y).take j).length ≤ 2 := Nat.le_trans (List.length_take_le' _ _) (by simp [ends2])
          rw [show (ends2 y).getD j default = (ends2 y).getD j 0 from rfl] at hft
          generalize ((ends2 y).take j).foldl (turn1 d) t0 = t1 at *
          generalize hxx : (ends2 y).getD j 0 = x at *
          have hbt : t1.length < 4611686018427387904 := by omega
          rcases k4 with ⟨rfl, k5⟩ | ⟨v, rfl, k5⟩
          · simp only [go_sem, Nat.reduceAdd, Nat.reduceSub, Nat.reduceMul, Nat.reduceEqDiff, Nat.reduceLT, Nat.reduceLeDiff, Nat.reduceBEq, Nat.reduceBNe, Int.reduceToNat, Int.reduceLE, Int.reduceLT, Int.reduceNe, Int.reduceNeg, reduceCtorEq, Int.reduceBEq, Int.reduceBNe, @callV_spec E24 52 sHas rfl, @callV_specT E24 52 sHas rfl, @stepV_spec E24 52 sHas rfl, @effV_spec E24 52 sHas rfl, sHas, @callV_spec E24 47 sPlace rfl, @callV_specT E24 47 sPlace rfl, @stepV_spec E24 47 sPlace rfl, @effV_spec E24 47 sPlace rfl, sPlace, callSpec, k1, k2, k3, k5, hjj, il_length, il_get, hxx, he2, hbt, place_neg]
            refine ⟨hj', fun _ => hj', ?_⟩
            rw [condK_bool]
            refine ⟨fun hc => ?_, fun hc => ?_⟩
            · rw [show turn1 d t1 x = t1 ++ [x] from if_pos hc] at hft
              simp only [go_sem, Nat.reduceAdd, Nat.reduceSub, Nat.reduceMul, Nat.reduceEqDiff, Nat.reduceLT, Nat.reduceLeDiff, Nat.reduceBEq, Nat.reduceBNe, Int.reduceToNat, Int.reduceLE, Int.reduceLT, Int.reduceNe, Int.reduceNeg, reduceCtorEq, Int.reduceBEq, Int.reduceBNe, k1, k2, k3, k5, hjj, hj', il_length, il_get, hxx, he2, app, rowsOf, List.not_mem_nil, cells1, cellP, List.mem_singleton, forall_eq]
              refine ⟨by omega, hK2 (j + 1, .sref ([], 89010006) (verOf H2 ([], 89010006) + 1) 1 (t1.length + 1) false) _ _ ?_ ⟨by simp only; omega, ?_, ?_, ?_, .inr ⟨verOf H2 ([], 89010006) + 1, ?_, ?_⟩⟩ (by simp only; omega)⟩
              · simp only [go_sem, Nat.reduceAdd, Nat.reduceSub, Nat.reduceMul, Nat.reduceEqDiff, Nat.reduceLT, Nat.reduceLeDiff, Nat.reduceBEq, Nat.reduceBNe, Int.reduceToNat, Int.reduceLE, Int.reduceLT, Int.reduceNe, Int.reduceNeg, reduceCtorEq, Int.reduceBEq, Int.reduceBNe, w3, Int.natCast_add, Int.natCast_one]
              · simp only [go_sem, Nat.reduceAdd, Nat.reduceSub, Nat.reduceMul, Nat.reduceEqDiff, Nat.reduceLT, Nat.reduceLeDiff, Nat.reduceBEq, Nat.reduceBNe, Int.reduceToNat, Int.reduceLE, Int.reduceLT, Int.reduceNe, Int.reduceNeg, reduceCtorEq, Int.reduceBEq, Int.reduceBNe, k1]
              · simp only [go_sem, Nat.reduceAdd, Nat.reduceSub, Nat.reduceMul, Nat.reduceEqDiff, Nat.reduceLT, Nat.reduceLeDiff, Nat.reduceBEq, Nat.reduceBNe, Int.reduceToNat, Int.reduceLE, Int.reduceLT, Int.reduceNe, Int.reduceNeg, reduceCtorEq, Int.reduceBEq, Int.reduceBNe, k2]
              · simp only [go_sem, Nat.reduceAdd, Nat.reduceSub, Nat.reduceMul, Nat.reduceEqDiff, Nat.reduceLT, Nat.reduceLeDiff, Nat.reduceBEq, Nat.reduceBNe, Int.reduceToNat, Int.reduceLE, Int.reduceLT, Int.reduceNe, Int.reduceNeg, reduceCtorEq, Int.reduceBEq, Int.reduceBNe, k3]
              · rw [hft]; simp [il_length]
              · rw [hft, il_append]; simp only [go_sem, Nat.reduceAdd, Nat.reduceSub, Nat.reduceMul, Nat.reduceEqDiff, Nat.reduceLT, Nat.reduceLeDiff, Nat.reduceBEq, Nat.reduceBNe, Int.reduceToNat, Int.reduceLE, Int.reduceLT, Int.reduceNe, Int.reduceNeg, reduceCtorEq, Int.reduceBEq, Int.reduceBNe]; rfl
            · rw [show turn1 d t1 x = t1 from if_neg (by rw [show (inDays d x && decide (x ∉ t1)) = false from hc]; simp)] at hft
              simp only [go_sem, Nat.reduceAdd, Nat.reduceSub, Nat.reduceMul, Nat.reduceEqDiff, Nat.reduceLT, Nat.reduceLeDiff, Nat.reduceBEq, Nat.reduceBNe, Int.reduceToNat, Int.reduceLE, Int.reduceLT, Int.reduceNe, Int.reduceNeg, reduceCtorEq, Int.reduceBEq, Int.reduceBNe]
              refine hK2 (j + 1, _) _ _ ?_ ⟨by simp only; omega, k1, k2, k3, .inl ⟨by rw [hft], by rw [hft]; exact k5⟩⟩ (by simp only; omega)
              simp only [go_sem, Nat.reduceAdd, Nat.reduceSub, Nat.reduceMul, Nat.reduceEqDiff, Nat.reduceLT, Nat.reduceLeDiff, Nat.reduceBEq, Nat.reduceBNe, Int.reduceToNat, Int.reduceLE, Int.reduceLT, Int.reduceNe, Int.reduceNeg, reduceCtorEq, Int.reduceBEq, Int.reduceBNe, w3, Int.natCast_add, Int.natCast_one, il_length]
          · simp only [go_sem, Nat.reduceAdd, Nat.reduceSub, Nat.reduceMul, Nat.reduceEqDiff, Nat.reduceLT, Nat.reduceLeDiff, Nat.reduceBEq, Nat.reduceBNe, Int.reduceToNat, Int.reduceLE, Int.reduceLT, Int.reduceNe, Int.reduceNeg, reduceCtorEq, Int.reduceBEq, Int.reduceBNe, @callV_spec E24 52 sHas rfl, @callV_specT E24 52 sHas rfl, @stepV_spec E24 52 sHas rfl, @effV_spec E24 52 sHas rfl, sHas, @callV_spec E24 47 sPlace rfl, @callV_specT E24 47 sPlace rfl, @stepV_spec E24 47 sPlace rfl, @effV_spec E24 47 sPlace rfl, sPlace, callSpec, k1, k2, k3, k5, hjj, il_length, il_get, hxx, he2, hbt, place_neg]
            refine ⟨hj', fun _ => hj', ?_⟩
            rw [condK_bool]
            refine ⟨fun hc => ?_, fun hc => ?_⟩
            · rw [show turn1 d t1 x = t1 ++ [x] from if_pos hc] at hft
              simp only [go_sem, Nat.reduceAdd, Nat.reduceSub, Nat.reduceMul, Nat.reduceEqDiff, Nat.reduceLT, Nat.reduceLeDiff, Nat.reduceBEq, Nat.reduceBNe, Int.reduceToNat, Int.reduceLE, Int.reduceLT, Int.reduceNe, Int.reduceNeg, reduceCtorEq, Int.reduceBEq, Int.reduceBNe, k1, k2, k3, k5, hjj, hj', il_length, il_get, hxx, he2, app, rowsOf, List.not_mem_nil, cells1, cellP, List.mem_singleton, forall_eq]
              refine ⟨by omega, hK2 (j + 1, .sref ([], 89010006) (v + 1) 1 (t1.length + 1) false) _ _ ?_ ⟨by simp only; omega, ?_, ?_, ?_, .inr ⟨v + 1, ?_, ?_⟩⟩ (by simp only; omega)⟩
              · simp only [go_sem, Nat.reduceAdd, Nat.reduceSub, Nat.reduceMul, Nat.reduceEqDiff, Nat.reduceLT, Nat.reduceLeDiff, Nat.reduceBEq, Nat.reduceBNe, Int.reduceToNat, Int.reduceLE, Int.reduceLT, Int.reduceNe, Int.reduceNeg, reduceCtorEq, Int.reduceBEq, Int.reduceBNe, w3, Int.natCast_add, Int.natCast_one]
              · simp only [go_sem, Nat.reduceAdd, Nat.reduceSub, Nat.reduceMul, Nat.reduceEqDiff, Nat.reduceLT, Nat.reduceLeDiff, Nat.reduceBEq, Nat.reduceBNe, Int.reduceToNat, Int.reduceLE, Int.reduceLT, Int.reduceNe, Int.reduceNeg, reduceCtorEq, Int.reduceBEq, Int.reduceBNe, k1]
              · simp only [go_sem, Nat.reduceAdd, Nat.reduceSub, Nat.reduceMul, Nat.reduceEqDiff, Nat.reduceLT, Nat.reduceLeDiff, Nat.reduceBEq, Nat.reduceBNe, Int.reduceToNat, Int.reduceLE, Int.reduceLT, Int.reduceNe, Int.reduceNeg, reduceCtorEq, Int.reduceBEq, Int.reduceBNe, k2]
              · simp only [go_sem, Nat.reduceAdd, Nat.reduceSub, Nat.reduceMul, Nat.reduceEqDiff, Nat.reduceLT, Nat.reduceLeDiff, Nat.reduceBEq, Nat.reduceBNe, Int.reduceToNat, Int.reduceLE, Int.reduceLT, Int.reduceNe, Int.reduceNeg, reduceCtorEq, Int.reduceBEq, Int.reduceBNe, k3]
              · rw [hft]; simp [il_length]
              · rw [hft, il_append]; simp only [go_sem, Nat.reduceAdd, Nat.reduceSub, Nat.reduceMul, Nat.reduceEqDiff, Nat.reduceLT, Nat.reduceLeDiff, Nat.reduceBEq, Nat.reduceBNe, Int.reduceToNat, Int.reduceLE, Int.reduceLT, Int.reduceNe, Int.reduceNeg, reduceCtorEq, Int.reduceBEq, Int.reduceBNe]; rfl
            · rw [show turn1 d t1 x = t1 from if_neg (by rw [show (inDays d x && decide (x ∉ t1)) = false from hc]; simp)] at hft
              simp only [go_sem, Nat.reduceAdd, Nat.reduceSub, Nat.reduceMul, Nat.reduceEqDiff, Nat.reduceLT, Nat.reduceLeDiff, Nat.reduceBEq, Nat.reduceBNe, Int.reduceToNat, Int.reduceLE, Int.reduceLT, Int.reduceNe, Int.reduceNeg, reduceCtorEq, Int.reduceBEq, Int.reduceBNe]
              refine hK2 (j + 1, _) _ _ ?_ ⟨by simp only; omega, k1, k2, k3, .inr ⟨v, by rw [hft], by rw [hft]; exact k5⟩⟩ (by simp only; omega)
              simp only [go_sem, Nat.reduceAdd, Nat.reduceSub, Nat.reduceMul, Nat.reduceEqDiff, Nat.reduceLT, Nat.reduceLeDiff, Nat.reduceBEq, Nat.reduceBNe, Int.reduceToNat, Int.reduceLE, Int.reduceLT, Int.reduceNe, Int.reduceNeg, reduceCtorEq, Int.reduceBEq, Int.reduceBNe, w3, Int.natCast_add, Int.natCast_one, il_length]
        · have hj' : j = 2 := by have : ¬ ((j : Int) < 2) := by simpa using h
                                 omega
          subst hj'
          rw [show (ends2 y).take 2 = ends2 y from rfl, ← htt] at k4
          refine hE2 _ _ _ (by simp) ?_
          simp only [go_sem, Nat.reduceAdd, Nat.reduceSub, Nat.reduceMul, Nat.reduceEqDiff, Nat.reduceLT, Nat.reduceLeDiff, Nat.reduceBEq, Nat.reduceBNe, Int.reduceToNat, Int.reduceLE, Int.reduceLT, Int.reduceNe, Int.reduceNeg, reduceCtorEq, Int.reduceBEq, Int.reduceBNe]
          refine hK (i + 1, p2) _ _ ?_ ⟨h', k1, k2, k4⟩ (by simp only; omega)
          simp only [go_sem, Nat.reduceAdd, Nat.reduceSub, Nat.reduceMul, Nat.reduceEqDiff, Nat.reduceLT, Nat.reduceLeDiff, Nat.reduceBEq, Nat.reduceBNe, Int.reduceToNat, Int.reduceLE, Int.reduceLT, Int.reduceNe, Int.reduceNeg, reduceCtorEq, Int.reduceBEq, Int.reduceBNe, w2, Int.natCast_add, Int.natCast_one]
    · refine hE _ _ _ (by simp) ?_
      have h' : i = l.length := by have : ¬ ((i : Int) < (l.length : Int)) := by simpa using h
                                   omega
      subst h'
      rw [List.take_length] at h3
      obtain ⟨q1, q2, q3⟩ := turn_spec d (l.flatMap ends2) [d.1] (by simp)
      have hfl : (l.flatMap ends2).length ≤ 8 := by
        have : ∀ m : List Issue, (m.flatMap ends2).length = 2 * m.length := fun m => by
          induction m with
          | nil => rfl
          | cons a m ih => rw [List.flatMap_cons, List.length_append, ih]; simp [ends2]; omega
        rw [this]; omega
      have q4 : ∀ x ∈ turnsL d l, 0 ≤ x := fun x hx => by
        rcases (q2 x).1 hx with hx | ⟨_, hx⟩
        · have : x = d.1 := by simpa using hx
          omega
        · simp only [inDays, Bool.and_eq_true, decide_eq_true_eq] at hx; omega
      have q1 : (turnsL d l).Nodup := q1
      have q3 : (turnsL d l).length ≤ 1000000 := by
        simp only [List.length_singleton] at q3
        unfold turnsL
        omega
      generalize turnsL d l = t at *
      rcases h3 with ⟨rfl, e2⟩ | ⟨v, rfl, e2⟩
      · simp only [go_sem, Nat.reduceAdd, Nat.reduceSub, Nat.reduceMul, Nat.reduceEqDiff, Nat.reduceLT, Nat.reduceLeDiff, Nat.reduceBEq, Nat.reduceBNe, Int.reduceToNat, Int.reduceLE, Int.reduceLT, Int.reduceNe, Int.reduceNeg, reduceCtorEq, Int.reduceBEq, Int.reduceBNe, @callV_spec E24 79 s79 rfl, @callV_specT E24 79 s79 rfl, @stepV_spec E24 79 s79 rfl, @effV_spec E24 79 s79 rfl, s79, callSpec, e2, il_length, q1, q3]
        exact q4
      · simp only [go_sem, Nat.reduceAdd, Nat.reduceSub, Nat.reduceMul, Nat.reduceEqDiff, Nat.reduceLT, Nat.reduceLeDiff, Nat.reduceBEq, Nat.reduceBNe, Int.reduceToNat, Int.reduceLE, Int.reduceLT, Int.reduceNe, Int.reduceNeg, reduceCtorEq, Int.reduceBEq, Int.reduceBNe, @callV_spec E24 79 s79 rfl, @callV_specT E24 79 s79 rfl, @stepV_spec E24 79 s79 rfl, @effV_spec E24 79 s79 rfl, s79, callSpec, e2, il_length, q1, q3]
        exact q4
def s89 : Spec := spec2 (fun (r : Rack) (d : Int × Int) => GRack r ∧ 0 ≤ d.1) (fun r d => .sl (il (cutsM r d)) false)
theorem s89_ok : SpecOK Tryd.prog glB 89 s89 := spec2_ok E24_ok Tryd.func89 rfl (by kernel_rfl) fun r d h => by
  rw [← turns_cuts]; exact turns_fn r d h.1 h.2
def E25t : List (Nat × Spec) := [(89, s89)] ++ E24t
theorem E25t_ok : AllOK E25t := ⟨⟨s89_ok, Tryd.call89⟩, E24t_ok⟩
noncomputable def E25 : Env := mkE E25t []
theorem E25_ok : EnvOK Tryd.prog E25 := envOK E25t_ok trivial
theorem E25_ti {t : Nat} : E25.ti t = ti t := rfl
theorem E25_q0 : (E25).eqt 152 = true := rfl
theorem E25_q1 : (E25).eqt 69 = true := rfl
theorem E25_q2 : (E25).keyt 3 = true := rfl
theorem E25_q3 : (E25).keyt 108 = true := rfl
attribute [go_sem] E25_ti E25_q0 E25_q1 E25_q2 E25_q3
end Wb
/- The reference: Prices. -/
namespace Wb
open Go Go.Proofs Enc Row
set_option linter.unusedSimpArgs false
set_option linter.unusedVariables false
set_option maxRecDepth 20000
set_option maxHeartbeats 4000000
def addOnce (met : List Int) (x : Int) : List Int := if decide (x ∉ met) then met ++ [x] else met
theorem once_spec : ∀ (xs met : List Int), met.Nodup → (xs.foldl addOnce met).Nodup ∧ (∀ x, x ∈ xs.foldl addOnce met ↔ x ∈ met ∨ x ∈ xs) ∧ (xs.foldl addOnce met).length ≤ met.length + xs.length
  | [], met, h => ⟨h, fun x => by simp, by simp⟩
  | y :: xs, met, h => by
    rw [List.foldl_cons]
    by_cases hc : y ∉ met
    · rw [show addOnce met y = met ++ [y] from if_pos (by simpa using hc)]
      have hn : (met ++ [y]).Nodup := by
        rw [List.nodup_append]
        exact ⟨h, by simp, fun a ha b hb => by
          have : b = y := by simpa using hb
          subst this
          exact fun e => hc (e ▸ ha)⟩
      obtain ⟨h1, h2, h3⟩ := once_spec xs (met ++ [y]) hn
      refine ⟨h1, fun x => ?_, by simp at h3 ⊢; omega⟩
      rw [h2]; simp [or_assoc]
    · rw [show addOnce met y = met from if_neg (by simpa using hc)]
      obtain ⟨h1, h2, h3⟩ := once_spec xs met h
      refine ⟨h1, fun x => ?_, by simp; omega⟩
      rw [h2, List.mem_cons]
      have hc' : y ∈ met := by simpa using hc
      constructor
      · rintro (q | q)
        · exact .inl q
        · exact .inr (.inr q)
      · rintro (q | rfl | q)
        · exact .inl q
        · exact .inl hc'
        · exact .inr q
def prm (r : Rack) (t : Item) (met : List Int) (on : Int) : List Int := if decide (0 < (priceP r on t).getD 0) && decide ((priceP r on t).getD 0 ∉ met) then met ++ [(priceP r on t).getD 0] else met
theorem prm_once {r : Rack} (hc : cents r) (t : Item) : ∀ (ds met : List Int), ds.foldl (prm r t) met = (ds.filterMap fun on => priceP r on t).foldl addOnce met
  | [], met => rfl
  | on :: ds, met => by
    rw [List.foldl_cons, List.filterMap_cons]
    cases hp : priceP r on t with
    | none =>
      rw [show prm r t met on = met by simp [prm, hp]]
      exact prm_once hc t ds met
    | some n =>
      have h0 : 0 < n := by have := (hc on t n hp).1; omega
      rw [List.foldl_cons, show prm r t met on = addOnce met n by simp [prm, hp, h0, addOnce]]
      exact prm_once hc t ds _
theorem prm_prices {r : Rack} (h : GRack r) (d : Int × Int) (t : Item) : sortL ((cutsM r d).foldl (prm r t) []) = pricesL r d t := by
  rw [prm_once h.cents]
  obtain ⟨h1, h2, _⟩ := once_spec ((cutsM r d).filterMap fun on => priceP r on t) [] (by simp)
  exact sort_once h1 fun x => (h2 x).trans (by simp)
theorem refPrices_fn (r : Rack) (hr : okRack r) (d : Int × Int) (t : Item) : Fn E25 0 31 Tryd.f31 (Tryd.f31.body.getD .skip) [.agg (encR r), .agg [.int .i64 d.1, .int .i64 d.2], .agg (encT t)] (.tup [.sl (il (pricesM r d t).1) false, .int .i64 (pricesM r d t).2]) := by
  obtain ⟨g, l⟩ := r
  obtain ⟨a, b, c⟩ := t
  unfold Fn Tryd.f31 pricesM
  cases hk : rackOk ⟨g, l⟩ with
  | false => simp only [go_sem, Nat.reduceAdd, Nat.reduceSub, Nat.reduceMul, Nat.reduceEqDiff, Nat.reduceLT, Nat.reduceLeDiff, Nat.reduceBEq, Nat.reduceBNe, Int.reduceToNat, Int.reduceLE, Int.reduceLT, Int.reduceNe, Int.reduceNeg, reduceCtorEq, Int.reduceBEq, Int.reduceBNe, @callV_spec E25 62 sIsDays rfl, @callV_specT E25 62 sIsDays rfl, @stepV_spec E25 62 sIsDays rfl, @effV_spec E25 62 sIsDays rfl, sIsDays, @callV_spec E25 83 s83w rfl, @callV_specT E25 83 s83w rfl, @stepV_spec E25 83 s83w rfl, @effV_spec E25 83 s83w rfl, s83w, @callV_spec E25 61 s61 rfl, @callV_specT E25 61 s61 rfl, @stepV_spec E25 61 s61 rfl, @effV_spec E25 61 s61 rfl, s61, encR, encT, callSpec, hr, askM_bad hk, hk, il_nil']
  | true =>
    have hw : itemW g a b c = itemOk g a b c := itemW_good hk a b c
    have hq : (decide (0 ≤ d.1) && decide (d.1 ≤ d.2) && decide (d.2 ≤ 20000) && itemOk g a b c) = qPrices d ⟨a, b, c⟩ ⟨g, l⟩ := rfl
    cases hqq : qPrices d ⟨a, b, c⟩ ⟨g, l⟩ with
    | false => simp only [go_sem, Nat.reduceAdd, Nat.reduceSub, Nat.reduceMul, Nat.reduceEqDiff, Nat.reduceLT, Nat.reduceLeDiff, Nat.reduceBEq, Nat.reduceBNe, Int.reduceToNat, Int.reduceLE, Int.reduceLT, Int.reduceNe, Int.reduceNeg, reduceCtorEq, Int.reduceBEq, Int.reduceBNe, @callV_spec E25 62 sIsDays rfl, @callV_specT E25 62 sIsDays rfl, @stepV_spec E25 62 sIsDays rfl, @effV_spec E25 62 sIsDays rfl, sIsDays, @callV_spec E25 83 s83w rfl, @callV_specT E25 83 s83w rfl, @stepV_spec E25 83 s83w rfl, @effV_spec E25 83 s83w rfl, s83w, @callV_spec E25 61 s61 rfl, @callV_specT E25 61 s61 rfl, @stepV_spec E25 61 s61 rfl, @effV_spec E25 61 s61 rfl, s61, encR, encT, callSpec, hr, askM_no hk, hk, hw, hq, hqq, il_nil']
    | true =>
      have hc := item_colour (r := ⟨g, l⟩) (t := ⟨a, b, c⟩) (by rw [← hq] at hqq; simp only [Bool.and_eq_true] at hqq; exact hqq.2)
      simp only at hc
      have hd0 : 0 ≤ d.1 := by rw [← hq] at hqq; simp only [Bool.and_eq_true, decide_eq_true_eq] at hqq; omega
      have hd : (d.1, d.2) = d := rfl
      have hG := rack_good hk
      have hcl := cutsM_len hG d
      have hpp := prm_prices hG d ⟨a, b, c⟩
      obtain ⟨hn1, hn2, hn3⟩ := once_spec ((cutsM ⟨g, l⟩ d).filterMap fun on => priceP ⟨g, l⟩ on ⟨a, b, c⟩) [] (by simp)
      have hpo := prm_once hG.cents ⟨a, b, c⟩
      simp only [go_sem, Nat.reduceAdd, Nat.reduceSub, Nat.reduceMul, Nat.reduceEqDiff, Nat.reduceLT, Nat.reduceLeDiff, Nat.reduceBEq, Nat.reduceBNe, Int.reduceToNat, Int.reduceLE, Int.reduceLT, Int.reduceNe, Int.reduceNeg, reduceCtorEq, Int.reduceBEq, Int.reduceBNe, @callV_spec E25 62 sIsDays rfl, @callV_specT E25 62 sIsDays rfl, @stepV_spec E25 62 sIsDays rfl, @effV_spec E25 62 sIsDays rfl, sIsDays, @callV_spec E25 83 s83w rfl, @callV_specT E25 83 s83w rfl, @stepV_spec E25 83 s83w rfl, @effV_spec E25 83 s83w rfl, s83w, @callV_spec E25 61 s61 rfl, @callV_specT E25 61 s61 rfl, @stepV_spec E25 61 s61 rfl, @effV_spec E25 61 s61 rfl, s61, encR, encT, callSpec, hr, askM_yes hk, hk, hw, hq, hqq, ← hpp]
      simp only [go_sem, Nat.reduceAdd, Nat.reduceSub, Nat.reduceMul, Nat.reduceEqDiff, Nat.reduceLT, Nat.reduceLeDiff, Nat.reduceBEq, Nat.reduceBNe, Int.reduceToNat, Int.reduceLE, Int.reduceLT, Int.reduceNe, Int.reduceNeg, reduceCtorEq, Int.reduceBEq, Int.reduceBNe, @callV_spec E25 89 s89 rfl, @callV_specT E25 89 s89 rfl, @stepV_spec E25 89 s89 rfl, @effV_spec E25 89 s89 rfl, s89, callSpec, hd0, hd, hG]
      generalize cutsM ⟨g, l⟩ d = ds at *
      refine ev_loopS [3, 5, 10] (fun x : Nat × PV => [(9, x.2), (11, .int .i64 x.1)])
        (fun x H => x.1 ≤ ds.length ∧ H (([], 31000000) : Key) = some (.cells [.int .i64 g, .sl (l.map encI) false] 1 false) ∧ H (([], 31000002) : Key) = some (.cells [.int .i64 a, .int .i64 b, .int .i64 c] 1 false) ∧ Own H (fun K => K = ([], 31011003)) x.2 1 (il ((ds.take x.1).foldl (prm ⟨g, l⟩ ⟨a, b, c⟩) [])))
        (fun x => ds.length - x.1) (0, .sl [] true) ?_ ⟨Nat.zero_le _, ?_, ?_, .nil⟩ ?_
      · simp only [go_sem, Nat.reduceAdd, Nat.reduceSub, Nat.reduceMul, Nat.reduceEqDiff, Nat.reduceLT, Nat.reduceLeDiff, Nat.reduceBEq, Nat.reduceBNe, Int.reduceToNat, Int.reduceLE, Int.reduceLT, Int.reduceNe, Int.reduceNeg, reduceCtorEq, Int.reduceBEq, Int.reduceBNe]
      · simp only [go_sem, Nat.reduceAdd, Nat.reduceSub, Nat.reduceMul, Nat.reduceEqDiff, Nat.reduceLT, Nat.reduceLeDiff, Nat.reduceBEq, Nat.reduceBNe, Int.reduceToNat, Int.reduceLE, Int.reduceLT, Int.reduceNe, Int.reduceNeg, reduceCtorEq, Int.reduceBEq, Int.reduceBNe]
      · simp only [go_sem, Nat.reduceAdd, Nat.reduceSub, Nat.reduceMul, Nat.reduceEqDiff, Nat.reduceLT, Nat.reduceLeDiff, Nat.reduceBEq, Nat.reduceBNe, Int.reduceToNat, Int.reduceLE, Int.reduceLT, Int.reduceNe, Int.reduceNeg, reduceCtorEq, Int.reduceBEq, Int.reduceBNe]
      · simp only [go_sem, Nat.reduceAdd, Nat.reduceSub, Nat.reduceMul, Nat.reduceEqDiff, Nat.reduceLT, Nat.reduceLeDiff, Nat.reduceBEq, Nat.reduceBNe, Int.reduceToNat, Int.reduceLE, Int.reduceLT, Int.reduceNe, Int.reduceNeg, reduceCtorEq, Int.reduceBEq, Int.reduceBNe]
        intro K x H ⟨hi, h1, h2, h3⟩ hK hE
        obtain ⟨i, p⟩ := x
        simp only at hi h3
        dsimp only
        obtain ⟨ex, ks, hz1, hz2, hks⟩ := h3.frz
        obtain ⟨hT, hC, hP, hV, hU⟩ := OwnTaint h3
        simp only [go_sem, Nat.reduceAdd, Nat.reduceSub, Nat.reduceMul, Nat.reduceEqDiff, Nat.reduceLT, Nat.reduceLeDiff, Nat.reduceBEq, Nat.reduceBNe, Int.reduceToNat, Int.reduceLE, Int.reduceLT, Int.reduceNe, Int.reduceNeg, reduceCtorEq, Int.reduceBEq, Int.reduceBNe, il_length]
        rw [condK_bool]
        refine ⟨fun h => ?_, fun h => ?_⟩
        · have h' : i < ds.length := by simpa using h
          have hii : (i : Int) < (ds.length : Int) := by omega
          have w2 : IntKind.i64.wrap ((i : Int) + 1) = (i : Int) + 1 := wrap_id (by omega)
          have hft := fold_take (prm ⟨g, l⟩ ⟨a, b, c⟩) [] h'
          rw [show ds.getD i default = ds.getD i 0 from rfl] at hft
          have hbt : ((ds.take i).foldl (prm ⟨g, l⟩ ⟨a, b, c⟩) []).length < 1000 := by
            rw [hpo]
            obtain ⟨_, _, q⟩ := once_spec ((ds.take i).filterMap fun on => priceP ⟨g, l⟩ on ⟨a, b, c⟩) [] (by simp)
            have := List.length_filterMap_le (fun on => priceP ⟨g, l⟩ on ⟨a, b, c⟩) (ds.take i)
            have := List.length_take_le' i ds
            simp at q; omega
          have hbt' : ((ds.take i).foldl (prm ⟨g, l⟩ ⟨a, b, c⟩) []).length < 4611686018427387904 := by omega
          generalize (ds.take i).foldl (prm ⟨g, l⟩ ⟨a, b, c⟩) [] = met at *
          simp only [go_sem, Nat.reduceAdd, Nat.reduceSub, Nat.reduceMul, Nat.reduceEqDiff, Nat.reduceLT, Nat.reduceLeDiff, Nat.reduceBEq, Nat.reduceBNe, Int.reduceToNat, Int.reduceLE, Int.reduceLT, Int.reduceNe, Int.reduceNeg, reduceCtorEq, Int.reduceBEq, Int.reduceBNe, @callV_spec E25 84 s84 rfl, @callV_specT E25 84 s84 rfl, @stepV_spec E25 84 s84 rfl, @effV_spec E25 84 s84 rfl, s84, @callV_spec E25 47 sPlace rfl, @callV_specT E25 47 sPlace rfl, @stepV_spec E25 47 sPlace rfl, @effV_spec E25 47 sPlace rfl, sPlace, callSpec, h1, h2, hz1, hz2, hT, hC, hP, hV, hU, hii, il_length, il_get, hc, hG, encT, place_neg, hbt', gt_iff_lt]
          rw [condK_bool]
          refine ⟨fun hcd => ?_, fun hcd => ?_⟩
          · rw [show prm ⟨g, l⟩ ⟨a, b, c⟩ met (ds.getD i 0) = met ++ [(priceP ⟨g, l⟩ (ds.getD i 0) ⟨a, b, c⟩).getD 0] from if_pos hcd] at hft
            simp only [go_sem, Nat.reduceAdd, Nat.reduceSub, Nat.reduceMul, Nat.reduceEqDiff, Nat.reduceLT, Nat.reduceLeDiff, Nat.reduceBEq, Nat.reduceBNe, Int.reduceToNat, Int.reduceLE, Int.reduceLT, Int.reduceNe, Int.reduceNeg, reduceCtorEq, Int.reduceBEq, Int.reduceBNe, h1, h2, hT, hC, hP, hV, hU]
            refine app_one trivial rfl rfl (by decide) (by decide) (set_at_eq _ _ _) (h3.frame fun K hK => set_at_ne _ _ (by rw [hK]; simp)) rfl (by rw [il_length]; show (met.length + 1) * 8 ≤ _; omega) (il_row met) ⟨rfl, rfl⟩ fun p' H' hO hF => ?_
            obtain ⟨hT', hC', hP', hV', hU'⟩ := OwnTaint hO
            simp only [go_sem, Nat.reduceAdd, Nat.reduceSub, Nat.reduceMul, Nat.reduceEqDiff, Nat.reduceLT, Nat.reduceLeDiff, Nat.reduceBEq, Nat.reduceBNe, Int.reduceToNat, Int.reduceLE, Int.reduceLT, Int.reduceNe, Int.reduceNeg, reduceCtorEq, Int.reduceBEq, Int.reduceBNe, hT', hC', hP', hV', hU']
            refine hK (i + 1, p') _ _ ?_ ⟨h', (hF _ (by simp)).trans ((set_at_ne _ _ (by simp)).trans h1), (hF _ (by simp)).trans ((set_at_ne _ _ (by simp)).trans h2), by rw [hft, il_append]; exact hO⟩ (by simp only; omega)
            simp only [go_sem, Nat.reduceAdd, Nat.reduceSub, Nat.reduceMul, Nat.reduceEqDiff, Nat.reduceLT, Nat.reduceLeDiff, Nat.reduceBEq, Nat.reduceBNe, Int.reduceToNat, Int.reduceLE, Int.reduceLT, Int.reduceNe, Int.reduceNeg, reduceCtorEq, Int.reduceBEq, Int.reduceBNe, w2, Int.natCast_add, Int.natCast_one]
          · rw [show prm ⟨g, l⟩ ⟨a, b, c⟩ met (ds.getD i 0) = met from if_neg (by rw [hcd]; simp)] at hft
            simp only [go_sem, Nat.reduceAdd, Nat.reduceSub, Nat.reduceMul, Nat.reduceEqDiff, Nat.reduceLT, Nat.reduceLeDiff, Nat.reduceBEq, Nat.reduceBNe, Int.reduceToNat, Int.reduceLE, Int.reduceLT, Int.reduceNe, Int.reduceNeg, reduceCtorEq, Int.reduceBEq, Int.reduceBNe]
            refine hK (i + 1, p) _ _ ?_ ⟨h', h1, h2, by rw [hft]; exact h3⟩ (by simp only; omega)
            simp only [go_sem, Nat.reduceAdd, Nat.reduceSub, Nat.reduceMul, Nat.reduceEqDiff, Nat.reduceLT, Nat.reduceLeDiff, Nat.reduceBEq, Nat.reduceBNe, Int.reduceToNat, Int.reduceLE, Int.reduceLT, Int.reduceNe, Int.reduceNeg, reduceCtorEq, Int.reduceBEq, Int.reduceBNe, w2, Int.natCast_add, Int.natCast_one]
        · have h' : i = ds.length := by have : ¬ ((i : Int) < (ds.length : Int)) := by simpa using h
                                        omega
          subst h'
          rw [List.take_length] at h3 hz1 hz2
          refine hE _ _ _ (by simp) ?_
          have hq1 : (ds.foldl (prm ⟨g, l⟩ ⟨a, b, c⟩) []).Nodup := by rw [hpo]; exact hn1
          have hq2 : ∀ x ∈ ds.foldl (prm ⟨g, l⟩ ⟨a, b, c⟩) [], 0 ≤ x := fun x hx => by
            rw [hpo, hn2] at hx
            rcases hx with hx | hx
            · cases hx
            · obtain ⟨on, _, ho⟩ := List.mem_filterMap.1 hx
              have := (hG.cents on _ x ho).1
              omega
          have hq3 : (ds.foldl (prm ⟨g, l⟩ ⟨a, b, c⟩) []).length ≤ 1000000 := by
            rw [hpo]
            have := List.length_filterMap_le (fun on => priceP ⟨g, l⟩ on ⟨a, b, c⟩) ds
            simp at hn3; omega
          generalize ds.foldl (prm ⟨g, l⟩ ⟨a, b, c⟩) [] = met at *
          simp only [go_sem, Nat.reduceAdd, Nat.reduceSub, Nat.reduceMul, Nat.reduceEqDiff, Nat.reduceLT, Nat.reduceLeDiff, Nat.reduceBEq, Nat.reduceBNe, Int.reduceToNat, Int.reduceLE, Int.reduceLT, Int.reduceNe, Int.reduceNeg, reduceCtorEq, Int.reduceBEq, Int.reduceBNe, @callV_spec E25 79 s79 rfl, @callV_specT E25 79 s79 rfl, @stepV_spec E25 79 s79 rfl, @effV_spec E25 79 s79 rfl, s79, callSpec, hz1, hT, hC, hP, hV, hU, hq1, hq3]
          refine ⟨hq2, roAll_any fun H' hH' => ?_⟩
          simp only [go_sem, Nat.reduceAdd, Nat.reduceSub, Nat.reduceMul, Nat.reduceEqDiff, Nat.reduceLT, Nat.reduceLeDiff, Nat.reduceBEq, Nat.reduceBNe, Int.reduceToNat, Int.reduceLE, Int.reduceLT, Int.reduceNe, Int.reduceNeg, reduceCtorEq, Int.reduceBEq, Int.reduceBNe]
def s31 : Spec := spec3 (fun (r : Rack) (_ : Int × Int) (_ : Item) => okRack r) (fun r d t => .tup [.sl (il (pricesM r d t).1) false, .int .i64 (pricesM r d t).2])
theorem s31_ok : SpecOK Tryd.prog glB 31 s31 := spec3_ok E25_ok Tryd.func31 rfl (by kernel_rfl) fun r d t h => refPrices_fn r h d t
end Wb
/- Twins: what the program marks is what the reference finds in two books. -/
namespace Wb
open Go Go.Proofs Enc Row
set_option linter.unusedSimpArgs false
set_option linter.unusedVariables false
set_option maxRecDepth 20000
set_option maxHeartbeats 4000000
def hasPair (es : List Entry) (n : Int) : Prop := ∃ e ∈ es, ∃ e' ∈ es, e.number = n ∧ e'.number = n ∧ e.good ≠ e'.good
structure TwInv (seen : List Entry) (s : Tw) : Prop where
  t : ∀ n, s.t n = true ↔ hasPair seen n
  f : ∀ n g, s.f n = some g → ∃ e ∈ seen, e.number = n ∧ e.good = g
  no : ∀ n, s.f n = none → ∀ e ∈ seen, e.number ≠ n
theorem TwInv.step {seen : List Entry} {s : Tw} (h : TwInv seen s) (e : Entry) : TwInv (seen ++ [e]) (twStep s e) where
  t n := by
    simp only [twStep]
    by_cases hn : n = e.number
    · subst hn
      rw [if_pos rfl, Bool.or_eq_true, h.t]
      constructor
      · rintro (⟨a, ha, b, hb, h1, h2, h3⟩ | hb)
        · exact ⟨a, by simp [ha], b, by simp [hb], h1, h2, h3⟩
        · unfold twBad at hb
          split at hb
          · rename_i g hg
            obtain ⟨a, ha, h1, h2⟩ := h.f _ _ hg
            exact ⟨a, by simp [ha], e, by simp, h1, rfl, by rw [h2]; simpa using hb⟩
          · cases hb
      · rintro ⟨a, ha, b, hb, h1, h2, h3⟩
        by_cases hp : hasPair seen e.number
        · exact .inl hp
        · refine .inr ?_
          have key : ∀ c ∈ seen, c.number = e.number → c.good ≠ e.good → twBad s.f e = true := fun c hc h4 h5 => by
            unfold twBad
            cases hf : s.f e.number with
            | none => exact absurd h4 (h.no _ hf c hc)
            | some g =>
              obtain ⟨d, hd, k1, k2⟩ := h.f _ _ hf
              have : c.good = d.good := Classical.byContradiction fun q => hp ⟨c, hc, d, hd, h4, k1, q⟩
              simp only [bne_iff_ne, ne_eq]
              intro q
              exact h5 (by rw [this, k2, q])
          rcases List.mem_append.1 ha with ha | ha <;> rcases List.mem_append.1 hb with hb | hb
          · exact absurd ⟨a, ha, b, hb, h1, h2, h3⟩ hp
          · have q : b = e := by simpa using hb
            rw [q] at h3; exact key a ha h1 h3
          · have q : a = e := by simpa using ha
            rw [q] at h3; exact key b hb h2 (Ne.symm h3)
          · have q1 : a = e := by simpa using ha
            have q2 : b = e := by simpa using hb
            exact absurd (by rw [q1, q2]) h3
    · rw [if_neg hn, h.t]
      constructor
      · rintro ⟨a, ha, b, hb, h1, h2, h3⟩
        exact ⟨a, by simp [ha], b, by simp [hb], h1, h2, h3⟩
      · rintro ⟨a, ha, b, hb, h1, h2, h3⟩
        have key : ∀ c ∈ seen ++ [e], c.number = n → c ∈ seen := fun c hc h4 => by
          rcases List.mem_append.1 hc with hc | hc
          · exact hc
          · have : c = e := by simpa using hc
            subst this; exact absurd h4.symm hn
        exact ⟨a, key a ha h1, b, key b hb h2, h1, h2, h3⟩
  f n g h1 := by
    simp only [twStep] at h1
    split at h1
    · rename_i hn; cases h1; exact ⟨e, by simp, hn.symm, rfl⟩
    · obtain ⟨a, ha, k⟩ := h.f n g h1
      exact ⟨a, by simp [ha], k⟩
  no n h1 a ha := by
    simp only [twStep] at h1
    split at h1
    · cases h1
    · rename_i hn
      rcases List.mem_append.1 ha with ha | ha
      · exact h.no n h1 a ha
      · have : a = e := by simpa using ha
        subst this; exact Ne.symm hn
theorem tw_fold : ∀ (es seen : List Entry) (s : Tw), TwInv seen s → TwInv (seen ++ es) (es.foldl twStep s)
  | [], seen, s, h => by simpa using h
  | e :: es, seen, s, h => by
    rw [List.foldl_cons, show seen ++ e :: es = seen ++ [e] ++ es by simp]
    exact tw_fold es _ _ (h.step e)
theorem twAt_pair (on : Int) (l : List Issue) (n : Int) : (twAt on l).t n = true ↔ hasPair ((l.filter (ovl 0 on on)).flatMap (·.entries)) n := by
  have h0 : TwInv [] ⟨fun _ => none, fun _ => false⟩ := ⟨fun n => ⟨(fun h => by cases h), (fun ⟨_, h, _⟩ => by cases h)⟩, (fun n g h => by cases h), (fun n _ e h => by cases h)⟩
  have := (tw_fold ((l.filter (ovl 0 on on)).flatMap (·.entries)) [] _ h0).t n
  simpa [twAt] using this
theorem mem_twL (t : Int → Bool) (k : Nat) (x : Int) : x ∈ twL t k ↔ 0 ≤ x ∧ x < k ∧ t x = true := by
  unfold twL
  simp only [List.mem_filterMap, List.mem_range]
  constructor
  · rintro ⟨i, h1, h2⟩
    split at h2
    · rename_i h3; cases h2; exact ⟨by omega, by omega, h3⟩
    · cases h2
  · rintro ⟨h1, h2, h3⟩
    obtain ⟨i, rfl⟩ := Int.eq_ofNat_of_zero_le h1
    exact ⟨i, by omega, by rw [if_pos h3]⟩
theorem twL_strict (t : Int → Bool) (k : Nat) : (twL t k).Pairwise (· < ·) := by
  induction k with
  | zero => simp [twL]
  | succ k ih =>
    rw [twL_succ, List.pairwise_append]
    refine ⟨ih, by split <;> simp, fun a ha b hb => ?_⟩
    have h1 := (mem_twL t k a).1 ha
    split at hb
    · have : b = k := by simpa using hb
      omega
    · cases hb
-- the reference
def clashP (y : Issue) (e : Entry) : Bool := match entNo e.number y.entries with | some e' => e'.good != e.good | none => false
def clash1 (y : Issue) (met : List Int) (e : Entry) : List Int := if clashP y e && decide (e.number ∉ met) then met ++ [e.number] else met
def clashN (x y : Issue) : List Int := (x.entries.filter (clashP y)).map (·.number)
theorem clash_once (y : Issue) : ∀ (es : List Entry) (met : List Int), es.foldl (clash1 y) met = ((es.filter (clashP y)).map (·.number)).foldl addOnce met
  | [], met => rfl
  | e :: es, met => by
    rw [List.foldl_cons, List.filter_cons]
    cases hp : clashP y e with
    | false =>
      rw [show clash1 y met e = met by simp [clash1, hp]]
      simpa using clash_once y es met
    | true =>
      rw [show clash1 y met e = addOnce met e.number by simp [clash1, hp, addOnce]]
      simpa using clash_once y es _
def dayB (on : Int) (x : Issue) : Bool := decide (x.lo ≤ on) && decide (on ≤ x.hi)
def pairS (on : Int) (x : Issue) (met : List Int) (y : Issue) : List Int := if dayB on x && dayB on y then x.entries.foldl (clash1 y) met else met
def pairN (on : Int) (x y : Issue) : List Int := if dayB on x && dayB on y then clashN x y else []
theorem pair_once (on : Int) (x : Issue) : ∀ (ys : List Issue) (met : List Int), ys.foldl (pairS on x) met = (ys.flatMap (pairN on x)).foldl addOnce met
  | [], met => rfl
  | y :: ys, met => by
    rw [List.foldl_cons, List.flatMap_cons, List.foldl_append, pair_once on x ys]
    congr 1
    unfold pairS pairN
    split
    · exact clash_once y x.entries met
    · rfl
def outR (on : Int) (l : List Issue) : Nat → List Int
  | 0 => []
  | i + 1 => (l.take i).foldl (pairS on (l.getD i default)) (outR on l i)
def outN (on : Int) (l : List Issue) (i : Nat) : List Int := (List.range i).flatMap fun a => (l.take a).flatMap (pairN on (l.getD a default))
theorem out_once (on : Int) (l : List Issue) : ∀ i, outR on l i = (outN on l i).foldl addOnce []
  | 0 => rfl
  | i + 1 => by
    unfold outR outN
    rw [List.range_succ, List.flatMap_append, List.foldl_append, pair_once, out_once on l i]
    simp [outN]
theorem len_flatMap_le {α β : Type} (f : α → List β) (c : Nat) : ∀ l : List α, (∀ a ∈ l, (f a).length ≤ c) → (l.flatMap f).length ≤ l.length * c
  | [], _ => by simp
  | a :: l, h => by
    rw [List.flatMap_cons, List.length_append, List.length_cons, Nat.add_mul]
    have := h a (by simp)
    have := len_flatMap_le f c l fun b hb => h b (by simp [hb])
    omega
theorem pairN_len (on : Int) (x y : Issue) (h : x.entries.length ≤ 24) : (pairN on x y).length ≤ 24 := by
  unfold pairN clashN
  split
  · rw [List.length_map]; exact Nat.le_trans (List.length_filter_le _ _) h
  · simp
theorem outN_len (on : Int) (l : List Issue) (hl : l.length ≤ 4) (h : ∀ y ∈ l, y.entries.length ≤ 24) (i : Nat) (hi : i ≤ l.length) : (outN on l i).length ≤ i * 96 := by
  have := len_flatMap_le (fun a => (l.take a).flatMap (pairN on (l.getD a default))) 96 (List.range i) fun a ha => by
    have ha' : a < l.length := by have := List.mem_range.1 ha; omega
    have hm : l.getD a default ∈ l := by simp [List.getD_eq_getElem?_getD, ha']
    have h1 := len_flatMap_le (pairN on (l.getD a default)) 24 (l.take a) fun y _ => pairN_len on _ y (h _ hm)
    have h2 : (l.take a).length ≤ 4 := Nat.le_trans (List.length_take_le' _ _) hl
    have h3 : (l.take a).length * 24 ≤ 4 * 24 := Nat.mul_le_mul_right _ h2
    omega
  simpa [outN] using this
theorem entNo_of {l : List Entry} (hn : (l.map (·.number)).Nodup) {e : Entry} (he : e ∈ l) : entNo e.number l = some e := by
  unfold entNo
  induction l with
  | nil => cases he
  | cons a l ih =>
    rw [List.map_cons, List.nodup_cons] at hn
    rw [List.find?_cons]
    rcases List.mem_cons.1 he with rfl | he
    · simp
    · have : (a.number == e.number) = false := by
        simp only [beq_eq_false_iff_ne, ne_eq]
        intro q
        exact hn.1 (by rw [q]; exact List.mem_map_of_mem he)
      rw [this]
      exact ih hn.2 he
theorem entNo_mem {n : Int} {l : List Entry} {e : Entry} (h : entNo n l = some e) : e ∈ l ∧ e.number = n := by
  unfold entNo at h
  exact ⟨List.mem_of_find?_eq_some h, by simpa using List.find?_some h⟩
theorem mem_outN (on : Int) (l : List Issue) (hn : ∀ y ∈ l, (y.entries.map (·.number)).Nodup) (n : Int) : n ∈ outN on l l.length ↔ hasPair ((l.filter (ovl 0 on on)).flatMap (·.entries)) n := by
  have hov : ∀ y, ovl 0 on on y = dayB on y := fun y => rfl
  unfold outN
  simp only [List.mem_flatMap, List.mem_range]
  constructor
  · rintro ⟨a, ha, y, hy, h⟩
    unfold pairN at h
    split at h
    · rename_i hd
      rw [Bool.and_eq_true] at hd
      unfold clashN at h
      simp only [List.mem_map, List.mem_filter] at h
      obtain ⟨e, ⟨he, hc⟩, rfl⟩ := h
      unfold clashP at hc
      split at hc
      · rename_i e' hf
        obtain ⟨h1, h2⟩ := entNo_mem hf
        have hm : l.getD a default ∈ l := by simp [List.getD_eq_getElem?_getD, ha]
        refine ⟨e, List.mem_flatMap.2 ⟨_, List.mem_filter.2 ⟨hm, by rw [hov]; exact hd.1⟩, he⟩, e', List.mem_flatMap.2 ⟨y, List.mem_filter.2 ⟨List.mem_of_mem_take hy, by rw [hov]; exact hd.2⟩, h1⟩, rfl, h2, ?_⟩
        simp only [bne_iff_ne, ne_eq] at hc
        exact fun q => hc q.symm
      · cases hc
    · cases h
  · rintro ⟨e, he, e', he', h1, h2, h3⟩
    obtain ⟨x, hx, he⟩ := List.mem_flatMap.1 he
    obtain ⟨y, hy, he'⟩ := List.mem_flatMap.1 he'
    obtain ⟨hx, hx2⟩ := List.mem_filter.1 hx
    obtain ⟨hy, hy2⟩ := List.mem_filter.1 hy
    obtain ⟨i, hi, ex⟩ := List.mem_iff_getElem.1 hx
    obtain ⟨j, hj, ey⟩ := List.mem_iff_getElem.1 hy
    have gi : l.getD i default = x := by simp [hi, ex]
    have gj : l.getD j default = y := by simp [hj, ey]
    rw [hov] at hx2 hy2
    have fin : ∀ (a b : Nat) (u v : Issue) (p q : Entry), a < l.length → b < a → (hb : b < l.length) → l.getD a default = u → l.getD b default = v → v ∈ l → dayB on u = true → dayB on v = true → p ∈ u.entries → q ∈ v.entries → p.number = n → q.number = n → p.good ≠ q.good →
        ∃ a, a < l.length ∧ ∃ y ∈ l.take a, n ∈ pairN on (l.getD a default) y := fun a b u v p q ha hba hb e1 e2 hv d1 d2 m1 m2 n1 n2 hg => by
      refine ⟨a, ha, v, ?_, ?_⟩
      · rw [List.mem_take_iff_getElem]
        exact ⟨b, by omega, by rw [← e2]; simp [hb]⟩
      · rw [e1]
        unfold pairN
        rw [d1, d2]
        simp only [Bool.and_self, if_true, clashN, List.mem_map, List.mem_filter]
        refine ⟨p, ⟨m1, ?_⟩, n1⟩
        unfold clashP
        rw [n1, ← n2, entNo_of (hn v hv) m2]
        simp only [bne_iff_ne, ne_eq]
        exact Ne.symm hg
    rcases Nat.lt_trichotomy i j with hij | hij | hij
    · exact fin j i y x e' e hj hij hi gj gi hx hy2 hx2 he' he h2 h1 (Ne.symm h3)
    · subst hij
      have : x = y := by rw [← gi, ← gj]
      subst this
      have q1 := entNo_of (hn x hx) he
      have q2 := entNo_of (hn x hx) he'
      rw [h1] at q1
      rw [h2, q1] at q2
      cases q2
      exact absurd rfl h3
    · exact fin i j x y e e' hi hij hj gi gj hy hx2 hy2 he he' h1 h2 h3
theorem out_twins {r : Rack} (h : GRack r) (on : Int) : sortL (outR on r.issues r.issues.length) = twL (twAt on r.issues).t 10000 := by
  rw [out_once]
  obtain ⟨h1, h2, _⟩ := once_spec (outN on r.issues r.issues.length) [] (by simp)
  refine strict_ext (sortL_strict h1) (twL_strict _ _) fun x => ?_
  have hm := mem_outN on r.issues (fun y hy => (h.issues y hy).numbers) x
  rw [(sortL_perm _).mem_iff, h2, mem_twL, twAt_pair, hm]
  constructor
  · rintro (q | q)
    · cases q
    · obtain ⟨e, he, e', he', k1, k2, k3⟩ := q
      obtain ⟨y, hy, he2⟩ := List.mem_flatMap.1 he
      have := ((h.issues y (List.mem_filter.1 hy).1).entries e he2).number
      exact ⟨by omega, by omega, e, he, e', he', k1, k2, k3⟩
  · rintro ⟨_, _, q⟩; exact .inr q
end Wb
/- The chapter's examples: the constant rack, lines. -/
namespace Wb
open Go Go.Proofs Enc Row
set_option linter.unusedSimpArgs false
set_option linter.unusedVariables false
set_option maxRecDepth 20000
set_option maxHeartbeats 4000000
def rackC : Rack := ⟨3, [⟨100, 280, 300, [⟨11, 0, 3, [⟨40, 250, 258, 900⟩, ⟨41, 256, 264, 950⟩]⟩, ⟨12, 1, 1, [⟨7, 1, 400, 300⟩]⟩]⟩,
  ⟨260, 450, 450, [⟨12, 0, 1, [⟨40, 250, 258, 980⟩, ⟨42, 262, 270, 990⟩]⟩, ⟨13, 2, 4, [⟨1, 1, 400, 50⟩]⟩]⟩]⟩
def orderC : List Line := [⟨⟨0, 40, 0⟩, 13⟩, ⟨⟨2, 1, 2⟩, 2⟩]
def s54 : Spec := sthing
theorem rackC_fn : Fn E25 0 53 Tryd.f53 (Tryd.f53.body.getD .skip) [] (.agg (encR rackC)) := by
  unfold Fn Tryd.f53
  simp only [go_sem, Nat.reduceAdd, Nat.reduceSub, Nat.reduceMul, Nat.reduceEqDiff, Nat.reduceLT, Nat.reduceLeDiff, Nat.reduceBEq, Nat.reduceBNe, Int.reduceToNat, Int.reduceLE, Int.reduceLT, Int.reduceNe, Int.reduceNeg, reduceCtorEq, Int.reduceBEq, Int.reduceBNe, @callV_spec E25 44 sTo rfl, @callV_specT E25 44 sTo rfl, @stepV_spec E25 44 sTo rfl, @effV_spec E25 44 sTo rfl, sTo, @callV_spec E25 105 sfit rfl, @callV_specT E25 105 sfit rfl, @stepV_spec E25 105 sfit rfl, @effV_spec E25 105 sfit rfl, sfit, encR, rackC, encI, encE, encF, wk.wkR]
theorem orderC_fn : Fn E25 0 55 Tryd.f55 (Tryd.f55.body.getD .skip) [] (.sl (orderC.map encL) false) := by
  unfold Fn Tryd.f55
  simp only [go_sem, Nat.reduceAdd, Nat.reduceSub, Nat.reduceMul, Nat.reduceEqDiff, Nat.reduceLT, Nat.reduceLeDiff, Nat.reduceBEq, Nat.reduceBNe, Int.reduceToNat, Int.reduceLE, Int.reduceLT, Int.reduceNe, Int.reduceNeg, reduceCtorEq, Int.reduceBEq, Int.reduceBNe, @callV_spec E25 54 sthing rfl, @callV_specT E25 54 sthing rfl, @stepV_spec E25 54 sthing rfl, @effV_spec E25 54 sthing rfl, sthing, orderC, encL, wk.wkR]
def s53 : Spec := spec0 True (.agg (encR rackC))
def s55 : Spec := spec0 True (.sl (orderC.map encL) false)
end Wb
/- The reference: clash (opened in place), Twins. -/
namespace Wb
open Go Go.Proofs Enc Row
set_option linter.unusedSimpArgs false
set_option linter.unusedVariables false
set_option maxRecDepth 20000
set_option maxHeartbeats 4000000
theorem s53_ok : SpecOK Tryd.prog glB 53 s53 := spec0_ok E25_ok Tryd.func53 rfl (by kernel_rfl) fun _ => rackC_fn
theorem s55_ok : SpecOK Tryd.prog glB 55 s55 := spec0_ok E25_ok Tryd.func55 rfl (by kernel_rfl) fun _ => orderC_fn
def E29t : List (Nat × Spec) := [(31, s31), (53, s53), (55, s55)] ++ E25t
theorem E29t_ok : AllOK E29t := ⟨⟨s31_ok, Tryd.call31⟩, ⟨s53_ok, Tryd.call53⟩, ⟨s55_ok, Tryd.call55⟩, E25t_ok⟩
noncomputable def E29 : Env := mkE E29t [(78, Tryd.f78)]
theorem E29_ok : EnvOK Tryd.prog E29 := envOK E29t_ok ⟨⟨Tryd.func78, Tryd.call78, by kernel_rfl⟩, trivial⟩
theorem E29_ti {t : Nat} : E29.ti t = ti t := rfl
theorem E29_q0 : (E29).eqt 152 = true := rfl
theorem E29_q1 : (E29).eqt 69 = true := rfl
theorem E29_q2 : (E29).keyt 3 = true := rfl
theorem E29_q3 : (E29).keyt 108 = true := rfl
attribute [go_sem] E29_ti E29_q0 E29_q1 E29_q2 E29_q3
theorem E29_i78 : E29.inl 78 = some Tryd.f78 := rfl
theorem ns_ne {path : List Nat} {K : Key} {s : Nat} (h : ¬ path <:+ K.1) : K ≠ (path, s) := by rintro rfl; exact h (List.suffix_refl _)
theorem key_ns {path : List Nat} {K : Key} {s : Nat} (h : ¬ path <:+ K.1) : (K = (path, s)) = False := eq_false (ns_ne h)
theorem good_any (l : List Entry) : ∃ f : Nat → Int, ∀ k, ((l.map encE).getD k [.int .i64 0, .int .i64 0, .int .i64 0, .sl [] true]).getD 1 (.int .i64 0) = .int .i64 (f k) := by
  refine ⟨fun k => if k < l.length then (l.getD k default).good else 0, fun k => ?_⟩
  dsimp only
  split
  · rename_i h; rw [getD_mapN encE l k _ h]; rfl
  · rename_i h
    rw [List.getD_eq_getElem?_getD (l := l.map encE), List.getElem?_eq_none (by rw [List.length_map]; omega)]; rfl
theorem clash_len (y : Issue) (es : List Entry) (met : List Int) (h : met.Nodup) : (es.foldl (clash1 y) met).length ≤ met.length + es.length ∧ (es.foldl (clash1 y) met).Nodup := by
  rw [clash_once]
  obtain ⟨h1, _, h2⟩ := once_spec ((es.filter (clashP y)).map (·.number)) met h
  have := List.length_filter_le (clashP y) es
  rw [List.length_map] at h2
  exact ⟨by omega, h1⟩
theorem clash_in (x y : Issue) (met : List Int) (hx : x.entries.length ≤ 24) (hy : y.entries.length ≤ 24) (hm : met.length ≤ 1000) (hmn : met.Nodup) (fuel : Nat) (path : List Nat) (H0 : Heap) (Q : PV → Heap → Prop) (p0 : PV)
    (h3 : Own H0 (fun K => K = (path, 78007003)) p0 1 (il met))
    (hQ : ∀ p' H', Own H' (fun K => K = (path, 78007003)) p' 1 (il (x.entries.foldl (clash1 y) met)) → (∀ K : Key, ¬ path <:+ K.1 → H' K = H0 K) → Q p' H') :
    callN E29 (fuel + 1) path (.fn 78 [] []) [.agg (encI x), .agg (encI y), p0] H0 Q := by
  obtain ⟨hT0, hC0, hP0, hV0, hU0⟩ := OwnTaint h3
  simp only [callN, E29_i78, Tryd.f78]
  simp only [go_sem, Nat.reduceAdd, Nat.reduceSub, Nat.reduceMul, Nat.reduceEqDiff, Nat.reduceLT, Nat.reduceLeDiff, Nat.reduceBEq, Nat.reduceBNe, Int.reduceToNat, Int.reduceLE, Int.reduceLT, Int.reduceNe, Int.reduceNeg, reduceCtorEq, Int.reduceBEq, Int.reduceBNe, hT0, hC0, hP0, hV0, hU0, encI]
  generalize hv1 : verOf H0 (path, 78000000) + 1 = v1
  generalize hv2 : verOf H0 (path, 78000001) + 1 = v2
  refine ev_loopS [3, 4] (fun x : Nat × PV => [(2, x.2), (7, .int .i64 x.1)])
    (fun x' H => x'.1 ≤ x.entries.length ∧ H ((path, 78000000) : Key) = some (.cells (encI x) v1 false) ∧ H ((path, 78000001) : Key) = some (.cells (encI y) v2 false) ∧ Own H (fun K => K = (path, 78007003)) x'.2 1 (il ((x.entries.take x'.1).foldl (clash1 y) met)) ∧ ∀ K : Key, ¬ path <:+ K.1 → H K = H0 K)
    (fun x' => x.entries.length - x'.1) (0, p0) ?_ ⟨Nat.zero_le _, ?_, ?_, h3.frame fun K hK => ?_, fun K hK => ?_⟩ ?_
  · simp only [go_sem, Nat.reduceAdd, Nat.reduceSub, Nat.reduceMul, Nat.reduceEqDiff, Nat.reduceLT, Nat.reduceLeDiff, Nat.reduceBEq, Nat.reduceBNe, Int.reduceToNat, Int.reduceLE, Int.reduceLT, Int.reduceNe, Int.reduceNeg, reduceCtorEq, Int.reduceBEq, Int.reduceBNe]
  · simp only [go_sem, Nat.reduceAdd, Nat.reduceSub, Nat.reduceMul, Nat.reduceEqDiff, Nat.reduceLT, Nat.reduceLeDiff, Nat.reduceBEq, Nat.reduceBNe, Int.reduceToNat, Int.reduceLE, Int.reduceLT, Int.reduceNe, Int.reduceNeg, reduceCtorEq, Int.reduceBEq, Int.reduceBNe, encI]
  · simp only [go_sem, Nat.reduceAdd, Nat.reduceSub, Nat.reduceMul, Nat.reduceEqDiff, Nat.reduceLT, Nat.reduceLeDiff, Nat.reduceBEq, Nat.reduceBNe, Int.reduceToNat, Int.reduceLE, Int.reduceLT, Int.reduceNe, Int.reduceNeg, reduceCtorEq, Int.reduceBEq, Int.reduceBNe, encI]
  · subst hK; simp only [go_sem, Nat.reduceAdd, Nat.reduceSub, Nat.reduceMul, Nat.reduceEqDiff, Nat.reduceLT, Nat.reduceLeDiff, Nat.reduceBEq, Nat.reduceBNe, Int.reduceToNat, Int.reduceLE, Int.reduceLT, Int.reduceNe, Int.reduceNeg, reduceCtorEq, Int.reduceBEq, Int.reduceBNe]
  · simp only [set_at, key_ns hK, if_false]
  · simp only [go_sem, Nat.reduceAdd, Nat.reduceSub, Nat.reduceMul, Nat.reduceEqDiff, Nat.reduceLT, Nat.reduceLeDiff, Nat.reduceBEq, Nat.reduceBNe, Int.reduceToNat, Int.reduceLE, Int.reduceLT, Int.reduceNe, Int.reduceNeg, reduceCtorEq, Int.reduceBEq, Int.reduceBNe]
    intro K z H ⟨hi, h1, h2, h3, hF⟩ hK hE
    obtain ⟨i, p⟩ := z
    simp only at hi h3
    dsimp only
    obtain ⟨ex, ks, hz1, hz2, hks⟩ := h3.frz
    obtain ⟨hT, hC, hP, hV, hU⟩ := OwnTaint h3
    simp only [go_sem, Nat.reduceAdd, Nat.reduceSub, Nat.reduceMul, Nat.reduceEqDiff, Nat.reduceLT, Nat.reduceLeDiff, Nat.reduceBEq, Nat.reduceBNe, Int.reduceToNat, Int.reduceLE, Int.reduceLT, Int.reduceNe, Int.reduceNeg, reduceCtorEq, Int.reduceBEq, Int.reduceBNe, h1, encI]
    rw [condK_bool]
    refine ⟨fun h => ?_, fun h => ?_⟩
    · have h' : i < x.entries.length := by simpa using h
      have hii : (i : Int) < (x.entries.length : Int) := by omega
      have w2 : IntKind.i64.wrap ((i : Int) + 1) = (i : Int) + 1 := wrap_id (by omega)
      have hft := fold_take (clash1 y) met h'
      have hln := (clash_len y (x.entries.take i) met hmn).1
      have hlt := List.length_take_le' i x.entries
      have hbt : ((x.entries.take i).foldl (clash1 y) met).length < 4611686018427387904 := by omega
      have hby : y.entries.length < 4611686018427387904 := by omega
      generalize hee : x.entries.getD i default = e at *
      generalize (x.entries.take i).foldl (clash1 y) met = m at *
      obtain ⟨gf, hgf⟩ := good_any y.entries
      rcases findI_find (fun e' => e'.number == e.number) y.entries 0 with ⟨e1, e2⟩ | ⟨j, hj, e1, e2⟩
      · have hcl : clashP y e = false := by unfold clashP entNo; rw [e1]
        have hm1 : ((-1 : Int) ≥ 0) = False := by simp
        rw [show clash1 y m e = m by simp [clash1, hcl]] at hft
        simp only [go_sem, Nat.reduceAdd, Nat.reduceSub, Nat.reduceMul, Nat.reduceEqDiff, Nat.reduceLT, Nat.reduceLeDiff, Nat.reduceBEq, Nat.reduceBNe, Int.reduceToNat, Int.reduceLE, Int.reduceLT, Int.reduceNe, Int.reduceNeg, reduceCtorEq, Int.reduceBEq, Int.reduceBNe, @callV_spec E29 65 sAt rfl, @callV_specT E29 65 sAt rfl, @stepV_spec E29 65 sAt rfl, @effV_spec E29 65 sAt rfl, sAt, @callV_spec E29 47 sPlace rfl, @callV_specT E29 47 sPlace rfl, @stepV_spec E29 47 sPlace rfl, @effV_spec E29 47 sPlace rfl, sPlace, callSpec, h1, h2, hii, getD_mapN encE x.entries i _ h', hee, encE, encI, e2, hgf, hz1, hz2, hT, hC, hP, hV, hU, hby, hbt, place_neg, hm1]
        refine hK (i + 1, p) _ _ ?_ ⟨h', h1, h2, by rw [hft]; exact h3, hF⟩ (by simp only; omega)
        simp only [go_sem, Nat.reduceAdd, Nat.reduceSub, Nat.reduceMul, Nat.reduceEqDiff, Nat.reduceLT, Nat.reduceLeDiff, Nat.reduceBEq, Nat.reduceBNe, Int.reduceToNat, Int.reduceLE, Int.reduceLT, Int.reduceNe, Int.reduceNeg, reduceCtorEq, Int.reduceBEq, Int.reduceBNe, w2, Int.natCast_add, Int.natCast_one]
      · have hjj : (j : Int) < (y.entries.length : Int) := by omega
        have e3 : findI (fun e' => e'.number == e.number) y.entries 0 = (j : Int) := by rw [e2, Nat.zero_add]
        have hj0 : ((j : Int) ≥ 0) = True := by simp
        generalize hee' : y.entries.getD j default = e' at *
        have hcl : clashP y e = (e'.good != e.good) := by unfold clashP entNo; rw [e1]
        simp only [go_sem, Nat.reduceAdd, Nat.reduceSub, Nat.reduceMul, Nat.reduceEqDiff, Nat.reduceLT, Nat.reduceLeDiff, Nat.reduceBEq, Nat.reduceBNe, Int.reduceToNat, Int.reduceLE, Int.reduceLT, Int.reduceNe, Int.reduceNeg, reduceCtorEq, Int.reduceBEq, Int.reduceBNe, @callV_spec E29 65 sAt rfl, @callV_specT E29 65 sAt rfl, @stepV_spec E29 65 sAt rfl, @effV_spec E29 65 sAt rfl, sAt, @callV_spec E29 47 sPlace rfl, @callV_specT E29 47 sPlace rfl, @stepV_spec E29 47 sPlace rfl, @effV_spec E29 47 sPlace rfl, sPlace, callSpec, h1, h2, hii, hjj, getD_mapN encE x.entries i _ h', getD_mapN encE y.entries j _ hj, hee, hee', encE, encI, e3, hz1, hz2, hT, hC, hP, hV, hU, hby, hbt, place_neg, hj0]
        rw [condK_bool]
        refine ⟨fun hcd => ?_, fun hcd => ?_⟩
        · rw [show clash1 y m e = m ++ [e.number] from if_pos (by rw [hcl]; exact hcd)] at hft
          simp only [go_sem, Nat.reduceAdd, Nat.reduceSub, Nat.reduceMul, Nat.reduceEqDiff, Nat.reduceLT, Nat.reduceLeDiff, Nat.reduceBEq, Nat.reduceBNe, Int.reduceToNat, Int.reduceLE, Int.reduceLT, Int.reduceNe, Int.reduceNeg, reduceCtorEq, Int.reduceBEq, Int.reduceBNe, h1, h2, hT, hC, hP, hV, hU]
          refine app_one trivial rfl rfl (by decide) (by decide) (set_at_eq _ _ _) (h3.frame fun K hK => set_at_ne _ _ (by rw [hK]; simp)) rfl (by rw [il_length]; show (m.length + 1) * 8 ≤ _; omega) (il_row m) ⟨rfl, rfl⟩ fun p' H' hO hF2 => ?_
          obtain ⟨hT', hC', hP', hV', hU'⟩ := OwnTaint hO
          simp only [go_sem, Nat.reduceAdd, Nat.reduceSub, Nat.reduceMul, Nat.reduceEqDiff, Nat.reduceLT, Nat.reduceLeDiff, Nat.reduceBEq, Nat.reduceBNe, Int.reduceToNat, Int.reduceLE, Int.reduceLT, Int.reduceNe, Int.reduceNeg, reduceCtorEq, Int.reduceBEq, Int.reduceBNe, hT', hC', hP', hV', hU']
          refine hK (i + 1, p') _ _ ?_ ⟨h', (hF2 _ (by simp)).trans ((set_at_ne _ _ (by simp)).trans h1), (hF2 _ (by simp)).trans ((set_at_ne _ _ (by simp)).trans h2), by rw [hft, il_append]; exact hO, fun K hK => ?_⟩ (by simp only; omega)
          · simp only [go_sem, Nat.reduceAdd, Nat.reduceSub, Nat.reduceMul, Nat.reduceEqDiff, Nat.reduceLT, Nat.reduceLeDiff, Nat.reduceBEq, Nat.reduceBNe, Int.reduceToNat, Int.reduceLE, Int.reduceLT, Int.reduceNe, Int.reduceNeg, reduceCtorEq, Int.reduceBEq, Int.reduceBNe, w2, Int.natCast_add, Int.natCast_one]
          · rw [hF2 K (ns_ne hK), set_at_ne _ _ (ns_ne hK), hF K hK]
        · rw [show clash1 y m e = m from if_neg (by rw [hcl, hcd]; simp)] at hft
          simp only [go_sem, Nat.reduceAdd, Nat.reduceSub, Nat.reduceMul, Nat.reduceEqDiff, Nat.reduceLT, Nat.reduceLeDiff, Nat.reduceBEq, Nat.reduceBNe, Int.reduceToNat, Int.reduceLE, Int.reduceLT, Int.reduceNe, Int.reduceNeg, reduceCtorEq, Int.reduceBEq, Int.reduceBNe]
          refine hK (i + 1, p) _ _ ?_ ⟨h', h1, h2, by rw [hft]; exact h3, hF⟩ (by simp only; omega)
          simp only [go_sem, Nat.reduceAdd, Nat.reduceSub, Nat.reduceMul, Nat.reduceEqDiff, Nat.reduceLT, Nat.reduceLeDiff, Nat.reduceBEq, Nat.reduceBNe, Int.reduceToNat, Int.reduceLE, Int.reduceLT, Int.reduceNe, Int.reduceNeg, reduceCtorEq, Int.reduceBEq, Int.reduceBNe, w2, Int.natCast_add, Int.natCast_one]
    · have h' : i = x.entries.length := by have : ¬ ((i : Int) < (x.entries.length : Int)) := by simpa using h
                                           omega
      subst h'
      rw [List.take_length] at h3
      refine hE _ _ _ (by simp) ?_
      simp only [go_sem, Nat.reduceAdd, Nat.reduceSub, Nat.reduceMul, Nat.reduceEqDiff, Nat.reduceLT, Nat.reduceLeDiff, Nat.reduceBEq, Nat.reduceBNe, Int.reduceToNat, Int.reduceLE, Int.reduceLT, Int.reduceNe, Int.reduceNeg, reduceCtorEq, Int.reduceBEq, Int.reduceBNe, hT, hC, hP, hV, hU]
      exact hQ p H h3 hF
def e78 : ESpec := fun path args => match args with
  | [.agg cx, .agg cy, p] => match dI cx, dI cy with
    | some x, some y => some {
        pre := fun H => ∃ met : List Int, met.Nodup ∧ met.length ≤ 1000 ∧ x.entries.length ≤ 24 ∧ y.entries.length ≤ 24 ∧ Own H (fun K => K = (path, 78007003)) p 1 (il met)
        D := fun K => K = (path, 78007003)
        S := fun K => path <:+ K.1
        post := fun H v H' => ∀ met : List Int, met.Nodup → met.length ≤ 1000 → Own H (fun K => K = (path, 78007003)) p 1 (il met) → Own H' (fun K => K = (path, 78007003)) v 1 (il (x.entries.foldl (clash1 y) met)) }
    | _, _ => none
  | _ => none
theorem il_inj {a b : List Int} (h : il a = il b) : a = b := by
  have := congrArg (dL dZ) h
  rw [dZ_il, dZ_il] at this
  exact Option.some.inj this
theorem Own.same {H : Heap} {S : Key → Prop} {p : PV} {sz : Nat} {a b : List (List PV)} (h : Own H S p sz a) (k : Own H S p sz b) : a = b := by
  rcases h with ⟨rfl, rfl⟩ | ⟨K, v, h1, rfl, h2⟩
  · rcases k with ⟨rfl, _⟩ | ⟨K', v', k1, k3, k2⟩
    · rfl
    · cases k3
  · rcases k with ⟨rfl, k3⟩ | ⟨K', v', k1, k3, k2⟩
    · cases k3
    · simp only [PV.sref.injEq] at k3
      obtain ⟨rfl, _⟩ := k3
      rw [h2] at k2
      simpa using (by simpa using k2 : a = b ∧ v = v').1
theorem e78_dep : ∀ path args e, e78 path args = some e → EffDep e := fun path args e h => by
  unfold e78 at h
  split at h
  · split at h
    · cases h
      rename_i x y _ _
      refine ⟨?_, ?_, ?_, ?_⟩
      · rintro H H' hD ⟨met, h1, h2, h3, h4, h5⟩
        exact ⟨met, h1, h2, h3, h4, h5.frame fun K hK => hD K hK⟩
      · intro H H1 v H' hD h met h1 h2 h3
        exact h met h1 h2 (h3.frame fun K hK => (hD K hK).symm)
      · intro H v H1 H2 hS h met h1 h2 h3
        exact (h met h1 h2 h3).frame fun K hK => hS K (by rw [hK]; exact List.suffix_refl _)
      · rintro H ⟨met, h1, h2, h3, h4, h5⟩
        refine ⟨.sref (path, 78007003) 0 1 (x.entries.foldl (clash1 y) met).length false, H.set (path, 78007003) (.rows 1 (il (x.entries.foldl (clash1 y) met)) 0 false), fun K hK => set_at_ne _ _ (ns_ne hK), fun met' k1 k2 k3 => ?_⟩
        obtain rfl := il_inj (k3.same h5)
        exact .inr ⟨_, 0, rfl, by rw [il_length], set_at_eq _ _ _⟩
    · cases h
  · cases h
theorem e78_ok : EffOK Tryd.prog glB 78 e78 := effOK_of (n := 1) E29_ok e78_dep fun path args e h => by
  unfold e78 at h
  split at h
  · split at h
    · rename_i cx cy p _ _ x y hx hy
      cases h
      refine ⟨[.agg (encI x), .agg (encI y), p], ⟨dI_wk _ _ hx, dI_wk _ _ hy, wk_refl _, trivial⟩, fun H Q hp hQ => ?_⟩
      obtain ⟨met, h1, h2, h3, h4, h5⟩ := hp
      exact clash_in x y met h3 h4 h2 h1 0 path H Q p h5 fun p' H' k1 k2 => hQ p' H' k2 fun met' q1 q2 q3 => by
        obtain rfl := il_inj (q3.same h5)
        exact k1
    · cases h
  · cases h
noncomputable def E30 : Env := mkF E29t [] [] [(78, e78)]
theorem E30_ok : EnvOK Tryd.prog E30 := envFOK E29t_ok trivial trivial ⟨⟨e78_ok, Tryd.call78⟩, trivial⟩
theorem E30_ti {t : Nat} : E30.ti t = ti t := rfl
theorem E30_q0 : (E30).eqt 152 = true := rfl
theorem E30_q1 : (E30).eqt 69 = true := rfl
theorem E30_q2 : (E30).keyt 3 = true := rfl
theorem E30_q3 : (E30).keyt 108 = true := rfl
attribute [go_sem] E30_ti E30_q0 E30_q1 E30_q2 E30_q3
theorem outR_nodup (on : Int) (l : List Issue) (i : Nat) : (outR on l i).Nodup := by
  rw [out_once]; exact (once_spec (outN on l i) [] (by simp)).1
theorem outR_len (on : Int) (l : List Issue) (hl : l.length ≤ 4) (h : ∀ y ∈ l, y.entries.length ≤ 24) (i : Nat) (hi : i ≤ l.length) : (outR on l i).length ≤ 400 := by
  rw [out_once]
  have h1 := (once_spec (outN on l i) [] (by simp)).2.2
  have h2 := outN_len on l hl h i hi
  simp at h1; omega
theorem inner_len (on : Int) (l : List Issue) (hl : l.length ≤ 4) (h : ∀ y ∈ l, y.entries.length ≤ 24) (i k : Nat) (hi : i < l.length) (hk : k ≤ i) :
    ((l.take k).foldl (pairS on (l.getD i default)) (outR on l i)).length ≤ 600 ∧ ((l.take k).foldl (pairS on (l.getD i default)) (outR on l i)).Nodup := by
  rw [pair_once]
  obtain ⟨h1, _, h2⟩ := once_spec ((l.take k).flatMap (pairN on (l.getD i default))) (outR on l i) (outR_nodup on l i)
  have hm : l.getD i default ∈ l := by simp [List.getD_eq_getElem?_getD, hi]
  have h3 := len_flatMap_le (pairN on (l.getD i default)) 24 (l.take k) fun y _ => pairN_len on _ y (h _ hm)
  have h4 : (l.take k).length ≤ 4 := Nat.le_trans (List.length_take_le' _ _) hl
  have h5 : (l.take k).length * 24 ≤ 4 * 24 := Nat.mul_le_mul_right _ h4
  have h6 := outR_len on l hl h i (by omega)
  exact ⟨by omega, h1⟩
abbrev KT : Key := ([25012011], 78007003)
theorem refTwins_fn (r : Rack) (hr : okRack r) (on : Int) : Fn E30 1 25 Tryd.f25 (Tryd.f25.body.getD .skip) [.agg (encR r), .int .i64 on] (.tup [.sl (il (twinsM r on).1) false, .int .i64 (twinsM r on).2]) := by
  obtain ⟨g, l⟩ := r
  unfold Fn Tryd.f25 twinsM
  cases hk : rackOk ⟨g, l⟩ with
  | false => simp only [go_sem, Nat.reduceAdd, Nat.reduceSub, Nat.reduceMul, Nat.reduceEqDiff, Nat.reduceLT, Nat.reduceLeDiff, Nat.reduceBEq, Nat.reduceBNe, Int.reduceToNat, Int.reduceLE, Int.reduceLT, Int.reduceNe, Int.reduceNeg, reduceCtorEq, Int.reduceBEq, Int.reduceBNe, @callV_spec E30 77 sisDayR rfl, @callV_specT E30 77 sisDayR rfl, @stepV_spec E30 77 sisDayR rfl, @effV_spec E30 77 sisDayR rfl, sisDayR, @callV_spec E30 61 s61 rfl, @callV_specT E30 61 s61 rfl, @stepV_spec E30 61 s61 rfl, @effV_spec E30 61 s61 rfl, s61, encR, callSpec, hr, askM_bad hk, hk, il_nil']
  | true =>
    have hq : (decide (0 ≤ on) && decide (on ≤ 20000)) = isDayB on := rfl
    cases hqq : isDayB on with
    | false => simp only [go_sem, Nat.reduceAdd, Nat.reduceSub, Nat.reduceMul, Nat.reduceEqDiff, Nat.reduceLT, Nat.reduceLeDiff, Nat.reduceBEq, Nat.reduceBNe, Int.reduceToNat, Int.reduceLE, Int.reduceLT, Int.reduceNe, Int.reduceNeg, reduceCtorEq, Int.reduceBEq, Int.reduceBNe, @callV_spec E30 77 sisDayR rfl, @callV_specT E30 77 sisDayR rfl, @stepV_spec E30 77 sisDayR rfl, @effV_spec E30 77 sisDayR rfl, sisDayR, @callV_spec E30 61 s61 rfl, @callV_specT E30 61 s61 rfl, @stepV_spec E30 61 s61 rfl, @effV_spec E30 61 s61 rfl, s61, encR, callSpec, hr, askM_no hk, hk, hq, hqq, il_nil']
    | true =>
      have hG := rack_good hk
      have hl4 : l.length ≤ 4 := hG.len.2
      have h24 : ∀ y ∈ l, y.entries.length ≤ 24 := fun y hy => (hG.issues y hy).len
      have ht := out_twins hG on
      simp only at ht
      simp only [go_sem, Nat.reduceAdd, Nat.reduceSub, Nat.reduceMul, Nat.reduceEqDiff, Nat.reduceLT, Nat.reduceLeDiff, Nat.reduceBEq, Nat.reduceBNe, Int.reduceToNat, Int.reduceLE, Int.reduceLT, Int.reduceNe, Int.reduceNeg, reduceCtorEq, Int.reduceBEq, Int.reduceBNe, @callV_spec E30 77 sisDayR rfl, @callV_specT E30 77 sisDayR rfl, @stepV_spec E30 77 sisDayR rfl, @effV_spec E30 77 sisDayR rfl, sisDayR, @callV_spec E30 61 s61 rfl, @callV_specT E30 61 s61 rfl, @stepV_spec E30 61 s61 rfl, @effV_spec E30 61 s61 rfl, s61, encR, callSpec, hr, askM_yes hk, hk, hq, hqq, ← ht]
      refine ev_loopS [1, 2] (fun x : Nat × PV => [(7, x.2), (8, .int .i64 x.1)])
        (fun x H => x.1 ≤ l.length ∧ H (([], 25000000) : Key) = some (.cells [.int .i64 g, .sl (l.map encI) false] 1 false) ∧ Own H (fun K => K = KT) x.2 1 (il (outR on l x.1)))
        (fun x => l.length - x.1) (0, .sl [] true) ?_ ⟨Nat.zero_le _, ?_, .nil⟩ ?_
      · simp only [go_sem, Nat.reduceAdd, Nat.reduceSub, Nat.reduceMul, Nat.reduceEqDiff, Nat.reduceLT, Nat.reduceLeDiff, Nat.reduceBEq, Nat.reduceBNe, Int.reduceToNat, Int.reduceLE, Int.reduceLT, Int.reduceNe, Int.reduceNeg, reduceCtorEq, Int.reduceBEq, Int.reduceBNe]
      · simp only [go_sem, Nat.reduceAdd, Nat.reduceSub, Nat.reduceMul, Nat.reduceEqDiff, Nat.reduceLT, Nat.reduceLeDiff, Nat.reduceBEq, Nat.reduceBNe, Int.reduceToNat, Int.reduceLE, Int.reduceLT, Int.reduceNe, Int.reduceNeg, reduceCtorEq, Int.reduceBEq, Int.reduceBNe]
      · simp only [go_sem, Nat.reduceAdd, Nat.reduceSub, Nat.reduceMul, Nat.reduceEqDiff, Nat.reduceLT, Nat.reduceLeDiff, Nat.reduceBEq, Nat.reduceBNe, Int.reduceToNat, Int.reduceLE, Int.reduceLT, Int.reduceNe, Int.reduceNeg, reduceCtorEq, Int.reduceBEq, Int.reduceBNe]
        intro K x H ⟨hi, h1, h3⟩ hK hE
        obtain ⟨i, p⟩ := x
        simp only at hi h3
        dsimp only
        obtain ⟨hT, hC, hP, hV, hU⟩ := OwnTaint h3
        simp only [go_sem, Nat.reduceAdd, Nat.reduceSub, Nat.reduceMul, Nat.reduceEqDiff, Nat.reduceLT, Nat.reduceLeDiff, Nat.reduceBEq, Nat.reduceBNe, Int.reduceToNat, Int.reduceLE, Int.reduceLT, Int.reduceNe, Int.reduceNeg, reduceCtorEq, Int.reduceBEq, Int.reduceBNe, h1]
        rw [condK_bool]
        refine ⟨fun h => ?_, fun h => ?_⟩
        · have h' : i < l.length := by simpa using h
          have hii : (i : Int) < (l.length : Int) := by omega
          have w2 : IntKind.i64.wrap ((i : Int) + 1) = (i : Int) + 1 := wrap_id (by omega)
          have hil := fun k hk => inner_len on l hl4 h24 i k h' hk
          have hmx : l.getD i default ∈ l := by simp [List.getD_eq_getElem?_getD, h']
          have hx24 := h24 _ hmx
          have hou : outR on l (i + 1) = (l.take i).foldl (pairS on (l.getD i default)) (outR on l i) := rfl
          simp only [go_sem, Nat.reduceAdd, Nat.reduceSub, Nat.reduceMul, Nat.reduceEqDiff, Nat.reduceLT, Nat.reduceLeDiff, Nat.reduceBEq, Nat.reduceBNe, Int.reduceToNat, Int.reduceLE, Int.reduceLT, Int.reduceNe, Int.reduceNeg, reduceCtorEq, Int.reduceBEq, Int.reduceBNe]
          generalize hxx : l.getD i default = x at *
          refine ev_loopS [1, 2, 8] (fun z : Nat × PV => [(7, z.2), (9, .int .i64 z.1)])
            (fun z H => z.1 ≤ i ∧ H (([], 25000000) : Key) = some (.cells [.int .i64 g, .sl (l.map encI) false] 1 false) ∧ Own H (fun K => K = KT) z.2 1 (il ((l.take z.1).foldl (pairS on x) (outR on l i))))
            (fun z => i - z.1) (0, p) ?_ ⟨Nat.zero_le _, h1, h3⟩ ?_
          · simp only [go_sem, Nat.reduceAdd, Nat.reduceSub, Nat.reduceMul, Nat.reduceEqDiff, Nat.reduceLT, Nat.reduceLeDiff, Nat.reduceBEq, Nat.reduceBNe, Int.reduceToNat, Int.reduceLE, Int.reduceLT, Int.reduceNe, Int.reduceNeg, reduceCtorEq, Int.reduceBEq, Int.reduceBNe]
          · simp only [go_sem, Nat.reduceAdd, Nat.reduceSub, Nat.reduceMul, Nat.reduceEqDiff, Nat.reduceLT, Nat.reduceLeDiff, Nat.reduceBEq, Nat.reduceBNe, Int.reduceToNat, Int.reduceLE, Int.reduceLT, Int.reduceNe, Int.reduceNeg, reduceCtorEq, Int.reduceBEq, Int.reduceBNe]
            intro K2 z H2 ⟨hj, k1, k3⟩ hK2 hE2
            obtain ⟨k, p2⟩ := z
            simp only at hj k3
            dsimp only
            obtain ⟨hT, hC, hP, hV, hU⟩ := OwnTaint k3
            rw [condK_bool]
            refine ⟨fun h => ?_, fun h => ?_⟩
            · have hk' : k < i := by simpa using h
              have hkl : k < l.length := by omega
              have hkk : (k : Int) < (l.length : Int) := by omega
              have w3 : IntKind.i64.wrap ((k : Int) + 1) = (k : Int) + 1 := wrap_id (by omega)
              have hft := fold_take (pairS on x) (outR on l i) hkl
              obtain ⟨hlen, hnd⟩ := hil k hj
              have hmy : l.getD k default ∈ l := by simp [List.getD_eq_getElem?_getD, hkl]
              have hy24 := h24 _ hmy
              generalize hyy : l.getD k default = y at *
              generalize (l.take k).foldl (pairS on x) (outR on l i) = met at *
              have hps : pairS on x met y = if dayB on x && dayB on y then x.entries.foldl (clash1 y) met else met := rfl
              simp only [go_sem, Nat.reduceAdd, Nat.reduceSub, Nat.reduceMul, Nat.reduceEqDiff, Nat.reduceLT, Nat.reduceLeDiff, Nat.reduceBEq, Nat.reduceBNe, Int.reduceToNat, Int.reduceLE, Int.reduceLT, Int.reduceNe, Int.reduceNeg, reduceCtorEq, Int.reduceBEq, Int.reduceBNe, @callV_spec E30 52 sHas rfl, @callV_specT E30 52 sHas rfl, @stepV_spec E30 52 sHas rfl, @effV_spec E30 52 sHas rfl, sHas, callSpec, k1, hii, hkk, getD_mapN encI l i _ h', getD_mapN encI l k _ hkl, hxx, hyy, encI, hT, hC, hP, hV, hU]
              rw [condK_bool]
              refine ⟨fun hcd => ?_, fun hcd => ?_⟩
              · rw [show pairS on x met y = x.entries.foldl (clash1 y) met by rw [hps]; exact if_pos hcd] at hft
                simp only [go_sem, Nat.reduceAdd, Nat.reduceSub, Nat.reduceMul, Nat.reduceEqDiff, Nat.reduceLT, Nat.reduceLeDiff, Nat.reduceBEq, Nat.reduceBNe, Int.reduceToNat, Int.reduceLE, Int.reduceLT, Int.reduceNe, Int.reduceNeg, reduceCtorEq, Int.reduceBEq, Int.reduceBNe, @effV_eff E30 78 e78 rfl rfl, e78, callSpec, k1, hii, hkk, getD_mapN encI l i _ h', getD_mapN encI l k _ hkl, hxx, hyy, encI, hT, hC, hP, hV, hU]
                refine ⟨⟨met, hnd, by omega, hx24, hy24, k3⟩, ?_, fun v H' hF hpo => ?_⟩
                · simp
                · have hO := hpo met hnd (by omega) k3
                  obtain ⟨hT', hC', hP', hV', hU'⟩ := OwnTaint hO
                  simp only [go_sem, Nat.reduceAdd, Nat.reduceSub, Nat.reduceMul, Nat.reduceEqDiff, Nat.reduceLT, Nat.reduceLeDiff, Nat.reduceBEq, Nat.reduceBNe, Int.reduceToNat, Int.reduceLE, Int.reduceLT, Int.reduceNe, Int.reduceNeg, reduceCtorEq, Int.reduceBEq, Int.reduceBNe, hT', hC', hP', hV', hU']
                  refine hK2 (k + 1, v) _ _ ?_ ⟨by omega, (hF _ (by simp)).trans k1, by rw [hft]; exact hO⟩ (by simp only; omega)
                  simp only [go_sem, Nat.reduceAdd, Nat.reduceSub, Nat.reduceMul, Nat.reduceEqDiff, Nat.reduceLT, Nat.reduceLeDiff, Nat.reduceBEq, Nat.reduceBNe, Int.reduceToNat, Int.reduceLE, Int.reduceLT, Int.reduceNe, Int.reduceNeg, reduceCtorEq, Int.reduceBEq, Int.reduceBNe, w3, Int.natCast_add, Int.natCast_one]
              · rw [show pairS on x met y = met by rw [hps]; exact if_neg (by rw [show (dayB on x && dayB on y) = false from hcd]; simp)] at hft
                simp only [go_sem, Nat.reduceAdd, Nat.reduceSub, Nat.reduceMul, Nat.reduceEqDiff, Nat.reduceLT, Nat.reduceLeDiff, Nat.reduceBEq, Nat.reduceBNe, Int.reduceToNat, Int.reduceLE, Int.reduceLT, Int.reduceNe, Int.reduceNeg, reduceCtorEq, Int.reduceBEq, Int.reduceBNe]
                refine hK2 (k + 1, p2) _ _ ?_ ⟨by omega, k1, by rw [hft]; exact k3⟩ (by simp only; omega)
                simp only [go_sem, Nat.reduceAdd, Nat.reduceSub, Nat.reduceMul, Nat.reduceEqDiff, Nat.reduceLT, Nat.reduceLeDiff, Nat.reduceBEq, Nat.reduceBNe, Int.reduceToNat, Int.reduceLE, Int.reduceLT, Int.reduceNe, Int.reduceNeg, reduceCtorEq, Int.reduceBEq, Int.reduceBNe, w3, Int.natCast_add, Int.natCast_one]
            · have hk' : k = i := by have : ¬ ((k : Int) < (i : Int)) := by simpa using h
                                     omega
              subst hk'
              rw [← hou] at k3
              refine hE2 _ _ _ (by simp) ?_
              simp only [go_sem, Nat.reduceAdd, Nat.reduceSub, Nat.reduceMul, Nat.reduceEqDiff, Nat.reduceLT, Nat.reduceLeDiff, Nat.reduceBEq, Nat.reduceBNe, Int.reduceToNat, Int.reduceLE, Int.reduceLT, Int.reduceNe, Int.reduceNeg, reduceCtorEq, Int.reduceBEq, Int.reduceBNe]
              refine hK (k + 1, p2) _ _ ?_ ⟨h', k1, k3⟩ (by simp only; omega)
              simp only [go_sem, Nat.reduceAdd, Nat.reduceSub, Nat.reduceMul, Nat.reduceEqDiff, Nat.reduceLT, Nat.reduceLeDiff, Nat.reduceBEq, Nat.reduceBNe, Int.reduceToNat, Int.reduceLE, Int.reduceLT, Int.reduceNe, Int.reduceNeg, reduceCtorEq, Int.reduceBEq, Int.reduceBNe, w2, Int.natCast_add, Int.natCast_one]
        · have h' : i = l.length := by have : ¬ ((i : Int) < (l.length : Int)) := by simpa using h
                                       omega
          subst h'
          refine hE _ _ _ (by simp) ?_
          obtain ⟨ex, ks, hz1, hz2, hks⟩ := h3.frz
          have hq1 := outR_nodup on l l.length
          have hq3 := outR_len on l hl4 h24 l.length (Nat.le_refl _)
          have hq3' : (outR on l l.length).length ≤ 1000000 := by omega
          have hq2 : ∀ x ∈ outR on l l.length, 0 ≤ x := fun x hx => by
            have : x ∈ sortL (outR on l l.length) := (sortL_perm _).mem_iff.2 hx
            rw [ht, mem_twL] at this
            exact this.1
          generalize outR on l l.length = met at *
          simp only [go_sem, Nat.reduceAdd, Nat.reduceSub, Nat.reduceMul, Nat.reduceEqDiff, Nat.reduceLT, Nat.reduceLeDiff, Nat.reduceBEq, Nat.reduceBNe, Int.reduceToNat, Int.reduceLE, Int.reduceLT, Int.reduceNe, Int.reduceNeg, reduceCtorEq, Int.reduceBEq, Int.reduceBNe, @callV_spec E30 79 s79 rfl, @callV_specT E30 79 s79 rfl, @stepV_spec E30 79 s79 rfl, @effV_spec E30 79 s79 rfl, s79, callSpec, hz1, hT, hC, hP, hV, hU, hq1, hq3']
          refine ⟨hq2, roAll_any fun H' hH' => ?_⟩
          simp only [go_sem, Nat.reduceAdd, Nat.reduceSub, Nat.reduceMul, Nat.reduceEqDiff, Nat.reduceLT, Nat.reduceLeDiff, Nat.reduceBEq, Nat.reduceBNe, Int.reduceToNat, Int.reduceLE, Int.reduceLT, Int.reduceNe, Int.reduceNeg, reduceCtorEq, Int.reduceBEq, Int.reduceBNe]
def s25 : Spec := spec2 (fun (r : Rack) (_ : Int) => okRack r) (fun r on => .tup [.sl (il (twinsM r on).1) false, .int .i64 (twinsM r on).2])
theorem s25_ok : SpecOK Tryd.prog glB 25 s25 := spec2_ok E30_ok Tryd.func25 rfl (by kernel_rfl) fun r on h => refTwins_fn r h on
end Wb
/- The reference: Cheapest. -/
namespace Wb
open Go Go.Proofs Enc Row
set_option linter.unusedSimpArgs false
set_option linter.unusedVariables false
set_option maxRecDepth 20000
set_option maxHeartbeats 4000000
def lessO (n : Int) : Option (Int × Int) → Bool
  | none => true
  | some p => decide (n < p.2)
def stepO (r : Rack) (ls : List Line) (o : Option (Int × Int)) (on : Int) : Option (Int × Int) :=
  if (ls.foldl (add1 r on) (0, true)).2 && lessO (ls.foldl (add1 r on) (0, true)).1 o then some (on, (ls.foldl (add1 r on) (0, true)).1) else o
def toAcc : Option (Int × Int) → Int × Int
  | none => (-1, 0)
  | some p => p
def cstep (acc : Int × Int) (d : Int) (x : Option Int) : Int × Int :=
  match x with
  | some n => if acc.1 < 0 ∨ n < acc.2 then (d, n) else acc
  | none => acc
theorem cheapF_cons (r : Rack) (ls : List Line) (acc : Int × Int) (d : Int) (ds : List Int) : cheapF r ls acc (d :: ds) = cheapF r ls (cstep acc d (sumF r d 0 ls)) ds := rfl
theorem cheap_fold {r : Rack} (h : cents r) (ls : List Line) : ∀ (ds : List Int) (o : Option (Int × Int)), (∀ d ∈ ds, 0 ≤ d) → (∀ p, o = some p → 0 ≤ p.1) → cheapF r ls (toAcc o) ds = toAcc (ds.foldl (stepO r ls) o) ∧ ∀ p, ds.foldl (stepO r ls) o = some p → 0 ≤ p.1
  | [], o, _, ho => ⟨rfl, ho⟩
  | d :: ds, o, hd, ho => by
    have h0 := hd d (by simp)
    rw [List.foldl_cons, cheapF_cons, add_sum h]
    have e : cstep (toAcc o) d (if (ls.foldl (add1 r d) (0, true)).2 then some (ls.foldl (add1 r d) (0, true)).1 else none) = toAcc (stepO r ls o d) := by
      unfold stepO cstep
      generalize ls.foldl (add1 r d) (0, true) = F
      obtain ⟨n, b⟩ := F
      cases b with
      | false => simp
      | true =>
        cases o with
        | none => simp [lessO, toAcc]
        | some p =>
          have h1 := ho p rfl
          have h2 : ¬ p.1 < 0 := by omega
          simp only [lessO, toAcc, if_true, h2, false_or, Bool.true_and]
          by_cases h3 : n < p.2
          · simp [h3]
          · simp [h3]
    rw [e]
    refine cheap_fold h ls ds _ (fun x hx => hd x (by simp [hx])) fun p hp => ?_
    unfold stepO at hp
    split at hp
    · cases hp; exact h0
    · exact ho p hp
theorem cuts_ge {r : Rack} {d : Int × Int} (h : 0 ≤ d.1) : ∀ x ∈ cutsM r d, 0 ≤ x := fun x hx => by
  unfold cutsM at hx
  rw [(compact_sort _).2] at hx
  unfold rawCuts at hx
  rcases List.mem_cons.1 hx with e | hx
  · omega
  · obtain ⟨y, _, hx⟩ := List.mem_flatMap.1 hx
    have := (List.mem_filter.1 hx).2
    simp only [inDays, Bool.and_eq_true, decide_eq_true_eq] at this
    omega
theorem s25_pre (r : Rack) : True := trivial
theorem refCheapest_fn (r : Rack) (hr : okRack r) (d : Int × Int) (ls : List Line) (hls : big ls.length) : Fn E30 0 37 Tryd.f37 (Tryd.f37.body.getD .skip) [.agg (encR r), .agg [.int .i64 d.1, .int .i64 d.2], .sl (ls.map encL) false] (.tup [.int .i64 (cheapM r d ls).1, .int .i64 (cheapM r d ls).2.1, .int .i64 (cheapM r d ls).2.2]) := by
  obtain ⟨g, l⟩ := r
  unfold Fn Tryd.f37 cheapM
  cases hk : rackOk ⟨g, l⟩ with
  | false => simp only [go_sem, Nat.reduceAdd, Nat.reduceSub, Nat.reduceMul, Nat.reduceEqDiff, Nat.reduceLT, Nat.reduceLeDiff, Nat.reduceBEq, Nat.reduceBNe, Int.reduceToNat, Int.reduceLE, Int.reduceLT, Int.reduceNe, Int.reduceNeg, reduceCtorEq, Int.reduceBEq, Int.reduceBNe, @callV_spec E30 62 sIsDays rfl, @callV_specT E30 62 sIsDays rfl, @stepV_spec E30 62 sIsDays rfl, @effV_spec E30 62 sIsDays rfl, sIsDays, @callV_spec E30 95 s95 rfl, @callV_specT E30 95 s95 rfl, @stepV_spec E30 95 s95 rfl, @effV_spec E30 95 s95 rfl, s95, @callV_spec E30 61 s61 rfl, @callV_specT E30 61 s61 rfl, @stepV_spec E30 61 s61 rfl, @effV_spec E30 61 s61 rfl, s61, encR, callSpec, dLn_map, dec_lines, hr, hls, askM_bad hk, hk]
  | true =>
    have hw : linesW g ls = areLinesB g ls := linesW_good hk ls
    have hq : (decide (0 ≤ d.1) && decide (d.1 ≤ d.2) && decide (d.2 ≤ 20000) && areLinesB g ls) = qCheap d ls ⟨g, l⟩ := rfl
    cases hqq : qCheap d ls ⟨g, l⟩ with
    | false => simp only [go_sem, Nat.reduceAdd, Nat.reduceSub, Nat.reduceMul, Nat.reduceEqDiff, Nat.reduceLT, Nat.reduceLeDiff, Nat.reduceBEq, Nat.reduceBNe, Int.reduceToNat, Int.reduceLE, Int.reduceLT, Int.reduceNe, Int.reduceNeg, reduceCtorEq, Int.reduceBEq, Int.reduceBNe, @callV_spec E30 62 sIsDays rfl, @callV_specT E30 62 sIsDays rfl, @stepV_spec E30 62 sIsDays rfl, @effV_spec E30 62 sIsDays rfl, sIsDays, @callV_spec E30 95 s95 rfl, @callV_specT E30 95 s95 rfl, @stepV_spec E30 95 s95 rfl, @effV_spec E30 95 s95 rfl, s95, @callV_spec E30 61 s61 rfl, @callV_specT E30 61 s61 rfl, @stepV_spec E30 61 s61 rfl, @effV_spec E30 61 s61 rfl, s61, encR, callSpec, dLn_map, dec_lines, hr, hls, askM_no hk, hk, hw, hq, hqq]
    | true =>
      have hl := lines_ok (g := g) (ls := ls) (by rw [← hq] at hqq; simp only [Bool.and_eq_true] at hqq; exact hqq.2)
      have hd0 : 0 ≤ d.1 := by rw [← hq] at hqq; simp only [Bool.and_eq_true, decide_eq_true_eq] at hqq; omega
      have hd : (d.1, d.2) = d := rfl
      have hG := rack_good hk
      have hcl := cutsM_len hG d
      have hge := cuts_ge (r := ⟨g, l⟩) hd0
      simp only [go_sem, Nat.reduceAdd, Nat.reduceSub, Nat.reduceMul, Nat.reduceEqDiff, Nat.reduceLT, Nat.reduceLeDiff, Nat.reduceBEq, Nat.reduceBNe, Int.reduceToNat, Int.reduceLE, Int.reduceLT, Int.reduceNe, Int.reduceNeg, reduceCtorEq, Int.reduceBEq, Int.reduceBNe, @callV_spec E30 62 sIsDays rfl, @callV_specT E30 62 sIsDays rfl, @stepV_spec E30 62 sIsDays rfl, @effV_spec E30 62 sIsDays rfl, sIsDays, @callV_spec E30 95 s95 rfl, @callV_specT E30 95 s95 rfl, @stepV_spec E30 95 s95 rfl, @effV_spec E30 95 s95 rfl, s95, @callV_spec E30 61 s61 rfl, @callV_specT E30 61 s61 rfl, @stepV_spec E30 61 s61 rfl, @effV_spec E30 61 s61 rfl, s61, encR, callSpec, dLn_map, dec_lines, hr, hls, askM_yes hk, hk, hw, hq, hqq]
      simp only [go_sem, Nat.reduceAdd, Nat.reduceSub, Nat.reduceMul, Nat.reduceEqDiff, Nat.reduceLT, Nat.reduceLeDiff, Nat.reduceBEq, Nat.reduceBNe, Int.reduceToNat, Int.reduceLE, Int.reduceLT, Int.reduceNe, Int.reduceNeg, reduceCtorEq, Int.reduceBEq, Int.reduceBNe, @callV_spec E30 89 s89 rfl, @callV_specT E30 89 s89 rfl, @stepV_spec E30 89 s89 rfl, @effV_spec E30 89 s89 rfl, s89, callSpec, hd0, hd, hG]
      generalize cutsM ⟨g, l⟩ d = ds at *
      obtain ⟨hcf, hcp⟩ := cheap_fold (r := ⟨g, l⟩) hG.cents ls ds none hge (fun p h => by cases h)
      rw [show ((-1, 0) : Int × Int) = toAcc none from rfl, hcf]
      refine ev_loopS [2, 3, 13] (fun i : Nat => [(10, .bool ((ds.take i).foldl (stepO ⟨g, l⟩ ls) none).isSome), (11, .int .i64 (((ds.take i).foldl (stepO ⟨g, l⟩ ls) none).getD (0, 0)).1), (12, .int .i64 (((ds.take i).foldl (stepO ⟨g, l⟩ ls) none).getD (0, 0)).2), (14, .int .i64 i)])
        (fun i H => i ≤ ds.length ∧ H (([], 37000000) : Key) = some (.cells [.int .i64 g, .sl (l.map encI) false] 1 false))
        (fun i => ds.length - i) 0 ?_ ⟨Nat.zero_le _, ?_⟩ ?_
      · simp only [go_sem, Nat.reduceAdd, Nat.reduceSub, Nat.reduceMul, Nat.reduceEqDiff, Nat.reduceLT, Nat.reduceLeDiff, Nat.reduceBEq, Nat.reduceBNe, Int.reduceToNat, Int.reduceLE, Int.reduceLT, Int.reduceNe, Int.reduceNeg, reduceCtorEq, Int.reduceBEq, Int.reduceBNe]; exact ⟨rfl, rfl, rfl⟩
      · simp only [go_sem, Nat.reduceAdd, Nat.reduceSub, Nat.reduceMul, Nat.reduceEqDiff, Nat.reduceLT, Nat.reduceLeDiff, Nat.reduceBEq, Nat.reduceBNe, Int.reduceToNat, Int.reduceLE, Int.reduceLT, Int.reduceNe, Int.reduceNeg, reduceCtorEq, Int.reduceBEq, Int.reduceBNe]
      · simp only [go_sem, Nat.reduceAdd, Nat.reduceSub, Nat.reduceMul, Nat.reduceEqDiff, Nat.reduceLT, Nat.reduceLeDiff, Nat.reduceBEq, Nat.reduceBNe, Int.reduceToNat, Int.reduceLE, Int.reduceLT, Int.reduceNe, Int.reduceNeg, reduceCtorEq, Int.reduceBEq, Int.reduceBNe]
        intro K i H ⟨hi, h1⟩ hK hE
        simp only [go_sem, Nat.reduceAdd, Nat.reduceSub, Nat.reduceMul, Nat.reduceEqDiff, Nat.reduceLT, Nat.reduceLeDiff, Nat.reduceBEq, Nat.reduceBNe, Int.reduceToNat, Int.reduceLE, Int.reduceLT, Int.reduceNe, Int.reduceNeg, reduceCtorEq, Int.reduceBEq, Int.reduceBNe, il_length]
        rw [condK_bool]
        refine ⟨fun h => ?_, fun h => ?_⟩
        · have h' : i < ds.length := by simpa using h
          have hii : (i : Int) < (ds.length : Int) := by omega
          have w2 : IntKind.i64.wrap ((i : Int) + 1) = (i : Int) + 1 := wrap_id (by omega)
          have hft := fold_take (stepO ⟨g, l⟩ ls) none h'
          rw [show ds.getD i default = ds.getD i 0 from rfl] at hft
          have hso : ∀ o on, stepO ⟨g, l⟩ ls o on = if (ls.foldl (add1 ⟨g, l⟩ on) (0, true)).2 && lessO (ls.foldl (add1 ⟨g, l⟩ on) (0, true)).1 o then some (on, (ls.foldl (add1 ⟨g, l⟩ on) (0, true)).1) else o := fun o on => rfl
          generalize (ds.take i).foldl (stepO ⟨g, l⟩ ls) none = o at *
          rw [hso] at hft
          simp only [go_sem, Nat.reduceAdd, Nat.reduceSub, Nat.reduceMul, Nat.reduceEqDiff, Nat.reduceLT, Nat.reduceLeDiff, Nat.reduceBEq, Nat.reduceBNe, Int.reduceToNat, Int.reduceLE, Int.reduceLT, Int.reduceNe, Int.reduceNeg, reduceCtorEq, Int.reduceBEq, Int.reduceBNe, @callV_spec E30 96 s96 rfl, @callV_specT E30 96 s96 rfl, @stepV_spec E30 96 s96 rfl, @effV_spec E30 96 s96 rfl, s96, callSpec, dLn_map, dec_lines, h1, hii, il_length, il_get, hG, hl.1]
          refine ⟨hl.2, fun q1 q2 => ⟨q1, q2⟩, ?_⟩
          generalize ls.foldl (add1 ⟨g, l⟩ (ds.getD i 0)) (0, true) = F at *
          obtain ⟨n, b⟩ := F
          have hcnd : (b && (!o.isSome || decide (n < (o.getD (0, 0)).2))) = (b && lessO n o) := by cases o <;> simp [lessO]
          rw [hcnd, condK_bool]
          refine ⟨fun hc => ?_, fun hc => ?_⟩
          · rw [if_pos hc] at hft
            simp only [go_sem, Nat.reduceAdd, Nat.reduceSub, Nat.reduceMul, Nat.reduceEqDiff, Nat.reduceLT, Nat.reduceLeDiff, Nat.reduceBEq, Nat.reduceBNe, Int.reduceToNat, Int.reduceLE, Int.reduceLT, Int.reduceNe, Int.reduceNeg, reduceCtorEq, Int.reduceBEq, Int.reduceBNe, hii, il_length, il_get]
            refine hK (i + 1) _ _ ?_ ⟨h', h1⟩ (by omega)
            simp only [go_sem, Nat.reduceAdd, Nat.reduceSub, Nat.reduceMul, Nat.reduceEqDiff, Nat.reduceLT, Nat.reduceLeDiff, Nat.reduceBEq, Nat.reduceBNe, Int.reduceToNat, Int.reduceLE, Int.reduceLT, Int.reduceNe, Int.reduceNeg, reduceCtorEq, Int.reduceBEq, Int.reduceBNe, w2, Int.natCast_add, Int.natCast_one, hft, Option.isSome]
          · rw [if_neg (by rw [hc]; simp)] at hft
            simp only [go_sem, Nat.reduceAdd, Nat.reduceSub, Nat.reduceMul, Nat.reduceEqDiff, Nat.reduceLT, Nat.reduceLeDiff, Nat.reduceBEq, Nat.reduceBNe, Int.reduceToNat, Int.reduceLE, Int.reduceLT, Int.reduceNe, Int.reduceNeg, reduceCtorEq, Int.reduceBEq, Int.reduceBNe]
            refine hK (i + 1) _ _ ?_ ⟨h', h1⟩ (by omega)
            simp only [go_sem, Nat.reduceAdd, Nat.reduceSub, Nat.reduceMul, Nat.reduceEqDiff, Nat.reduceLT, Nat.reduceLeDiff, Nat.reduceBEq, Nat.reduceBNe, Int.reduceToNat, Int.reduceLE, Int.reduceLT, Int.reduceNe, Int.reduceNeg, reduceCtorEq, Int.reduceBEq, Int.reduceBNe, w2, Int.natCast_add, Int.natCast_one, hft]
        · have h' : i = ds.length := by have : ¬ ((i : Int) < (ds.length : Int)) := by simpa using h
                                        omega
          subst h'
          refine hE _ _ _ (by simp) ?_
          simp only [go_sem, Nat.reduceAdd, Nat.reduceSub, Nat.reduceMul, Nat.reduceEqDiff, Nat.reduceLT, Nat.reduceLeDiff, Nat.reduceBEq, Nat.reduceBNe, Int.reduceToNat, Int.reduceLE, Int.reduceLT, Int.reduceNe, Int.reduceNeg, reduceCtorEq, Int.reduceBEq, Int.reduceBNe, List.take_length]
          cases ho : ds.foldl (stepO ⟨g, l⟩ ls) none with
          | none => simp only [go_sem, Nat.reduceAdd, Nat.reduceSub, Nat.reduceMul, Nat.reduceEqDiff, Nat.reduceLT, Nat.reduceLeDiff, Nat.reduceBEq, Nat.reduceBNe, Int.reduceToNat, Int.reduceLE, Int.reduceLT, Int.reduceNe, Int.reduceNeg, reduceCtorEq, Int.reduceBEq, Int.reduceBNe, Option.isSome, toAcc]
          | some p =>
            have hp := hcp p ho
            have hp' : ¬ p.1 < 0 := by omega
            simp only [go_sem, Nat.reduceAdd, Nat.reduceSub, Nat.reduceMul, Nat.reduceEqDiff, Nat.reduceLT, Nat.reduceLeDiff, Nat.reduceBEq, Nat.reduceBNe, Int.reduceToNat, Int.reduceLE, Int.reduceLT, Int.reduceNe, Int.reduceNeg, reduceCtorEq, Int.reduceBEq, Int.reduceBNe, Option.isSome, toAcc, hp']
theorem s37_ok : SpecOK Tryd.prog glB 37 s36 := spec3_ok E30_ok Tryd.func37 rfl (by kernel_rfl) fun r d ls h => refCheapest_fn r h.1 d ls h.2
end Wb
/- The chapter's examples hold. -/
namespace Wb
open Go Go.Proofs Enc Row
set_option linter.unusedSimpArgs false
set_option linter.unusedVariables false
set_option maxRecDepth 20000
set_option maxHeartbeats 4000000
def E31t : List (Nat × Spec) := [(25, s25), (37, s36)] ++ E29t
theorem E31t_ok : AllOK E31t := ⟨⟨s25_ok, Tryd.call25⟩, ⟨s37_ok, Tryd.call37⟩, E29t_ok⟩
noncomputable def E31 : Env := mkE E31t []
theorem E31_ok : EnvOK Tryd.prog E31 := envOK E31t_ok trivial
theorem E31_ti {t : Nat} : E31.ti t = ti t := rfl
theorem E31_q0 : (E31).eqt 152 = true := rfl
theorem E31_q1 : (E31).eqt 69 = true := rfl
theorem E31_q2 : (E31).keyt 3 = true := rfl
theorem E31_q3 : (E31).keyt 108 = true := rfl
attribute [go_sem] E31_ti E31_q0 E31_q1 E31_q2 E31_q3
theorem rackC_ok : rackOk rackC = true := by decide
theorem rackC_good : GRack rackC := rack_good rackC_ok
theorem rackC_okR : okRack rackC := by
  simp [okRack, rackC, okIssue, okEntry, okFit, okInt]
theorem cutsC : cutsM rackC (250, 350) = [250, 260, 301] := by
  refine strict_ext (compact_sort _).1 (by decide) fun x => ?_
  unfold cutsM
  rw [(compact_sort _).2, show rawCuts (250, 350) rackC.issues = [250, 301, 260] by decide]
  simp only [List.mem_cons, List.not_mem_nil, or_false]; omega
theorem meansC : meansM rackC (270, 270) 12 = ([(0, 1), (1, 0)], 0) := by decide
theorem numC : numM rackC 0 11 1 = (12, 0) := by decide
theorem twinsC : twinsM rackC 270 = ([12], 0) := by
  unfold twinsM
  rw [if_pos rackC_ok, if_pos (by decide)]
  rw [strict_ext (twL_strict (twAt 270 rackC.issues).t 10000) (b := [12]) (by simp) fun x => ?_]
  rw [mem_twL, twAt_pair]
  have e : (rackC.issues.filter (ovl 0 270 270)).flatMap (·.entries) = rackC.issues.flatMap (·.entries) := by rfl
  rw [e]
  simp only [rackC, hasPair, List.flatMap_cons, List.flatMap_nil, List.append_nil, List.cons_append, List.nil_append, List.mem_cons, List.not_mem_nil, or_false, exists_eq_or_imp, exists_eq_left]
  omega
theorem priceC : priceM rackC 290 ⟨0, 40, 0⟩ = (900, 0) := by decide
theorem pricesC : pricesM rackC (250, 350) ⟨0, 40, 0⟩ = ([900, 980], 0) := by
  unfold pricesM
  rw [if_pos rackC_ok, if_pos (by decide)]
  unfold pricesL
  rw [cutsC, show ([250, 260, 301] : List Int).filterMap (fun on => priceP rackC on ⟨0, 40, 0⟩) = [900, 900, 980] by decide]
  rw [strict_ext (compact_sort [900, 900, 980]).1 (b := [900, 980]) (by decide) fun x => ?_]
  rw [(compact_sort _).2]
  simp only [List.mem_cons, List.not_mem_nil, or_false]; omega
theorem lastC : lastM rackC ⟨1, 7, 0⟩ = (300, 0) := by decide
theorem cheapC : cheapM rackC (250, 350) orderC = (260, 10900, 0) := by
  unfold cheapM
  rw [if_pos rackC_ok, if_pos (by decide), cutsC]
  decide
theorem fitsC : fitsM rackC 0 11 (255, 257) = ([40, 41], 0) := by decide
theorem sureC : sureM rackC 0 11 (252, 258) = (40, 0) := by decide
theorem sumC : sumM rackC 270 orderC = (10900, 0) := by decide
theorem dec_ml (l : List (Int × Int)) (ex : Bool) : (dec (.sl (ml l) ex) : Option (List (Int × Int))) = some l := drows_rows l
theorem works_fn : Fn E31 0 27 Tryd.f27 (Tryd.f27.body.getD .skip) [] (.bool true) := by
  unfold Fn Tryd.f27
  have hη : (⟨rackC.goods, rackC.issues⟩ : Rack) = rackC := rfl
  have hd2 : (dec (.sl [[.int .i64 0, .int .i64 1], [.int .i64 1, .int .i64 0]] true) : Option (List (Int × Int))) = some [(0, 1), (1, 0)] := rfl
  have hml : ml [(0, 1), (1, 0)] = [[.int .i64 0, .int .i64 1], [.int .i64 1, .int .i64 0]] := rfl
  have h1 : (dec (.sl [[.int .i64 12]] true) : Option (List Int)) = some [12] := rfl
  have h2 : (dec (.sl [[.int .i64 900], [.int .i64 980]] true) : Option (List Int)) = some [900, 980] := rfl
  have h3 : (dec (.sl [[.int .i64 40], [.int .i64 41]] true) : Option (List Int)) = some [40, 41] := rfl
  have b0 : big orderC.length := by unfold big orderC; simp
  simp (maxSteps := 4000000) only [go_sem, Nat.reduceAdd, Nat.reduceSub, Nat.reduceMul, Nat.reduceEqDiff, Nat.reduceLT, Nat.reduceLeDiff, Nat.reduceBEq, Nat.reduceBNe, Int.reduceToNat, Int.reduceLE, Int.reduceLT, Int.reduceNe, Int.reduceNeg, reduceCtorEq, Int.reduceBEq, Int.reduceBNe, @callV_spec E31 53 s53 rfl, @callV_specT E31 53 s53 rfl, @stepV_spec E31 53 s53 rfl, @effV_spec E31 53 s53 rfl, s53, @callV_spec E31 44 sTo rfl, @callV_specT E31 44 sTo rfl, @stepV_spec E31 44 sTo rfl, @effV_spec E31 44 sTo rfl, sTo, @callV_spec E31 17 s17 rfl, @callV_specT E31 17 s17 rfl, @stepV_spec E31 17 s17 rfl, @effV_spec E31 17 s17 rfl, s17, @callV_spec E31 22 s22 rfl, @callV_specT E31 22 s22 rfl, @stepV_spec E31 22 s22 rfl, @effV_spec E31 22 s22 rfl, s22, @callV_spec E31 24 s24 rfl, @callV_specT E31 24 s24 rfl, @stepV_spec E31 24 s24 rfl, @effV_spec E31 24 s24 rfl, s24, @callV_spec E31 54 sthing rfl, @callV_specT E31 54 sthing rfl, @stepV_spec E31 54 sthing rfl, @effV_spec E31 54 sthing rfl, sthing, @callV_spec E31 28 s28 rfl, @callV_specT E31 28 s28 rfl, @stepV_spec E31 28 s28 rfl, @effV_spec E31 28 s28 rfl, s28, @callV_spec E31 19 s19 rfl, @callV_specT E31 19 s19 rfl, @stepV_spec E31 19 s19 rfl, @effV_spec E31 19 s19 rfl, s19, @callV_spec E31 26 s26 rfl, @callV_specT E31 26 s26 rfl, @stepV_spec E31 26 s26 rfl, @effV_spec E31 26 s26 rfl, s26, @callV_spec E31 30 s30 rfl, @callV_specT E31 30 s30 rfl, @stepV_spec E31 30 s30 rfl, @effV_spec E31 30 s30 rfl, s30, @callV_spec E31 32 s32 rfl, @callV_specT E31 32 s32 rfl, @stepV_spec E31 32 s32 rfl, @effV_spec E31 32 s32 rfl, s32, @callV_spec E31 55 s55 rfl, @callV_specT E31 55 s55 rfl, @stepV_spec E31 55 s55 rfl, @effV_spec E31 55 s55 rfl, s55, @callV_spec E31 36 s36 rfl, @callV_specT E31 36 s36 rfl, @stepV_spec E31 36 s36 rfl, @effV_spec E31 36 s36 rfl, s36, @callV_spec E31 38 s38 rfl, @callV_specT E31 38 s38 rfl, @stepV_spec E31 38 s38 rfl, @effV_spec E31 38 s38 rfl, s38, @callV_spec E31 40 s40 rfl, @callV_specT E31 40 s40 rfl, @stepV_spec E31 40 s40 rfl, @effV_spec E31 40 s40 rfl, s40, @callV_spec E31 34 s34 rfl, @callV_specT E31 34 s34 rfl, @stepV_spec E31 34 s34 rfl, @effV_spec E31 34 s34 rfl, s34, encR, callSpec, rackC_okR, hη, meansC, numC, twinsC, priceC, pricesC, lastC, cheapC, fitsC, sureC, sumC, dec_ml, dec_lines, dLn_map, b0, hd2, h1, h2, h3, il, hml, big]
  exact b0
def s27 : Spec := spec0 True (.bool true)
theorem s27_ok : SpecOK Tryd.prog glB 27 s27 := spec0_ok E31_ok Tryd.func27 rfl (by kernel_rfl) fun _ => works_fn
def E32t : List (Nat × Spec) := [(27, s27)] ++ E31t
theorem E32t_ok : AllOK E32t := ⟨⟨s27_ok, Tryd.call27⟩, E31t_ok⟩
noncomputable def E32 : Env := mkE E32t []
theorem E32_ok : EnvOK Tryd.prog E32 := envOK E32t_ok trivial
theorem E32_ti {t : Nat} : E32.ti t = ti t := rfl
theorem E32_q0 : (E32).eqt 152 = true := rfl
theorem E32_q1 : (E32).eqt 69 = true := rfl
theorem E32_q2 : (E32).keyt 3 = true := rfl
theorem E32_q3 : (E32).keyt 108 = true := rfl
attribute [go_sem] E32_ti E32_q0 E32_q1 E32_q2 E32_q3
end Wb
