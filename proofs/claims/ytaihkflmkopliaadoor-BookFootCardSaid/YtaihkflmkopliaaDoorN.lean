import Derived.Test.YtaihkflmkopliaaDoorM
set_option linter.unusedVariables false
set_option linter.unusedSimpArgs false
/- BookKept: the price that is kept. -/
namespace Wb
open Go Go.Proofs Enc Row
set_option linter.unusedSimpArgs false
set_option linter.unusedVariables false
set_option maxRecDepth 20000
set_option maxHeartbeats 4000000
-- f49 printed
def sizeP (z : Int) (l : List Fit) : Option Int := (l.find? (fun f => f.size == z)).map (·.price)
def printedO (t : Item) : List Entry → Option Int
  | [] => none
  | e :: l => if e.good == t.good && inF e.colours t.colour then (match sizeP t.size e.sizes with | some p => some p | none => printedO t l) else printedO t l
theorem sizeP_drop (z : Int) {l : List Fit} {i : Nat} (h : i < l.length) : sizeP z (l.drop i) = if (l.getD i default).size == z then some (l.getD i default).price else sizeP z (l.drop (i + 1)) := by
  have e : l.getD i default = l[i] := by simp [h]
  rw [e, List.drop_eq_getElem_cons h]
  unfold sizeP
  rw [List.find?_cons]
  cases (l[i].size == z) <;> rfl
theorem printedO_drop (t : Item) {l : List Entry} {i : Nat} (h : i < l.length) : printedO t (l.drop i) = if (l.getD i default).good == t.good && inF (l.getD i default).colours t.colour then (match sizeP t.size (l.getD i default).sizes with | some p => some p | none => printedO t (l.drop (i + 1))) else printedO t (l.drop (i + 1)) := by
  have e : l.getD i default = l[i] := by simp [h]
  rw [e, List.drop_eq_getElem_cons h]
  rfl
theorem printed_no (t : Item) : ∀ (l : List Entry), (∀ e ∈ l, e.good ≠ t.good) → printedO t l = none
  | [], _ => rfl
  | e :: l, h => by
    have : (e.good == t.good) = false := by simpa using h e (by simp)
    rw [printedO, this]
    simpa using printed_no t l fun x hx => h x (by simp [hx])
theorem printed_in (t : Item) : ∀ (l : List Entry), (l.map (·.good)).Nodup → printedO t l = inP t l
  | [], _ => rfl
  | e :: l, h => by
    rw [List.map_cons, List.nodup_cons] at h
    have ih := printed_in t l h.2
    unfold inP at ih ⊢
    rw [printedO, entryOf]
    cases hg : e.good == t.good with
    | false => simpa using ih
    | true =>
      have hno : printedO t l = none := printed_no t l fun x hx q => h.1 (by
        have : e.good = t.good := by simpa using hg
        rw [this, ← q]; exact List.mem_map_of_mem hx)
      simp only [Bool.true_and, if_true]
      cases inF e.colours t.colour with
      | false => simpa using hno
      | true =>
        simp only [if_true]
        unfold sizeP
        cases e.sizes.find? (fun f => f.size == t.size) with
        | none => simpa using hno
        | some f => rfl
theorem printed_fn (y : Issue) (t : Item) (hc : 0 ≤ t.colour) (h24 : y.entries.length ≤ 24) (h8 : ∀ e ∈ y.entries, e.sizes.length ≤ 8) : Fn E34 0 49 Tryd.f49 (Tryd.f49.body.getD .skip) [.agg (encI y), .agg (encT t)] (.int .i64 ((printedO t y.entries).getD 0)) := by
  obtain ⟨a, b, c⟩ := t
  simp only at hc
  unfold Fn Tryd.f49
  simp only [go_sem, Nat.reduceAdd, Nat.reduceSub, Nat.reduceMul, Nat.reduceEqDiff, Nat.reduceLT, Nat.reduceLeDiff, Nat.reduceBEq, Nat.reduceBNe, Int.reduceToNat, Int.reduceLE, Int.reduceLT, Int.reduceNe, Int.reduceNeg, reduceCtorEq, Int.reduceBEq, Int.reduceBNe, encI, encT]
  refine ev_loopS [2, 3] (fun i : Nat => [(5, .int .i64 i)])
    (fun i H => i ≤ y.entries.length ∧ H (([], 49000000) : Key) = some (.cells (encI y) 1 false) ∧ H (([], 49000001) : Key) = some (.cells [.int .i64 a, .int .i64 b, .int .i64 c] 1 false) ∧ printedO ⟨a, b, c⟩ y.entries = printedO ⟨a, b, c⟩ (y.entries.drop i))
    (fun i => y.entries.length - i) 0 ?_ ⟨Nat.zero_le _, ?_, ?_, rfl⟩ ?_
  · simp only [go_sem, Nat.reduceAdd, Nat.reduceSub, Nat.reduceMul, Nat.reduceEqDiff, Nat.reduceLT, Nat.reduceLeDiff, Nat.reduceBEq, Nat.reduceBNe, Int.reduceToNat, Int.reduceLE, Int.reduceLT, Int.reduceNe, Int.reduceNeg, reduceCtorEq, Int.reduceBEq, Int.reduceBNe]
  · simp only [go_sem, Nat.reduceAdd, Nat.reduceSub, Nat.reduceMul, Nat.reduceEqDiff, Nat.reduceLT, Nat.reduceLeDiff, Nat.reduceBEq, Nat.reduceBNe, Int.reduceToNat, Int.reduceLE, Int.reduceLT, Int.reduceNe, Int.reduceNeg, reduceCtorEq, Int.reduceBEq, Int.reduceBNe, encI]
  · simp only [go_sem, Nat.reduceAdd, Nat.reduceSub, Nat.reduceMul, Nat.reduceEqDiff, Nat.reduceLT, Nat.reduceLeDiff, Nat.reduceBEq, Nat.reduceBNe, Int.reduceToNat, Int.reduceLE, Int.reduceLT, Int.reduceNe, Int.reduceNeg, reduceCtorEq, Int.reduceBEq, Int.reduceBNe]
  · simp only [go_sem, Nat.reduceAdd, Nat.reduceSub, Nat.reduceMul, Nat.reduceEqDiff, Nat.reduceLT, Nat.reduceLeDiff, Nat.reduceBEq, Nat.reduceBNe, Int.reduceToNat, Int.reduceLE, Int.reduceLT, Int.reduceNe, Int.reduceNeg, reduceCtorEq, Int.reduceBEq, Int.reduceBNe]
    intro K i H ⟨hi, h1, h2, hf⟩ hK hE
    simp only [go_sem, Nat.reduceAdd, Nat.reduceSub, Nat.reduceMul, Nat.reduceEqDiff, Nat.reduceLT, Nat.reduceLeDiff, Nat.reduceBEq, Nat.reduceBNe, Int.reduceToNat, Int.reduceLE, Int.reduceLT, Int.reduceNe, Int.reduceNeg, reduceCtorEq, Int.reduceBEq, Int.reduceBNe, h1, encI]
    rw [condK_bool]
    refine ⟨fun h => ?_, fun h => ?_⟩
    · have h' : i < y.entries.length := by simpa using h
      have hii : (i : Int) < (y.entries.length : Int) := by omega
      have w2 : IntKind.i64.wrap ((i : Int) + 1) = (i : Int) + 1 := wrap_id (by omega)
      have he : y.entries.getD i default ∈ y.entries := by simp [List.getD_eq_getElem?_getD, h']
      have he8 := h8 _ he
      have hpd := printedO_drop ⟨a, b, c⟩ h'
      rw [hpd] at hf
      generalize hee : y.entries.getD i default = e at *
      simp only at hf
      simp only [go_sem, Nat.reduceAdd, Nat.reduceSub, Nat.reduceMul, Nat.reduceEqDiff, Nat.reduceLT, Nat.reduceLeDiff, Nat.reduceBEq, Nat.reduceBNe, Int.reduceToNat, Int.reduceLE, Int.reduceLT, Int.reduceNe, Int.reduceNeg, reduceCtorEq, Int.reduceBEq, Int.reduceBNe, @callV_spec E34 104 sIn rfl, @callV_specT E34 104 sIn rfl, @stepV_spec E34 104 sIn rfl, @effV_spec E34 104 sIn rfl, sIn, callSpec, h1, h2, hii, getD_mapN encE y.entries i _ h', hee, encI, encE, hc]
      generalize hv : verOf H ([], 49004005) + 1 = v
      rw [condK_bool]
      refine ⟨fun hcd => ?_, fun hcd => ?_⟩
      · have hq : (e.good == a && inF e.colours c) = false := by
          rw [Bool.eq_false_iff]; intro q
          simp only [Bool.and_eq_true, beq_iff_eq] at q
          simp only [Bool.or_eq_true, bne_iff_ne, ne_eq, Bool.not_eq_true'] at hcd
          rcases hcd with h | h
          · exact h q.1
          · rw [q.2] at h; cases h
        rw [hq] at hf
        simp only [go_sem, Nat.reduceAdd, Nat.reduceSub, Nat.reduceMul, Nat.reduceEqDiff, Nat.reduceLT, Nat.reduceLeDiff, Nat.reduceBEq, Nat.reduceBNe, Int.reduceToNat, Int.reduceLE, Int.reduceLT, Int.reduceNe, Int.reduceNeg, reduceCtorEq, Int.reduceBEq, Int.reduceBNe]
        refine hK (i + 1) _ _ ?_ ⟨h', ?_, ?_, by simpa using hf⟩ (by omega)
        · simp only [go_sem, Nat.reduceAdd, Nat.reduceSub, Nat.reduceMul, Nat.reduceEqDiff, Nat.reduceLT, Nat.reduceLeDiff, Nat.reduceBEq, Nat.reduceBNe, Int.reduceToNat, Int.reduceLE, Int.reduceLT, Int.reduceNe, Int.reduceNeg, reduceCtorEq, Int.reduceBEq, Int.reduceBNe, w2, Int.natCast_add, Int.natCast_one]
        · simp only [go_sem, Nat.reduceAdd, Nat.reduceSub, Nat.reduceMul, Nat.reduceEqDiff, Nat.reduceLT, Nat.reduceLeDiff, Nat.reduceBEq, Nat.reduceBNe, Int.reduceToNat, Int.reduceLE, Int.reduceLT, Int.reduceNe, Int.reduceNeg, reduceCtorEq, Int.reduceBEq, Int.reduceBNe, h1, encI]
        · simp only [go_sem, Nat.reduceAdd, Nat.reduceSub, Nat.reduceMul, Nat.reduceEqDiff, Nat.reduceLT, Nat.reduceLeDiff, Nat.reduceBEq, Nat.reduceBNe, Int.reduceToNat, Int.reduceLE, Int.reduceLT, Int.reduceNe, Int.reduceNeg, reduceCtorEq, Int.reduceBEq, Int.reduceBNe, h2]
      · have hq : (e.good == a && inF e.colours c) = true := by
          simp only [Bool.or_eq_false_iff, bne_eq_false_iff_eq, Bool.not_eq_false'] at hcd
          simp [hcd.1, hcd.2]
        rw [hq] at hf
        simp only [if_true] at hf
        simp only [go_sem, Nat.reduceAdd, Nat.reduceSub, Nat.reduceMul, Nat.reduceEqDiff, Nat.reduceLT, Nat.reduceLeDiff, Nat.reduceBEq, Nat.reduceBNe, Int.reduceToNat, Int.reduceLE, Int.reduceLT, Int.reduceNe, Int.reduceNeg, reduceCtorEq, Int.reduceBEq, Int.reduceBNe]
        refine ev_loopS [2, 3, 5, 6] (fun k : Nat => [(7, .int .i64 k)])
          (fun k H => k ≤ e.sizes.length ∧ H (([], 49000000) : Key) = some (.cells (encI y) 1 false) ∧ H (([], 49000001) : Key) = some (.cells [.int .i64 a, .int .i64 b, .int .i64 c] 1 false) ∧ H (([], 49004005) : Key) = some (.cells (encE e) v false) ∧ sizeP b e.sizes = sizeP b (e.sizes.drop k))
          (fun k => e.sizes.length - k) 0 ?_ ⟨Nat.zero_le _, ?_, ?_, ?_, rfl⟩ ?_
        · simp only [go_sem, Nat.reduceAdd, Nat.reduceSub, Nat.reduceMul, Nat.reduceEqDiff, Nat.reduceLT, Nat.reduceLeDiff, Nat.reduceBEq, Nat.reduceBNe, Int.reduceToNat, Int.reduceLE, Int.reduceLT, Int.reduceNe, Int.reduceNeg, reduceCtorEq, Int.reduceBEq, Int.reduceBNe]
        · simp only [go_sem, Nat.reduceAdd, Nat.reduceSub, Nat.reduceMul, Nat.reduceEqDiff, Nat.reduceLT, Nat.reduceLeDiff, Nat.reduceBEq, Nat.reduceBNe, Int.reduceToNat, Int.reduceLE, Int.reduceLT, Int.reduceNe, Int.reduceNeg, reduceCtorEq, Int.reduceBEq, Int.reduceBNe, h1, encI]
        · simp only [go_sem, Nat.reduceAdd, Nat.reduceSub, Nat.reduceMul, Nat.reduceEqDiff, Nat.reduceLT, Nat.reduceLeDiff, Nat.reduceBEq, Nat.reduceBNe, Int.reduceToNat, Int.reduceLE, Int.reduceLT, Int.reduceNe, Int.reduceNeg, reduceCtorEq, Int.reduceBEq, Int.reduceBNe, h2]
        · simp only [go_sem, Nat.reduceAdd, Nat.reduceSub, Nat.reduceMul, Nat.reduceEqDiff, Nat.reduceLT, Nat.reduceLeDiff, Nat.reduceBEq, Nat.reduceBNe, Int.reduceToNat, Int.reduceLE, Int.reduceLT, Int.reduceNe, Int.reduceNeg, reduceCtorEq, Int.reduceBEq, Int.reduceBNe, encE]
        · simp only [go_sem, Nat.reduceAdd, Nat.reduceSub, Nat.reduceMul, Nat.reduceEqDiff, Nat.reduceLT, Nat.reduceLeDiff, Nat.reduceBEq, Nat.reduceBNe, Int.reduceToNat, Int.reduceLE, Int.reduceLT, Int.reduceNe, Int.reduceNeg, reduceCtorEq, Int.reduceBEq, Int.reduceBNe]
          intro K2 k H2 ⟨hk, k1, k2, k3, kf⟩ hK2 hE2
          simp only [go_sem, Nat.reduceAdd, Nat.reduceSub, Nat.reduceMul, Nat.reduceEqDiff, Nat.reduceLT, Nat.reduceLeDiff, Nat.reduceBEq, Nat.reduceBNe, Int.reduceToNat, Int.reduceLE, Int.reduceLT, Int.reduceNe, Int.reduceNeg, reduceCtorEq, Int.reduceBEq, Int.reduceBNe, k1, k2, k3, encE]
          rw [condK_bool]
          refine ⟨fun h => ?_, fun h => ?_⟩
          · have hk' : k < e.sizes.length := by simpa using h
            have hkk : (k : Int) < (e.sizes.length : Int) := by omega
            have w3 : IntKind.i64.wrap ((k : Int) + 1) = (k : Int) + 1 := wrap_id (by omega)
            rw [sizeP_drop b hk'] at kf
            generalize hff : e.sizes.getD k default = f at *
            simp only [go_sem, Nat.reduceAdd, Nat.reduceSub, Nat.reduceMul, Nat.reduceEqDiff, Nat.reduceLT, Nat.reduceLeDiff, Nat.reduceBEq, Nat.reduceBNe, Int.reduceToNat, Int.reduceLE, Int.reduceLT, Int.reduceNe, Int.reduceNeg, reduceCtorEq, Int.reduceBEq, Int.reduceBNe, k1, k2, k3, hkk, getD_mapN encF e.sizes k _ hk', hff, encE, encF]
            rw [condK_bool]
            refine ⟨fun hcd => ?_, fun hcd => ?_⟩
            · rw [if_pos hcd] at kf
              rw [kf] at hf
              simp only at hf
              simp only [go_sem, Nat.reduceAdd, Nat.reduceSub, Nat.reduceMul, Nat.reduceEqDiff, Nat.reduceLT, Nat.reduceLeDiff, Nat.reduceBEq, Nat.reduceBNe, Int.reduceToNat, Int.reduceLE, Int.reduceLT, Int.reduceNe, Int.reduceNeg, reduceCtorEq, Int.reduceBEq, Int.reduceBNe, k1, k2, k3, hkk, getD_mapN encF e.sizes k _ hk', hff, encE, encF]
              refine hE2 _ _ _ (by simp) ?_
              simp only [go_sem, Nat.reduceAdd, Nat.reduceSub, Nat.reduceMul, Nat.reduceEqDiff, Nat.reduceLT, Nat.reduceLeDiff, Nat.reduceBEq, Nat.reduceBNe, Int.reduceToNat, Int.reduceLE, Int.reduceLT, Int.reduceNe, Int.reduceNeg, reduceCtorEq, Int.reduceBEq, Int.reduceBNe]
              refine hE _ _ _ (by simp) ?_
              simp only [go_sem, Nat.reduceAdd, Nat.reduceSub, Nat.reduceMul, Nat.reduceEqDiff, Nat.reduceLT, Nat.reduceLeDiff, Nat.reduceBEq, Nat.reduceBNe, Int.reduceToNat, Int.reduceLE, Int.reduceLT, Int.reduceNe, Int.reduceNeg, reduceCtorEq, Int.reduceBEq, Int.reduceBNe, hf]
            · rw [if_neg (by rw [hcd]; simp)] at kf
              simp only [go_sem, Nat.reduceAdd, Nat.reduceSub, Nat.reduceMul, Nat.reduceEqDiff, Nat.reduceLT, Nat.reduceLeDiff, Nat.reduceBEq, Nat.reduceBNe, Int.reduceToNat, Int.reduceLE, Int.reduceLT, Int.reduceNe, Int.reduceNeg, reduceCtorEq, Int.reduceBEq, Int.reduceBNe]
              refine hK2 (k + 1) _ _ ?_ ⟨hk', k1, k2, k3, kf⟩ (by omega)
              simp only [go_sem, Nat.reduceAdd, Nat.reduceSub, Nat.reduceMul, Nat.reduceEqDiff, Nat.reduceLT, Nat.reduceLeDiff, Nat.reduceBEq, Nat.reduceBNe, Int.reduceToNat, Int.reduceLE, Int.reduceLT, Int.reduceNe, Int.reduceNeg, reduceCtorEq, Int.reduceBEq, Int.reduceBNe, w3, Int.natCast_add, Int.natCast_one]
          · have hk' : k = e.sizes.length := by have : ¬ ((k : Int) < (e.sizes.length : Int)) := by simpa using h
                                                omega
            subst hk'
            rw [List.drop_length] at kf
            rw [show sizeP b e.sizes = none from kf] at hf
            simp only at hf
            refine hE2 _ _ _ (by simp) ?_
            simp only [go_sem, Nat.reduceAdd, Nat.reduceSub, Nat.reduceMul, Nat.reduceEqDiff, Nat.reduceLT, Nat.reduceLeDiff, Nat.reduceBEq, Nat.reduceBNe, Int.reduceToNat, Int.reduceLE, Int.reduceLT, Int.reduceNe, Int.reduceNeg, reduceCtorEq, Int.reduceBEq, Int.reduceBNe]
            refine hK (i + 1) _ _ ?_ ⟨h', k1, k2, hf⟩ (by omega)
            simp only [go_sem, Nat.reduceAdd, Nat.reduceSub, Nat.reduceMul, Nat.reduceEqDiff, Nat.reduceLT, Nat.reduceLeDiff, Nat.reduceBEq, Nat.reduceBNe, Int.reduceToNat, Int.reduceLE, Int.reduceLT, Int.reduceNe, Int.reduceNeg, reduceCtorEq, Int.reduceBEq, Int.reduceBNe, w2, Int.natCast_add, Int.natCast_one]
    · have h' : i = y.entries.length := by have : ¬ ((i : Int) < (y.entries.length : Int)) := by simpa using h
                                           omega
      subst h'
      rw [List.drop_length] at hf
      refine hE _ _ _ (by simp) ?_
      simp only [go_sem, Nat.reduceAdd, Nat.reduceSub, Nat.reduceMul, Nat.reduceEqDiff, Nat.reduceLT, Nat.reduceLeDiff, Nat.reduceBEq, Nat.reduceBNe, Int.reduceToNat, Int.reduceLE, Int.reduceLT, Int.reduceNe, Int.reduceNeg, reduceCtorEq, Int.reduceBEq, Int.reduceBNe, hf, printedO]
def s49 : Spec := fun args => match args with
  | [.agg cs, .agg [.int .i64 a, .int .i64 b, .int .i64 c]] => (dI cs).map fun y => (0 ≤ c ∧ y.entries.length ≤ 24 ∧ (∀ e ∈ y.entries, e.sizes.length ≤ 8) ∧ (y.entries.map (·.good)).Nodup, .int .i64 ((inP ⟨a, b, c⟩ y.entries).getD 0))
  | _ => none
theorem s49_ok : SpecOK Tryd.prog glB 49 s49 := specOK_of E34_ok Tryd.func49 (by kernel_rfl) fun args pre v h hp => by
  unfold s49 at h
  split at h
  · simp only [Option.map_eq_some_iff] at h
    obtain ⟨y, h1, h2⟩ := h
    cases h2
    refine ⟨[.agg (encI y), .agg [.int .i64 _, .int .i64 _, .int .i64 _]], _, ⟨dI_wk _ _ h1, wk_refl _, trivial⟩, rfl, ?_⟩
    rw [← printed_in _ _ hp.2.2.2]
    exact printed_fn y ⟨_, _, _⟩ hp.1 hp.2.1 hp.2.2.1
  · cases h
end Wb
/- BookKept: the law. -/
namespace Wb
open Go Go.Proofs Enc Row
set_option linter.unusedSimpArgs false
set_option linter.unusedVariables false
set_option maxRecDepth 20000
set_option maxHeartbeats 4000000
def E38t : List (Nat × Spec) := [(49, s49)] ++ E34t
theorem E38t_ok : AllOK E38t := ⟨⟨s49_ok, Tryd.call49⟩, E34t_ok⟩
noncomputable def E38 : Env := mkE E38t []
theorem E38_ok : EnvOK Tryd.prog E38 := envOK E38t_ok trivial
theorem E38_ti {t : Nat} : E38.ti t = ti t := rfl
theorem E38_q0 : (E38).eqt 152 = true := rfl
theorem E38_q1 : (E38).eqt 69 = true := rfl
theorem E38_q2 : (E38).keyt 3 = true := rfl
theorem E38_q3 : (E38).keyt 108 = true := rfl
attribute [go_sem] E38_ti E38_q0 E38_q1 E38_q2 E38_q3
theorem dR_ex (g : Int) (l : List Issue) (ex : Bool) : dR [.int .i64 g, .sl (l.map encI) ex] = some ⟨g, l⟩ := by simp [dR, dI_map]
attribute [go_sem] dR_ex
theorem leastF_le : ∀ (l : List Int) (a : Int), leastF a l ≤ a ∧ ∀ m ∈ l, leastF a l ≤ m
  | [], a => ⟨by simp [leastF], fun m h => by cases h⟩
  | b :: l, a => by
    rw [leastF]
    by_cases hb : b < a
    · rw [if_pos hb]
      obtain ⟨h1, h2⟩ := leastF_le l b
      refine ⟨by omega, fun m hm => ?_⟩
      rcases List.mem_cons.1 hm with rfl | hm
      · exact h1
      · exact h2 m hm
    · rw [if_neg hb]
      obtain ⟨h1, h2⟩ := leastF_le l a
      refine ⟨h1, fun m hm => ?_⟩
      rcases List.mem_cons.1 hm with rfl | hm
      · omega
      · exact h2 m hm
theorem price_none {r : Rack} {on : Int} {t : Item} (h : priceP r on t = none) : offers on t r.issues = [] := by
  unfold priceP at h
  split at h
  · assumption
  · cases h
theorem price_some {r : Rack} {on : Int} {t : Item} {p : Int} (h : priceP r on t = some p) : p ∈ offers on t r.issues ∧ ∀ m ∈ offers on t r.issues, p ≤ m := by
  unfold priceP at h
  split at h
  · cases h
  · rename_i a l ho
    cases h
    obtain ⟨h1, h2⟩ := leastF_le (a :: l) a
    rw [ho]
    refine ⟨?_, h2⟩
    rcases leastF_mem (a :: l) a with e | e
    · rw [e]; simp
    · exact e
theorem mem_offers {on : Int} {t : Item} {l : List Issue} {m : Int} : m ∈ offers on t l ↔ ∃ y ∈ l, ovl 1 on on y = true ∧ inP t y.entries = some m := by
  unfold offers
  simp only [List.mem_filterMap, List.mem_filter]
  constructor
  · rintro ⟨y, ⟨h1, h2⟩, h3⟩; exact ⟨y, h1, h2, h3⟩
  · rintro ⟨y, h1, h2, h3⟩; exact ⟨y, ⟨h1, h2⟩, h3⟩
theorem inP_posR {r : Rack} (hG : GRack r) {y : Issue} (hy : y ∈ r.issues) {t : Item} {m : Int} (h : inP t y.entries = some m) : 1 ≤ m ∧ m ≤ 100000 := by
  unfold inP at h
  split at h
  · rename_i e he
    split at h
    · simp only [Option.map_eq_some_iff] at h
      obtain ⟨f, hf, rfl⟩ := h
      exact (((hG.issues y hy).entries e (entryOf_mem he).1).fits f (List.mem_of_find?_eq_some hf)).price
    · cases h
  · cases h
theorem someT_ok {r : Rack} (hG : GRack r) (a b c d : Int) : itemOk r.goods (someT r a b c d).good (someT r a b c d).size (someT r a b c d).colour = true ∧ someI r a < r.issues.length := by
  have hl := hG.len
  have hg := hG.goods
  obtain ⟨p1, p2⟩ := spin_range (n := a) (m := (r.issues.length : Int)) (by omega)
  have hi : someI r a < r.issues.length := by unfold someI; omega
  refine ⟨?_, hi⟩
  obtain ⟨d1, d2⟩ := spin_range (n := d) (m := 4) (by omega)
  have hy : r.issues.getD (someI r a) default ∈ r.issues := by simp [List.getD_eq_getElem?_getD, hi]
  have gy := hG.issues _ hy
  unfold someT
  split
  · obtain ⟨b1, b2⟩ := spin_range (n := b) (m := r.goods) (by omega)
    obtain ⟨c1, c2⟩ := spin_range (n := c) (m := 99) (by omega)
    unfold itemOk
    simp only [Bool.and_eq_true, decide_eq_true_eq]; omega
  · rename_i h0
    generalize r.issues.getD (someI r a) default = y at *
    obtain ⟨b1, b2⟩ := spin_range (n := b) (m := (y.entries.length : Int)) (by omega)
    have hk : (spinF b y.entries.length).toNat < y.entries.length := by omega
    have he : y.entries.getD (spinF b y.entries.length).toNat default ∈ y.entries := by rw [List.getD_eq_getElem?_getD, List.getElem?_eq_getElem hk]; exact List.getElem_mem hk
    have ge := gy.entries _ he
    generalize y.entries.getD (spinF b y.entries.length).toNat default = e at *
    have e4 := ge.sizes
    obtain ⟨c1, c2⟩ := spin_range (n := c) (m := (e.sizes.length : Int)) (by omega)
    have hm : (spinF c e.sizes.length).toNat < e.sizes.length := by omega
    have hf : e.sizes.getD (spinF c e.sizes.length).toNat default ∈ e.sizes := by rw [List.getD_eq_getElem?_getD, List.getElem?_eq_getElem hm]; exact List.getElem_mem hm
    have gf := (ge.fits _ hf).size
    have gg := ge.good
    unfold itemOk
    simp only [Bool.and_eq_true, decide_eq_true_eq]; omega
theorem priceM_of {r : Rack} (hk : rackOk r = true) {on : Int} (h1 : 0 ≤ on ∧ on ≤ 20000) {t : Item} (ht : itemOk r.goods t.good t.size t.colour = true) : priceM r on t = match priceP r on t with | some n => (n, 0) | none => (0, 4) := by
  unfold priceM asked3
  rw [if_pos hk, if_pos (by unfold qPrice isDayB isItemB; rw [ht]; simp; omega)]
  cases priceP r on t <;> rfl
/-- Does a book say so of a day? -/
def saysB (on : Int) (t : Item) (p : Int) (y : Issue) : Bool := (decide ((inP t y.entries).getD 0 > 0) && (decide (y.lo ≤ on) && decide (on ≤ y.held))) && ((inP t y.entries).getD 0 == p)
/-- The walk: what the price comes to, and why the loop is content. -/
theorem kept_walk (r : Rack) (hr : okRack r) (hk : rackOk r = true) (a b c d n on p e : Int) (T : Item) (i : Nat) (hT : someT r a b c d = T) (hI : someI r a = i) (hi' : i < r.issues.length) (hon : lotF (r.issues.getD i default).lo (r.issues.getD i default).held n = on) (hc : 0 ≤ T.colour)
    (hpm : priceM r on T = (p, e)) (h1 : ∀ y ∈ r.issues, (decide ((inP T y.entries).getD 0 > 0) && (decide (y.lo ≤ on) && decide (on ≤ y.held))) = true → e = 0 ∧ p ≤ (inP T y.entries).getD 0)
    (h2 : e ≠ 0 → e = 4 ∧ p = 0) (h3 : r.issues.any (saysB on T p) = decide (e = 0)) :
    Fn E38 0 10 Tryd.f10 (Tryd.f10.body.getD .skip) [.agg (encR r), .agg [.int .i64 a, .int .i64 b, .int .i64 c, .int .i64 d], .int .i64 n] (.bool true) := by
  obtain ⟨g, l⟩ := r
  have hG := rack_good hk
  simp only at hi' hon h1 h3
  have hii : (i : Int) < (l.length : Int) := by omega
  have hx : l.getD i default ∈ l := by simp [List.getD_eq_getElem?_getD, hi']
  have hη : (⟨T.good, T.size, T.colour⟩ : Item) = T := rfl
  have hl := hG.len
  simp only at hl
  unfold Fn Tryd.f10
  simp only [go_sem, Nat.reduceAdd, Nat.reduceSub, Nat.reduceMul, Nat.reduceEqDiff, Nat.reduceLT, Nat.reduceLeDiff, Nat.reduceBEq, Nat.reduceBNe, Int.reduceToNat, Int.reduceLE, Int.reduceLT, Int.reduceNe, Int.reduceNeg, reduceCtorEq, Int.reduceBEq, Int.reduceBNe, @callV_spec E38 42 s42 rfl, @callV_specT E38 42 s42 rfl, @stepV_spec E38 42 s42 rfl, @effV_spec E38 42 s42 rfl, s42, @callV_spec E38 48 s48 rfl, @callV_specT E38 48 s48 rfl, @stepV_spec E38 48 s48 rfl, @effV_spec E38 48 s48 rfl, s48, encR, callSpec, hr, hk, hG, hT, hI]
  generalize hxx : l.getD i default = x at *
  have gx := hG.issues _ hx
  have xd := gx.days
  have xh := gx.held
  obtain ⟨f1, f2⟩ := lot_range (a := x.lo) (b := x.held) n xh.1
  rw [hon] at f1 f2
  have c1 : 0 ≤ x.lo := xd.1
  have c2 : x.lo ≤ 1000000000 := by omega
  have c3 : 0 ≤ x.held := by omega
  have c4 : x.held ≤ 1000000000 := by omega
  have p49 : ∀ y ∈ l, y.entries.length ≤ 24 ∧ (∀ e ∈ y.entries, e.sizes.length ≤ 8) ∧ (y.entries.map (·.good)).Nodup := fun y hy => ⟨(hG.issues y hy).len, fun e he => ((hG.issues y hy).entries e he).sizes.2, (hG.issues y hy).goods⟩
  obtain ⟨x1, x2, x3⟩ := p49 x hx
  have own : (decide ((inP T x.entries).getD 0 > 0) && (decide (e ≠ 0) || decide (p > (inP T x.entries).getD 0))) = false := by
    rw [Bool.eq_false_iff]
    intro q
    simp only [Bool.and_eq_true, decide_eq_true_eq, Bool.or_eq_true] at q
    have := h1 x hx (by simp; omega)
    omega
  have bad : ((e != 0) && ((e != 4) || (p != 0))) = false := by
    rw [Bool.eq_false_iff]
    intro q
    simp only [Bool.and_eq_true, Bool.or_eq_true, bne_iff_ne, ne_eq] at q
    have := h2 q.1
    omega
  have own' : (decide ((inP T x.entries).getD 0 > 0) && ((e != 0) || decide (p > (inP T x.entries).getD 0))) = false := by
    rw [← own]
    congr 2
    by_cases h : e = 0 <;> simp [h]
  simp only [go_sem, Nat.reduceAdd, Nat.reduceSub, Nat.reduceMul, Nat.reduceEqDiff, Nat.reduceLT, Nat.reduceLeDiff, Nat.reduceBEq, Nat.reduceBNe, Int.reduceToNat, Int.reduceLE, Int.reduceLT, Int.reduceNe, Int.reduceNeg, reduceCtorEq, Int.reduceBEq, Int.reduceBNe, @callV_spec E38 44 sTo rfl, @callV_specT E38 44 sTo rfl, @stepV_spec E38 44 sTo rfl, @effV_spec E38 44 sTo rfl, sTo, @callV_spec E38 45 s45 rfl, @callV_specT E38 45 s45 rfl, @stepV_spec E38 45 s45 rfl, @effV_spec E38 45 s45 rfl, s45, @callV_spec E38 28 s28 rfl, @callV_specT E38 28 s28 rfl, @stepV_spec E38 28 s28 rfl, @effV_spec E38 28 s28 rfl, s28, @callV_spec E38 49 s49 rfl, @callV_specT E38 49 s49 rfl, @stepV_spec E38 49 s49 rfl, @effV_spec E38 49 s49 rfl, s49, encI, encR, encT, callSpec, hr, hii, getD_mapN encI l i _ hi', hxx, c1, c2, c3, c4, lot_eq, hon, hη, hpm, hc, x1, x3]
  refine ⟨x2, fun q1 q2 => ⟨q1, q2⟩, fun q1 q2 => ⟨q1, q2⟩, fun q1 q2 => ⟨q1, q2⟩, ?_⟩
  rw [bad, own']
  simp only [go_sem, Nat.reduceAdd, Nat.reduceSub, Nat.reduceMul, Nat.reduceEqDiff, Nat.reduceLT, Nat.reduceLeDiff, Nat.reduceBEq, Nat.reduceBNe, Int.reduceToNat, Int.reduceLE, Int.reduceLT, Int.reduceNe, Int.reduceNeg, reduceCtorEq, Int.reduceBEq, Int.reduceBNe]
  refine ev_loopS [3, 7, 10, 11, 12] (fun j : Nat => [(14, .bool ((l.take j).any (saysB on T p))), (15, .int .i64 j)])
    (fun j H => j ≤ l.length ∧ H (([], 10000000) : Key) = some (.cells [.int .i64 g, .sl (l.map encI) false] 1 false) ∧ H (([], 10003006) : Key) = some (.cells (encT T) 1 false))
    (fun j => l.length - j) 0 ?_ ⟨Nat.zero_le _, ?_, ?_⟩ ?_
  · simp only [go_sem, Nat.reduceAdd, Nat.reduceSub, Nat.reduceMul, Nat.reduceEqDiff, Nat.reduceLT, Nat.reduceLeDiff, Nat.reduceBEq, Nat.reduceBNe, Int.reduceToNat, Int.reduceLE, Int.reduceLT, Int.reduceNe, Int.reduceNeg, reduceCtorEq, Int.reduceBEq, Int.reduceBNe]
  · simp only [go_sem, Nat.reduceAdd, Nat.reduceSub, Nat.reduceMul, Nat.reduceEqDiff, Nat.reduceLT, Nat.reduceLeDiff, Nat.reduceBEq, Nat.reduceBNe, Int.reduceToNat, Int.reduceLE, Int.reduceLT, Int.reduceNe, Int.reduceNeg, reduceCtorEq, Int.reduceBEq, Int.reduceBNe]
  · simp only [go_sem, Nat.reduceAdd, Nat.reduceSub, Nat.reduceMul, Nat.reduceEqDiff, Nat.reduceLT, Nat.reduceLeDiff, Nat.reduceBEq, Nat.reduceBNe, Int.reduceToNat, Int.reduceLE, Int.reduceLT, Int.reduceNe, Int.reduceNeg, reduceCtorEq, Int.reduceBEq, Int.reduceBNe, encT]
  · simp only [go_sem, Nat.reduceAdd, Nat.reduceSub, Nat.reduceMul, Nat.reduceEqDiff, Nat.reduceLT, Nat.reduceLeDiff, Nat.reduceBEq, Nat.reduceBNe, Int.reduceToNat, Int.reduceLE, Int.reduceLT, Int.reduceNe, Int.reduceNeg, reduceCtorEq, Int.reduceBEq, Int.reduceBNe]
    intro K j H ⟨hj, k1, k2⟩ hK hE
    simp only [go_sem, Nat.reduceAdd, Nat.reduceSub, Nat.reduceMul, Nat.reduceEqDiff, Nat.reduceLT, Nat.reduceLeDiff, Nat.reduceBEq, Nat.reduceBNe, Int.reduceToNat, Int.reduceLE, Int.reduceLT, Int.reduceNe, Int.reduceNeg, reduceCtorEq, Int.reduceBEq, Int.reduceBNe, k1]
    rw [condK_bool]
    refine ⟨fun h => ?_, fun h => ?_⟩
    · have h' : j < l.length := by simpa using h
      have hjj : (j : Int) < (l.length : Int) := by omega
      have w3 : IntKind.i64.wrap ((j : Int) + 1) = (j : Int) + 1 := wrap_id (by omega)
      have hy : l.getD j default ∈ l := by simp [List.getD_eq_getElem?_getD, h']
      have hta := take_any (saysB on T p) h'
      generalize hyy : l.getD j default = y at *
      obtain ⟨y1, y2, y3⟩ := p49 y hy
      have h1y := h1 y hy
      have hsb : saysB on T p y = ((decide ((inP T y.entries).getD 0 > 0) && (decide (y.lo ≤ on) && decide (on ≤ y.held))) && ((inP T y.entries).getD 0 == p)) := rfl
      simp only [go_sem, Nat.reduceAdd, Nat.reduceSub, Nat.reduceMul, Nat.reduceEqDiff, Nat.reduceLT, Nat.reduceLeDiff, Nat.reduceBEq, Nat.reduceBNe, Int.reduceToNat, Int.reduceLE, Int.reduceLT, Int.reduceNe, Int.reduceNeg, reduceCtorEq, Int.reduceBEq, Int.reduceBNe, @callV_spec E38 49 s49 rfl, @callV_specT E38 49 s49 rfl, @stepV_spec E38 49 s49 rfl, @effV_spec E38 49 s49 rfl, s49, encI, encT, callSpec, hjj, getD_mapN encI l j _ h', hyy, hη, hc, k1, k2, y1, y3]
      refine ⟨y2, ?_⟩
      generalize hv : verOf H ([], 10014005) + 1 = v
      simp only [go_sem, Nat.reduceAdd, Nat.reduceSub, Nat.reduceMul, Nat.reduceEqDiff, Nat.reduceLT, Nat.reduceLeDiff, Nat.reduceBEq, Nat.reduceBNe, Int.reduceToNat, Int.reduceLE, Int.reduceLT, Int.reduceNe, Int.reduceNeg, reduceCtorEq, Int.reduceBEq, Int.reduceBNe, @callV_spec E38 50 sTween rfl, @callV_specT E38 50 sTween rfl, @stepV_spec E38 50 sTween rfl, @effV_spec E38 50 sTween rfl, sTween, encI, encT, callSpec]
      rw [condK_bool]
      refine ⟨fun hq => ?_, fun hq => ?_⟩
      · obtain ⟨z1, z2⟩ := h1y hq
        rw [hq, Bool.true_and] at hsb
        have z3 : decide ((inP T y.entries).getD 0 < p) = false := by simp; omega
        subst z1
        simp only [go_sem, Nat.reduceAdd, Nat.reduceSub, Nat.reduceMul, Nat.reduceEqDiff, Nat.reduceLT, Nat.reduceLeDiff, Nat.reduceBEq, Nat.reduceBNe, Int.reduceToNat, Int.reduceLE, Int.reduceLT, Int.reduceNe, Int.reduceNeg, reduceCtorEq, Int.reduceBEq, Int.reduceBNe, z3]
        refine hK (j + 1) _ _ ?_ ⟨h', ?_, ?_⟩ (by omega)
        · simp only [go_sem, Nat.reduceAdd, Nat.reduceSub, Nat.reduceMul, Nat.reduceEqDiff, Nat.reduceLT, Nat.reduceLeDiff, Nat.reduceBEq, Nat.reduceBNe, Int.reduceToNat, Int.reduceLE, Int.reduceLT, Int.reduceNe, Int.reduceNeg, reduceCtorEq, Int.reduceBEq, Int.reduceBNe, w3, Int.natCast_add, Int.natCast_one, hta, hsb]
        · simp only [go_sem, Nat.reduceAdd, Nat.reduceSub, Nat.reduceMul, Nat.reduceEqDiff, Nat.reduceLT, Nat.reduceLeDiff, Nat.reduceBEq, Nat.reduceBNe, Int.reduceToNat, Int.reduceLE, Int.reduceLT, Int.reduceNe, Int.reduceNeg, reduceCtorEq, Int.reduceBEq, Int.reduceBNe, k1]
        · simp only [go_sem, Nat.reduceAdd, Nat.reduceSub, Nat.reduceMul, Nat.reduceEqDiff, Nat.reduceLT, Nat.reduceLeDiff, Nat.reduceBEq, Nat.reduceBNe, Int.reduceToNat, Int.reduceLE, Int.reduceLT, Int.reduceNe, Int.reduceNeg, reduceCtorEq, Int.reduceBEq, Int.reduceBNe, k2, encT]
      · rw [hq, Bool.false_and] at hsb
        simp only [go_sem, Nat.reduceAdd, Nat.reduceSub, Nat.reduceMul, Nat.reduceEqDiff, Nat.reduceLT, Nat.reduceLeDiff, Nat.reduceBEq, Nat.reduceBNe, Int.reduceToNat, Int.reduceLE, Int.reduceLT, Int.reduceNe, Int.reduceNeg, reduceCtorEq, Int.reduceBEq, Int.reduceBNe]
        refine hK (j + 1) _ _ ?_ ⟨h', ?_, ?_⟩ (by omega)
        · simp only [go_sem, Nat.reduceAdd, Nat.reduceSub, Nat.reduceMul, Nat.reduceEqDiff, Nat.reduceLT, Nat.reduceLeDiff, Nat.reduceBEq, Nat.reduceBNe, Int.reduceToNat, Int.reduceLE, Int.reduceLT, Int.reduceNe, Int.reduceNeg, reduceCtorEq, Int.reduceBEq, Int.reduceBNe, w3, Int.natCast_add, Int.natCast_one, hta, hsb]
        · simp only [go_sem, Nat.reduceAdd, Nat.reduceSub, Nat.reduceMul, Nat.reduceEqDiff, Nat.reduceLT, Nat.reduceLeDiff, Nat.reduceBEq, Nat.reduceBNe, Int.reduceToNat, Int.reduceLE, Int.reduceLT, Int.reduceNe, Int.reduceNeg, reduceCtorEq, Int.reduceBEq, Int.reduceBNe, k1]
        · simp only [go_sem, Nat.reduceAdd, Nat.reduceSub, Nat.reduceMul, Nat.reduceEqDiff, Nat.reduceLT, Nat.reduceLeDiff, Nat.reduceBEq, Nat.reduceBNe, Int.reduceToNat, Int.reduceLE, Int.reduceLT, Int.reduceNe, Int.reduceNeg, reduceCtorEq, Int.reduceBEq, Int.reduceBNe, k2, encT]
    · have h' : j = l.length := by have : ¬ ((j : Int) < (l.length : Int)) := by simpa using h
                                   omega
      subst h'
      have hee : (decide (e = 0) == (e == 0)) = true := by by_cases h : e = 0 <;> simp [h]
      refine hE _ _ _ (by simp) ?_
      simp only [go_sem, Nat.reduceAdd, Nat.reduceSub, Nat.reduceMul, Nat.reduceEqDiff, Nat.reduceLT, Nat.reduceLeDiff, Nat.reduceBEq, Nat.reduceBNe, Int.reduceToNat, Int.reduceLE, Int.reduceLT, Int.reduceNe, Int.reduceNeg, reduceCtorEq, Int.reduceBEq, Int.reduceBNe, @callV_spec E38 27 s27 rfl, @callV_specT E38 27 s27 rfl, @stepV_spec E38 27 s27 rfl, @effV_spec E38 27 s27 rfl, s27, List.take_length, h3, hee]
theorem kept_law (r : Rack) (hr : okRack r) (a b c d n : Int) : Fn E38 0 10 Tryd.f10 (Tryd.f10.body.getD .skip) [.agg (encR r), .agg [.int .i64 a, .int .i64 b, .int .i64 c, .int .i64 d], .int .i64 n] (.bool true) := by
  obtain ⟨g, l⟩ := r
  cases hk : rackOk ⟨g, l⟩ with
  | false => unfold Fn Tryd.f10; simp only [go_sem, Nat.reduceAdd, Nat.reduceSub, Nat.reduceMul, Nat.reduceEqDiff, Nat.reduceLT, Nat.reduceLeDiff, Nat.reduceBEq, Nat.reduceBNe, Int.reduceToNat, Int.reduceLE, Int.reduceLT, Int.reduceNe, Int.reduceNeg, reduceCtorEq, Int.reduceBEq, Int.reduceBNe, @callV_spec E38 42 s42 rfl, @callV_specT E38 42 s42 rfl, @stepV_spec E38 42 s42 rfl, @effV_spec E38 42 s42 rfl, s42, @callV_spec E38 27 s27 rfl, @callV_specT E38 27 s27 rfl, @stepV_spec E38 27 s27 rfl, @effV_spec E38 27 s27 rfl, s27, encR, callSpec, hr, hk]
  | true =>
    have hG := rack_good hk
    obtain ⟨tok, hi'⟩ := someT_ok hG a b c d
    simp only at hi'
    have hcol : 0 ≤ (someT ⟨g, l⟩ a b c d).colour := by
      unfold itemOk at tok
      simp only [Bool.and_eq_true, decide_eq_true_eq] at tok; omega
    have hx : l.getD (someI ⟨g, l⟩ a) default ∈ l := by simp [List.getD_eq_getElem?_getD, hi']
    have xh := (hG.issues _ hx).held
    have xd := (hG.issues _ hx).days
    generalize hT : someT ⟨g, l⟩ a b c d = T at *
    generalize hI : someI ⟨g, l⟩ a = i at *
    obtain ⟨f1, f2⟩ := lot_range (a := (l.getD i default).lo) (b := (l.getD i default).held) n xh.1
    generalize hon : lotF (l.getD i default).lo (l.getD i default).held n = on at *
    have hpm := priceM_of hk (on := on) (by omega) tok
    have hpos : ∀ y ∈ l, ∀ m, inP T y.entries = some m → 1 ≤ m := fun y hy m hm => (inP_posR hG hy hm).1
    have htw : ∀ y : Issue, (decide (y.lo ≤ on) && decide (on ≤ y.held)) = ovl 1 on on y := fun y => by simp [ovl, hiK]
    have key := fun (p e : Int) => kept_walk ⟨g, l⟩ hr hk a b c d n on p e T i hT hI hi' hon hcol
    cases hp : priceP ⟨g, l⟩ on T with
    | none =>
      rw [hp] at hpm
      have h0 := price_none hp
      have hno : ∀ y ∈ l, (decide ((inP T y.entries).getD 0 > 0) && (decide (y.lo ≤ on) && decide (on ≤ y.held))) = false := fun y hy => by
        rw [htw, Bool.eq_false_iff]
        intro q
        simp only [Bool.and_eq_true, decide_eq_true_eq] at q
        cases hm : inP T y.entries with
        | none => rw [hm] at q; simp at q
        | some m =>
          have : m ∈ offers on T l := mem_offers.2 ⟨y, hy, q.2, hm⟩
          rw [show offers on T l = [] from h0] at this
          cases this
      refine key 0 4 hpm (fun y hy q => by rw [hno y hy] at q; cases q) (fun _ => ⟨rfl, rfl⟩) ?_
      rw [show decide ((4 : Int) = 0) = false from rfl, List.any_eq_false]
      intro y hy
      unfold saysB
      rw [hno y hy]; simp
    | some p =>
      rw [hp] at hpm
      obtain ⟨k1, k2⟩ := price_some hp
      refine key p 0 hpm (fun y hy q => ⟨rfl, ?_⟩) (fun q => absurd rfl q) ?_
      · rw [htw] at q
        simp only [Bool.and_eq_true, decide_eq_true_eq] at q
        cases hm : inP T y.entries with
        | none => rw [hm] at q; simp at q
        | some m => exact k2 m (mem_offers.2 ⟨y, hy, q.2, hm⟩)
      · rw [show decide ((0 : Int) = 0) = true from rfl, List.any_eq_true]
        obtain ⟨y, hy, ho, hm⟩ := mem_offers.1 k1
        refine ⟨y, hy, ?_⟩
        unfold saysB
        rw [htw, ho, hm]
        have := hpos y hy p hm
        simp; omega
end Wb
