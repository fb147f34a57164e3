import Derived.Test.YtaihkflmkopliaaDoorL
set_option linter.unusedVariables false
set_option linter.unusedSimpArgs false
/- BookBack: the number that another book has, asked back. -/
namespace Wb
open Go Go.Proofs Enc Row
set_option linter.unusedSimpArgs false
set_option linter.unusedVariables false
set_option maxRecDepth 20000
set_option maxHeartbeats 4000000
theorem entryOf_of {l : List Entry} (hn : (l.map (·.good)).Nodup) {e : Entry} (he : e ∈ l) : entryOf e.good l = some e := by
  rw [entryOf_find]
  induction l with
  | nil => cases he
  | cons a l ih =>
    rw [List.map_cons, List.nodup_cons] at hn
    rw [List.find?_cons]
    rcases List.mem_cons.1 he with rfl | he
    · simp
    · have : (a.good == e.good) = false := by
        simp only [beq_eq_false_iff_ne, ne_eq]
        intro q
        exact hn.1 (by rw [q]; exact List.mem_map_of_mem he)
      rw [this]
      exact ih hn.2 he
def there1 (g acc : Int) (e : Entry) : Int := if e.good = g then e.number else acc
theorem there_none (g : Int) : ∀ (l : List Entry) (acc : Int), (∀ e ∈ l, e.good ≠ g) → l.foldl (there1 g) acc = acc
  | [], acc, _ => rfl
  | e :: l, acc, h => by
    rw [List.foldl_cons, show there1 g acc e = acc from if_neg (h e (by simp))]
    exact there_none g l acc fun x hx => h x (by simp [hx])
theorem there_eq (g : Int) : ∀ (l : List Entry), (l.map (·.good)).Nodup → l.foldl (there1 g) 0 = match entryOf g l with | some z => z.number | none => 0
  | [], _ => rfl
  | e :: l, h => by
    rw [List.map_cons, List.nodup_cons] at h
    rw [List.foldl_cons, entryOf]
    by_cases hg : e.good = g
    · have hb : (e.good == g) = true := by simp [hg]
      rw [show there1 g 0 e = e.number from if_pos hg, if_pos hb]
      refine there_none g l _ fun x hx q => h.1 ?_
      rw [hg, ← q]; exact List.mem_map_of_mem hx
    · have hb : (e.good == g) = false := by simp [hg]
      rw [show there1 g 0 e = 0 from if_neg hg, hb]
      exact there_eq g l h.2
theorem numM_of {r : Rack} (hk : rackOk r = true) {i j : Nat} (hi : i < r.issues.length) (hj : j < r.issues.length) {n : Int} (hn : 1 ≤ n ∧ n ≤ 9999) :
    numM r i n j = match entNo n (r.issues.getD i default).entries with
      | some e => (match entryOf e.good (r.issues.getD j default).entries with | some z => (z.number, 0) | none => (0, 4))
      | none => (0, 4) := by
  unfold numM entErr
  rw [if_pos hk, if_pos (by simp only [qNum, isIssB, isNumB, Bool.and_eq_true, decide_eq_true_eq]; omega)]
  have : entAt r i n = entNo n (r.issues.getD i default).entries := by
    unfold entAt; rw [if_pos (by omega)]; rfl
  rw [this]
  cases entNo n (r.issues.getD i default).entries <;> rfl
theorem back_law (r : Rack) (hr : okRack r) (a b c : Int) : Fn E34 0 8 Tryd.f8 (Tryd.f8.body.getD .skip) [.agg (encR r), .agg [.int .i64 a, .int .i64 b, .int .i64 c]] (.bool true) := by
  obtain ⟨g, l⟩ := r
  unfold Fn Tryd.f8
  cases hk : rackOk ⟨g, l⟩ with
  | false => simp only [go_sem, Nat.reduceAdd, Nat.reduceSub, Nat.reduceMul, Nat.reduceEqDiff, Nat.reduceLT, Nat.reduceLeDiff, Nat.reduceBEq, Nat.reduceBNe, Int.reduceToNat, Int.reduceLE, Int.reduceLT, Int.reduceNe, Int.reduceNeg, reduceCtorEq, Int.reduceBEq, Int.reduceBNe, @callV_spec E34 42 s42 rfl, @callV_specT E34 42 s42 rfl, @stepV_spec E34 42 s42 rfl, @effV_spec E34 42 s42 rfl, s42, @callV_spec E34 27 s27 rfl, @callV_specT E34 27 s27 rfl, @stepV_spec E34 27 s27 rfl, @effV_spec E34 27 s27 rfl, s27, encR, callSpec, hr, hk]
  | true =>
    have hG := rack_good hk
    have hl := hG.len
    simp only at hl
    have wl : (l.length : Int) ≤ 9223372036854775807 := by omega
    obtain ⟨p1, p2⟩ := spin_range (n := a) (m := (l.length : Int)) (by omega)
    obtain ⟨q1, q2⟩ := spin_range (n := b) (m := (l.length : Int)) (by omega)
    obtain ⟨i, hi⟩ := Int.eq_ofNat_of_zero_le p1
    obtain ⟨j, hj⟩ := Int.eq_ofNat_of_zero_le q1
    have hi' : i < l.length := by omega
    have hj' : j < l.length := by omega
    have hii : (i : Int) < (l.length : Int) := by omega
    have hjj : (j : Int) < (l.length : Int) := by omega
    have hx : l.getD i default ∈ l := by simp [List.getD_eq_getElem?_getD, hi']
    have hy : l.getD j default ∈ l := by simp [List.getD_eq_getElem?_getD, hj']
    have gx := hG.issues _ hx
    have gy := hG.issues _ hy
    have nm := fun (i j : Nat) (h1 : i < l.length) (h2 : j < l.length) (n : Int) (h3 : 1 ≤ n ∧ n ≤ 9999) => numM_of (r := ⟨g, l⟩) hk h1 h2 h3
    simp only at nm
    have n1 := nm i j hi' hj'
    have n2 := nm i i hi' hi'
    have n3 := nm j i hj' hi'
    generalize hxx : l.getD i default = x at *
    generalize hyy : l.getD j default = y at *
    simp only [go_sem, Nat.reduceAdd, Nat.reduceSub, Nat.reduceMul, Nat.reduceEqDiff, Nat.reduceLT, Nat.reduceLeDiff, Nat.reduceBEq, Nat.reduceBNe, Int.reduceToNat, Int.reduceLE, Int.reduceLT, Int.reduceNe, Int.reduceNeg, reduceCtorEq, Int.reduceBEq, Int.reduceBNe, @callV_spec E34 42 s42 rfl, @callV_specT E34 42 s42 rfl, @stepV_spec E34 42 s42 rfl, @effV_spec E34 42 s42 rfl, s42, @callV_spec E34 43 sSpin rfl, @callV_specT E34 43 sSpin rfl, @stepV_spec E34 43 sSpin rfl, @effV_spec E34 43 sSpin rfl, sSpin, encR, callSpec, hr, hk, wl, hi, hj, hii, hjj, getD_mapN encI l i _ hi', hxx, encI]
    rw [condK_bool]
    refine ⟨fun h => ?_, fun h => ?_⟩
    · have h0 : x.entries = [] := by have : x.entries.length = 0 := by simpa using h
                                     exact List.eq_nil_of_length_eq_zero this
      obtain ⟨u1, u2⟩ := spin_range (n := c) (m := 9999) (by omega)
      have w1 : IntKind.i64.wrap (1 + spinF c 9999) = 1 + spinF c 9999 := wrap_id (by omega)
      have hn := n1 (1 + spinF c 9999) (by omega)
      rw [h0] at hn
      simp only [entNo, List.find?_nil] at hn
      simp only [go_sem, Nat.reduceAdd, Nat.reduceSub, Nat.reduceMul, Nat.reduceEqDiff, Nat.reduceLT, Nat.reduceLeDiff, Nat.reduceBEq, Nat.reduceBNe, Int.reduceToNat, Int.reduceLE, Int.reduceLT, Int.reduceNe, Int.reduceNeg, reduceCtorEq, Int.reduceBEq, Int.reduceBNe, @callV_spec E34 43 sSpin rfl, @callV_specT E34 43 sSpin rfl, @stepV_spec E34 43 sSpin rfl, @effV_spec E34 43 sSpin rfl, sSpin, @callV_spec E34 22 s22 rfl, @callV_specT E34 22 s22 rfl, @stepV_spec E34 22 s22 rfl, @effV_spec E34 22 s22 rfl, s22, @callV_spec E34 27 s27 rfl, @callV_specT E34 27 s27 rfl, @stepV_spec E34 27 s27 rfl, @effV_spec E34 27 s27 rfl, s27, callSpec, encR, hr, w1, hn]
    · have h0 : x.entries.length ≠ 0 := by simpa using h
      have h24 := gx.len
      have wx : (x.entries.length : Int) ≤ 9223372036854775807 := by omega
      obtain ⟨u1, u2⟩ := spin_range (n := c) (m := (x.entries.length : Int)) (by omega)
      obtain ⟨k, hkk⟩ := Int.eq_ofNat_of_zero_le u1
      have hk' : k < x.entries.length := by omega
      have hki : (k : Int) < (x.entries.length : Int) := by omega
      have he : x.entries.getD k default ∈ x.entries := by simp [List.getD_eq_getElem?_getD, hk']
      generalize hee : x.entries.getD k default = e at *
      have ge := (gx.entries _ he).number
      have m1 := n1 e.number ge
      have m2 := n2 e.number ge
      rw [entNo_of gx.numbers he] at m1 m2
      simp only at m1 m2
      rw [entryOf_of gx.goods he] at m2
      simp only at m2
      have hth := there_eq e.good y.entries gy.goods
      simp only [go_sem, Nat.reduceAdd, Nat.reduceSub, Nat.reduceMul, Nat.reduceEqDiff, Nat.reduceLT, Nat.reduceLeDiff, Nat.reduceBEq, Nat.reduceBNe, Int.reduceToNat, Int.reduceLE, Int.reduceLT, Int.reduceNe, Int.reduceNeg, reduceCtorEq, Int.reduceBEq, Int.reduceBNe, @callV_spec E34 43 sSpin rfl, @callV_specT E34 43 sSpin rfl, @stepV_spec E34 43 sSpin rfl, @effV_spec E34 43 sSpin rfl, sSpin, @callV_spec E34 22 s22 rfl, @callV_specT E34 22 s22 rfl, @stepV_spec E34 22 s22 rfl, @effV_spec E34 22 s22 rfl, s22, callSpec, encR, hr, wx, hkk, hki, getD_mapN encE x.entries k _ hk', hee, encE, m1, m2, bne_self_eq_false]
      have key : ∀ k, (y.entries.take k).foldl (there1 e.good) 0 = (y.entries.take k).foldl (there1 e.good) 0 := fun k => rfl
      refine ev_loopS [2, 5, 6, 10, 13, 14] (fun k : Nat => [(15, .int .i64 ((y.entries.take k).foldl (there1 e.good) 0)), (16, .int .i64 k)])
        (fun k H => k ≤ y.entries.length ∧ H (([], 8000000) : Key) = some (.cells [.int .i64 g, .sl (l.map encI) false] 1 false) ∧ H (([], 8008008) : Key) = some (.cells (encE e) 1 false))
        (fun k => y.entries.length - k) 0 ?_ ⟨Nat.zero_le _, ?_, ?_⟩ ?_
      · simp only [go_sem, Nat.reduceAdd, Nat.reduceSub, Nat.reduceMul, Nat.reduceEqDiff, Nat.reduceLT, Nat.reduceLeDiff, Nat.reduceBEq, Nat.reduceBNe, Int.reduceToNat, Int.reduceLE, Int.reduceLT, Int.reduceNe, Int.reduceNeg, reduceCtorEq, Int.reduceBEq, Int.reduceBNe]; rfl
      · simp only [go_sem, Nat.reduceAdd, Nat.reduceSub, Nat.reduceMul, Nat.reduceEqDiff, Nat.reduceLT, Nat.reduceLeDiff, Nat.reduceBEq, Nat.reduceBNe, Int.reduceToNat, Int.reduceLE, Int.reduceLT, Int.reduceNe, Int.reduceNeg, reduceCtorEq, Int.reduceBEq, Int.reduceBNe]
      · simp only [go_sem, Nat.reduceAdd, Nat.reduceSub, Nat.reduceMul, Nat.reduceEqDiff, Nat.reduceLT, Nat.reduceLeDiff, Nat.reduceBEq, Nat.reduceBNe, Int.reduceToNat, Int.reduceLE, Int.reduceLT, Int.reduceNe, Int.reduceNeg, reduceCtorEq, Int.reduceBEq, Int.reduceBNe, encE]
      · simp only [go_sem, Nat.reduceAdd, Nat.reduceSub, Nat.reduceMul, Nat.reduceEqDiff, Nat.reduceLT, Nat.reduceLeDiff, Nat.reduceBEq, Nat.reduceBNe, Int.reduceToNat, Int.reduceLE, Int.reduceLT, Int.reduceNe, Int.reduceNeg, reduceCtorEq, Int.reduceBEq, Int.reduceBNe]
        intro K k H ⟨hk, h1, h2⟩ hK hE
        simp only [go_sem, Nat.reduceAdd, Nat.reduceSub, Nat.reduceMul, Nat.reduceEqDiff, Nat.reduceLT, Nat.reduceLeDiff, Nat.reduceBEq, Nat.reduceBNe, Int.reduceToNat, Int.reduceLE, Int.reduceLT, Int.reduceNe, Int.reduceNeg, reduceCtorEq, Int.reduceBEq, Int.reduceBNe, h1, hjj, getD_mapN encI l j _ hj', hyy, encI]
        rw [condK_bool]
        refine ⟨fun h => ?_, fun h => ?_⟩
        · have hk' : k < y.entries.length := by simpa using h
          have hkk : (k : Int) < (y.entries.length : Int) := by omega
          have y24 := gy.len
          have w2 : IntKind.i64.wrap ((k : Int) + 1) = (k : Int) + 1 := wrap_id (by omega)
          have hft := fold_take (there1 e.good) 0 hk'
          generalize hzz : y.entries.getD k default = z at *
          generalize (y.entries.take k).foldl (there1 e.good) 0 = acc at *
          simp only [go_sem, Nat.reduceAdd, Nat.reduceSub, Nat.reduceMul, Nat.reduceEqDiff, Nat.reduceLT, Nat.reduceLeDiff, Nat.reduceBEq, Nat.reduceBNe, Int.reduceToNat, Int.reduceLE, Int.reduceLT, Int.reduceNe, Int.reduceNeg, reduceCtorEq, Int.reduceBEq, Int.reduceBNe, h1, h2, hjj, hkk, getD_mapN encI l j _ hj', hyy, encI, getD_mapN encE y.entries k _ hk', hzz, encE]
          rw [condK_bool]
          refine ⟨fun hc => ?_, fun hc => ?_⟩
          · rw [show there1 e.good acc z = z.number from if_pos (by simpa using hc)] at hft
            simp only [go_sem, Nat.reduceAdd, Nat.reduceSub, Nat.reduceMul, Nat.reduceEqDiff, Nat.reduceLT, Nat.reduceLeDiff, Nat.reduceBEq, Nat.reduceBNe, Int.reduceToNat, Int.reduceLE, Int.reduceLT, Int.reduceNe, Int.reduceNeg, reduceCtorEq, Int.reduceBEq, Int.reduceBNe, h1, h2, hjj, hkk, getD_mapN encI l j _ hj', hyy, encI, getD_mapN encE y.entries k _ hk', hzz, encE]
            refine hK (k + 1) _ _ ?_ ⟨hk', h1, h2⟩ (by omega)
            simp only [go_sem, Nat.reduceAdd, Nat.reduceSub, Nat.reduceMul, Nat.reduceEqDiff, Nat.reduceLT, Nat.reduceLeDiff, Nat.reduceBEq, Nat.reduceBNe, Int.reduceToNat, Int.reduceLE, Int.reduceLT, Int.reduceNe, Int.reduceNeg, reduceCtorEq, Int.reduceBEq, Int.reduceBNe, w2, Int.natCast_add, Int.natCast_one, hft]
          · rw [show there1 e.good acc z = acc from if_neg (by simpa using hc)] at hft
            simp only [go_sem, Nat.reduceAdd, Nat.reduceSub, Nat.reduceMul, Nat.reduceEqDiff, Nat.reduceLT, Nat.reduceLeDiff, Nat.reduceBEq, Nat.reduceBNe, Int.reduceToNat, Int.reduceLE, Int.reduceLT, Int.reduceNe, Int.reduceNeg, reduceCtorEq, Int.reduceBEq, Int.reduceBNe]
            refine hK (k + 1) _ _ ?_ ⟨hk', h1, h2⟩ (by omega)
            simp only [go_sem, Nat.reduceAdd, Nat.reduceSub, Nat.reduceMul, Nat.reduceEqDiff, Nat.reduceLT, Nat.reduceLeDiff, Nat.reduceBEq, Nat.reduceBNe, Int.reduceToNat, Int.reduceLE, Int.reduceLT, Int.reduceNe, Int.reduceNeg, reduceCtorEq, Int.reduceBEq, Int.reduceBNe, w2, Int.natCast_add, Int.natCast_one, hft]
        · have hk' : k = y.entries.length := by have : ¬ ((k : Int) < (y.entries.length : Int)) := by simpa using h
                                                omega
          subst hk'
          rw [List.take_length, hth]
          refine hE _ _ _ (by simp) ?_
          cases hz : entryOf e.good y.entries with
          | none => simp only [go_sem, Nat.reduceAdd, Nat.reduceSub, Nat.reduceMul, Nat.reduceEqDiff, Nat.reduceLT, Nat.reduceLeDiff, Nat.reduceBEq, Nat.reduceBNe, Int.reduceToNat, Int.reduceLE, Int.reduceLT, Int.reduceNe, Int.reduceNeg, reduceCtorEq, Int.reduceBEq, Int.reduceBNe, @callV_spec E34 27 s27 rfl, @callV_specT E34 27 s27 rfl, @stepV_spec E34 27 s27 rfl, @effV_spec E34 27 s27 rfl, s27, hz]
          | some z =>
            obtain ⟨z1, z2⟩ := entryOf_mem hz
            have gz := (gy.entries _ z1).number
            have m3 := n3 z.number gz
            rw [entNo_of gy.numbers z1] at m3
            simp only at m3
            rw [z2, entryOf_of gx.goods he] at m3
            simp only at m3
            simp only [go_sem, Nat.reduceAdd, Nat.reduceSub, Nat.reduceMul, Nat.reduceEqDiff, Nat.reduceLT, Nat.reduceLeDiff, Nat.reduceBEq, Nat.reduceBNe, Int.reduceToNat, Int.reduceLE, Int.reduceLT, Int.reduceNe, Int.reduceNeg, reduceCtorEq, Int.reduceBEq, Int.reduceBNe, @callV_spec E34 22 s22 rfl, @callV_specT E34 22 s22 rfl, @stepV_spec E34 22 s22 rfl, @effV_spec E34 22 s22 rfl, s22, @callV_spec E34 27 s27 rfl, @callV_specT E34 27 s27 rfl, @stepV_spec E34 27 s27 rfl, @effV_spec E34 27 s27 rfl, s27, callSpec, encR, encE, hr, h1, h2, m3]
end Wb
/- BookTwins: the numbers that have different goods on a day. -/
namespace Wb
open Go Go.Proofs Enc Row
set_option linter.unusedSimpArgs false
set_option linter.unusedVariables false
set_option maxRecDepth 20000
set_option maxHeartbeats 4000000
theorem climbs_of {below : Int} : ∀ (l : List Int) (before : Int), l.Pairwise (· < ·) → (∀ x ∈ l, before < x ∧ x < below) → climbsF below before l = true
  | [], _, _, _ => rfl
  | x :: l, before, h, k => by
    rw [List.pairwise_cons] at h
    have hx := k x (by simp)
    simp only [climbsF, hx.1, hx.2, decide_true, Bool.true_and]
    exact climbs_of l x h.2 fun y hy => ⟨h.1 y hy, (k y (by simp [hy])).2⟩
theorem mem_meansL {r : Rack} (hG : GRack r) {d : Int × Int} {n : Int} {x : Int × Int} : x ∈ meansL r d n r.issues.length ↔ ∃ i, i < r.issues.length ∧ ovl 0 d.1 d.2 (r.issues.getD i default) = true ∧ ∃ e ∈ (r.issues.getD i default).entries, e.number = n ∧ x = ((i : Int), e.good) := by
  unfold meansL
  simp only [List.mem_filterMap, List.mem_range]
  constructor
  · rintro ⟨i, hi, hm⟩
    rw [meanOf_lt hi] at hm
    split at hm
    · rename_i ho
      simp only [Option.map_eq_some_iff] at hm
      obtain ⟨e, he, rfl⟩ := hm
      obtain ⟨h1, h2⟩ := entNo_mem he
      exact ⟨i, hi, ho, e, h1, h2, rfl⟩
    · cases hm
  · rintro ⟨i, hi, ho, e, he, hn, rfl⟩
    have hy : r.issues.getD i default ∈ r.issues := by simp [List.getD_eq_getElem?_getD, hi]
    refine ⟨i, hi, ?_⟩
    rw [meanOf_lt hi, if_pos ho, ← hn, entNo_of (hG.issues _ hy).numbers he]
    rfl
theorem pair_means {r : Rack} (hG : GRack r) (on n : Int) : hasPair ((r.issues.filter (ovl 0 on on)).flatMap (·.entries)) n ↔ ∃ x ∈ meansL r (on, on) n r.issues.length, ∃ y ∈ meansL r (on, on) n r.issues.length, x.2 ≠ y.2 := by
  have key : ∀ e, e ∈ (r.issues.filter (ovl 0 on on)).flatMap (·.entries) → e.number = n → ∃ x ∈ meansL r (on, on) n r.issues.length, x.2 = e.good := fun e he hn => by
    obtain ⟨y, hy, he⟩ := List.mem_flatMap.1 he
    obtain ⟨hy, ho⟩ := List.mem_filter.1 hy
    obtain ⟨i, hi, ey⟩ := List.mem_iff_getElem.1 hy
    have gi : r.issues.getD i default = y := by simp [hi, ey]
    exact ⟨((i : Int), e.good), (mem_meansL hG).2 ⟨i, hi, by rw [gi]; exact ho, e, by rw [gi]; exact he, hn, rfl⟩, rfl⟩
  constructor
  · rintro ⟨e, he, e', he', h1, h2, h3⟩
    obtain ⟨x, hx, x2⟩ := key e he h1
    obtain ⟨y, hy, y2⟩ := key e' he' h2
    exact ⟨x, hx, y, hy, by rw [x2, y2]; exact h3⟩
  · rintro ⟨x, hx, y, hy, h⟩
    obtain ⟨i, hi, oi, e, he, n1, rfl⟩ := (mem_meansL hG).1 hx
    obtain ⟨j, hj, oj, e', he', n2, rfl⟩ := (mem_meansL hG).1 hy
    exact ⟨e, List.mem_flatMap.2 ⟨_, List.mem_filter.2 ⟨by simp [List.getD_eq_getElem?_getD, hi], oi⟩, he⟩, e', List.mem_flatMap.2 ⟨_, List.mem_filter.2 ⟨by simp [List.getD_eq_getElem?_getD, hj], oj⟩, he'⟩, n1, n2, h⟩
theorem diff_any (M : List (Int × Int)) : (M.any fun x => x.2 != (M.getD 0 default).2) = true ↔ ∃ x ∈ M, ∃ y ∈ M, x.2 ≠ y.2 := by
  rw [List.any_eq_true]
  constructor
  · rintro ⟨x, hx, h⟩
    have h0 : M ≠ [] := fun q => by rw [q] at hx; cases hx
    refine ⟨x, hx, M.getD 0 default, ?_, by simpa using h⟩
    cases M with
    | nil => exact absurd rfl h0
    | cons a M => simp
  · rintro ⟨x, hx, y, hy, h⟩
    by_cases hq : x.2 = (M.getD 0 default).2
    · exact ⟨y, hy, by simp only [bne_iff_ne, ne_eq]; rw [← hq]; exact Ne.symm h⟩
    · exact ⟨x, hx, by simp only [bne_iff_ne, ne_eq]; exact hq⟩
theorem place_ge (n : Int) (l : List Int) : decide (findI (fun a => a == n) l 0 ≥ 0) = decide (n ∈ l) := by
  have := place_neg n l
  by_cases h : n ∈ l
  · have h2 : ¬ findI (fun a => a == n) l 0 < 0 := by simpa [h] using this
    rw [decide_eq_true h, decide_eq_true (by omega)]
  · have h2 : findI (fun a => a == n) l 0 < 0 := by simpa [h] using this
    rw [decide_eq_false h, decide_eq_false (by omega)]
theorem two_means {M : List (Int × Int)} (h : ∃ x ∈ M, ∃ y ∈ M, x.2 ≠ y.2) : 2 ≤ M.length := by
  obtain ⟨x, hx, y, hy, h⟩ := h
  match M, hx, hy with
  | [a], hx, hy =>
    rw [List.mem_singleton] at hx hy
    exact absurd (by rw [hx, hy]) h
  | a :: b :: M, _, _ => simp
theorem twins_law (r : Rack) (hr : okRack r) (a b : Int) : Fn E34 0 9 Tryd.f9 (Tryd.f9.body.getD .skip) [.agg (encR r), .agg [.int .i64 a, .int .i64 b]] (.bool true) := by
  obtain ⟨g, l⟩ := r
  unfold Fn Tryd.f9
  cases hk : rackOk ⟨g, l⟩ with
  | false => simp only [go_sem, Nat.reduceAdd, Nat.reduceSub, Nat.reduceMul, Nat.reduceEqDiff, Nat.reduceLT, Nat.reduceLeDiff, Nat.reduceBEq, Nat.reduceBNe, Int.reduceToNat, Int.reduceLE, Int.reduceLT, Int.reduceNe, Int.reduceNeg, reduceCtorEq, Int.reduceBEq, Int.reduceBNe, @callV_spec E34 42 s42 rfl, @callV_specT E34 42 s42 rfl, @stepV_spec E34 42 s42 rfl, @effV_spec E34 42 s42 rfl, s42, @callV_spec E34 27 s27 rfl, @callV_specT E34 27 s27 rfl, @stepV_spec E34 27 s27 rfl, @effV_spec E34 27 s27 rfl, s27, encR, callSpec, hr, hk]
  | true =>
    have hG := rack_good hk
    have hl := hG.len
    simp only at hl
    obtain ⟨p1, p2⟩ := spin_range (n := a) (m := 900) (by omega)
    obtain ⟨q1, q2⟩ := spin_range (n := b) (m := 40) (by omega)
    have w1 : IntKind.i64.wrap (1 + spinF b 40) = 1 + spinF b 40 := wrap_id (by omega)
    generalize hon : spinF a 900 = on at *
    generalize hnum : 1 + spinF b 40 = n at *
    have ht : twinsM ⟨g, l⟩ on = (twL (twAt on l).t 10000, 0) := by
      unfold twinsM
      rw [if_pos hk, if_pos (by simp only [isDayB, Bool.and_eq_true, decide_eq_true_eq]; omega)]
    have hm : ∀ n : Int, 1 ≤ n ∧ n ≤ 9999 → meansM ⟨g, l⟩ (on, on) n = (meansL ⟨g, l⟩ (on, on) n l.length, 0) := fun n hn => by
      unfold meansM
      rw [if_pos hk, if_pos (by simp only [qMeans, isDaysB, isNumB, Bool.and_eq_true, decide_eq_true_eq]; omega)]
    have hm1 := hm n (by omega)
    have hpm := fun n => pair_means hG on n
    simp only at hpm
    have htl := mem_twL (twAt on l).t 10000
    have hts : ∀ n, (twAt on l).t n = true ↔ ∃ x ∈ meansL ⟨g, l⟩ (on, on) n l.length, ∃ y ∈ meansL ⟨g, l⟩ (on, on) n l.length, x.2 ≠ y.2 := fun n => (twAt_pair on l n).trans (hpm n)
    have hnum2 : ∀ n, (∃ x ∈ meansL ⟨g, l⟩ (on, on) n l.length, ∃ y ∈ meansL ⟨g, l⟩ (on, on) n l.length, x.2 ≠ y.2) → 1 ≤ n ∧ n ≤ 9999 := fun n h => by
      obtain ⟨x, hx, _⟩ := h
      obtain ⟨i, hi, _, e, he, n1, _⟩ := (mem_meansL hG).1 hx
      have hi : i < l.length := hi
      have := ((hG.issues _ (by simp [List.getD_eq_getElem?_getD, hi])).entries e he).number
      omega
    have hcl : climbsF 10000 (-1) (twL (twAt on l).t 10000) = true := climbs_of _ _ (twL_strict _ _) fun x hx => by
      have := (htl x).1 hx; omega
    have hlen := twL_len (twAt on l).t 10000
    have hbl : (twL (twAt on l).t 10000).length < 4611686018427387904 := by omega
    have hmemL : ∀ x, x ∈ twL (twAt on l).t 10000 ↔ ∃ u ∈ meansL ⟨g, l⟩ (on, on) x l.length, ∃ v ∈ meansL ⟨g, l⟩ (on, on) x l.length, u.2 ≠ v.2 := fun x => by
      rw [htl, hts]
      constructor
      · exact fun q => q.2.2
      · intro q; have := hnum2 x q; exact ⟨by omega, by omega, q⟩
    have hlM := meansL_len ⟨g, l⟩ (on, on) n l.length
    have hmlS : ∀ q : List (Int × Int), ml q = q.map encS := fun q => rfl
    have hda := diff_any (meansL ⟨g, l⟩ (on, on) n l.length)
    have hmn := hmemL n
    simp only [go_sem, Nat.reduceAdd, Nat.reduceSub, Nat.reduceMul, Nat.reduceEqDiff, Nat.reduceLT, Nat.reduceLeDiff, Nat.reduceBEq, Nat.reduceBNe, Int.reduceToNat, Int.reduceLE, Int.reduceLT, Int.reduceNe, Int.reduceNeg, reduceCtorEq, Int.reduceBEq, Int.reduceBNe, @callV_spec E34 42 s42 rfl, @callV_specT E34 42 s42 rfl, @stepV_spec E34 42 s42 rfl, @effV_spec E34 42 s42 rfl, s42, @callV_spec E34 43 sSpin rfl, @callV_specT E34 43 sSpin rfl, @stepV_spec E34 43 sSpin rfl, @effV_spec E34 43 sSpin rfl, sSpin, @callV_spec E34 44 sTo rfl, @callV_specT E34 44 sTo rfl, @stepV_spec E34 44 sTo rfl, @effV_spec E34 44 sTo rfl, sTo, @callV_spec E34 24 s24 rfl, @callV_specT E34 24 s24 rfl, @stepV_spec E34 24 s24 rfl, @effV_spec E34 24 s24 rfl, s24, @callV_spec E34 17 s17 rfl, @callV_specT E34 17 s17 rfl, @stepV_spec E34 17 s17 rfl, @effV_spec E34 17 s17 rfl, s17, @callV_spec E34 46 s46 rfl, @callV_specT E34 46 s46 rfl, @stepV_spec E34 46 s46 rfl, @effV_spec E34 46 s46 rfl, s46, encR, callSpec, hr, hk, hon, hnum, w1, ht, hm1, hcl, big, hbl]
    generalize hL : twL (twAt on l).t 10000 = L at *
    generalize hM : meansL ⟨g, l⟩ (on, on) n l.length = M at *
    refine ev_loopS [2, 5, 6, 7, 9] (fun i : Nat => [(11, .bool ((M.take i).any fun x => x.2 != (M.getD 0 default).2)), (12, .int .i64 i)])
      (fun i H => i ≤ M.length ∧ H (([], 9000000) : Key) = some (.cells [.int .i64 g, .sl (l.map encI) false] 1 false))
      (fun i => M.length - i) 0 ?_ ⟨Nat.zero_le _, ?_⟩ ?_
    · simp only [go_sem, Nat.reduceAdd, Nat.reduceSub, Nat.reduceMul, Nat.reduceEqDiff, Nat.reduceLT, Nat.reduceLeDiff, Nat.reduceBEq, Nat.reduceBNe, Int.reduceToNat, Int.reduceLE, Int.reduceLT, Int.reduceNe, Int.reduceNeg, reduceCtorEq, Int.reduceBEq, Int.reduceBNe]
    · simp only [go_sem, Nat.reduceAdd, Nat.reduceSub, Nat.reduceMul, Nat.reduceEqDiff, Nat.reduceLT, Nat.reduceLeDiff, Nat.reduceBEq, Nat.reduceBNe, Int.reduceToNat, Int.reduceLE, Int.reduceLT, Int.reduceNe, Int.reduceNeg, reduceCtorEq, Int.reduceBEq, Int.reduceBNe]
    · simp only [go_sem, Nat.reduceAdd, Nat.reduceSub, Nat.reduceMul, Nat.reduceEqDiff, Nat.reduceLT, Nat.reduceLeDiff, Nat.reduceBEq, Nat.reduceBNe, Int.reduceToNat, Int.reduceLE, Int.reduceLT, Int.reduceNe, Int.reduceNeg, reduceCtorEq, Int.reduceBEq, Int.reduceBNe]
      intro K i H ⟨hi, h1⟩ hK hE
      simp only [go_sem, Nat.reduceAdd, Nat.reduceSub, Nat.reduceMul, Nat.reduceEqDiff, Nat.reduceLT, Nat.reduceLeDiff, Nat.reduceBEq, Nat.reduceBNe, Int.reduceToNat, Int.reduceLE, Int.reduceLT, Int.reduceNe, Int.reduceNeg, reduceCtorEq, Int.reduceBEq, Int.reduceBNe, ml_length]
      rw [condK_bool]
      refine ⟨fun h => ?_, fun h => ?_⟩
      · have h' : i < M.length := by simpa using h
        have hii : (i : Int) < (M.length : Int) := by omega
        have h0 : 0 < M.length := by omega
        have h00 : (0 : Int) < (M.length : Int) := by omega
        have w2 : IntKind.i64.wrap ((i : Int) + 1) = (i : Int) + 1 := wrap_id (by omega)
        have hta := take_any (fun x : Int × Int => x.2 != (M.getD 0 default).2) h'
        have gi := getD_mapN encS M i [.int .i64 0, .int .i64 0] h'
        have g0 := getD_mapN encS M 0 [.int .i64 0, .int .i64 0] h0
        rw [← hmlS] at gi g0
        generalize hxi : M.getD i default = xi at *
        generalize hx0 : M.getD 0 default = x0 at *
        simp only [go_sem, Nat.reduceAdd, Nat.reduceSub, Nat.reduceMul, Nat.reduceEqDiff, Nat.reduceLT, Nat.reduceLeDiff, Nat.reduceBEq, Nat.reduceBNe, Int.reduceToNat, Int.reduceLE, Int.reduceLT, Int.reduceNe, Int.reduceNeg, reduceCtorEq, Int.reduceBEq, Int.reduceBNe, hii, h00, gi, g0, encS, ml_length]
        refine hK (i + 1) _ _ ?_ ⟨h', h1⟩ (by omega)
        simp only [go_sem, Nat.reduceAdd, Nat.reduceSub, Nat.reduceMul, Nat.reduceEqDiff, Nat.reduceLT, Nat.reduceLeDiff, Nat.reduceBEq, Nat.reduceBNe, Int.reduceToNat, Int.reduceLE, Int.reduceLT, Int.reduceNe, Int.reduceNeg, reduceCtorEq, Int.reduceBEq, Int.reduceBNe, w2, Int.natCast_add, Int.natCast_one, hta]
      · have h' : i = M.length := by have : ¬ ((i : Int) < (M.length : Int)) := by simpa using h
                                     omega
        subst h'
        refine hE _ _ _ (by simp) ?_
        rw [List.take_length]
        have hsame : (M.any fun x => x.2 != (M.getD 0 default).2) = decide (n ∈ L) := by
          rw [Bool.eq_iff_iff, decide_eq_true_eq, hmn]; exact hda
        have hne : (decide (n ∈ L) != decide (n ∈ L)) = false := bne_self_eq_false _
        simp only [go_sem, Nat.reduceAdd, Nat.reduceSub, Nat.reduceMul, Nat.reduceEqDiff, Nat.reduceLT, Nat.reduceLeDiff, Nat.reduceBEq, Nat.reduceBNe, Int.reduceToNat, Int.reduceLE, Int.reduceLT, Int.reduceNe, Int.reduceNeg, reduceCtorEq, Int.reduceBEq, Int.reduceBNe, @callV_spec E34 47 sPlace rfl, @callV_specT E34 47 sPlace rfl, @stepV_spec E34 47 sPlace rfl, @effV_spec E34 47 sPlace rfl, sPlace, callSpec, hbl, hsame, place_ge, hne]
        refine ev_loopS [2, 5, 7] (fun k : Nat => [(13, .int .i64 k)])
          (fun k H => k ≤ L.length ∧ H (([], 9000000) : Key) = some (.cells [.int .i64 g, .sl (l.map encI) false] 1 false))
          (fun k => L.length - k) 0 ?_ ⟨Nat.zero_le _, h1⟩ ?_
        · simp only [go_sem, Nat.reduceAdd, Nat.reduceSub, Nat.reduceMul, Nat.reduceEqDiff, Nat.reduceLT, Nat.reduceLeDiff, Nat.reduceBEq, Nat.reduceBNe, Int.reduceToNat, Int.reduceLE, Int.reduceLT, Int.reduceNe, Int.reduceNeg, reduceCtorEq, Int.reduceBEq, Int.reduceBNe]
        · simp only [go_sem, Nat.reduceAdd, Nat.reduceSub, Nat.reduceMul, Nat.reduceEqDiff, Nat.reduceLT, Nat.reduceLeDiff, Nat.reduceBEq, Nat.reduceBNe, Int.reduceToNat, Int.reduceLE, Int.reduceLT, Int.reduceNe, Int.reduceNeg, reduceCtorEq, Int.reduceBEq, Int.reduceBNe]
          intro K2 k H2 ⟨hk2, k1⟩ hK2 hE2
          simp only [go_sem, Nat.reduceAdd, Nat.reduceSub, Nat.reduceMul, Nat.reduceEqDiff, Nat.reduceLT, Nat.reduceLeDiff, Nat.reduceBEq, Nat.reduceBNe, Int.reduceToNat, Int.reduceLE, Int.reduceLT, Int.reduceNe, Int.reduceNeg, reduceCtorEq, Int.reduceBEq, Int.reduceBNe, il_length]
          rw [condK_bool]
          refine ⟨fun h => ?_, fun h => ?_⟩
          · have hk' : k < L.length := by simpa using h
            have hkk : (k : Int) < (L.length : Int) := by omega
            have w3 : IntKind.i64.wrap ((k : Int) + 1) = (k : Int) + 1 := wrap_id (by omega)
            have hx : L.getD k 0 ∈ L := by simp [List.getD_eq_getElem?_getD, hk']
            have hp := (hmemL _).1 hx
            have hmk := hm _ (hnum2 _ hp)
            have h2 := two_means hp
            generalize hmm : meansL ⟨g, l⟩ (on, on) (L.getD k 0) l.length = MM at *
            have h2' : ¬ ((MM.length : Int) < 2) := by omega
            simp only [go_sem, Nat.reduceAdd, Nat.reduceSub, Nat.reduceMul, Nat.reduceEqDiff, Nat.reduceLT, Nat.reduceLeDiff, Nat.reduceBEq, Nat.reduceBNe, Int.reduceToNat, Int.reduceLE, Int.reduceLT, Int.reduceNe, Int.reduceNeg, reduceCtorEq, Int.reduceBEq, Int.reduceBNe, @callV_spec E34 44 sTo rfl, @callV_specT E34 44 sTo rfl, @stepV_spec E34 44 sTo rfl, @effV_spec E34 44 sTo rfl, sTo, @callV_spec E34 17 s17 rfl, @callV_specT E34 17 s17 rfl, @stepV_spec E34 17 s17 rfl, @effV_spec E34 17 s17 rfl, s17, encR, callSpec, hr, k1, hkk, il_length, il_get, hmk, ml_length, h2']
            refine hK2 (k + 1) _ _ ?_ ⟨hk', k1⟩ (by omega)
            simp only [go_sem, Nat.reduceAdd, Nat.reduceSub, Nat.reduceMul, Nat.reduceEqDiff, Nat.reduceLT, Nat.reduceLeDiff, Nat.reduceBEq, Nat.reduceBNe, Int.reduceToNat, Int.reduceLE, Int.reduceLT, Int.reduceNe, Int.reduceNeg, reduceCtorEq, Int.reduceBEq, Int.reduceBNe, w3, Int.natCast_add, Int.natCast_one]
          · exact hE2 _ _ _ (by simp) (by simp only [go_sem, Nat.reduceAdd, Nat.reduceSub, Nat.reduceMul, Nat.reduceEqDiff, Nat.reduceLT, Nat.reduceLeDiff, Nat.reduceBEq, Nat.reduceBNe, Int.reduceToNat, Int.reduceLE, Int.reduceLT, Int.reduceNe, Int.reduceNeg, reduceCtorEq, Int.reduceBEq, Int.reduceBNe, @callV_spec E34 27 s27 rfl, @callV_specT E34 27 s27 rfl, @stepV_spec E34 27 s27 rfl, @effV_spec E34 27 s27 rfl, s27])
end Wb
