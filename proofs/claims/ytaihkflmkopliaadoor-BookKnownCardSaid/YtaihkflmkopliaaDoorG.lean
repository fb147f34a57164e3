import Derived.Test.YtaihkflmkopliaaDoorF
set_option linter.unusedVariables false
set_option linter.unusedSimpArgs false
/- What a number means in a book. -/
namespace Wb
open Go Go.Proofs Enc Row
set_option linter.unusedSimpArgs false
set_option linter.unusedVariables false
set_option maxRecDepth 20000
set_option maxHeartbeats 4000000
def entNo (n : Int) (l : List Entry) : Option Entry := l.find? (fun e => e.number == n)
theorem mget_entsE (i k n : Int) : ∀ (l : List Entry) (m : Ents), (l.map (·.number)).Nodup → mget (entsE i l m) [k, n] = if k = i then (match entNo n l with | some e => some (.agg (encE e)) | none => mget m [k, n]) else mget m [k, n]
  | [], m, _ => by simp [entsE, entNo]
  | e :: l, m, h => by
    rw [List.map_cons, List.nodup_cons] at h
    rw [entsE, mget_entsE i k n l _ h.2, mget_mset]
    by_cases hk : k = i
    · subst hk
      simp only [if_true]
      by_cases hn : e.number = n
      · have : entNo n l = none := by
          unfold entNo
          rw [List.find?_eq_none]
          intro a ha he
          have he : a.number = n := by simpa using he
          exact h.1 (List.mem_map.2 ⟨a, ha, by rw [he, hn]⟩)
        rw [this]
        simp [entNo, hn]
      · have e1 : ¬ ([k, e.number] = [k, n]) := by simp [hn]
        have e2 : entNo n (e :: l) = entNo n l := by simp [entNo, hn]
        rw [e2]
        simp only [e1, if_false]
    · have e1 : ¬ ([i, e.number] = [k, n]) := by simp [Ne.symm hk]
      simp only [hk, if_false, e1]
theorem mget_entsI (j n : Int) : ∀ (l : List Issue) (k : Nat) (m : Ents), (∀ y ∈ l, (y.entries.map (·.number)).Nodup) → mget (entsI k l m) [j, n] = if (k : Int) ≤ j ∧ j < k + l.length then (match entNo n (l.getD (j - k).toNat default).entries with | some e => some (.agg (encE e)) | none => mget m [j, n]) else mget m [j, n]
  | [], k, m, _ => by
    rw [if_neg (by simp)]; rfl
  | y :: l, k, m, h => by
    rw [entsI, mget_entsI j n l (k + 1) _ (fun a ha => h a (by simp [ha])), mget_entsE _ _ _ _ _ (h y (by simp))]
    by_cases hj : j = k
    · subst hj
      have e0 : ((k : Int) - k).toNat = 0 := by simp
      rw [if_neg (by push_cast; omega), if_pos rfl, if_pos (by simp; omega), e0]
      rfl
    · by_cases h2 : ((k + 1 : Nat) : Int) ≤ j ∧ j < ((k + 1 : Nat) : Int) + l.length
      · have e3 : (j - k).toNat = (j - ((k + 1 : Nat) : Int)).toNat + 1 := by push_cast; omega
        rw [if_pos h2, if_neg hj, if_pos (by push_cast at h2 ⊢; simp; omega), e3]
        rfl
      · rw [if_neg h2, if_neg hj, if_neg (by push_cast at h2 ⊢; simp; omega)]
def entAt (r : Rack) (i n : Int) : Option Entry := if 0 ≤ i ∧ i < r.issues.length then entNo n (r.issues.getD i.toNat default).entries else none
theorem mget_ents {r : Rack} (h : GRack r) (i n : Int) : mget (ents r) [i, n] = (entAt r i n).map fun e => .agg (encE e) := by
  unfold ents entAt
  rw [mget_entsI i n r.issues 0 [] (fun y hy => (h.issues y hy).numbers)]
  simp only [Int.natCast_zero, Int.zero_add, Int.sub_zero]
  split
  · cases entNo n (r.issues.getD i.toNat default).entries <;> rfl
  · rfl
theorem found_ents {r : Rack} (h : GRack r) (i n : Int) : found { kind := .struct [0, 1, 2, 3] [3, 3, 3, 65], size := 4, bytes := 48, zero := [.int .i64 0, .int .i64 0, .int .i64 0, .sl [] true] } true (mget (ents r) [i, n]) = .tup [entPV (entAt r i n), .bool (entAt r i n).isSome] := by
  rw [mget_ents h]
  cases entAt r i n <;> rfl
theorem entAt_mem {r : Rack} {i n : Int} {e : Entry} (h : entAt r i n = some e) : (0 ≤ i ∧ i < r.issues.length) ∧ e ∈ (r.issues.getD i.toNat default).entries ∧ e.number = n := by
  unfold entAt at h
  split at h
  · rename_i hi
    have := List.find?_some h
    exact ⟨hi, List.mem_of_find?_eq_some h, by simpa using this⟩
  · cases h
def E15t : List (Nat × Spec) := [(56, s56)] ++ E14t
theorem E15t_ok : AllOK E15t := ⟨⟨s56_ok, Tryd.call56⟩, E14t_ok⟩
noncomputable def E15 : Env := mkM E15t [] Mt
theorem E15_ok : EnvOK Tryd.prog E15 := envMOK E15t_ok trivial Mt_ok
theorem E15_ti {t : Nat} : E15.ti t = ti t := rfl
theorem E15_q0 : (E15).eqt 152 = true := rfl
theorem E15_q1 : (E15).eqt 69 = true := rfl
theorem E15_q2 : (E15).keyt 3 = true := rfl
theorem E15_q3 : (E15).keyt 108 = true := rfl
attribute [go_sem] E15_ti E15_q0 E15_q1 E15_q2 E15_q3
/-- What comes back: an entry, and the error. -/
def entErr (r : Rack) (q : Rack → Bool) (i n : Int) : Option Entry × Int :=
  if rackOk r then (if q r then (match entAt r i n with | some e => (some e, 0) | none => (none, 4)) else (none, 11)) else (none, 10)
-- f98 sizes
def qSizes (i n : Int) (d : Int × Int) (r : Rack) : Bool := isIssB r i && isNumB n && isFootB d
theorem sizes_fn (r : Rack) (hr : okRack r) (i n : Int) (d : Int × Int) : Fn E15 0 98 Tryd.f98 (Tryd.f98.body.getD .skip) [.agg (encR r), .int .i64 i, .int .i64 n, .agg [.int .i64 d.1, .int .i64 d.2]]
    (.tup [entPV (entErr r (qSizes i n d) i n).1, .int .i64 (entErr r (qSizes i n d) i n).2]) := by
  obtain ⟨g, l⟩ := r
  have hg : ∀ h : rackOk ⟨g, l⟩ = true, _ := fun h => found_ents (rack_good h)
  unfold Fn Tryd.f98 entErr
  cases hk : rackOk ⟨g, l⟩ with
  | false => simp only [go_sem, Nat.reduceAdd, Nat.reduceSub, Nat.reduceMul, Nat.reduceEqDiff, Nat.reduceLT, Nat.reduceLeDiff, Nat.reduceBEq, Nat.reduceBNe, Int.reduceToNat, Int.reduceLE, Int.reduceLT, Int.reduceNe, Int.reduceNeg, reduceCtorEq, Int.reduceBEq, Int.reduceBNe, @callV_spec E15 56 s56 rfl, @callV_specT E15 56 s56 rfl, @stepV_spec E15 56 s56 rfl, @effV_spec E15 56 s56 rfl, s56, encR, callSpec, predO, hr, openPV, hk, zeroC, entPV]
  | true =>
    have hg := hg hk
    have hq : (isIssB ⟨g, l⟩ i && isNumB n && isFootB (d.1, d.2)) = qSizes i n d ⟨g, l⟩ := rfl
    cases hqq : qSizes i n d ⟨g, l⟩ with
    | false => simp only [go_sem, Nat.reduceAdd, Nat.reduceSub, Nat.reduceMul, Nat.reduceEqDiff, Nat.reduceLT, Nat.reduceLeDiff, Nat.reduceBEq, Nat.reduceBNe, Int.reduceToNat, Int.reduceLE, Int.reduceLT, Int.reduceNe, Int.reduceNeg, reduceCtorEq, Int.reduceBEq, Int.reduceBNe, @callV_spec E15 56 s56 rfl, @callV_specT E15 56 s56 rfl, @stepV_spec E15 56 s56 rfl, @effV_spec E15 56 s56 rfl, s56, encR, callSpec, predO, hr, openPV, hk, hq, hqq, zeroC, entPV]
    | true =>
      simp only [go_sem, Nat.reduceAdd, Nat.reduceSub, Nat.reduceMul, Nat.reduceEqDiff, Nat.reduceLT, Nat.reduceLeDiff, Nat.reduceBEq, Nat.reduceBNe, Int.reduceToNat, Int.reduceLE, Int.reduceLT, Int.reduceNe, Int.reduceNeg, reduceCtorEq, Int.reduceBEq, Int.reduceBNe, @callV_spec E15 56 s56 rfl, @callV_specT E15 56 s56 rfl, @stepV_spec E15 56 s56 rfl, @effV_spec E15 56 s56 rfl, s56, encR, encC, callSpec, predO, hr, openPV, hk, hq, hqq, zeroC, entPV, look, keyOf, ints]
      rw [hg i n]
      cases ha : entAt ⟨g, l⟩ i n with
      | none => simp only [go_sem, Nat.reduceAdd, Nat.reduceSub, Nat.reduceMul, Nat.reduceEqDiff, Nat.reduceLT, Nat.reduceLeDiff, Nat.reduceBEq, Nat.reduceBNe, Int.reduceToNat, Int.reduceLE, Int.reduceLT, Int.reduceNe, Int.reduceNeg, reduceCtorEq, Int.reduceBEq, Int.reduceBNe, entPV, Option.isSome]
      | some e => simp only [go_sem, Nat.reduceAdd, Nat.reduceSub, Nat.reduceMul, Nat.reduceEqDiff, Nat.reduceLT, Nat.reduceLeDiff, Nat.reduceBEq, Nat.reduceBNe, Int.reduceToNat, Int.reduceLE, Int.reduceLT, Int.reduceNe, Int.reduceNeg, reduceCtorEq, Int.reduceBEq, Int.reduceBNe, entPV, Option.isSome, encE]
def s98 : Spec := spec4 (fun (r : Rack) (_ : Int) (_ : Int) (_ : Int × Int) => okRack r) (fun r i n d => .tup [entPV (entErr r (qSizes i n d) i n).1, .int .i64 (entErr r (qSizes i n d) i n).2])
theorem s98_ok : SpecOK Tryd.prog glB 98 s98 := spec4_ok E15_ok Tryd.func98 rfl (by kernel_rfl) fun r i n d h => sizes_fn r h i n d
theorem entErr_err (r : Rack) (q : Rack → Bool) (i n : Int) : ((entErr r q i n).2 = 0 ∧ ∃ e, (entErr r q i n).1 = some e ∧ entAt r i n = some e ∧ rackOk r = true ∧ q r = true) ∨ ((entErr r q i n).2 ≠ 0 ∧ (entErr r q i n).1 = none) := by
  unfold entErr
  cases rackOk r <;> simp
  cases q r <;> simp
  cases entAt r i n <;> simp
-- f40 Sure
def E16t : List (Nat × Spec) := [(98, s98)] ++ E15t
theorem E16t_ok : AllOK E16t := ⟨⟨s98_ok, Tryd.call98⟩, E15t_ok⟩
noncomputable def E16 : Env := mkM E16t [] Mt
theorem E16_ok : EnvOK Tryd.prog E16 := envMOK E16t_ok trivial Mt_ok
theorem E16_ti {t : Nat} : E16.ti t = ti t := rfl
theorem E16_q0 : (E16).eqt 152 = true := rfl
theorem E16_q1 : (E16).eqt 69 = true := rfl
theorem E16_q2 : (E16).keyt 3 = true := rfl
theorem E16_q3 : (E16).keyt 108 = true := rfl
attribute [go_sem] E16_ti E16_q0 E16_q1 E16_q2 E16_q3
def sureP (d : Int × Int) (f : Fit) : Bool := decide (f.lo ≤ d.1) && decide (d.2 ≤ f.hi)
def someP (d : Int × Int) (f : Fit) : Bool := decide (f.lo ≤ d.2) && decide (d.1 ≤ f.hi)
def sureM (r : Rack) (i n : Int) (d : Int × Int) : Int × Int :=
  match entErr r (qSizes i n d) i n with
  | (some e, _) => (match e.sizes.find? (sureP d) with | some f => (f.size, 0) | none => (0, 4))
  | (none, k) => (0, k)
theorem sure_fn (r : Rack) (hr : okRack r) (i n : Int) (d : Int × Int) : Fn E16 0 40 Tryd.f40 (Tryd.f40.body.getD .skip) [.agg (encR r), .int .i64 i, .int .i64 n, .agg [.int .i64 d.1, .int .i64 d.2]] (.tup [.int .i64 (sureM r i n d).1, .int .i64 (sureM r i n d).2]) := by
  obtain ⟨g, l⟩ := r
  have hd : (d.1, d.2) = d := rfl
  unfold Fn Tryd.f40 sureM
  rcases hE : entErr ⟨g, l⟩ (qSizes i n d) i n with ⟨o, k⟩
  rcases entErr_err ⟨g, l⟩ (qSizes i n d) i n with ⟨h1, e, h2, h3, h4, h5⟩ | ⟨h1, h2⟩
  · rw [hE] at h1 h2
    simp only at h1 h2
    subst h1; subst h2
    have hsz : big e.sizes.length := by
      obtain ⟨a, b, _⟩ := entAt_mem h3
      have hm : ((⟨g, l⟩ : Rack).issues.getD i.toNat default) ∈ (⟨g, l⟩ : Rack).issues := by
        have : i.toNat < l.length := by have := a.2; simp at this; omega
        simp [List.getD_eq_getElem?_getD, this]
      have := (((rack_good h4).issues _ hm).entries e b).sizes.2
      unfold big; omega
    simp only [go_sem, Nat.reduceAdd, Nat.reduceSub, Nat.reduceMul, Nat.reduceEqDiff, Nat.reduceLT, Nat.reduceLeDiff, Nat.reduceBEq, Nat.reduceBNe, Int.reduceToNat, Int.reduceLE, Int.reduceLT, Int.reduceNe, Int.reduceNeg, reduceCtorEq, Int.reduceBEq, Int.reduceBNe, @callV_spec E16 98 s98 rfl, @callV_specT E16 98 s98 rfl, @stepV_spec E16 98 s98 rfl, @effV_spec E16 98 s98 rfl, s98, @callV_spec E16 102 s102 rfl, @callV_specT E16 102 s102 rfl, @stepV_spec E16 102 s102 rfl, @effV_spec E16 102 s102 rfl, s102, encR, callSpec, hr, hd, hE, entPV, encE, predF, hsz]
    show condK (.bool (decide (findI (sureP d) e.sizes 0 < 0))) _ _ _ _
    rcases findI_find (sureP d) e.sizes 0 with ⟨q1, q2⟩ | ⟨j, q1, q2, q3⟩
    · simp only [go_sem, Nat.reduceAdd, Nat.reduceSub, Nat.reduceMul, Nat.reduceEqDiff, Nat.reduceLT, Nat.reduceLeDiff, Nat.reduceBEq, Nat.reduceBNe, Int.reduceToNat, Int.reduceLE, Int.reduceLT, Int.reduceNe, Int.reduceNeg, reduceCtorEq, Int.reduceBEq, Int.reduceBNe, q1, q2]
    · have q4 : decide ((j : Int) < 0) = false := by simp
      have q5 : (j : Int) < (e.sizes.length : Int) := by omega
      have q6 : findI (fun f => decide (f.lo ≤ d.1) && decide (d.2 ≤ f.hi)) e.sizes 0 = (j : Int) := by
        have : findI (sureP d) e.sizes 0 = (j : Int) := by rw [q3, Nat.zero_add]
        exact this
      have q7 : findI (sureP d) e.sizes 0 = (j : Int) := q6
      simp only [go_sem, Nat.reduceAdd, Nat.reduceSub, Nat.reduceMul, Nat.reduceEqDiff, Nat.reduceLT, Nat.reduceLeDiff, Nat.reduceBEq, Nat.reduceBNe, Int.reduceToNat, Int.reduceLE, Int.reduceLT, Int.reduceNe, Int.reduceNeg, reduceCtorEq, Int.reduceBEq, Int.reduceBNe, q2, q7, q4, q5, q6, getD_mapN encF e.sizes j _ q1, encF]
  · rw [hE] at h1 h2
    simp only at h1 h2
    subst h2
    have h6 : (k != 0) = true := by simpa using h1
    simp only [go_sem, Nat.reduceAdd, Nat.reduceSub, Nat.reduceMul, Nat.reduceEqDiff, Nat.reduceLT, Nat.reduceLeDiff, Nat.reduceBEq, Nat.reduceBNe, Int.reduceToNat, Int.reduceLE, Int.reduceLT, Int.reduceNe, Int.reduceNeg, reduceCtorEq, Int.reduceBEq, Int.reduceBNe, @callV_spec E16 98 s98 rfl, @callV_specT E16 98 s98 rfl, @stepV_spec E16 98 s98 rfl, @effV_spec E16 98 s98 rfl, s98, encR, callSpec, hr, hd, hE, entPV, h6]
end Wb
/- All sizes that fit; the number in another book. -/
namespace Wb
open Go Go.Proofs Enc Row
set_option linter.unusedSimpArgs false
set_option linter.unusedVariables false
set_option maxRecDepth 20000
set_option maxHeartbeats 4000000
theorem il_nil' : il [] = [] := rfl
def fitsL (d : Int × Int) (l : List Fit) : List Int := (l.filter (someP d)).map (·.size)
theorem fitsL_take (d : Int × Int) {l : List Fit} {i : Nat} (h : i < l.length) : fitsL d (l.take (i + 1)) = fitsL d (l.take i) ++ (if someP d (l.getD i default) then [(l.getD i default).size] else []) := by
  have e : l.getD i default = l[i] := by simp [h]
  unfold fitsL
  rw [e, List.take_succ_eq_append_getElem h, List.filter_append, List.map_append, List.filter_cons]
  split <;> rfl
theorem fitsL_len (d : Int × Int) (l : List Fit) : (fitsL d l).length ≤ l.length := by
  unfold fitsL; rw [List.length_map]; exact List.length_filter_le _ _
def fitsM (r : Rack) (i n : Int) (d : Int × Int) : List Int × Int :=
  match entErr r (qSizes i n d) i n with
  | (some e, _) => (fitsL d e.sizes, 0)
  | (none, k) => ([], k)
theorem fits_fn (r : Rack) (hr : okRack r) (i n : Int) (d : Int × Int) : Fn E16 0 38 Tryd.f38 (Tryd.f38.body.getD .skip) [.agg (encR r), .int .i64 i, .int .i64 n, .agg [.int .i64 d.1, .int .i64 d.2]] (.tup [.sl (il (fitsM r i n d).1) true, .int .i64 (fitsM r i n d).2]) := by
  obtain ⟨g, l⟩ := r
  have hd : (d.1, d.2) = d := rfl
  unfold Fn Tryd.f38 fitsM
  rcases hE : entErr ⟨g, l⟩ (qSizes i n d) i n with ⟨o, k⟩
  rcases entErr_err ⟨g, l⟩ (qSizes i n d) i n with ⟨h1, e, h2, h3, h4, h5⟩ | ⟨h1, h2⟩
  · rw [hE] at h1 h2
    simp only at h1 h2
    subst h1; subst h2
    have hsz : e.sizes.length ≤ 8 := by
      obtain ⟨a, b, _⟩ := entAt_mem h3
      have hm : ((⟨g, l⟩ : Rack).issues.getD i.toNat default) ∈ (⟨g, l⟩ : Rack).issues := by
        have : i.toNat < l.length := by have := a.2; simp at this; omega
        simp [List.getD_eq_getElem?_getD, this]
      exact (((rack_good h4).issues _ hm).entries e b).sizes.2
    simp only [go_sem, Nat.reduceAdd, Nat.reduceSub, Nat.reduceMul, Nat.reduceEqDiff, Nat.reduceLT, Nat.reduceLeDiff, Nat.reduceBEq, Nat.reduceBNe, Int.reduceToNat, Int.reduceLE, Int.reduceLT, Int.reduceNe, Int.reduceNeg, reduceCtorEq, Int.reduceBEq, Int.reduceBNe, @callV_spec E16 98 s98 rfl, @callV_specT E16 98 s98 rfl, @stepV_spec E16 98 s98 rfl, @effV_spec E16 98 s98 rfl, s98, encR, callSpec, hr, hd, hE, entPV, encE]
    refine ev_loopS [7, 10, 12] (fun x : Nat × PV => [(13, x.2), (30, .int .i64 e.sizes.length), (31, .int .i64 x.1)])
      (fun x H => x.1 ≤ e.sizes.length ∧ H (([], 38000001) : Key) = some (.cells [.int .i64 d.1, .int .i64 d.2] 1 false) ∧ H (([], 38001008) : Key) = some (.cells (encE e) 1 false) ∧ H (([], 38004002) : Key) = some (.cells [.fn 99 [] [.ref ([], 38000001) 1 0]] 1 false) ∧
        Own H (fun K => K = ([], 38010008)) x.2 1 (il (fitsL d (e.sizes.take x.1))))
      (fun x => e.sizes.length - x.1) (0, .sl [] true) ?_ ⟨Nat.zero_le _, ?_, ?_, ?_, .inl ⟨rfl, rfl⟩⟩ ?_
    · simp only [go_sem, Nat.reduceAdd, Nat.reduceSub, Nat.reduceMul, Nat.reduceEqDiff, Nat.reduceLT, Nat.reduceLeDiff, Nat.reduceBEq, Nat.reduceBNe, Int.reduceToNat, Int.reduceLE, Int.reduceLT, Int.reduceNe, Int.reduceNeg, reduceCtorEq, Int.reduceBEq, Int.reduceBNe]
    · simp only [go_sem, Nat.reduceAdd, Nat.reduceSub, Nat.reduceMul, Nat.reduceEqDiff, Nat.reduceLT, Nat.reduceLeDiff, Nat.reduceBEq, Nat.reduceBNe, Int.reduceToNat, Int.reduceLE, Int.reduceLT, Int.reduceNe, Int.reduceNeg, reduceCtorEq, Int.reduceBEq, Int.reduceBNe]
    · simp only [go_sem, Nat.reduceAdd, Nat.reduceSub, Nat.reduceMul, Nat.reduceEqDiff, Nat.reduceLT, Nat.reduceLeDiff, Nat.reduceBEq, Nat.reduceBNe, Int.reduceToNat, Int.reduceLE, Int.reduceLT, Int.reduceNe, Int.reduceNeg, reduceCtorEq, Int.reduceBEq, Int.reduceBNe, encE]
    · simp only [go_sem, Nat.reduceAdd, Nat.reduceSub, Nat.reduceMul, Nat.reduceEqDiff, Nat.reduceLT, Nat.reduceLeDiff, Nat.reduceBEq, Nat.reduceBNe, Int.reduceToNat, Int.reduceLE, Int.reduceLT, Int.reduceNe, Int.reduceNeg, reduceCtorEq, Int.reduceBEq, Int.reduceBNe]
    · simp only [go_sem, Nat.reduceAdd, Nat.reduceSub, Nat.reduceMul, Nat.reduceEqDiff, Nat.reduceLT, Nat.reduceLeDiff, Nat.reduceBEq, Nat.reduceBNe, Int.reduceToNat, Int.reduceLE, Int.reduceLT, Int.reduceNe, Int.reduceNeg, reduceCtorEq, Int.reduceBEq, Int.reduceBNe]
      intro K x H ⟨hj, g1, g2, g3, g4⟩ hK hE2
      obtain ⟨j, p⟩ := x
      simp only at hj g4
      dsimp only
      rw [condK_bool]
      refine ⟨fun h => ?_, fun h => ?_⟩
      · have hj' : j < e.sizes.length := by simpa using h
        have hjj : (j : Int) < (e.sizes.length : Int) := by omega
        have w2 : IntKind.i64.wrap ((j : Int) + 1) = (j : Int) + 1 := wrap_id (by omega)
        have hft := fitsL_take d hj'
        have hfl := fitsL_len d (e.sizes.take j)
        have hfl2 : (e.sizes.take j).length ≤ 8 := Nat.le_trans (List.length_take_le' _ _) hsz
        generalize hfe : e.sizes.getD j default = f at hft
        simp only [go_sem, Nat.reduceAdd, Nat.reduceSub, Nat.reduceMul, Nat.reduceEqDiff, Nat.reduceLT, Nat.reduceLeDiff, Nat.reduceBEq, Nat.reduceBNe, Int.reduceToNat, Int.reduceLE, Int.reduceLT, Int.reduceNe, Int.reduceNeg, reduceCtorEq, Int.reduceBEq, Int.reduceBNe, @callV_spec E16 99 s99 rfl, @callV_specT E16 99 s99 rfl, @stepV_spec E16 99 s99 rfl, @effV_spec E16 99 s99 rfl, s99, callSpec, g1, g2, g3, hjj, getD_mapN encF e.sizes j _ hj', hfe, encF, encE]
        rw [condK_bool]
        refine ⟨fun hin => ?_, fun hin => ?_⟩
        · have hin' : someP d f = true := hin
          rw [if_pos hin'] at hft
          have hil : il (fitsL d (e.sizes.take (j + 1))) = il (fitsL d (e.sizes.take j)) ++ [[.int .i64 f.size]] := by rw [hft, il_append]; rfl
          generalize fitsL d (e.sizes.take j) = acc at *
          rcases g4 with ⟨e1, rfl⟩ | ⟨K2, v, rfl, rfl, g5⟩
          · simp only [go_sem, Nat.reduceAdd, Nat.reduceSub, Nat.reduceMul, Nat.reduceEqDiff, Nat.reduceLT, Nat.reduceLeDiff, Nat.reduceBEq, Nat.reduceBNe, Int.reduceToNat, Int.reduceLE, Int.reduceLT, Int.reduceNe, Int.reduceNeg, reduceCtorEq, Int.reduceBEq, Int.reduceBNe, g1, g2, g3, hjj, getD_mapN encF e.sizes j _ hj', hfe, encF, encE, app, rowsOf, List.not_mem_nil, cells1, cellP, forall_eq]
            refine hK (j + 1, .sref ([], 38010008) (verOf H ([], 38010008) + 1) 1 1 false) _ _ ?_ ⟨hj', ?_, ?_, ?_, .inr ⟨_, verOf H ([], 38010008) + 1, rfl, ?_, ?_⟩⟩ (by simp only; omega)
            · simp only [go_sem, Nat.reduceAdd, Nat.reduceSub, Nat.reduceMul, Nat.reduceEqDiff, Nat.reduceLT, Nat.reduceLeDiff, Nat.reduceBEq, Nat.reduceBNe, Int.reduceToNat, Int.reduceLE, Int.reduceLT, Int.reduceNe, Int.reduceNeg, reduceCtorEq, Int.reduceBEq, Int.reduceBNe, w2, Int.natCast_add, Int.natCast_one]
            · simp only [go_sem, Nat.reduceAdd, Nat.reduceSub, Nat.reduceMul, Nat.reduceEqDiff, Nat.reduceLT, Nat.reduceLeDiff, Nat.reduceBEq, Nat.reduceBNe, Int.reduceToNat, Int.reduceLE, Int.reduceLT, Int.reduceNe, Int.reduceNeg, reduceCtorEq, Int.reduceBEq, Int.reduceBNe, g1]
            · simp only [go_sem, Nat.reduceAdd, Nat.reduceSub, Nat.reduceMul, Nat.reduceEqDiff, Nat.reduceLT, Nat.reduceLeDiff, Nat.reduceBEq, Nat.reduceBNe, Int.reduceToNat, Int.reduceLE, Int.reduceLT, Int.reduceNe, Int.reduceNeg, reduceCtorEq, Int.reduceBEq, Int.reduceBNe, g2, encE]
            · simp only [go_sem, Nat.reduceAdd, Nat.reduceSub, Nat.reduceMul, Nat.reduceEqDiff, Nat.reduceLT, Nat.reduceLeDiff, Nat.reduceBEq, Nat.reduceBNe, Int.reduceToNat, Int.reduceLE, Int.reduceLT, Int.reduceNe, Int.reduceNeg, reduceCtorEq, Int.reduceBEq, Int.reduceBNe, g3]
            · rw [hil, e1]; rfl
            · rw [hil, e1]; simp only [go_sem, Nat.reduceAdd, Nat.reduceSub, Nat.reduceMul, Nat.reduceEqDiff, Nat.reduceLT, Nat.reduceLeDiff, Nat.reduceBEq, Nat.reduceBNe, Int.reduceToNat, Int.reduceLE, Int.reduceLT, Int.reduceNe, Int.reduceNeg, reduceCtorEq, Int.reduceBEq, Int.reduceBNe]
          · simp only [go_sem, Nat.reduceAdd, Nat.reduceSub, Nat.reduceMul, Nat.reduceEqDiff, Nat.reduceLT, Nat.reduceLeDiff, Nat.reduceBEq, Nat.reduceBNe, Int.reduceToNat, Int.reduceLE, Int.reduceLT, Int.reduceNe, Int.reduceNeg, reduceCtorEq, Int.reduceBEq, Int.reduceBNe, g1, g2, g3, g5, hjj, getD_mapN encF e.sizes j _ hj', hfe, encF, encE, app, rowsOf, List.not_mem_nil, cells1, cellP, forall_eq, il_length]
            refine ⟨by omega, hK (j + 1, .sref ([], 38010008) (v + 1) 1 (acc.length + 1) false) _ _ ?_ ⟨hj', ?_, ?_, ?_, .inr ⟨_, v + 1, rfl, ?_, ?_⟩⟩ (by simp only; omega)⟩
            · simp only [go_sem, Nat.reduceAdd, Nat.reduceSub, Nat.reduceMul, Nat.reduceEqDiff, Nat.reduceLT, Nat.reduceLeDiff, Nat.reduceBEq, Nat.reduceBNe, Int.reduceToNat, Int.reduceLE, Int.reduceLT, Int.reduceNe, Int.reduceNeg, reduceCtorEq, Int.reduceBEq, Int.reduceBNe, w2, Int.natCast_add, Int.natCast_one]
            · simp only [go_sem, Nat.reduceAdd, Nat.reduceSub, Nat.reduceMul, Nat.reduceEqDiff, Nat.reduceLT, Nat.reduceLeDiff, Nat.reduceBEq, Nat.reduceBNe, Int.reduceToNat, Int.reduceLE, Int.reduceLT, Int.reduceNe, Int.reduceNeg, reduceCtorEq, Int.reduceBEq, Int.reduceBNe, g1]
            · simp only [go_sem, Nat.reduceAdd, Nat.reduceSub, Nat.reduceMul, Nat.reduceEqDiff, Nat.reduceLT, Nat.reduceLeDiff, Nat.reduceBEq, Nat.reduceBNe, Int.reduceToNat, Int.reduceLE, Int.reduceLT, Int.reduceNe, Int.reduceNeg, reduceCtorEq, Int.reduceBEq, Int.reduceBNe, g2, encE]
            · simp only [go_sem, Nat.reduceAdd, Nat.reduceSub, Nat.reduceMul, Nat.reduceEqDiff, Nat.reduceLT, Nat.reduceLeDiff, Nat.reduceBEq, Nat.reduceBNe, Int.reduceToNat, Int.reduceLE, Int.reduceLT, Int.reduceNe, Int.reduceNeg, reduceCtorEq, Int.reduceBEq, Int.reduceBNe, g3]
            · rw [hil]; simp [il_length]
            · rw [hil]; simp only [go_sem, Nat.reduceAdd, Nat.reduceSub, Nat.reduceMul, Nat.reduceEqDiff, Nat.reduceLT, Nat.reduceLeDiff, Nat.reduceBEq, Nat.reduceBNe, Int.reduceToNat, Int.reduceLE, Int.reduceLT, Int.reduceNe, Int.reduceNeg, reduceCtorEq, Int.reduceBEq, Int.reduceBNe]
        · have hin' : someP d f = false := hin
          rw [if_neg (by rw [hin']; simp), List.append_nil] at hft
          simp only [go_sem, Nat.reduceAdd, Nat.reduceSub, Nat.reduceMul, Nat.reduceEqDiff, Nat.reduceLT, Nat.reduceLeDiff, Nat.reduceBEq, Nat.reduceBNe, Int.reduceToNat, Int.reduceLE, Int.reduceLT, Int.reduceNe, Int.reduceNeg, reduceCtorEq, Int.reduceBEq, Int.reduceBNe]
          refine hK (j + 1, p) _ _ ?_ ⟨hj', g1, g2, g3, ?_⟩ (by simp only; omega)
          · simp only [go_sem, Nat.reduceAdd, Nat.reduceSub, Nat.reduceMul, Nat.reduceEqDiff, Nat.reduceLT, Nat.reduceLeDiff, Nat.reduceBEq, Nat.reduceBNe, Int.reduceToNat, Int.reduceLE, Int.reduceLT, Int.reduceNe, Int.reduceNeg, reduceCtorEq, Int.reduceBEq, Int.reduceBNe, w2, Int.natCast_add, Int.natCast_one]
          · rw [hft]; exact g4
      · have hj' : j = e.sizes.length := by have : ¬ ((j : Int) < (e.sizes.length : Int)) := by simpa using h
                                            omega
        subst hj'
        simp only [List.take_length] at g4
        refine hE2 _ _ _ (by simp) ?_
        rcases g4 with ⟨e1, rfl⟩ | ⟨K2, v, rfl, rfl, g5⟩
        · simp only [go_sem, Nat.reduceAdd, Nat.reduceSub, Nat.reduceMul, Nat.reduceEqDiff, Nat.reduceLT, Nat.reduceLeDiff, Nat.reduceBEq, Nat.reduceBNe, Int.reduceToNat, Int.reduceLE, Int.reduceLT, Int.reduceNe, Int.reduceNeg, reduceCtorEq, Int.reduceBEq, Int.reduceBNe, e1]
        · simp only [go_sem, Nat.reduceAdd, Nat.reduceSub, Nat.reduceMul, Nat.reduceEqDiff, Nat.reduceLT, Nat.reduceLeDiff, Nat.reduceBEq, Nat.reduceBNe, Int.reduceToNat, Int.reduceLE, Int.reduceLT, Int.reduceNe, Int.reduceNeg, reduceCtorEq, Int.reduceBEq, Int.reduceBNe, g5, il_length]
  · rw [hE] at h1 h2
    simp only at h1 h2
    subst h2
    have h6 : (k != 0) = true := by simpa using h1
    simp only [go_sem, Nat.reduceAdd, Nat.reduceSub, Nat.reduceMul, Nat.reduceEqDiff, Nat.reduceLT, Nat.reduceLeDiff, Nat.reduceBEq, Nat.reduceBNe, Int.reduceToNat, Int.reduceLE, Int.reduceLT, Int.reduceNe, Int.reduceNeg, reduceCtorEq, Int.reduceBEq, Int.reduceBNe, @callV_spec E16 98 s98 rfl, @callV_specT E16 98 s98 rfl, @stepV_spec E16 98 s98 rfl, @effV_spec E16 98 s98 rfl, s98, encR, callSpec, hr, hd, hE, entPV, h6, il_nil']
def s38 : Spec := spec4 (fun (r : Rack) (_ : Int) (_ : Int) (_ : Int × Int) => okRack r) (fun r i n d => .tup [.sl (il (fitsM r i n d).1) true, .int .i64 (fitsM r i n d).2])
theorem s38_ok : SpecOK Tryd.prog glB 38 s38 := spec4_ok E16_ok Tryd.func38 rfl (by kernel_rfl) fun r i n d h => fits_fn r h i n d
def s40 : Spec := spec4 (fun (r : Rack) (_ : Int) (_ : Int) (_ : Int × Int) => okRack r) (fun r i n d => .tup [.int .i64 (sureM r i n d).1, .int .i64 (sureM r i n d).2])
theorem s40_ok : SpecOK Tryd.prog glB 40 s40 := spec4_ok E16_ok Tryd.func40 rfl (by kernel_rfl) fun r i n d h => sure_fn r h i n d
-- f22 Number
def qNum (i j n : Int) (r : Rack) : Bool := isIssB r i && isIssB r j && isNumB n
def numM (r : Rack) (i n j : Int) : Int × Int :=
  match entErr r (qNum i j n) i n with
  | (some e, _) => (match entryOf e.good (r.issues.getD j.toNat default).entries with | some z => (z.number, 0) | none => (0, 4))
  | (none, k) => (0, k)
theorem number_fn (r : Rack) (hr : okRack r) (i n j : Int) : Fn E16 0 22 Tryd.f22 (Tryd.f22.body.getD .skip) [.agg (encR r), .int .i64 i, .int .i64 n, .int .i64 j] (.tup [.int .i64 (numM r i n j).1, .int .i64 (numM r i n j).2]) := by
  obtain ⟨g, l⟩ := r
  have hg : ∀ h : rackOk ⟨g, l⟩ = true, _ := fun h => found_ents (rack_good h)
  unfold Fn Tryd.f22 numM entErr
  cases hk : rackOk ⟨g, l⟩ with
  | false => simp only [go_sem, Nat.reduceAdd, Nat.reduceSub, Nat.reduceMul, Nat.reduceEqDiff, Nat.reduceLT, Nat.reduceLeDiff, Nat.reduceBEq, Nat.reduceBNe, Int.reduceToNat, Int.reduceLE, Int.reduceLT, Int.reduceNe, Int.reduceNeg, reduceCtorEq, Int.reduceBEq, Int.reduceBNe, @callV_spec E16 56 s56 rfl, @callV_specT E16 56 s56 rfl, @stepV_spec E16 56 s56 rfl, @effV_spec E16 56 s56 rfl, s56, encR, callSpec, predO, hr, openPV, hk, zeroC, entPV]
  | true =>
    have hg := hg hk
    have hq : (isIssB ⟨g, l⟩ i && isIssB ⟨g, l⟩ j && isNumB n) = qNum i j n ⟨g, l⟩ := rfl
    cases hqq : qNum i j n ⟨g, l⟩ with
    | false => simp only [go_sem, Nat.reduceAdd, Nat.reduceSub, Nat.reduceMul, Nat.reduceEqDiff, Nat.reduceLT, Nat.reduceLeDiff, Nat.reduceBEq, Nat.reduceBNe, Int.reduceToNat, Int.reduceLE, Int.reduceLT, Int.reduceNe, Int.reduceNeg, reduceCtorEq, Int.reduceBEq, Int.reduceBNe, @callV_spec E16 56 s56 rfl, @callV_specT E16 56 s56 rfl, @stepV_spec E16 56 s56 rfl, @effV_spec E16 56 s56 rfl, s56, encR, callSpec, predO, hr, openPV, hk, hq, hqq, zeroC, entPV]
    | true =>
      have hj : 0 ≤ j ∧ j < (l.length : Int) := by
        have := hqq
        simp only [qNum, isIssB, Bool.and_eq_true, decide_eq_true_eq] at this
        omega
      have hl24 : ∀ y ∈ l, y.entries.length ≤ 24 := (rack_good hk).sane.2.1
      simp only [go_sem, Nat.reduceAdd, Nat.reduceSub, Nat.reduceMul, Nat.reduceEqDiff, Nat.reduceLT, Nat.reduceLeDiff, Nat.reduceBEq, Nat.reduceBNe, Int.reduceToNat, Int.reduceLE, Int.reduceLT, Int.reduceNe, Int.reduceNeg, reduceCtorEq, Int.reduceBEq, Int.reduceBNe, @callV_spec E16 56 s56 rfl, @callV_specT E16 56 s56 rfl, @stepV_spec E16 56 s56 rfl, @effV_spec E16 56 s56 rfl, s56, encR, encC, callSpec, predO, hr, openPV, hk, hq, hqq, zeroC, entPV, look, keyOf, ints]
      rw [hg i n]
      cases ha : entAt ⟨g, l⟩ i n with
      | none => simp only [go_sem, Nat.reduceAdd, Nat.reduceSub, Nat.reduceMul, Nat.reduceEqDiff, Nat.reduceLT, Nat.reduceLeDiff, Nat.reduceBEq, Nat.reduceBNe, Int.reduceToNat, Int.reduceLE, Int.reduceLT, Int.reduceNe, Int.reduceNeg, reduceCtorEq, Int.reduceBEq, Int.reduceBNe, entPV, Option.isSome]
      | some e =>
        simp only [go_sem, Nat.reduceAdd, Nat.reduceSub, Nat.reduceMul, Nat.reduceEqDiff, Nat.reduceLT, Nat.reduceLeDiff, Nat.reduceBEq, Nat.reduceBNe, Int.reduceToNat, Int.reduceLE, Int.reduceLT, Int.reduceNe, Int.reduceNeg, reduceCtorEq, Int.reduceBEq, Int.reduceBNe, @callV_spec E16 73 s73 rfl, @callV_specT E16 73 s73 rfl, @stepV_spec E16 73 s73 rfl, @effV_spec E16 73 s73 rfl, s73, entPV, Option.isSome, encE, hj, hl24]
        refine ⟨hl24, ?_⟩
        generalize hz : entryOf e.good (l.getD j.toNat default).entries = z
        cases z with
        | none => simp only [go_sem, Nat.reduceAdd, Nat.reduceSub, Nat.reduceMul, Nat.reduceEqDiff, Nat.reduceLT, Nat.reduceLeDiff, Nat.reduceBEq, Nat.reduceBNe, Int.reduceToNat, Int.reduceLE, Int.reduceLT, Int.reduceNe, Int.reduceNeg, reduceCtorEq, Int.reduceBEq, Int.reduceBNe, entPV, Option.isSome]
        | some z => simp only [go_sem, Nat.reduceAdd, Nat.reduceSub, Nat.reduceMul, Nat.reduceEqDiff, Nat.reduceLT, Nat.reduceLeDiff, Nat.reduceBEq, Nat.reduceBNe, Int.reduceToNat, Int.reduceLE, Int.reduceLT, Int.reduceNe, Int.reduceNeg, reduceCtorEq, Int.reduceBEq, Int.reduceBNe, entPV, Option.isSome, encE]
def s22 : Spec := spec4 (fun (r : Rack) (_ _ _ : Int) => okRack r) (fun r i n j => .tup [.int .i64 (numM r i n j).1, .int .i64 (numM r i n j).2])
theorem s22_ok : SpecOK Tryd.prog glB 22 s22 := spec4_ok E16_ok Tryd.func22 rfl (by kernel_rfl) fun r i n j h => number_fn r h i n j
end Wb
/- Price, Sum, Last. -/
namespace Wb
open Go Go.Proofs Enc Row
set_option linter.unusedSimpArgs false
set_option linter.unusedVariables false
set_option maxRecDepth 20000
set_option maxHeartbeats 4000000
def E17t : List (Nat × Spec) := [(38, s38), (40, s40), (22, s22)] ++ E16t
theorem E17t_ok : AllOK E17t := ⟨⟨s38_ok, Tryd.call38⟩, ⟨s40_ok, Tryd.call40⟩, ⟨s22_ok, Tryd.call22⟩, E16t_ok⟩
noncomputable def E17 : Env := mkM E17t [(106, Tryd.f106)] Mt
theorem E17_ok : EnvOK Tryd.prog E17 := envMOK E17t_ok ⟨⟨Tryd.func106, Tryd.call106, by kernel_rfl⟩, trivial⟩ Mt_ok
theorem E17_ti {t : Nat} : E17.ti t = ti t := rfl
theorem E17_q0 : (E17).eqt 152 = true := rfl
theorem E17_q1 : (E17).eqt 69 = true := rfl
theorem E17_q2 : (E17).keyt 3 = true := rfl
theorem E17_q3 : (E17).keyt 108 = true := rfl
attribute [go_sem] E17_ti E17_q0 E17_q1 E17_q2 E17_q3
def asked3 (r : Rack) (q : Rack → Bool) (o : Option Int) : Int × Int :=
  if rackOk r then (if q r then (match o with | some n => (n, 0) | none => (0, 4)) else (0, 11)) else (0, 10)
theorem item_colour {r : Rack} {t : Item} (h : isItemB r t = true) : 0 ≤ t.colour ∧ t.colour ≤ 3 := by
  simp only [isItemB, itemOk, Bool.and_eq_true, decide_eq_true_eq] at h; omega
-- f28 Price
def qPrice (on : Int) (t : Item) (r : Rack) : Bool := isDayB on && isItemB r t
def priceM (r : Rack) (on : Int) (t : Item) : Int × Int := asked3 r (qPrice on t) (priceP r on t)
theorem Price_fn (r : Rack) (hr : okRack r) (on : Int) (t : Item) : Fn E17 0 28 Tryd.f28 (Tryd.f28.body.getD .skip) [.agg (encR r), .int .i64 on, .agg (encT t)] (.tup [.int .i64 (priceM r on t).1, .int .i64 (priceM r on t).2]) := by
  obtain ⟨g, l⟩ := r
  obtain ⟨a, b, c⟩ := t
  unfold Fn Tryd.f28 priceM asked3
  cases hk : rackOk ⟨g, l⟩ with
  | false => simp only [go_sem, Nat.reduceAdd, Nat.reduceSub, Nat.reduceMul, Nat.reduceEqDiff, Nat.reduceLT, Nat.reduceLeDiff, Nat.reduceBEq, Nat.reduceBNe, Int.reduceToNat, Int.reduceLE, Int.reduceLT, Int.reduceNe, Int.reduceNeg, reduceCtorEq, Int.reduceBEq, Int.reduceBNe, @callV_spec E17 56 s56 rfl, @callV_specT E17 56 s56 rfl, @stepV_spec E17 56 s56 rfl, @effV_spec E17 56 s56 rfl, s56, encR, encT, callSpec, predO, hr, openPV, hk, zeroC]
  | true =>
    have hq : (isDayB on && isItemB ⟨g, l⟩ ⟨a, b, c⟩) = qPrice on ⟨a, b, c⟩ ⟨g, l⟩ := rfl
    cases hqq : qPrice on ⟨a, b, c⟩ ⟨g, l⟩ with
    | false => simp only [go_sem, Nat.reduceAdd, Nat.reduceSub, Nat.reduceMul, Nat.reduceEqDiff, Nat.reduceLT, Nat.reduceLeDiff, Nat.reduceBEq, Nat.reduceBNe, Int.reduceToNat, Int.reduceLE, Int.reduceLT, Int.reduceNe, Int.reduceNeg, reduceCtorEq, Int.reduceBEq, Int.reduceBNe, @callV_spec E17 56 s56 rfl, @callV_specT E17 56 s56 rfl, @stepV_spec E17 56 s56 rfl, @effV_spec E17 56 s56 rfl, s56, encR, encT, callSpec, predO, hr, openPV, hk, hq, hqq, zeroC]
    | true =>
      have hc := item_colour (r := ⟨g, l⟩) (t := ⟨a, b, c⟩) (by rw [← hq] at hqq; simp only [Bool.and_eq_true] at hqq; exact hqq.2)
      have hs := (rack_good hk).sane
      simp only at hc
      simp only [go_sem, Nat.reduceAdd, Nat.reduceSub, Nat.reduceMul, Nat.reduceEqDiff, Nat.reduceLT, Nat.reduceLeDiff, Nat.reduceBEq, Nat.reduceBNe, Int.reduceToNat, Int.reduceLE, Int.reduceLT, Int.reduceNe, Int.reduceNeg, reduceCtorEq, Int.reduceBEq, Int.reduceBNe, @callV_spec E17 56 s56 rfl, @callV_specT E17 56 s56 rfl, @stepV_spec E17 56 s56 rfl, @effV_spec E17 56 s56 rfl, s56, @callV_spec E17 82 s82 rfl, @callV_specT E17 82 s82 rfl, @stepV_spec E17 82 s82 rfl, @effV_spec E17 82 s82 rfl, s82, encR, encC, encT, callSpec, predO, hr, openPV, hk, hq, hqq, hc, hs]
      cases hp : priceP ⟨g, l⟩ on ⟨a, b, c⟩ with
      | none => simp only [go_sem, Nat.reduceAdd, Nat.reduceSub, Nat.reduceMul, Nat.reduceEqDiff, Nat.reduceLT, Nat.reduceLeDiff, Nat.reduceBEq, Nat.reduceBNe, Int.reduceToNat, Int.reduceLE, Int.reduceLT, Int.reduceNe, Int.reduceNeg, reduceCtorEq, Int.reduceBEq, Int.reduceBNe, optPV]
      | some n => simp only [go_sem, Nat.reduceAdd, Nat.reduceSub, Nat.reduceMul, Nat.reduceEqDiff, Nat.reduceLT, Nat.reduceLeDiff, Nat.reduceBEq, Nat.reduceBNe, Int.reduceToNat, Int.reduceLE, Int.reduceLT, Int.reduceNe, Int.reduceNeg, reduceCtorEq, Int.reduceBEq, Int.reduceBNe, optPV]
def s28 : Spec := spec3 (fun (r : Rack) (_ : Int) (_ : Item) => okRack r) (fun r on t => .tup [.int .i64 (priceM r on t).1, .int .i64 (priceM r on t).2])
theorem s28_ok : SpecOK Tryd.prog glB 28 s28 := spec3_ok E17_ok Tryd.func28 rfl (by kernel_rfl) fun r on t h => Price_fn r h on t
-- f34 Sum
def qSum (on : Int) (ls : List Line) (r : Rack) : Bool := isDayB on && areLinesB r.goods ls
def sumM (r : Rack) (on : Int) (ls : List Line) : Int × Int := asked3 r (qSum on ls) (sumF r on 0 ls)
theorem lines_ok {g : Int} {ls : List Line} (h : areLinesB g ls = true) : ls.length ≤ 20 ∧ ∀ l ∈ ls, (0 ≤ l.item.colour ∧ l.item.colour ≤ 3) ∧ 1 ≤ l.many ∧ l.many ≤ 1000 := by
  simp only [areLinesB, Bool.and_eq_true, decide_eq_true_eq, List.all_eq_true] at h
  refine ⟨by omega, fun l hl => ?_⟩
  have := h.2 l hl
  simp only [lineOk, itemOk, Bool.and_eq_true, decide_eq_true_eq] at this
  omega
theorem Sum_fn (r : Rack) (hr : okRack r) (on : Int) (ls : List Line) (hls : big ls.length) : Fn E17 0 34 Tryd.f34 (Tryd.f34.body.getD .skip) [.agg (encR r), .int .i64 on, .sl (ls.map encL) false] (.tup [.int .i64 (sumM r on ls).1, .int .i64 (sumM r on ls).2]) := by
  obtain ⟨g, l⟩ := r
  unfold Fn Tryd.f34 sumM asked3
  cases hk : rackOk ⟨g, l⟩ with
  | false => simp only [go_sem, Nat.reduceAdd, Nat.reduceSub, Nat.reduceMul, Nat.reduceEqDiff, Nat.reduceLT, Nat.reduceLeDiff, Nat.reduceBEq, Nat.reduceBNe, Int.reduceToNat, Int.reduceLE, Int.reduceLT, Int.reduceNe, Int.reduceNeg, reduceCtorEq, Int.reduceBEq, Int.reduceBNe, @callV_spec E17 56 s56 rfl, @callV_specT E17 56 s56 rfl, @stepV_spec E17 56 s56 rfl, @effV_spec E17 56 s56 rfl, s56, encR, callSpec, predO, dLn_map, hr, hls, openPV, hk, zeroC]
  | true =>
    have hq : (isDayB on && areLinesB (⟨g, l⟩ : Rack).goods ls) = qSum on ls ⟨g, l⟩ := rfl
    have hq' : (isDayB on && areLinesB g ls) = qSum on ls ⟨g, l⟩ := rfl
    cases hqq : qSum on ls ⟨g, l⟩ with
    | false => simp only [go_sem, Nat.reduceAdd, Nat.reduceSub, Nat.reduceMul, Nat.reduceEqDiff, Nat.reduceLT, Nat.reduceLeDiff, Nat.reduceBEq, Nat.reduceBNe, Int.reduceToNat, Int.reduceLE, Int.reduceLT, Int.reduceNe, Int.reduceNeg, reduceCtorEq, Int.reduceBEq, Int.reduceBNe, @callV_spec E17 56 s56 rfl, @callV_specT E17 56 s56 rfl, @stepV_spec E17 56 s56 rfl, @effV_spec E17 56 s56 rfl, s56, encR, callSpec, predO, dLn_map, hr, hls, openPV, hk, hq, hq', hqq, zeroC]
    | true =>
      have hl := lines_ok (g := g) (ls := ls) (by rw [← hq'] at hqq; simp only [Bool.and_eq_true] at hqq; exact hqq.2)
      have hs := (rack_good hk).sane
      have hcc := (rack_good hk).cents
      simp only [go_sem, Nat.reduceAdd, Nat.reduceSub, Nat.reduceMul, Nat.reduceEqDiff, Nat.reduceLT, Nat.reduceLeDiff, Nat.reduceBEq, Nat.reduceBNe, Int.reduceToNat, Int.reduceLE, Int.reduceLT, Int.reduceNe, Int.reduceNeg, reduceCtorEq, Int.reduceBEq, Int.reduceBNe, @callV_spec E17 56 s56 rfl, @callV_specT E17 56 s56 rfl, @stepV_spec E17 56 s56 rfl, @effV_spec E17 56 s56 rfl, s56, @callV_spec E17 94 s94 rfl, @callV_specT E17 94 s94 rfl, @stepV_spec E17 94 s94 rfl, @effV_spec E17 94 s94 rfl, s94, encR, encC, callSpec, predO, dLn_map, hr, hls, openPV, hk, hq, hq', hqq, dec_lines, hl.1, hs, hcc]
      refine ⟨hl.2, ?_⟩
      cases hp : sumF ⟨g, l⟩ on 0 ls with
      | none => simp only [go_sem, Nat.reduceAdd, Nat.reduceSub, Nat.reduceMul, Nat.reduceEqDiff, Nat.reduceLT, Nat.reduceLeDiff, Nat.reduceBEq, Nat.reduceBNe, Int.reduceToNat, Int.reduceLE, Int.reduceLT, Int.reduceNe, Int.reduceNeg, reduceCtorEq, Int.reduceBEq, Int.reduceBNe, optPV]
      | some n => simp only [go_sem, Nat.reduceAdd, Nat.reduceSub, Nat.reduceMul, Nat.reduceEqDiff, Nat.reduceLT, Nat.reduceLeDiff, Nat.reduceBEq, Nat.reduceBNe, Int.reduceToNat, Int.reduceLE, Int.reduceLT, Int.reduceNe, Int.reduceNeg, reduceCtorEq, Int.reduceBEq, Int.reduceBNe, optPV]
def s34 : Spec := spec3 (fun (r : Rack) (_ : Int) (ls : List Line) => okRack r ∧ big ls.length) (fun r on ls => .tup [.int .i64 (sumM r on ls).1, .int .i64 (sumM r on ls).2])
theorem s34_ok : SpecOK Tryd.prog glB 34 s34 := spec3_ok E17_ok Tryd.func34 rfl (by kernel_rfl) fun r on ls h => Sum_fn r h.1 on ls h.2
-- f32 Last
def lastF (t : Item) : Int → List Issue → Int
  | acc, [] => acc
  | acc, y :: l => lastF t (if (inP t y.entries).isSome then (if y.held > acc then y.held else acc) else acc) l
theorem lastF_drop (t : Item) (acc : Int) {l : List Issue} {i : Nat} (h : i < l.length) : lastF t acc (l.drop i) = lastF t (if (inP t (l.getD i default).entries).isSome then (if (l.getD i default).held > acc then (l.getD i default).held else acc) else acc) (l.drop (i + 1)) := by
  have e : l.getD i default = l[i] := by simp [h]
  rw [e, List.drop_eq_getElem_cons h]; rfl
def lastO (r : Rack) (t : Item) : Option Int := if lastF t (-1) r.issues < 0 then none else some (lastF t (-1) r.issues)
def lastM (r : Rack) (t : Item) : Int × Int := asked3 r (fun r => isItemB r t) (lastO r t)
theorem Last_fn (r : Rack) (hr : okRack r) (t : Item) : Fn E17 0 32 Tryd.f32 (Tryd.f32.body.getD .skip) [.agg (encR r), .agg (encT t)] (.tup [.int .i64 (lastM r t).1, .int .i64 (lastM r t).2]) := by
  obtain ⟨g, l⟩ := r
  obtain ⟨a, b, c⟩ := t
  unfold Fn Tryd.f32 lastM asked3
  cases hk : rackOk ⟨g, l⟩ with
  | false => simp only [go_sem, Nat.reduceAdd, Nat.reduceSub, Nat.reduceMul, Nat.reduceEqDiff, Nat.reduceLT, Nat.reduceLeDiff, Nat.reduceBEq, Nat.reduceBNe, Int.reduceToNat, Int.reduceLE, Int.reduceLT, Int.reduceNe, Int.reduceNeg, reduceCtorEq, Int.reduceBEq, Int.reduceBNe, @callV_spec E17 56 s56 rfl, @callV_specT E17 56 s56 rfl, @stepV_spec E17 56 s56 rfl, @effV_spec E17 56 s56 rfl, s56, encR, encT, callSpec, predO, hr, openPV, hk, zeroC]
  | true =>
    cases hqq : isItemB ⟨g, l⟩ ⟨a, b, c⟩ with
    | false => simp only [go_sem, Nat.reduceAdd, Nat.reduceSub, Nat.reduceMul, Nat.reduceEqDiff, Nat.reduceLT, Nat.reduceLeDiff, Nat.reduceBEq, Nat.reduceBNe, Int.reduceToNat, Int.reduceLE, Int.reduceLT, Int.reduceNe, Int.reduceNeg, reduceCtorEq, Int.reduceBEq, Int.reduceBNe, @callV_spec E17 56 s56 rfl, @callV_specT E17 56 s56 rfl, @stepV_spec E17 56 s56 rfl, @effV_spec E17 56 s56 rfl, s56, encR, encT, callSpec, predO, hr, openPV, hk, hqq, zeroC]
    | true =>
      have hc := item_colour hqq
      have hs := (rack_good hk).sane
      simp only at hc
      simp only [go_sem, Nat.reduceAdd, Nat.reduceSub, Nat.reduceMul, Nat.reduceEqDiff, Nat.reduceLT, Nat.reduceLeDiff, Nat.reduceBEq, Nat.reduceBNe, Int.reduceToNat, Int.reduceLE, Int.reduceLT, Int.reduceNe, Int.reduceNeg, reduceCtorEq, Int.reduceBEq, Int.reduceBNe, @callV_spec E17 56 s56 rfl, @callV_specT E17 56 s56 rfl, @stepV_spec E17 56 s56 rfl, @effV_spec E17 56 s56 rfl, s56, encR, encC, encT, callSpec, predO, hr, openPV, hk, hqq]
      refine ev_loopS [3, 6] (fun x : Nat × Int => [(8, .int .i64 x.2), (23, .sl (l.map encI) false), (24, .int .i64 l.length), (25, .int .i64 x.1)])
        (fun x H => x.1 ≤ l.length ∧ H (([], 32000001) : Key) = some (.cells [.int .i64 a, .int .i64 b, .int .i64 c] 1 true) ∧ H (([], 32001006) : Key) = some (.cells [.int .i64 g, .sl (l.map encI) false, .mp true 2 (ents ⟨g, l⟩)] 1 false) ∧ lastF ⟨a, b, c⟩ x.2 (l.drop x.1) = lastF ⟨a, b, c⟩ (-1) l)
        (fun x => l.length - x.1) (0, -1) ?_ ⟨Nat.zero_le _, ?_, ?_, by simp⟩ ?_
      · simp only [go_sem, Nat.reduceAdd, Nat.reduceSub, Nat.reduceMul, Nat.reduceEqDiff, Nat.reduceLT, Nat.reduceLeDiff, Nat.reduceBEq, Nat.reduceBNe, Int.reduceToNat, Int.reduceLE, Int.reduceLT, Int.reduceNe, Int.reduceNeg, reduceCtorEq, Int.reduceBEq, Int.reduceBNe]
      · simp only [go_sem, Nat.reduceAdd, Nat.reduceSub, Nat.reduceMul, Nat.reduceEqDiff, Nat.reduceLT, Nat.reduceLeDiff, Nat.reduceBEq, Nat.reduceBNe, Int.reduceToNat, Int.reduceLE, Int.reduceLT, Int.reduceNe, Int.reduceNeg, reduceCtorEq, Int.reduceBEq, Int.reduceBNe]
      · simp only [go_sem, Nat.reduceAdd, Nat.reduceSub, Nat.reduceMul, Nat.reduceEqDiff, Nat.reduceLT, Nat.reduceLeDiff, Nat.reduceBEq, Nat.reduceBNe, Int.reduceToNat, Int.reduceLE, Int.reduceLT, Int.reduceNe, Int.reduceNeg, reduceCtorEq, Int.reduceBEq, Int.reduceBNe]
      · simp only [go_sem, Nat.reduceAdd, Nat.reduceSub, Nat.reduceMul, Nat.reduceEqDiff, Nat.reduceLT, Nat.reduceLeDiff, Nat.reduceBEq, Nat.reduceBNe, Int.reduceToNat, Int.reduceLE, Int.reduceLT, Int.reduceNe, Int.reduceNeg, reduceCtorEq, Int.reduceBEq, Int.reduceBNe]
        intro K x H ⟨hi, h1, h2, hf⟩ hK hE
        obtain ⟨i, acc⟩ := x
        simp only at hi hf
        dsimp only
        rw [condK_bool]
        refine ⟨fun h => ?_, fun h => ?_⟩
        · have h' : i < l.length := by simpa using h
          have hii : (i : Int) < (l.length : Int) := by omega
          have w2 : IntKind.i64.wrap ((i : Int) + 1) = (i : Int) + 1 := wrap_id (by have := hs.1; simp at this; omega)
          rw [lastF_drop _ _ h'] at hf
          simp only [go_sem, Nat.reduceAdd, Nat.reduceSub, Nat.reduceMul, Nat.reduceEqDiff, Nat.reduceLT, Nat.reduceLeDiff, Nat.reduceBEq, Nat.reduceBNe, Int.reduceToNat, Int.reduceLE, Int.reduceLT, Int.reduceNe, Int.reduceNeg, reduceCtorEq, Int.reduceBEq, Int.reduceBNe, @callV_spec E17 91 s91 rfl, @callV_specT E17 91 s91 rfl, @stepV_spec E17 91 s91 rfl, @effV_spec E17 91 s91 rfl, s91, h1, h2, hii, hc, getD_mapN encI l i _ h', encI]
          refine ⟨hs.2, ?_⟩
          cases ho : inP ⟨a, b, c⟩ (l.getD i default).entries with
          | none =>
            simp only [go_sem, Nat.reduceAdd, Nat.reduceSub, Nat.reduceMul, Nat.reduceEqDiff, Nat.reduceLT, Nat.reduceLeDiff, Nat.reduceBEq, Nat.reduceBNe, Int.reduceToNat, Int.reduceLE, Int.reduceLT, Int.reduceNe, Int.reduceNeg, reduceCtorEq, Int.reduceBEq, Int.reduceBNe, optPV]
            refine hK (i + 1, acc) _ _ ?_ ⟨h', h1, h2, ?_⟩ (by simp only; omega)
            · simp only [go_sem, Nat.reduceAdd, Nat.reduceSub, Nat.reduceMul, Nat.reduceEqDiff, Nat.reduceLT, Nat.reduceLeDiff, Nat.reduceBEq, Nat.reduceBNe, Int.reduceToNat, Int.reduceLE, Int.reduceLT, Int.reduceNe, Int.reduceNeg, reduceCtorEq, Int.reduceBEq, Int.reduceBNe, w2, Int.natCast_add, Int.natCast_one]
            · rw [← hf, ho]; rfl
          | some n =>
            simp only [go_sem, Nat.reduceAdd, Nat.reduceSub, Nat.reduceMul, Nat.reduceEqDiff, Nat.reduceLT, Nat.reduceLeDiff, Nat.reduceBEq, Nat.reduceBNe, Int.reduceToNat, Int.reduceLE, Int.reduceLT, Int.reduceNe, Int.reduceNeg, reduceCtorEq, Int.reduceBEq, Int.reduceBNe, optPV, h1, h2, hii, getD_mapN encI l i _ h', encI]
            refine hK (i + 1, if (l.getD i default).held > acc then (l.getD i default).held else acc) _ _ ?_ ⟨h', h1, h2, ?_⟩ (by simp only; omega)
            · simp only [go_sem, Nat.reduceAdd, Nat.reduceSub, Nat.reduceMul, Nat.reduceEqDiff, Nat.reduceLT, Nat.reduceLeDiff, Nat.reduceBEq, Nat.reduceBNe, Int.reduceToNat, Int.reduceLE, Int.reduceLT, Int.reduceNe, Int.reduceNeg, reduceCtorEq, Int.reduceBEq, Int.reduceBNe, w2, Int.natCast_add, Int.natCast_one]
            · rw [← hf, ho]; rfl
        · have h' : i = l.length := by have : ¬ ((i : Int) < (l.length : Int)) := by simpa using h
                                       omega
          subst h'
          simp only [List.drop_length, lastF] at hf
          refine hE _ _ _ (by simp) ?_
          simp only [go_sem, Nat.reduceAdd, Nat.reduceSub, Nat.reduceMul, Nat.reduceEqDiff, Nat.reduceLT, Nat.reduceLeDiff, Nat.reduceBEq, Nat.reduceBNe, Int.reduceToNat, Int.reduceLE, Int.reduceLT, Int.reduceNe, Int.reduceNeg, reduceCtorEq, Int.reduceBEq, Int.reduceBNe]
          rw [condK_bool]
          refine ⟨fun h => ?_, fun h => ?_⟩
          · have h0 : acc < 0 := by simpa using h
            simp only [go_sem, Nat.reduceAdd, Nat.reduceSub, Nat.reduceMul, Nat.reduceEqDiff, Nat.reduceLT, Nat.reduceLeDiff, Nat.reduceBEq, Nat.reduceBNe, Int.reduceToNat, Int.reduceLE, Int.reduceLT, Int.reduceNe, Int.reduceNeg, reduceCtorEq, Int.reduceBEq, Int.reduceBNe, lastO, ← hf, h0]
          · have h0 : ¬ acc < 0 := by simpa using h
            simp only [go_sem, Nat.reduceAdd, Nat.reduceSub, Nat.reduceMul, Nat.reduceEqDiff, Nat.reduceLT, Nat.reduceLeDiff, Nat.reduceBEq, Nat.reduceBNe, Int.reduceToNat, Int.reduceLE, Int.reduceLT, Int.reduceNe, Int.reduceNeg, reduceCtorEq, Int.reduceBEq, Int.reduceBNe, lastO, ← hf, h0]
def s32 : Spec := spec2 (fun (r : Rack) (_ : Item) => okRack r) (fun r t => .tup [.int .i64 (lastM r t).1, .int .i64 (lastM r t).2])
theorem s32_ok : SpecOK Tryd.prog glB 32 s32 := spec2_ok E17_ok Tryd.func32 rfl (by kernel_rfl) fun r t h => Last_fn r h t
end Wb
/- Cheapest, Prices. -/
namespace Wb
open Go Go.Proofs Enc Row
set_option linter.unusedSimpArgs false
set_option linter.unusedVariables false
set_option maxRecDepth 20000
set_option maxHeartbeats 4000000
def cutsM (r : Rack) (d : Int × Int) : List Int := Lib.compact (sortL (rawCuts d r.issues))
theorem cutsM_len {r : Rack} (h : GRack r) (d : Int × Int) : (cutsM r d).length ≤ 9 := by
  unfold cutsM
  have h1 := compact_len (sortL (rawCuts d r.issues))
  have h2 : (sortL (rawCuts d r.issues)).length = (rawCuts d r.issues).length := by simp [sortL]
  have h3 := rawCuts_len d r.issues
  have h4 := h.len.2
  omega
theorem cuts_pre {r : Rack} (h : GRack r) : r.issues.length ≤ 4 ∧ ∀ y ∈ r.issues, okInt (y.held + 1) :=
  ⟨h.len.2, fun y hy => by have := (h.issues y hy).held; have := (h.issues y hy).days; unfold okInt; omega⟩
-- f36 Cheapest
def cheapF (r : Rack) (ls : List Line) : Int × Int → List Int → Int × Int
  | acc, [] => acc
  | acc, d :: ds => cheapF r ls (match sumF r d 0 ls with | some n => (if acc.1 < 0 ∨ n < acc.2 then (d, n) else acc) | none => acc) ds
theorem cheapF_drop (r : Rack) (ls : List Line) (acc : Int × Int) {ds : List Int} {i : Nat} (h : i < ds.length) : cheapF r ls acc (ds.drop i) = cheapF r ls (match sumF r (ds.getD i 0) 0 ls with | some n => (if acc.1 < 0 ∨ n < acc.2 then (ds.getD i 0, n) else acc) | none => acc) (ds.drop (i + 1)) := by
  have e : ds.getD i 0 = ds[i] := by simp [h]
  rw [e, List.drop_eq_getElem_cons h]; rfl
def qCheap (d : Int × Int) (ls : List Line) (r : Rack) : Bool := isDaysB d && areLinesB r.goods ls
def cheapM (r : Rack) (d : Int × Int) (ls : List Line) : Int × Int × Int :=
  if rackOk r then (if qCheap d ls r then (if (cheapF r ls (-1, 0) (cutsM r d)).1 < 0 then (0, 0, 4) else ((cheapF r ls (-1, 0) (cutsM r d)).1, (cheapF r ls (-1, 0) (cutsM r d)).2, 0)) else (0, 0, 11)) else (0, 0, 10)
theorem Cheapest_fn (r : Rack) (hr : okRack r) (d : Int × Int) (ls : List Line) (hls : big ls.length) : Fn E17 0 36 Tryd.f36 (Tryd.f36.body.getD .skip) [.agg (encR r), .agg [.int .i64 d.1, .int .i64 d.2], .sl (ls.map encL) false] (.tup [.int .i64 (cheapM r d ls).1, .int .i64 (cheapM r d ls).2.1, .int .i64 (cheapM r d ls).2.2]) := by
  obtain ⟨g, l⟩ := r
  unfold Fn Tryd.f36 cheapM
  cases hk : rackOk ⟨g, l⟩ with
  | false => simp only [go_sem, Nat.reduceAdd, Nat.reduceSub, Nat.reduceMul, Nat.reduceEqDiff, Nat.reduceLT, Nat.reduceLeDiff, Nat.reduceBEq, Nat.reduceBNe, Int.reduceToNat, Int.reduceLE, Int.reduceLT, Int.reduceNe, Int.reduceNeg, reduceCtorEq, Int.reduceBEq, Int.reduceBNe, @callV_spec E17 56 s56 rfl, @callV_specT E17 56 s56 rfl, @stepV_spec E17 56 s56 rfl, @effV_spec E17 56 s56 rfl, s56, encR, callSpec, predO, dLn_map, hr, hls, openPV, hk, zeroC]
  | true =>
    have hq' : (isDaysB (d.1, d.2) && areLinesB g ls) = qCheap d ls ⟨g, l⟩ := rfl
    cases hqq : qCheap d ls ⟨g, l⟩ with
    | false => simp only [go_sem, Nat.reduceAdd, Nat.reduceSub, Nat.reduceMul, Nat.reduceEqDiff, Nat.reduceLT, Nat.reduceLeDiff, Nat.reduceBEq, Nat.reduceBNe, Int.reduceToNat, Int.reduceLE, Int.reduceLT, Int.reduceNe, Int.reduceNeg, reduceCtorEq, Int.reduceBEq, Int.reduceBNe, @callV_spec E17 56 s56 rfl, @callV_specT E17 56 s56 rfl, @stepV_spec E17 56 s56 rfl, @effV_spec E17 56 s56 rfl, s56, encR, callSpec, predO, dLn_map, hr, hls, openPV, hk, hq', hqq, zeroC]
    | true =>
      have hl := lines_ok (g := g) (ls := ls) (by rw [← hq'] at hqq; simp only [Bool.and_eq_true] at hqq; exact hqq.2)
      have hG := rack_good hk
      have hs := hG.sane
      have hcc := hG.cents
      have hcp := cuts_pre hG
      have hcl := cutsM_len hG d
      have hd : (d.1, d.2) = d := rfl
      have hcd : Lib.compact (sortL (rawCuts d l)) = cutsM ⟨g, l⟩ d := rfl
      simp only [go_sem, Nat.reduceAdd, Nat.reduceSub, Nat.reduceMul, Nat.reduceEqDiff, Nat.reduceLT, Nat.reduceLeDiff, Nat.reduceBEq, Nat.reduceBNe, Int.reduceToNat, Int.reduceLE, Int.reduceLT, Int.reduceNe, Int.reduceNeg, reduceCtorEq, Int.reduceBEq, Int.reduceBNe, @callV_spec E17 56 s56 rfl, @callV_specT E17 56 s56 rfl, @stepV_spec E17 56 s56 rfl, @effV_spec E17 56 s56 rfl, s56, @callV_spec E17 86 s86 rfl, @callV_specT E17 86 s86 rfl, @stepV_spec E17 86 s86 rfl, @effV_spec E17 86 s86 rfl, s86, encR, encC, callSpec, predO, dLn_map, hr, hls, openPV, hk, hq', hqq, hd, hcd]
      refine ⟨hcp, ?_⟩
      generalize cutsM ⟨g, l⟩ d = ds at *
      simp only [go_sem, Nat.reduceAdd, Nat.reduceSub, Nat.reduceMul, Nat.reduceEqDiff, Nat.reduceLT, Nat.reduceLeDiff, Nat.reduceBEq, Nat.reduceBNe, Int.reduceToNat, Int.reduceLE, Int.reduceLT, Int.reduceNe, Int.reduceNeg, reduceCtorEq, Int.reduceBEq, Int.reduceBNe, il_length]
      refine ev_loopS [5, 9] (fun x : Nat × (Int × Int) => [(6, .int .i64 x.2.1), (7, .int .i64 x.2.2), (25, .sl (il ds) false), (26, .int .i64 ds.length), (27, .int .i64 x.1)])
        (fun x H => x.1 ≤ ds.length ∧ H (([], 36000002) : Key) = some (.cells [.sl (ls.map encL) false] 1 true) ∧ H (([], 36001006) : Key) = some (.cells [.int .i64 g, .sl (l.map encI) false, .mp true 2 (ents ⟨g, l⟩)] 1 false) ∧ cheapF ⟨g, l⟩ ls x.2 (ds.drop x.1) = cheapF ⟨g, l⟩ ls (-1, 0) ds)
        (fun x => ds.length - x.1) (0, (-1, 0)) ?_ ⟨Nat.zero_le _, ?_, ?_, by simp⟩ ?_
      · simp only [go_sem, Nat.reduceAdd, Nat.reduceSub, Nat.reduceMul, Nat.reduceEqDiff, Nat.reduceLT, Nat.reduceLeDiff, Nat.reduceBEq, Nat.reduceBNe, Int.reduceToNat, Int.reduceLE, Int.reduceLT, Int.reduceNe, Int.reduceNeg, reduceCtorEq, Int.reduceBEq, Int.reduceBNe]
      · simp only [go_sem, Nat.reduceAdd, Nat.reduceSub, Nat.reduceMul, Nat.reduceEqDiff, Nat.reduceLT, Nat.reduceLeDiff, Nat.reduceBEq, Nat.reduceBNe, Int.reduceToNat, Int.reduceLE, Int.reduceLT, Int.reduceNe, Int.reduceNeg, reduceCtorEq, Int.reduceBEq, Int.reduceBNe]
      · simp only [go_sem, Nat.reduceAdd, Nat.reduceSub, Nat.reduceMul, Nat.reduceEqDiff, Nat.reduceLT, Nat.reduceLeDiff, Nat.reduceBEq, Nat.reduceBNe, Int.reduceToNat, Int.reduceLE, Int.reduceLT, Int.reduceNe, Int.reduceNeg, reduceCtorEq, Int.reduceBEq, Int.reduceBNe]
      · simp only [go_sem, Nat.reduceAdd, Nat.reduceSub, Nat.reduceMul, Nat.reduceEqDiff, Nat.reduceLT, Nat.reduceLeDiff, Nat.reduceBEq, Nat.reduceBNe, Int.reduceToNat, Int.reduceLE, Int.reduceLT, Int.reduceNe, Int.reduceNeg, reduceCtorEq, Int.reduceBEq, Int.reduceBNe]
        intro K x H ⟨hi, h1, h2, hf⟩ hK hE
        obtain ⟨i, on, sm⟩ := x
        simp only at hi hf
        dsimp only
        rw [condK_bool]
        refine ⟨fun h => ?_, fun h => ?_⟩
        · have h' : i < ds.length := by simpa using h
          have hii : (i : Int) < (ds.length : Int) := by omega
          have w2 : IntKind.i64.wrap ((i : Int) + 1) = (i : Int) + 1 := wrap_id (by omega)
          rw [cheapF_drop _ _ _ h'] at hf
          simp only [go_sem, Nat.reduceAdd, Nat.reduceSub, Nat.reduceMul, Nat.reduceEqDiff, Nat.reduceLT, Nat.reduceLeDiff, Nat.reduceBEq, Nat.reduceBNe, Int.reduceToNat, Int.reduceLE, Int.reduceLT, Int.reduceNe, Int.reduceNeg, reduceCtorEq, Int.reduceBEq, Int.reduceBNe, @callV_spec E17 94 s94 rfl, @callV_specT E17 94 s94 rfl, @stepV_spec E17 94 s94 rfl, @effV_spec E17 94 s94 rfl, s94, h1, h2, hii, il_length, il_get, dec_lines, hl.1, hs, hcc]
          refine ⟨hl.2, ?_⟩
          cases ho : sumF ⟨g, l⟩ (ds.getD i 0) 0 ls with
          | none =>
            rw [ho] at hf
            simp only [go_sem, Nat.reduceAdd, Nat.reduceSub, Nat.reduceMul, Nat.reduceEqDiff, Nat.reduceLT, Nat.reduceLeDiff, Nat.reduceBEq, Nat.reduceBNe, Int.reduceToNat, Int.reduceLE, Int.reduceLT, Int.reduceNe, Int.reduceNeg, reduceCtorEq, Int.reduceBEq, Int.reduceBNe, optPV]
            refine hK (i + 1, (on, sm)) _ _ ?_ ⟨h', h1, h2, hf⟩ (by simp only; omega)
            · simp only [go_sem, Nat.reduceAdd, Nat.reduceSub, Nat.reduceMul, Nat.reduceEqDiff, Nat.reduceLT, Nat.reduceLeDiff, Nat.reduceBEq, Nat.reduceBNe, Int.reduceToNat, Int.reduceLE, Int.reduceLT, Int.reduceNe, Int.reduceNeg, reduceCtorEq, Int.reduceBEq, Int.reduceBNe, w2, Int.natCast_add, Int.natCast_one]
          | some n =>
            rw [ho] at hf
            simp only at hf
            simp only [go_sem, Nat.reduceAdd, Nat.reduceSub, Nat.reduceMul, Nat.reduceEqDiff, Nat.reduceLT, Nat.reduceLeDiff, Nat.reduceBEq, Nat.reduceBNe, Int.reduceToNat, Int.reduceLE, Int.reduceLT, Int.reduceNe, Int.reduceNeg, reduceCtorEq, Int.reduceBEq, Int.reduceBNe, optPV]
            rw [condK_bool]
            refine ⟨fun hc => ?_, fun hc => ?_⟩
            · have hc' : on < 0 ∨ n < sm := by simpa using hc
              simp only [go_sem, Nat.reduceAdd, Nat.reduceSub, Nat.reduceMul, Nat.reduceEqDiff, Nat.reduceLT, Nat.reduceLeDiff, Nat.reduceBEq, Nat.reduceBNe, Int.reduceToNat, Int.reduceLE, Int.reduceLT, Int.reduceNe, Int.reduceNeg, reduceCtorEq, Int.reduceBEq, Int.reduceBNe]
              refine hK (i + 1, (ds.getD i 0, n)) _ _ ?_ ⟨h', h1, h2, by simpa only [if_pos hc'] using hf⟩ (by simp only; omega)
              simp only [go_sem, Nat.reduceAdd, Nat.reduceSub, Nat.reduceMul, Nat.reduceEqDiff, Nat.reduceLT, Nat.reduceLeDiff, Nat.reduceBEq, Nat.reduceBNe, Int.reduceToNat, Int.reduceLE, Int.reduceLT, Int.reduceNe, Int.reduceNeg, reduceCtorEq, Int.reduceBEq, Int.reduceBNe, w2, Int.natCast_add, Int.natCast_one]
            · have hc' : ¬ (on < 0 ∨ n < sm) := by simpa using hc
              simp only [go_sem, Nat.reduceAdd, Nat.reduceSub, Nat.reduceMul, Nat.reduceEqDiff, Nat.reduceLT, Nat.reduceLeDiff, Nat.reduceBEq, Nat.reduceBNe, Int.reduceToNat, Int.reduceLE, Int.reduceLT, Int.reduceNe, Int.reduceNeg, reduceCtorEq, Int.reduceBEq, Int.reduceBNe]
              refine hK (i + 1, (on, sm)) _ _ ?_ ⟨h', h1, h2, by simpa only [if_neg hc'] using hf⟩ (by simp only; omega)
              simp only [go_sem, Nat.reduceAdd, Nat.reduceSub, Nat.reduceMul, Nat.reduceEqDiff, Nat.reduceLT, Nat.reduceLeDiff, Nat.reduceBEq, Nat.reduceBNe, Int.reduceToNat, Int.reduceLE, Int.reduceLT, Int.reduceNe, Int.reduceNeg, reduceCtorEq, Int.reduceBEq, Int.reduceBNe, w2, Int.natCast_add, Int.natCast_one]
        · have h' : i = ds.length := by have : ¬ ((i : Int) < (ds.length : Int)) := by simpa using h
                                        omega
          subst h'
          simp only [List.drop_length, cheapF] at hf
          refine hE _ _ _ (by simp) ?_
          simp only [go_sem, Nat.reduceAdd, Nat.reduceSub, Nat.reduceMul, Nat.reduceEqDiff, Nat.reduceLT, Nat.reduceLeDiff, Nat.reduceBEq, Nat.reduceBNe, Int.reduceToNat, Int.reduceLE, Int.reduceLT, Int.reduceNe, Int.reduceNeg, reduceCtorEq, Int.reduceBEq, Int.reduceBNe]
          rw [condK_bool, ← hf]
          refine ⟨fun h => ?_, fun h => ?_⟩
          · have h0 : on < 0 := by simpa using h
            simp only [go_sem, Nat.reduceAdd, Nat.reduceSub, Nat.reduceMul, Nat.reduceEqDiff, Nat.reduceLT, Nat.reduceLeDiff, Nat.reduceBEq, Nat.reduceBNe, Int.reduceToNat, Int.reduceLE, Int.reduceLT, Int.reduceNe, Int.reduceNeg, reduceCtorEq, Int.reduceBEq, Int.reduceBNe, h0]
          · have h0 : ¬ on < 0 := by simpa using h
            simp only [go_sem, Nat.reduceAdd, Nat.reduceSub, Nat.reduceMul, Nat.reduceEqDiff, Nat.reduceLT, Nat.reduceLeDiff, Nat.reduceBEq, Nat.reduceBNe, Int.reduceToNat, Int.reduceLE, Int.reduceLT, Int.reduceNe, Int.reduceNeg, reduceCtorEq, Int.reduceBEq, Int.reduceBNe, h0]
def s36 : Spec := spec3 (fun (r : Rack) (_ : Int × Int) (ls : List Line) => okRack r ∧ big ls.length) (fun r d ls => .tup [.int .i64 (cheapM r d ls).1, .int .i64 (cheapM r d ls).2.1, .int .i64 (cheapM r d ls).2.2])
theorem s36_ok : SpecOK Tryd.prog glB 36 s36 := spec3_ok E17_ok Tryd.func36 rfl (by kernel_rfl) fun r d ls h => Cheapest_fn r h.1 d ls h.2
-- f30 Prices
def qPrices (d : Int × Int) (t : Item) (r : Rack) : Bool := isDaysB d && isItemB r t
def pricesL (r : Rack) (d : Int × Int) (t : Item) : List Int := Lib.compact (sortL ((cutsM r d).filterMap fun on => priceP r on t))
def pricesM (r : Rack) (d : Int × Int) (t : Item) : List Int × Int :=
  if rackOk r then (if qPrices d t r then (pricesL r d t, 0) else ([], 11)) else ([], 10)
theorem fm_take {f : Int → Option Int} {ds : List Int} {i : Nat} (h : i < ds.length) : (ds.take (i + 1)).filterMap f = (ds.take i).filterMap f ++ (f (ds.getD i 0)).toList := by
  have e : ds.getD i 0 = ds[i] := by simp [h]
  rw [e, List.take_succ_eq_append_getElem h, List.filterMap_append]
  simp only [List.filterMap_cons, List.filterMap_nil]
  cases f ds[i] <;> rfl
theorem Prices_fn (r : Rack) (hr : okRack r) (d : Int × Int) (t : Item) : Fn E17 1 30 Tryd.f30 (Tryd.f30.body.getD .skip) [.agg (encR r), .agg [.int .i64 d.1, .int .i64 d.2], .agg (encT t)] (.tup [.sl (il (pricesM r d t).1) true, .int .i64 (pricesM r d t).2]) := by
  obtain ⟨g, l⟩ := r
  obtain ⟨a, b, c⟩ := t
  unfold Fn Tryd.f30 pricesM
  cases hk : rackOk ⟨g, l⟩ with
  | false => simp only [go_sem, Nat.reduceAdd, Nat.reduceSub, Nat.reduceMul, Nat.reduceEqDiff, Nat.reduceLT, Nat.reduceLeDiff, Nat.reduceBEq, Nat.reduceBNe, Int.reduceToNat, Int.reduceLE, Int.reduceLT, Int.reduceNe, Int.reduceNeg, reduceCtorEq, Int.reduceBEq, Int.reduceBNe, @callV_spec E17 56 s56 rfl, @callV_specT E17 56 s56 rfl, @stepV_spec E17 56 s56 rfl, @effV_spec E17 56 s56 rfl, s56, encR, encT, callSpec, predO, hr, openPV, hk, zeroC, il]
  | true =>
    have hq' : (isDaysB (d.1, d.2) && isItemB ⟨g, l⟩ ⟨a, b, c⟩) = qPrices d ⟨a, b, c⟩ ⟨g, l⟩ := rfl
    cases hqq : qPrices d ⟨a, b, c⟩ ⟨g, l⟩ with
    | false => simp only [go_sem, Nat.reduceAdd, Nat.reduceSub, Nat.reduceMul, Nat.reduceEqDiff, Nat.reduceLT, Nat.reduceLeDiff, Nat.reduceBEq, Nat.reduceBNe, Int.reduceToNat, Int.reduceLE, Int.reduceLT, Int.reduceNe, Int.reduceNeg, reduceCtorEq, Int.reduceBEq, Int.reduceBNe, @callV_spec E17 56 s56 rfl, @callV_specT E17 56 s56 rfl, @stepV_spec E17 56 s56 rfl, @effV_spec E17 56 s56 rfl, s56, encR, encT, callSpec, predO, hr, openPV, hk, hq', hqq, zeroC, il]
    | true =>
      have hc := item_colour (r := ⟨g, l⟩) (t := ⟨a, b, c⟩) (by rw [← hq'] at hqq; simp only [Bool.and_eq_true] at hqq; exact hqq.2)
      simp only at hc
      have hG := rack_good hk
      have hs := hG.sane
      have hcp := cuts_pre hG
      have hcl := cutsM_len hG d
      have hd : (d.1, d.2) = d := rfl
      have hcd : Lib.compact (sortL (rawCuts d l)) = cutsM ⟨g, l⟩ d := rfl
      simp only [go_sem, Nat.reduceAdd, Nat.reduceSub, Nat.reduceMul, Nat.reduceEqDiff, Nat.reduceLT, Nat.reduceLeDiff, Nat.reduceBEq, Nat.reduceBNe, Int.reduceToNat, Int.reduceLE, Int.reduceLT, Int.reduceNe, Int.reduceNeg, reduceCtorEq, Int.reduceBEq, Int.reduceBNe, @callV_spec E17 56 s56 rfl, @callV_specT E17 56 s56 rfl, @stepV_spec E17 56 s56 rfl, @effV_spec E17 56 s56 rfl, s56, @callV_spec E17 86 s86 rfl, @callV_specT E17 86 s86 rfl, @stepV_spec E17 86 s86 rfl, @effV_spec E17 86 s86 rfl, s86, encR, encC, encT, callSpec, predO, hr, openPV, hk, hq', hqq, hd, hcd, pricesL]
      refine ⟨hcp, ?_⟩
      generalize cutsM ⟨g, l⟩ d = ds at *
      simp only [go_sem, Nat.reduceAdd, Nat.reduceSub, Nat.reduceMul, Nat.reduceEqDiff, Nat.reduceLT, Nat.reduceLeDiff, Nat.reduceBEq, Nat.reduceBNe, Int.reduceToNat, Int.reduceLE, Int.reduceLT, Int.reduceNe, Int.reduceNeg, reduceCtorEq, Int.reduceBEq, Int.reduceBNe, il_length]
      refine ev_loopS [5, 8] (fun x : Nat × PV => [(10, x.2), (26, .sl (il ds) false), (27, .int .i64 ds.length), (28, .int .i64 x.1)])
        (fun x H => x.1 ≤ ds.length ∧ H (([], 30000002) : Key) = some (.cells [.int .i64 a, .int .i64 b, .int .i64 c] 1 true) ∧ H (([], 30001006) : Key) = some (.cells [.int .i64 g, .sl (l.map encI) false, .mp true 2 (ents ⟨g, l⟩)] 1 false) ∧
          Own H (fun K => K = ([], 30010003)) x.2 1 (il ((ds.take x.1).filterMap fun on => priceP ⟨g, l⟩ on ⟨a, b, c⟩)) ∧ ∀ K v sz n e, x.2 = .sref K v sz n e → n ≠ 0)
        (fun x => ds.length - x.1) (0, .sl [] true) ?_ ⟨Nat.zero_le _, ?_, ?_, .inl ⟨rfl, rfl⟩, (fun _ _ _ _ _ h => by cases h)⟩ ?_
      · simp only [go_sem, Nat.reduceAdd, Nat.reduceSub, Nat.reduceMul, Nat.reduceEqDiff, Nat.reduceLT, Nat.reduceLeDiff, Nat.reduceBEq, Nat.reduceBNe, Int.reduceToNat, Int.reduceLE, Int.reduceLT, Int.reduceNe, Int.reduceNeg, reduceCtorEq, Int.reduceBEq, Int.reduceBNe]
      · simp only [go_sem, Nat.reduceAdd, Nat.reduceSub, Nat.reduceMul, Nat.reduceEqDiff, Nat.reduceLT, Nat.reduceLeDiff, Nat.reduceBEq, Nat.reduceBNe, Int.reduceToNat, Int.reduceLE, Int.reduceLT, Int.reduceNe, Int.reduceNeg, reduceCtorEq, Int.reduceBEq, Int.reduceBNe]
      · simp only [go_sem, Nat.reduceAdd, Nat.reduceSub, Nat.reduceMul, Nat.reduceEqDiff, Nat.reduceLT, Nat.reduceLeDiff, Nat.reduceBEq, Nat.reduceBNe, Int.reduceToNat, Int.reduceLE, Int.reduceLT, Int.reduceNe, Int.reduceNeg, reduceCtorEq, Int.reduceBEq, Int.reduceBNe]
      · simp only [go_sem, Nat.reduceAdd, Nat.reduceSub, Nat.reduceMul, Nat.reduceEqDiff, Nat.reduceLT, Nat.reduceLeDiff, Nat.reduceBEq, Nat.reduceBNe, Int.reduceToNat, Int.reduceLE, Int.reduceLT, Int.reduceNe, Int.reduceNeg, reduceCtorEq, Int.reduceBEq, Int.reduceBNe]
        intro K x H ⟨hi, h1, h2, h3, hz⟩ hK hE
        obtain ⟨i, p⟩ := x
        simp only at hi h3 hz
        dsimp only
        rw [condK_bool]
        refine ⟨fun h => ?_, fun h => ?_⟩
        · have h' : i < ds.length := by simpa using h
          have hii : (i : Int) < (ds.length : Int) := by omega
          have w2 : IntKind.i64.wrap ((i : Int) + 1) = (i : Int) + 1 := wrap_id (by omega)
          have hft := fm_take (f := fun on => priceP ⟨g, l⟩ on ⟨a, b, c⟩) h'
          have hln : ((ds.take i).filterMap fun on => priceP ⟨g, l⟩ on ⟨a, b, c⟩).length ≤ 9 := by
            have := List.length_filterMap_le (fun on => priceP ⟨g, l⟩ on ⟨a, b, c⟩) (ds.take i)
            have := List.length_take_le' i ds
            omega
          simp only [go_sem, Nat.reduceAdd, Nat.reduceSub, Nat.reduceMul, Nat.reduceEqDiff, Nat.reduceLT, Nat.reduceLeDiff, Nat.reduceBEq, Nat.reduceBNe, Int.reduceToNat, Int.reduceLE, Int.reduceLT, Int.reduceNe, Int.reduceNeg, reduceCtorEq, Int.reduceBEq, Int.reduceBNe, @callV_spec E17 82 s82 rfl, @callV_specT E17 82 s82 rfl, @stepV_spec E17 82 s82 rfl, @effV_spec E17 82 s82 rfl, s82, h1, h2, hii, il_length, il_get, hc, hs, encT]
          cases ho : priceP ⟨g, l⟩ (ds.getD i 0) ⟨a, b, c⟩ with
          | none =>
            rw [ho] at hft
            simp only [go_sem, Nat.reduceAdd, Nat.reduceSub, Nat.reduceMul, Nat.reduceEqDiff, Nat.reduceLT, Nat.reduceLeDiff, Nat.reduceBEq, Nat.reduceBNe, Int.reduceToNat, Int.reduceLE, Int.reduceLT, Int.reduceNe, Int.reduceNeg, reduceCtorEq, Int.reduceBEq, Int.reduceBNe, optPV]
            refine hK (i + 1, p) _ _ ?_ ⟨h', h1, h2, by rw [hft]; simpa using h3, hz⟩ (by simp only; omega)
            · simp only [go_sem, Nat.reduceAdd, Nat.reduceSub, Nat.reduceMul, Nat.reduceEqDiff, Nat.reduceLT, Nat.reduceLeDiff, Nat.reduceBEq, Nat.reduceBNe, Int.reduceToNat, Int.reduceLE, Int.reduceLT, Int.reduceNe, Int.reduceNeg, reduceCtorEq, Int.reduceBEq, Int.reduceBNe, w2, Int.natCast_add, Int.natCast_one]
          | some n =>
            rw [ho] at hft
            have hil : il ((ds.take (i + 1)).filterMap fun on => priceP ⟨g, l⟩ on ⟨a, b, c⟩) = il ((ds.take i).filterMap fun on => priceP ⟨g, l⟩ on ⟨a, b, c⟩) ++ [[.int .i64 n]] := by rw [hft, il_append]; rfl
            generalize ((ds.take i).filterMap fun on => priceP ⟨g, l⟩ on ⟨a, b, c⟩) = acc at *
            rcases h3 with ⟨e1, rfl⟩ | ⟨K2, v, rfl, rfl, g5⟩
            · simp only [go_sem, Nat.reduceAdd, Nat.reduceSub, Nat.reduceMul, Nat.reduceEqDiff, Nat.reduceLT, Nat.reduceLeDiff, Nat.reduceBEq, Nat.reduceBNe, Int.reduceToNat, Int.reduceLE, Int.reduceLT, Int.reduceNe, Int.reduceNeg, reduceCtorEq, Int.reduceBEq, Int.reduceBNe, h1, h2, optPV, app, rowsOf, List.not_mem_nil, cells1, cellP, forall_eq]
              refine hK (i + 1, .sref ([], 30010003) (verOf H ([], 30010003) + 1) 1 1 false) _ _ ?_ ⟨h', ?_, ?_, .inr ⟨_, verOf H ([], 30010003) + 1, rfl, ?_, ?_⟩, (fun _ _ _ _ _ h => by cases h; omega)⟩ (by simp only; omega)
              · simp only [go_sem, Nat.reduceAdd, Nat.reduceSub, Nat.reduceMul, Nat.reduceEqDiff, Nat.reduceLT, Nat.reduceLeDiff, Nat.reduceBEq, Nat.reduceBNe, Int.reduceToNat, Int.reduceLE, Int.reduceLT, Int.reduceNe, Int.reduceNeg, reduceCtorEq, Int.reduceBEq, Int.reduceBNe, w2, Int.natCast_add, Int.natCast_one]
              · simp only [go_sem, Nat.reduceAdd, Nat.reduceSub, Nat.reduceMul, Nat.reduceEqDiff, Nat.reduceLT, Nat.reduceLeDiff, Nat.reduceBEq, Nat.reduceBNe, Int.reduceToNat, Int.reduceLE, Int.reduceLT, Int.reduceNe, Int.reduceNeg, reduceCtorEq, Int.reduceBEq, Int.reduceBNe, h1]
              · simp only [go_sem, Nat.reduceAdd, Nat.reduceSub, Nat.reduceMul, Nat.reduceEqDiff, Nat.reduceLT, Nat.reduceLeDiff, Nat.reduceBEq, Nat.reduceBNe, Int.reduceToNat, Int.reduceLE, Int.reduceLT, Int.reduceNe, Int.reduceNeg, reduceCtorEq, Int.reduceBEq, Int.reduceBNe, h2]
              · rw [hil, e1]; rfl
              · rw [hil, e1]; simp only [go_sem, Nat.reduceAdd, Nat.reduceSub, Nat.reduceMul, Nat.reduceEqDiff, Nat.reduceLT, Nat.reduceLeDiff, Nat.reduceBEq, Nat.reduceBNe, Int.reduceToNat, Int.reduceLE, Int.reduceLT, Int.reduceNe, Int.reduceNeg, reduceCtorEq, Int.reduceBEq, Int.reduceBNe]
            · simp only [go_sem, Nat.reduceAdd, Nat.reduceSub, Nat.reduceMul, Nat.reduceEqDiff, Nat.reduceLT, Nat.reduceLeDiff, Nat.reduceBEq, Nat.reduceBNe, Int.reduceToNat, Int.reduceLE, Int.reduceLT, Int.reduceNe, Int.reduceNeg, reduceCtorEq, Int.reduceBEq, Int.reduceBNe, h1, h2, g5, optPV, app, rowsOf, List.not_mem_nil, cells1, cellP, forall_eq, il_length]
              refine ⟨by omega, hK (i + 1, .sref ([], 30010003) (v + 1) 1 (acc.length + 1) false) _ _ ?_ ⟨h', ?_, ?_, .inr ⟨_, v + 1, rfl, ?_, ?_⟩, (fun _ _ _ _ _ h => by cases h; omega)⟩ (by simp only; omega)⟩
              · simp only [go_sem, Nat.reduceAdd, Nat.reduceSub, Nat.reduceMul, Nat.reduceEqDiff, Nat.reduceLT, Nat.reduceLeDiff, Nat.reduceBEq, Nat.reduceBNe, Int.reduceToNat, Int.reduceLE, Int.reduceLT, Int.reduceNe, Int.reduceNeg, reduceCtorEq, Int.reduceBEq, Int.reduceBNe, w2, Int.natCast_add, Int.natCast_one]
              · simp only [go_sem, Nat.reduceAdd, Nat.reduceSub, Nat.reduceMul, Nat.reduceEqDiff, Nat.reduceLT, Nat.reduceLeDiff, Nat.reduceBEq, Nat.reduceBNe, Int.reduceToNat, Int.reduceLE, Int.reduceLT, Int.reduceNe, Int.reduceNeg, reduceCtorEq, Int.reduceBEq, Int.reduceBNe, h1]
              · simp only [go_sem, Nat.reduceAdd, Nat.reduceSub, Nat.reduceMul, Nat.reduceEqDiff, Nat.reduceLT, Nat.reduceLeDiff, Nat.reduceBEq, Nat.reduceBNe, Int.reduceToNat, Int.reduceLE, Int.reduceLT, Int.reduceNe, Int.reduceNeg, reduceCtorEq, Int.reduceBEq, Int.reduceBNe, h2]
              · rw [hil]; simp [il_length]
              · rw [hil]; simp only [go_sem, Nat.reduceAdd, Nat.reduceSub, Nat.reduceMul, Nat.reduceEqDiff, Nat.reduceLT, Nat.reduceLeDiff, Nat.reduceBEq, Nat.reduceBNe, Int.reduceToNat, Int.reduceLE, Int.reduceLT, Int.reduceNe, Int.reduceNeg, reduceCtorEq, Int.reduceBEq, Int.reduceBNe]
        · have h' : i = ds.length := by have : ¬ ((i : Int) < (ds.length : Int)) := by simpa using h
                                        omega
          subst h'
          simp only [List.take_length] at h3
          have hln : (ds.filterMap fun on => priceP ⟨g, l⟩ on ⟨a, b, c⟩).length ≤ 9 := by
            have := List.length_filterMap_le (fun on => priceP ⟨g, l⟩ on ⟨a, b, c⟩) ds
            omega
          refine hE _ _ _ (by simp) ?_
          generalize (ds.filterMap fun on => priceP ⟨g, l⟩ on ⟨a, b, c⟩) = acc at *
          rcases h3 with ⟨e1, rfl⟩ | ⟨K2, v, rfl, rfl, g5⟩
          · have e0 : acc = [] := by cases acc with
              | nil => rfl
              | cons x l => simp [il] at e1
            subst e0
            simp only [go_sem, Nat.reduceAdd, Nat.reduceSub, Nat.reduceMul, Nat.reduceEqDiff, Nat.reduceLT, Nat.reduceLeDiff, Nat.reduceBEq, Nat.reduceBNe, Int.reduceToNat, Int.reduceLE, Int.reduceLT, Int.reduceNe, Int.reduceNeg, reduceCtorEq, Int.reduceBEq, Int.reduceBNe, @callV_in E17 87 rfl, @callV_in E17 88 rfl, heavy_none, @callN_mt E17 87 sortM rfl rfl, @callN_mt E17 88 compactM rfl rfl, sortM, compactM]
            rw [show Lib.compact (sortL []) = [] by simp [sortL, Lib.compact, Lib.compactUpTo]]; exact wkR_refl _
          · have hne : acc ≠ [] := by
              rintro rfl
              exact hz _ _ _ _ _ rfl rfl
            have hsl : (sortL acc).length = acc.length := by simp [sortL]
            have hpos : sortL acc ≠ [] := by
              intro h; rw [h] at hsl; exact hne (List.length_eq_zero_iff.1 hsl.symm)
            simp only [go_sem, Nat.reduceAdd, Nat.reduceSub, Nat.reduceMul, Nat.reduceEqDiff, Nat.reduceLT, Nat.reduceLeDiff, Nat.reduceBEq, Nat.reduceBNe, Int.reduceToNat, Int.reduceLE, Int.reduceLT, Int.reduceNe, Int.reduceNeg, reduceCtorEq, Int.reduceBEq, Int.reduceBNe, @callV_in E17 87 rfl, @callV_in E17 88 rfl, heavy_none, @callN_mt E17 87 sortM rfl rfl, @callN_mt E17 88 compactM rfl rfl]
            refine ⟨rfl, acc, g5, by simp [il_length], by rw [il_length]; omega, ?_⟩
            simp only [go_sem, Nat.reduceAdd, Nat.reduceSub, Nat.reduceMul, Nat.reduceEqDiff, Nat.reduceLT, Nat.reduceLeDiff, Nat.reduceBEq, Nat.reduceBNe, Int.reduceToNat, Int.reduceLE, Int.reduceLT, Int.reduceNe, Int.reduceNeg, reduceCtorEq, Int.reduceBEq, Int.reduceBNe, @callV_in E17 87 rfl, @callV_in E17 88 rfl, heavy_none, @callN_mt E17 87 sortM rfl rfl, @callN_mt E17 88 compactM rfl rfl]
            refine ⟨rfl, sortL acc, by simp only [go_sem, Nat.reduceAdd, Nat.reduceSub, Nat.reduceMul, Nat.reduceEqDiff, Nat.reduceLT, Nat.reduceLeDiff, Nat.reduceBEq, Nat.reduceBNe, Int.reduceToNat, Int.reduceLE, Int.reduceLT, Int.reduceNe, Int.reduceNeg, reduceCtorEq, Int.reduceBEq, Int.reduceBNe], by rw [il_length, hsl], by rw [il_length]; omega, hpos, ?_⟩
            simp only [go_sem, Nat.reduceAdd, Nat.reduceSub, Nat.reduceMul, Nat.reduceEqDiff, Nat.reduceLT, Nat.reduceLeDiff, Nat.reduceBEq, Nat.reduceBNe, Int.reduceToNat, Int.reduceLE, Int.reduceLT, Int.reduceNe, Int.reduceNeg, reduceCtorEq, Int.reduceBEq, Int.reduceBNe, il_length]
end Wb
/- Means, Twins. -/
namespace Wb
open Go Go.Proofs Enc Row
set_option linter.unusedSimpArgs false
set_option linter.unusedVariables false
set_option maxRecDepth 20000
set_option maxHeartbeats 4000000
-- f17 Means
def qMeans (d : Int × Int) (n : Int) (r : Rack) : Bool := isDaysB d && isNumB n
def meanOf (r : Rack) (d : Int × Int) (n : Int) (i : Nat) : Option (Int × Int) :=
  if ovl 0 d.1 d.2 (r.issues.getD i default) then (entAt r i n).map fun e => ((i : Int), e.good) else none
def meansL (r : Rack) (d : Int × Int) (n : Int) (k : Nat) : List (Int × Int) := (List.range k).filterMap (meanOf r d n)
def meansM (r : Rack) (d : Int × Int) (n : Int) : List (Int × Int) × Int :=
  if rackOk r then (if qMeans d n r then (meansL r d n r.issues.length, 0) else ([], 11)) else ([], 10)
def ml (l : List (Int × Int)) : List (List PV) := l.map fun a => [.int .i64 a.1, .int .i64 a.2]
theorem ml_append (a b : List (Int × Int)) : ml (a ++ b) = ml a ++ ml b := by simp [ml]
theorem ml_length (a : List (Int × Int)) : (ml a).length = a.length := by simp [ml]
theorem ml_nil : ml [] = [] := rfl
theorem meansL_len (r : Rack) (d : Int × Int) (n : Int) (k : Nat) : (meansL r d n k).length ≤ k := by
  unfold meansL; exact Nat.le_trans (List.length_filterMap_le _ _) (by simp)
theorem meansL_succ (r : Rack) (d : Int × Int) (n : Int) (k : Nat) : meansL r d n (k + 1) = meansL r d n k ++ (meanOf r d n k).toList := by
  unfold meansL
  rw [List.range_succ, List.filterMap_append]
  simp only [List.filterMap_cons, List.filterMap_nil]
  cases meanOf r d n k <;> rfl
theorem Means_fn (r : Rack) (hr : okRack r) (d : Int × Int) (n : Int) : Fn E17 2 17 Tryd.f17 (Tryd.f17.body.getD .skip) [.agg (encR r), .agg [.int .i64 d.1, .int .i64 d.2], .int .i64 n] (.tup [.sl (ml (meansM r d n).1) true, .int .i64 (meansM r d n).2]) := by
  obtain ⟨g, l⟩ := r
  have hg : ∀ h : rackOk ⟨g, l⟩ = true, _ := fun h => found_ents (rack_good h)
  unfold Fn Tryd.f17 meansM
  cases hk : rackOk ⟨g, l⟩ with
  | false => simp only [go_sem, Nat.reduceAdd, Nat.reduceSub, Nat.reduceMul, Nat.reduceEqDiff, Nat.reduceLT, Nat.reduceLeDiff, Nat.reduceBEq, Nat.reduceBNe, Int.reduceToNat, Int.reduceLE, Int.reduceLT, Int.reduceNe, Int.reduceNeg, reduceCtorEq, Int.reduceBEq, Int.reduceBNe, @callV_spec E17 56 s56 rfl, @callV_specT E17 56 s56 rfl, @stepV_spec E17 56 s56 rfl, @effV_spec E17 56 s56 rfl, s56, encR, callSpec, predO, hr, openPV, hk, zeroC, ml_nil]
  | true =>
    have hg := hg hk
    have hq' : (isDaysB (d.1, d.2) && isNumB n) = qMeans d n ⟨g, l⟩ := rfl
    cases hqq : qMeans d n ⟨g, l⟩ with
    | false => simp only [go_sem, Nat.reduceAdd, Nat.reduceSub, Nat.reduceMul, Nat.reduceEqDiff, Nat.reduceLT, Nat.reduceLeDiff, Nat.reduceBEq, Nat.reduceBNe, Int.reduceToNat, Int.reduceLE, Int.reduceLT, Int.reduceNe, Int.reduceNeg, reduceCtorEq, Int.reduceBEq, Int.reduceBNe, @callV_spec E17 56 s56 rfl, @callV_specT E17 56 s56 rfl, @stepV_spec E17 56 s56 rfl, @effV_spec E17 56 s56 rfl, s56, encR, callSpec, predO, hr, openPV, hk, hq', hqq, zeroC, ml_nil]
    | true =>
      have hG := rack_good hk
      have hs := hG.sane
      have hi4 : l.length ≤ 4 := hs.1
      simp only [go_sem, Nat.reduceAdd, Nat.reduceSub, Nat.reduceMul, Nat.reduceEqDiff, Nat.reduceLT, Nat.reduceLeDiff, Nat.reduceBEq, Nat.reduceBNe, Int.reduceToNat, Int.reduceLE, Int.reduceLT, Int.reduceNe, Int.reduceNeg, reduceCtorEq, Int.reduceBEq, Int.reduceBNe, @callV_spec E17 56 s56 rfl, @callV_specT E17 56 s56 rfl, @stepV_spec E17 56 s56 rfl, @effV_spec E17 56 s56 rfl, s56, @callV_spec E17 60 s60 rfl, @callV_specT E17 60 s60 rfl, @stepV_spec E17 60 s60 rfl, @effV_spec E17 60 s60 rfl, s60, encR, encC, callSpec, predO, hr, openPV, hk, hq', hqq]
      refine ev_range_on (fun _ => E17_ti) rfl rfl rfl rfl rfl (x := ⟨⟨g, l⟩, ents ⟨g, l⟩⟩) (k := 0) (show l.length < 4611686018427387904 by omega) (.inl rfl) 26 17900026 rfl rfl rfl
        (fun i H => H (([], 17000002) : Key) = some (.cells [.int .i64 n] 1 true) ∧ H (([], 17001006) : Key) = some (.cells [.int .i64 g, .sl (l.map encI) false, .mp true 2 (ents ⟨g, l⟩)] 1 false) ∧ ∃ p, H (([], 17004000) : Key) = some (.cells [p] 1 false) ∧ Own H (fun K => K = ([106004015, 17900026], 17009006)) p 2 (ml (meansL ⟨g, l⟩ d n i)))
        ?_ ?_ 11 ?_ ?_ ?_ ?_
      · rintro i H H' ⟨h1, h2, p, h3, h4⟩ hH
        refine ⟨(hH _ (by simp) (by simp)).trans h1, (hH _ (by simp) (by simp)).trans h2, p, (hH _ (by simp) (by simp)).trans h3, h4.frame fun K hK => ?_⟩
        subst hK
        exact hH _ (by simp) (by simp)
      · refine ⟨?_, ?_, _, ?_, .inl ⟨?_, rfl⟩⟩
        · simp only [go_sem, Nat.reduceAdd, Nat.reduceSub, Nat.reduceMul, Nat.reduceEqDiff, Nat.reduceLT, Nat.reduceLeDiff, Nat.reduceBEq, Nat.reduceBNe, Int.reduceToNat, Int.reduceLE, Int.reduceLT, Int.reduceNe, Int.reduceNeg, reduceCtorEq, Int.reduceBEq, Int.reduceBNe]
        · simp only [go_sem, Nat.reduceAdd, Nat.reduceSub, Nat.reduceMul, Nat.reduceEqDiff, Nat.reduceLT, Nat.reduceLeDiff, Nat.reduceBEq, Nat.reduceBNe, Int.reduceToNat, Int.reduceLE, Int.reduceLT, Int.reduceNe, Int.reduceNeg, reduceCtorEq, Int.reduceBEq, Int.reduceBNe]
        · simp only [go_sem, Nat.reduceAdd, Nat.reduceSub, Nat.reduceMul, Nat.reduceEqDiff, Nat.reduceLT, Nat.reduceLeDiff, Nat.reduceBEq, Nat.reduceBNe, Int.reduceToNat, Int.reduceLE, Int.reduceLT, Int.reduceNe, Int.reduceNeg, reduceCtorEq, Int.reduceBEq, Int.reduceBNe]
        · rfl
      · intro i H2 Kc h
        simp only [go_sem, Nat.reduceAdd, Nat.reduceSub, Nat.reduceMul, Nat.reduceEqDiff, Nat.reduceLT, Nat.reduceLeDiff, Nat.reduceBEq, Nat.reduceBNe, Int.reduceToNat, Int.reduceLE, Int.reduceLT, Int.reduceNe, Int.reduceNeg, reduceCtorEq, Int.reduceBEq, Int.reduceBNe]
        exact h
      · rintro i H1 K hi ⟨h1, h2, p, h3, h4⟩ ho hK
        have hi' : i < l.length := hi
        have hsu := meansL_succ ⟨g, l⟩ d n i
        have hln := meansL_len ⟨g, l⟩ d n i
        have hmo : meanOf ⟨g, l⟩ d n i = (entAt ⟨g, l⟩ i n).map fun e => ((i : Int), e.good) := if_pos ho
        rw [hmo] at hsu
        simp only [go_sem, Nat.reduceAdd, Nat.reduceSub, Nat.reduceMul, Nat.reduceEqDiff, Nat.reduceLT, Nat.reduceLeDiff, Nat.reduceBEq, Nat.reduceBNe, Int.reduceToNat, Int.reduceLE, Int.reduceLT, Int.reduceNe, Int.reduceNeg, reduceCtorEq, Int.reduceBEq, Int.reduceBNe, h1, h2, look, keyOf, ints]
        rw [hg i n]
        cases ha : entAt ⟨g, l⟩ i n with
        | none =>
          rw [ha] at hsu
          simp only [go_sem, Nat.reduceAdd, Nat.reduceSub, Nat.reduceMul, Nat.reduceEqDiff, Nat.reduceLT, Nat.reduceLeDiff, Nat.reduceBEq, Nat.reduceBNe, Int.reduceToNat, Int.reduceLE, Int.reduceLT, Int.reduceNe, Int.reduceNeg, reduceCtorEq, Int.reduceBEq, Int.reduceBNe, entPV, Option.isSome]
          refine hK _ _ ?_ ⟨?_, ?_, p, ?_, ?_⟩
          · simp only [go_sem, Nat.reduceAdd, Nat.reduceSub, Nat.reduceMul, Nat.reduceEqDiff, Nat.reduceLT, Nat.reduceLeDiff, Nat.reduceBEq, Nat.reduceBNe, Int.reduceToNat, Int.reduceLE, Int.reduceLT, Int.reduceNe, Int.reduceNeg, reduceCtorEq, Int.reduceBEq, Int.reduceBNe]
          · simp only [go_sem, Nat.reduceAdd, Nat.reduceSub, Nat.reduceMul, Nat.reduceEqDiff, Nat.reduceLT, Nat.reduceLeDiff, Nat.reduceBEq, Nat.reduceBNe, Int.reduceToNat, Int.reduceLE, Int.reduceLT, Int.reduceNe, Int.reduceNeg, reduceCtorEq, Int.reduceBEq, Int.reduceBNe, h1]
          · simp only [go_sem, Nat.reduceAdd, Nat.reduceSub, Nat.reduceMul, Nat.reduceEqDiff, Nat.reduceLT, Nat.reduceLeDiff, Nat.reduceBEq, Nat.reduceBNe, Int.reduceToNat, Int.reduceLE, Int.reduceLT, Int.reduceNe, Int.reduceNeg, reduceCtorEq, Int.reduceBEq, Int.reduceBNe, h2]
          · simp only [go_sem, Nat.reduceAdd, Nat.reduceSub, Nat.reduceMul, Nat.reduceEqDiff, Nat.reduceLT, Nat.reduceLeDiff, Nat.reduceBEq, Nat.reduceBNe, Int.reduceToNat, Int.reduceLE, Int.reduceLT, Int.reduceNe, Int.reduceNeg, reduceCtorEq, Int.reduceBEq, Int.reduceBNe, h3]
          · rw [hsu]
            refine Own.frame (H := H1) (by simpa using h4) fun K hK => ?_
            subst hK
            simp only [go_sem, Nat.reduceAdd, Nat.reduceSub, Nat.reduceMul, Nat.reduceEqDiff, Nat.reduceLT, Nat.reduceLeDiff, Nat.reduceBEq, Nat.reduceBNe, Int.reduceToNat, Int.reduceLE, Int.reduceLT, Int.reduceNe, Int.reduceNeg, reduceCtorEq, Int.reduceBEq, Int.reduceBNe]
        | some e =>
          rw [ha] at hsu
          have hil : ml (meansL ⟨g, l⟩ d n (i + 1)) = ml (meansL ⟨g, l⟩ d n i) ++ [[.int .i64 i, .int .i64 e.good]] := by rw [hsu, ml_append]; rfl
          rcases h4 with ⟨e1, rfl⟩ | ⟨K2, v, rfl, rfl, h5⟩
          · simp only [go_sem, Nat.reduceAdd, Nat.reduceSub, Nat.reduceMul, Nat.reduceEqDiff, Nat.reduceLT, Nat.reduceLeDiff, Nat.reduceBEq, Nat.reduceBNe, Int.reduceToNat, Int.reduceLE, Int.reduceLT, Int.reduceNe, Int.reduceNeg, reduceCtorEq, Int.reduceBEq, Int.reduceBNe, h1, h2, h3, entPV, Option.isSome, encE, app, rowsOf, List.not_mem_nil, cells1, cellP, List.mem_singleton, forall_eq]
            refine hK _ _ ?_ ⟨?_, ?_, .sref ([106004015, 17900026], 17009006) (verOf H1 ([106004015, 17900026], 17009006) + 1) 2 1 false, ?_, .inr ⟨([106004015, 17900026], 17009006), verOf H1 ([106004015, 17900026], 17009006) + 1, rfl, ?_, ?_⟩⟩
            · simp only [go_sem, Nat.reduceAdd, Nat.reduceSub, Nat.reduceMul, Nat.reduceEqDiff, Nat.reduceLT, Nat.reduceLeDiff, Nat.reduceBEq, Nat.reduceBNe, Int.reduceToNat, Int.reduceLE, Int.reduceLT, Int.reduceNe, Int.reduceNeg, reduceCtorEq, Int.reduceBEq, Int.reduceBNe]
            · simp only [go_sem, Nat.reduceAdd, Nat.reduceSub, Nat.reduceMul, Nat.reduceEqDiff, Nat.reduceLT, Nat.reduceLeDiff, Nat.reduceBEq, Nat.reduceBNe, Int.reduceToNat, Int.reduceLE, Int.reduceLT, Int.reduceNe, Int.reduceNeg, reduceCtorEq, Int.reduceBEq, Int.reduceBNe, h1]
            · simp only [go_sem, Nat.reduceAdd, Nat.reduceSub, Nat.reduceMul, Nat.reduceEqDiff, Nat.reduceLT, Nat.reduceLeDiff, Nat.reduceBEq, Nat.reduceBNe, Int.reduceToNat, Int.reduceLE, Int.reduceLT, Int.reduceNe, Int.reduceNeg, reduceCtorEq, Int.reduceBEq, Int.reduceBNe, h2]
            · simp only [go_sem, Nat.reduceAdd, Nat.reduceSub, Nat.reduceMul, Nat.reduceEqDiff, Nat.reduceLT, Nat.reduceLeDiff, Nat.reduceBEq, Nat.reduceBNe, Int.reduceToNat, Int.reduceLE, Int.reduceLT, Int.reduceNe, Int.reduceNeg, reduceCtorEq, Int.reduceBEq, Int.reduceBNe]
            · rw [hil, e1]; rfl
            · rw [hil, e1]; simp only [go_sem, Nat.reduceAdd, Nat.reduceSub, Nat.reduceMul, Nat.reduceEqDiff, Nat.reduceLT, Nat.reduceLeDiff, Nat.reduceBEq, Nat.reduceBNe, Int.reduceToNat, Int.reduceLE, Int.reduceLT, Int.reduceNe, Int.reduceNeg, reduceCtorEq, Int.reduceBEq, Int.reduceBNe]
          · simp only [go_sem, Nat.reduceAdd, Nat.reduceSub, Nat.reduceMul, Nat.reduceEqDiff, Nat.reduceLT, Nat.reduceLeDiff, Nat.reduceBEq, Nat.reduceBNe, Int.reduceToNat, Int.reduceLE, Int.reduceLT, Int.reduceNe, Int.reduceNeg, reduceCtorEq, Int.reduceBEq, Int.reduceBNe, h1, h2, h3, h5, entPV, Option.isSome, encE, app, rowsOf, List.not_mem_nil, cells1, cellP, List.mem_singleton, forall_eq, ml_length]
            refine ⟨by omega, hK _ _ ?_ ⟨?_, ?_, .sref ([106004015, 17900026], 17009006) (v + 1) 2 ((meansL ⟨g, l⟩ d n i).length + 1) false, ?_, .inr ⟨([106004015, 17900026], 17009006), v + 1, rfl, ?_, ?_⟩⟩⟩
            · simp only [go_sem, Nat.reduceAdd, Nat.reduceSub, Nat.reduceMul, Nat.reduceEqDiff, Nat.reduceLT, Nat.reduceLeDiff, Nat.reduceBEq, Nat.reduceBNe, Int.reduceToNat, Int.reduceLE, Int.reduceLT, Int.reduceNe, Int.reduceNeg, reduceCtorEq, Int.reduceBEq, Int.reduceBNe]
            · simp only [go_sem, Nat.reduceAdd, Nat.reduceSub, Nat.reduceMul, Nat.reduceEqDiff, Nat.reduceLT, Nat.reduceLeDiff, Nat.reduceBEq, Nat.reduceBNe, Int.reduceToNat, Int.reduceLE, Int.reduceLT, Int.reduceNe, Int.reduceNeg, reduceCtorEq, Int.reduceBEq, Int.reduceBNe, h1]
            · simp only [go_sem, Nat.reduceAdd, Nat.reduceSub, Nat.reduceMul, Nat.reduceEqDiff, Nat.reduceLT, Nat.reduceLeDiff, Nat.reduceBEq, Nat.reduceBNe, Int.reduceToNat, Int.reduceLE, Int.reduceLT, Int.reduceNe, Int.reduceNeg, reduceCtorEq, Int.reduceBEq, Int.reduceBNe, h2]
            · simp only [go_sem, Nat.reduceAdd, Nat.reduceSub, Nat.reduceMul, Nat.reduceEqDiff, Nat.reduceLT, Nat.reduceLeDiff, Nat.reduceBEq, Nat.reduceBNe, Int.reduceToNat, Int.reduceLE, Int.reduceLT, Int.reduceNe, Int.reduceNeg, reduceCtorEq, Int.reduceBEq, Int.reduceBNe]
            · rw [hil]; simp [ml_length]
            · rw [hil]; simp only [go_sem, Nat.reduceAdd, Nat.reduceSub, Nat.reduceMul, Nat.reduceEqDiff, Nat.reduceLT, Nat.reduceLeDiff, Nat.reduceBEq, Nat.reduceBNe, Int.reduceToNat, Int.reduceLE, Int.reduceLT, Int.reduceNe, Int.reduceNeg, reduceCtorEq, Int.reduceBEq, Int.reduceBNe]
      · rintro i H hi ⟨h1, h2, p, h3, h4⟩ ho
        refine ⟨h1, h2, p, h3, ?_⟩
        have hmo : meanOf ⟨g, l⟩ d n i = none := if_neg (by rw [ho]; simp)
        rw [meansL_succ, hmo]
        simpa using h4
      · rintro H ⟨h1, h2, p, h3, h4⟩
        simp only at h4
        generalize meansL ⟨g, l⟩ d n l.length = acc at *
        rcases h4 with ⟨e1, rfl⟩ | ⟨K2, v, rfl, rfl, h5⟩
        · have e0 : acc = [] := by cases acc with
            | nil => rfl
            | cons x l => simp [ml] at e1
          subst e0
          simp only [go_sem, Nat.reduceAdd, Nat.reduceSub, Nat.reduceMul, Nat.reduceEqDiff, Nat.reduceLT, Nat.reduceLeDiff, Nat.reduceBEq, Nat.reduceBNe, Int.reduceToNat, Int.reduceLE, Int.reduceLT, Int.reduceNe, Int.reduceNeg, reduceCtorEq, Int.reduceBEq, Int.reduceBNe, h1, h2, h3, ml_nil]
        · simp only [go_sem, Nat.reduceAdd, Nat.reduceSub, Nat.reduceMul, Nat.reduceEqDiff, Nat.reduceLT, Nat.reduceLeDiff, Nat.reduceBEq, Nat.reduceBNe, Int.reduceToNat, Int.reduceLE, Int.reduceLT, Int.reduceNe, Int.reduceNeg, reduceCtorEq, Int.reduceBEq, Int.reduceBNe, h1, h2, h3, h5, ml_length]
def s30 : Spec := spec3 (fun (r : Rack) (_ : Int × Int) (_ : Item) => okRack r) (fun r d t => .tup [.sl (il (pricesM r d t).1) true, .int .i64 (pricesM r d t).2])
theorem s30_ok : SpecOK Tryd.prog glB 30 s30 := spec3_ok E17_ok Tryd.func30 rfl (by kernel_rfl) fun r d t h => Prices_fn r h d t
def s17 : Spec := spec3 (fun (r : Rack) (_ : Int × Int) (_ : Int) => okRack r) (fun r d n => .tup [.sl (ml (meansM r d n).1) true, .int .i64 (meansM r d n).2])
theorem s17_ok : SpecOK Tryd.prog glB 17 s17 := spec3_ok E17_ok Tryd.func17 rfl (by kernel_rfl) fun r d n h => Means_fn r h d n
end Wb
/- Twins. -/
namespace Wb
open Go Go.Proofs Enc Row
set_option linter.unusedSimpArgs false
set_option linter.unusedVariables false
set_option maxRecDepth 20000
set_option maxHeartbeats 4000000
-- f24 Twins
structure Tw where
  f : Int → Option Int
  t : Int → Bool
def twBad (f : Int → Option Int) (e : Entry) : Bool := match f e.number with | some g => g != e.good | none => false
def twStep (s : Tw) (e : Entry) : Tw := ⟨fun m => if m = e.number then some e.good else s.f m, fun m => if m = e.number then s.t m || twBad s.f e else s.t m⟩
def twAt (on : Int) (l : List Issue) : Tw := ((l.filter (ovl 0 on on)).flatMap (·.entries)).foldl twStep ⟨fun _ => none, fun _ => false⟩
theorem twAt_yes (on : Int) {l : List Issue} {i : Nat} (h : i < l.length) (ho : ovl 0 on on (l.getD i default) = true) : twAt on (l.take (i + 1)) = (l.getD i default).entries.foldl twStep (twAt on (l.take i)) := by
  have e : l.getD i default = l[i] := by simp [h]
  rw [e] at ho ⊢
  unfold twAt
  rw [List.take_succ_eq_append_getElem h, List.filter_append, List.flatMap_append, List.foldl_append]
  simp only [List.filter_cons, ho, if_true, List.filter_nil, List.flatMap_cons, List.flatMap_nil, List.append_nil]
theorem twAt_no (on : Int) {l : List Issue} {i : Nat} (h : i < l.length) (ho : ovl 0 on on (l.getD i default) = false) : twAt on (l.take (i + 1)) = twAt on (l.take i) := by
  have e : l.getD i default = l[i] := by simp [h]
  rw [e] at ho
  unfold twAt
  rw [List.take_succ_eq_append_getElem h, List.filter_append]
  simp [List.filter_cons, ho]
theorem tw_take (s : Tw) {l : List Entry} {j : Nat} (h : j < l.length) : (l.take (j + 1)).foldl twStep s = twStep ((l.take j).foldl twStep s) (l.getD j default) := by
  have e : l.getD j default = l[j] := by simp [h]
  rw [e, List.take_succ_eq_append_getElem h, List.foldl_append]; rfl
def GM (es : Ents) (f : Int → Option Int) : Prop := ∀ n, mget es [n] = (f n).map fun g => .int .i64 g
def TM (es : Ents) (t : Int → Bool) : Prop := ∀ n, mget es [n] = if t n then some (.bool true) else none
def twL (t : Int → Bool) (k : Nat) : List Int := (List.range k).filterMap fun (i : Nat) => if t i then some (i : Int) else none
theorem twL_len (t : Int → Bool) (k : Nat) : (twL t k).length ≤ k := by
  unfold twL; exact Nat.le_trans (List.length_filterMap_le _ _) (by simp)
theorem twL_succ (t : Int → Bool) (k : Nat) : twL t (k + 1) = twL t k ++ (if t k then [(k : Int)] else []) := by
  unfold twL
  rw [List.range_succ, List.filterMap_append]
  simp only [List.filterMap_cons, List.filterMap_nil]
  cases h : t k <;> simp
def qTwins (on : Int) (r : Rack) : Bool := isDayB on
def twinsM (r : Rack) (on : Int) : List Int × Int :=
  if rackOk r then (if isDayB on then (twL (twAt on r.issues).t 10000, 0) else ([], 11)) else ([], 10)
theorem GM.put {es : Ents} {s : Tw} (h : GM es s.f) (e : Entry) : GM (mset es [e.number] (.int .i64 e.good)) (twStep s e).f := fun n => by
  rw [mget_mset, h n]
  simp only [twStep, List.cons.injEq, and_true]
  by_cases hn : n = e.number
  · rw [if_pos hn.symm, if_pos hn]; rfl
  · rw [if_neg (Ne.symm hn), if_neg hn]
theorem TM.put {es : Ents} {s : Tw} (h : TM es s.t) (e : Entry) (hb : twBad s.f e = true) : TM (mset es [e.number] (.bool true)) (twStep s e).t := fun n => by
  rw [mget_mset, h n]
  simp only [twStep, List.cons.injEq, and_true]
  by_cases hn : n = e.number
  · simp [hn, hb]
  · simp [hn, Ne.symm hn]
theorem TM.keep {es : Ents} {s : Tw} (h : TM es s.t) (e : Entry) (hb : twBad s.f e = false) : TM es (twStep s e).t := fun n => by
  rw [h n]
  simp only [twStep]
  by_cases hn : n = e.number
  · simp [hn, hb]
  · simp [hn]
theorem GM.found {es : Ents} {f : Int → Option Int} (h : GM es f) (n : Int) : Wb.found { kind := .scal, size := 1, bytes := 8, zero := [.int .i64 0] } true (mget es [n]) = .tup [.int .i64 ((f n).getD 0), .bool (f n).isSome] := by
  rw [h n]; cases f n <;> rfl
theorem TM.found {es : Ents} {t : Int → Bool} (h : TM es t) (n : Int) : Wb.found { kind := .boolk, size := 1, bytes := 1, zero := [.bool false] } false (mget es [n]) = .bool (t n) := by
  rw [h n]; cases t n <;> rfl
theorem Twins_fn (r : Rack) (hr : okRack r) (on : Int) : Fn E17 2 24 Tryd.f24 (Tryd.f24.body.getD .skip) [.agg (encR r), .int .i64 on] (.tup [.sl (il (twinsM r on).1) true, .int .i64 (twinsM r on).2]) := by
  obtain ⟨g, l⟩ := r
  unfold Fn Tryd.f24 twinsM
  cases hk : rackOk ⟨g, l⟩ with
  | false => simp only [go_sem, Nat.reduceAdd, Nat.reduceSub, Nat.reduceMul, Nat.reduceEqDiff, Nat.reduceLT, Nat.reduceLeDiff, Nat.reduceBEq, Nat.reduceBNe, Int.reduceToNat, Int.reduceLE, Int.reduceLT, Int.reduceNe, Int.reduceNeg, reduceCtorEq, Int.reduceBEq, Int.reduceBNe, @callV_spec E17 56 s56 rfl, @callV_specT E17 56 s56 rfl, @stepV_spec E17 56 s56 rfl, @effV_spec E17 56 s56 rfl, s56, encR, callSpec, predO, hr, openPV, hk, zeroC, il_nil']
  | true =>
    cases hqq : isDayB on with
    | false => simp only [go_sem, Nat.reduceAdd, Nat.reduceSub, Nat.reduceMul, Nat.reduceEqDiff, Nat.reduceLT, Nat.reduceLeDiff, Nat.reduceBEq, Nat.reduceBNe, Int.reduceToNat, Int.reduceLE, Int.reduceLT, Int.reduceNe, Int.reduceNeg, reduceCtorEq, Int.reduceBEq, Int.reduceBNe, @callV_spec E17 56 s56 rfl, @callV_specT E17 56 s56 rfl, @stepV_spec E17 56 s56 rfl, @effV_spec E17 56 s56 rfl, s56, encR, callSpec, predO, hr, openPV, hk, hqq, zeroC, il_nil']
    | true =>
      have hG := rack_good hk
      have hs := hG.sane
      have hi4 : l.length ≤ 4 := hs.1
      have h24 : ∀ y ∈ l, y.entries.length ≤ 24 := hs.2.1
      simp only [go_sem, Nat.reduceAdd, Nat.reduceSub, Nat.reduceMul, Nat.reduceEqDiff, Nat.reduceLT, Nat.reduceLeDiff, Nat.reduceBEq, Nat.reduceBNe, Int.reduceToNat, Int.reduceLE, Int.reduceLT, Int.reduceNe, Int.reduceNeg, reduceCtorEq, Int.reduceBEq, Int.reduceBNe, @callV_spec E17 56 s56 rfl, @callV_specT E17 56 s56 rfl, @stepV_spec E17 56 s56 rfl, @effV_spec E17 56 s56 rfl, s56, @callV_spec E17 60 s60 rfl, @callV_specT E17 60 s60 rfl, @stepV_spec E17 60 s60 rfl, @effV_spec E17 60 s60 rfl, s60, @callV_spec E17 76 sday rfl, @callV_specT E17 76 sday rfl, @stepV_spec E17 76 sday rfl, @effV_spec E17 76 sday rfl, sday, encR, encC, callSpec, predO, hr, openPV, hk, hqq]
      refine ev_range_on (fun _ => E17_ti) rfl rfl rfl rfl rfl (x := ⟨⟨g, l⟩, ents ⟨g, l⟩⟩) (k := 0) (show l.length < 4611686018427387904 by omega) (.inl rfl) 32 24900032 rfl rfl rfl
        (fun i H => H (([], 24001006) : Key) = some (.cells [.int .i64 g, .sl (l.map encI) false, .mp true 2 (ents ⟨g, l⟩)] 1 false) ∧ H (([], 24004002) : Key) = some (.cells [.mref ([], 24004000) 1] 1 false) ∧ H (([], 24004003) : Key) = some (.cells [.mref ([], 24004001) 1] 1 false) ∧
          (∃ es, H (([], 24004000) : Key) = some (.map false 1 es 1 false) ∧ GM es (twAt on (l.take i)).f) ∧ (∃ es, H (([], 24004001) : Key) = some (.map false 1 es 1 false) ∧ TM es (twAt on (l.take i)).t))
        ?_ ?_ 10 ?_ ?_ ?_ ?_
      · rintro i H H' ⟨h1, h2, h3, ⟨ge, g1, m1⟩, ⟨te, g2, m2⟩⟩ hH
        exact ⟨(hH _ (by simp) (by simp)).trans h1, (hH _ (by simp) (by simp)).trans h2, (hH _ (by simp) (by simp)).trans h3, ⟨ge, (hH _ (by simp) (by simp)).trans g1, m1⟩, ⟨te, (hH _ (by simp) (by simp)).trans g2, m2⟩⟩
      · refine ⟨?_, ?_, ?_, ⟨[], ?_, fun n => rfl⟩, ⟨[], ?_, fun n => rfl⟩⟩
        · simp only [go_sem, Nat.reduceAdd, Nat.reduceSub, Nat.reduceMul, Nat.reduceEqDiff, Nat.reduceLT, Nat.reduceLeDiff, Nat.reduceBEq, Nat.reduceBNe, Int.reduceToNat, Int.reduceLE, Int.reduceLT, Int.reduceNe, Int.reduceNeg, reduceCtorEq, Int.reduceBEq, Int.reduceBNe]
        · simp only [go_sem, Nat.reduceAdd, Nat.reduceSub, Nat.reduceMul, Nat.reduceEqDiff, Nat.reduceLT, Nat.reduceLeDiff, Nat.reduceBEq, Nat.reduceBNe, Int.reduceToNat, Int.reduceLE, Int.reduceLT, Int.reduceNe, Int.reduceNeg, reduceCtorEq, Int.reduceBEq, Int.reduceBNe]
        · simp only [go_sem, Nat.reduceAdd, Nat.reduceSub, Nat.reduceMul, Nat.reduceEqDiff, Nat.reduceLT, Nat.reduceLeDiff, Nat.reduceBEq, Nat.reduceBNe, Int.reduceToNat, Int.reduceLE, Int.reduceLT, Int.reduceNe, Int.reduceNeg, reduceCtorEq, Int.reduceBEq, Int.reduceBNe]
        · simp only [go_sem, Nat.reduceAdd, Nat.reduceSub, Nat.reduceMul, Nat.reduceEqDiff, Nat.reduceLT, Nat.reduceLeDiff, Nat.reduceBEq, Nat.reduceBNe, Int.reduceToNat, Int.reduceLE, Int.reduceLT, Int.reduceNe, Int.reduceNeg, reduceCtorEq, Int.reduceBEq, Int.reduceBNe]
        · simp only [go_sem, Nat.reduceAdd, Nat.reduceSub, Nat.reduceMul, Nat.reduceEqDiff, Nat.reduceLT, Nat.reduceLeDiff, Nat.reduceBEq, Nat.reduceBNe, Int.reduceToNat, Int.reduceLE, Int.reduceLT, Int.reduceNe, Int.reduceNeg, reduceCtorEq, Int.reduceBEq, Int.reduceBNe]
      · intro i H2 Kc h
        simp only [go_sem, Nat.reduceAdd, Nat.reduceSub, Nat.reduceMul, Nat.reduceEqDiff, Nat.reduceLT, Nat.reduceLeDiff, Nat.reduceBEq, Nat.reduceBNe, Int.reduceToNat, Int.reduceLE, Int.reduceLT, Int.reduceNe, Int.reduceNeg, reduceCtorEq, Int.reduceBEq, Int.reduceBNe]
        exact h
      · rintro i H1 K hi ⟨h1, h2, h3, ⟨ge, g1, m1⟩, ⟨te, g2, m2⟩⟩ ho hK
        have hi' : i < l.length := hi
        have htk := twAt_yes on hi' ho
        have hy24 : (l.getD i default).entries.length ≤ 24 := h24 _ (by simp [List.getD_eq_getElem?_getD, hi'])
        generalize hyy : l.getD i default = y at *
        generalize hsA : twAt on (l.take i) = s at *
        simp only [go_sem, Nat.reduceAdd, Nat.reduceSub, Nat.reduceMul, Nat.reduceEqDiff, Nat.reduceLT, Nat.reduceLeDiff, Nat.reduceBEq, Nat.reduceBNe, Int.reduceToNat, Int.reduceLE, Int.reduceLT, Int.reduceNe, Int.reduceNeg, reduceCtorEq, Int.reduceBEq, Int.reduceBNe, h1, h2, Int.ofNat_lt, hi', Int.natCast_nonneg, getD_mapN encI l i _ hi', hyy, encI]
        refine ev_loopS [8, 9, 39, 40] (fun j : Nat => [(41, .int .i64 j)])
          (fun j H => j ≤ y.entries.length ∧ H ([], 24900032) = H1 ([], 24900032) ∧ H (([], 24001006) : Key) = some (.cells [.int .i64 g, .sl (l.map encI) false, .mp true 2 (ents ⟨g, l⟩)] 1 false) ∧ H (([], 24004002) : Key) = some (.cells [.mref ([], 24004000) 1] 1 false) ∧ H (([], 24004003) : Key) = some (.cells [.mref ([], 24004001) 1] 1 false) ∧
            (∃ es, H (([], 24004000) : Key) = some (.map false 1 es 1 false) ∧ GM es ((y.entries.take j).foldl twStep s).f) ∧ (∃ es, H (([], 24004001) : Key) = some (.map false 1 es 1 false) ∧ TM es ((y.entries.take j).foldl twStep s).t))
          (fun j => y.entries.length - j) 0 ?_ ⟨Nat.zero_le _, rfl, h1, h2, h3, ⟨ge, g1, m1⟩, ⟨te, g2, m2⟩⟩ ?_
        · simp only [go_sem, Nat.reduceAdd, Nat.reduceSub, Nat.reduceMul, Nat.reduceEqDiff, Nat.reduceLT, Nat.reduceLeDiff, Nat.reduceBEq, Nat.reduceBNe, Int.reduceToNat, Int.reduceLE, Int.reduceLT, Int.reduceNe, Int.reduceNeg, reduceCtorEq, Int.reduceBEq, Int.reduceBNe]
        · simp only [go_sem, Nat.reduceAdd, Nat.reduceSub, Nat.reduceMul, Nat.reduceEqDiff, Nat.reduceLT, Nat.reduceLeDiff, Nat.reduceBEq, Nat.reduceBNe, Int.reduceToNat, Int.reduceLE, Int.reduceLT, Int.reduceNe, Int.reduceNeg, reduceCtorEq, Int.reduceBEq, Int.reduceBNe]
          intro K2 j H2 ⟨hj, k0, k1, k2, k3, ⟨ge, g1, m1⟩, ⟨te, g2, m2⟩⟩ hK2 hE2
          rw [condK_bool]
          refine ⟨fun h => ?_, fun h => ?_⟩
          · have hj' : j < y.entries.length := by simpa using h
            have hjj : (j : Int) < (y.entries.length : Int) := by omega
            have w2 : IntKind.i64.wrap ((j : Int) + 1) = (j : Int) + 1 := wrap_id (by omega)
            have htw := tw_take s hj'
            generalize hee : y.entries.getD j default = e at *
            generalize (y.entries.take j).foldl twStep s = s1 at *
            simp only [go_sem, Nat.reduceAdd, Nat.reduceSub, Nat.reduceMul, Nat.reduceEqDiff, Nat.reduceLT, Nat.reduceLeDiff, Nat.reduceBEq, Nat.reduceBNe, Int.reduceToNat, Int.reduceLE, Int.reduceLT, Int.reduceNe, Int.reduceNeg, reduceCtorEq, Int.reduceBEq, Int.reduceBNe, k1, k2, k3, g1, g2, hjj, getD_mapN encE y.entries j _ hj', hee, encE, look, mapPut, keyOf, ints, m1.found e.number]
            have hb : ((s1.f e.number).isSome && ((s1.f e.number).getD 0 != e.good)) = twBad s1.f e := by
              unfold twBad; cases s1.f e.number <;> simp
            rw [hb, condK_bool]
            refine ⟨fun hc => ?_, fun hc => ?_⟩
            · simp only [go_sem, Nat.reduceAdd, Nat.reduceSub, Nat.reduceMul, Nat.reduceEqDiff, Nat.reduceLT, Nat.reduceLeDiff, Nat.reduceBEq, Nat.reduceBNe, Int.reduceToNat, Int.reduceLE, Int.reduceLT, Int.reduceNe, Int.reduceNeg, reduceCtorEq, Int.reduceBEq, Int.reduceBNe, k1, k2, k3, g1, g2, encE, mapPut, keyOf, ints]
              refine hK2 (j + 1) _ _ ?_ ⟨hj', ?_, ?_, ?_, ?_, ⟨mset ge [e.number] (.int .i64 e.good), ?_, ?_⟩, ⟨mset te [e.number] (.bool true), ?_, ?_⟩⟩ (by omega)
              · simp only [go_sem, Nat.reduceAdd, Nat.reduceSub, Nat.reduceMul, Nat.reduceEqDiff, Nat.reduceLT, Nat.reduceLeDiff, Nat.reduceBEq, Nat.reduceBNe, Int.reduceToNat, Int.reduceLE, Int.reduceLT, Int.reduceNe, Int.reduceNeg, reduceCtorEq, Int.reduceBEq, Int.reduceBNe, w2, Int.natCast_add, Int.natCast_one]
              · simp only [go_sem, Nat.reduceAdd, Nat.reduceSub, Nat.reduceMul, Nat.reduceEqDiff, Nat.reduceLT, Nat.reduceLeDiff, Nat.reduceBEq, Nat.reduceBNe, Int.reduceToNat, Int.reduceLE, Int.reduceLT, Int.reduceNe, Int.reduceNeg, reduceCtorEq, Int.reduceBEq, Int.reduceBNe, k0]
              · simp only [go_sem, Nat.reduceAdd, Nat.reduceSub, Nat.reduceMul, Nat.reduceEqDiff, Nat.reduceLT, Nat.reduceLeDiff, Nat.reduceBEq, Nat.reduceBNe, Int.reduceToNat, Int.reduceLE, Int.reduceLT, Int.reduceNe, Int.reduceNeg, reduceCtorEq, Int.reduceBEq, Int.reduceBNe, k1]
              · simp only [go_sem, Nat.reduceAdd, Nat.reduceSub, Nat.reduceMul, Nat.reduceEqDiff, Nat.reduceLT, Nat.reduceLeDiff, Nat.reduceBEq, Nat.reduceBNe, Int.reduceToNat, Int.reduceLE, Int.reduceLT, Int.reduceNe, Int.reduceNeg, reduceCtorEq, Int.reduceBEq, Int.reduceBNe, k2]
              · simp only [go_sem, Nat.reduceAdd, Nat.reduceSub, Nat.reduceMul, Nat.reduceEqDiff, Nat.reduceLT, Nat.reduceLeDiff, Nat.reduceBEq, Nat.reduceBNe, Int.reduceToNat, Int.reduceLE, Int.reduceLT, Int.reduceNe, Int.reduceNeg, reduceCtorEq, Int.reduceBEq, Int.reduceBNe, k3]
              · simp only [go_sem, Nat.reduceAdd, Nat.reduceSub, Nat.reduceMul, Nat.reduceEqDiff, Nat.reduceLT, Nat.reduceLeDiff, Nat.reduceBEq, Nat.reduceBNe, Int.reduceToNat, Int.reduceLE, Int.reduceLT, Int.reduceNe, Int.reduceNeg, reduceCtorEq, Int.reduceBEq, Int.reduceBNe]
              · rw [htw]; exact m1.put e
              · simp only [go_sem, Nat.reduceAdd, Nat.reduceSub, Nat.reduceMul, Nat.reduceEqDiff, Nat.reduceLT, Nat.reduceLeDiff, Nat.reduceBEq, Nat.reduceBNe, Int.reduceToNat, Int.reduceLE, Int.reduceLT, Int.reduceNe, Int.reduceNeg, reduceCtorEq, Int.reduceBEq, Int.reduceBNe]
              · rw [htw]; exact m2.put e hc
            · simp only [go_sem, Nat.reduceAdd, Nat.reduceSub, Nat.reduceMul, Nat.reduceEqDiff, Nat.reduceLT, Nat.reduceLeDiff, Nat.reduceBEq, Nat.reduceBNe, Int.reduceToNat, Int.reduceLE, Int.reduceLT, Int.reduceNe, Int.reduceNeg, reduceCtorEq, Int.reduceBEq, Int.reduceBNe, k1, k2, k3, g1, g2, encE, mapPut, keyOf, ints]
              refine hK2 (j + 1) _ _ ?_ ⟨hj', ?_, ?_, ?_, ?_, ⟨mset ge [e.number] (.int .i64 e.good), ?_, ?_⟩, ⟨te, ?_, ?_⟩⟩ (by omega)
              · simp only [go_sem, Nat.reduceAdd, Nat.reduceSub, Nat.reduceMul, Nat.reduceEqDiff, Nat.reduceLT, Nat.reduceLeDiff, Nat.reduceBEq, Nat.reduceBNe, Int.reduceToNat, Int.reduceLE, Int.reduceLT, Int.reduceNe, Int.reduceNeg, reduceCtorEq, Int.reduceBEq, Int.reduceBNe, w2, Int.natCast_add, Int.natCast_one]
              · simp only [go_sem, Nat.reduceAdd, Nat.reduceSub, Nat.reduceMul, Nat.reduceEqDiff, Nat.reduceLT, Nat.reduceLeDiff, Nat.reduceBEq, Nat.reduceBNe, Int.reduceToNat, Int.reduceLE, Int.reduceLT, Int.reduceNe, Int.reduceNeg, reduceCtorEq, Int.reduceBEq, Int.reduceBNe, k0]
              · simp only [go_sem, Nat.reduceAdd, Nat.reduceSub, Nat.reduceMul, Nat.reduceEqDiff, Nat.reduceLT, Nat.reduceLeDiff, Nat.reduceBEq, Nat.reduceBNe, Int.reduceToNat, Int.reduceLE, Int.reduceLT, Int.reduceNe, Int.reduceNeg, reduceCtorEq, Int.reduceBEq, Int.reduceBNe, k1]
              · simp only [go_sem, Nat.reduceAdd, Nat.reduceSub, Nat.reduceMul, Nat.reduceEqDiff, Nat.reduceLT, Nat.reduceLeDiff, Nat.reduceBEq, Nat.reduceBNe, Int.reduceToNat, Int.reduceLE, Int.reduceLT, Int.reduceNe, Int.reduceNeg, reduceCtorEq, Int.reduceBEq, Int.reduceBNe, k2]
              · simp only [go_sem, Nat.reduceAdd, Nat.reduceSub, Nat.reduceMul, Nat.reduceEqDiff, Nat.reduceLT, Nat.reduceLeDiff, Nat.reduceBEq, Nat.reduceBNe, Int.reduceToNat, Int.reduceLE, Int.reduceLT, Int.reduceNe, Int.reduceNeg, reduceCtorEq, Int.reduceBEq, Int.reduceBNe, k3]
              · simp only [go_sem, Nat.reduceAdd, Nat.reduceSub, Nat.reduceMul, Nat.reduceEqDiff, Nat.reduceLT, Nat.reduceLeDiff, Nat.reduceBEq, Nat.reduceBNe, Int.reduceToNat, Int.reduceLE, Int.reduceLT, Int.reduceNe, Int.reduceNeg, reduceCtorEq, Int.reduceBEq, Int.reduceBNe]
              · rw [htw]; exact m1.put e
              · simp only [go_sem, Nat.reduceAdd, Nat.reduceSub, Nat.reduceMul, Nat.reduceEqDiff, Nat.reduceLT, Nat.reduceLeDiff, Nat.reduceBEq, Nat.reduceBNe, Int.reduceToNat, Int.reduceLE, Int.reduceLT, Int.reduceNe, Int.reduceNeg, reduceCtorEq, Int.reduceBEq, Int.reduceBNe, g2]
              · rw [htw]; exact m2.keep e hc
          · refine hE2 _ _ _ (by simp) ?_
            have hj' : j = y.entries.length := by have : ¬ ((j : Int) < (y.entries.length : Int)) := by simpa using h
                                                  omega
            subst hj'
            rw [List.take_length] at m1 m2
            simp only [go_sem, Nat.reduceAdd, Nat.reduceSub, Nat.reduceMul, Nat.reduceEqDiff, Nat.reduceLT, Nat.reduceLeDiff, Nat.reduceBEq, Nat.reduceBNe, Int.reduceToNat, Int.reduceLE, Int.reduceLT, Int.reduceNe, Int.reduceNeg, reduceCtorEq, Int.reduceBEq, Int.reduceBNe]
            exact hK _ _ k0 ⟨k1, k2, k3, ⟨ge, g1, by rw [htk]; exact m1⟩, ⟨te, g2, by rw [htk]; exact m2⟩⟩
      · rintro i H hi ⟨h1, h2, h3, ⟨ge, g1, m1⟩, ⟨te, g2, m2⟩⟩ ho
        have e := twAt_no on (show i < l.length from hi) ho
        exact ⟨h1, h2, h3, ⟨ge, g1, by rw [e]; exact m1⟩, ⟨te, g2, by rw [e]; exact m2⟩⟩
      · rintro H ⟨h1, h2, h3, ⟨ge, g1, m1⟩, ⟨te, g2, m2⟩⟩
        simp only [List.take_length] at m1 m2
        generalize (twAt on l).t = tt at *
        simp only [go_sem, Nat.reduceAdd, Nat.reduceSub, Nat.reduceMul, Nat.reduceEqDiff, Nat.reduceLT, Nat.reduceLeDiff, Nat.reduceBEq, Nat.reduceBNe, Int.reduceToNat, Int.reduceLE, Int.reduceLT, Int.reduceNe, Int.reduceNeg, reduceCtorEq, Int.reduceBEq, Int.reduceBNe]
        refine ev_loopS [9] (fun x : Nat × PV => [(15, x.2), (68, .int .i64 x.1)])
          (fun x H => x.1 ≤ 10000 ∧ H (([], 24004003) : Key) = some (.cells [.mref ([], 24004001) 1] 1 false) ∧ H (([], 24004001) : Key) = some (.map false 1 te 1 false) ∧
            Own H (fun K => K = ([], 24020003)) x.2 1 (il (twL tt x.1)))
          (fun x => 10000 - x.1) (0, .sl [] true) ?_ ⟨Nat.zero_le _, h3, g2, .inl ⟨rfl, rfl⟩⟩ ?_
        · simp only [go_sem, Nat.reduceAdd, Nat.reduceSub, Nat.reduceMul, Nat.reduceEqDiff, Nat.reduceLT, Nat.reduceLeDiff, Nat.reduceBEq, Nat.reduceBNe, Int.reduceToNat, Int.reduceLE, Int.reduceLT, Int.reduceNe, Int.reduceNeg, reduceCtorEq, Int.reduceBEq, Int.reduceBNe]
        · simp only [go_sem, Nat.reduceAdd, Nat.reduceSub, Nat.reduceMul, Nat.reduceEqDiff, Nat.reduceLT, Nat.reduceLeDiff, Nat.reduceBEq, Nat.reduceBNe, Int.reduceToNat, Int.reduceLE, Int.reduceLT, Int.reduceNe, Int.reduceNeg, reduceCtorEq, Int.reduceBEq, Int.reduceBNe]
          intro K x H ⟨hi, k3, k4, k5⟩ hK hE
          obtain ⟨i, p⟩ := x
          simp only at hi k5
          dsimp only
          rw [condK_bool]
          refine ⟨fun h => ?_, fun h => ?_⟩
          · have h' : i < 10000 := by have : (i : Int) < 10000 := by simpa using h
                                      omega
            have w2 : IntKind.i64.wrap ((i : Int) + 1) = (i : Int) + 1 := wrap_id (by omega)
            have hsu := twL_succ tt i
            have hln := twL_len tt i
            simp only [go_sem, Nat.reduceAdd, Nat.reduceSub, Nat.reduceMul, Nat.reduceEqDiff, Nat.reduceLT, Nat.reduceLeDiff, Nat.reduceBEq, Nat.reduceBNe, Int.reduceToNat, Int.reduceLE, Int.reduceLT, Int.reduceNe, Int.reduceNeg, reduceCtorEq, Int.reduceBEq, Int.reduceBNe, k3, k4, look, keyOf, ints, m2.found]
            rw [condK_bool]
            refine ⟨fun hc => ?_, fun hc => ?_⟩
            · have hil : il (twL tt (i + 1)) = il (twL tt i) ++ [[.int .i64 (i : Int)]] := by rw [hsu, if_pos hc, il_append]; rfl
              rcases k5 with ⟨e1, rfl⟩ | ⟨K2, v, rfl, rfl, k5⟩
              · simp only [go_sem, Nat.reduceAdd, Nat.reduceSub, Nat.reduceMul, Nat.reduceEqDiff, Nat.reduceLT, Nat.reduceLeDiff, Nat.reduceBEq, Nat.reduceBNe, Int.reduceToNat, Int.reduceLE, Int.reduceLT, Int.reduceNe, Int.reduceNeg, reduceCtorEq, Int.reduceBEq, Int.reduceBNe, k3, k4, app, rowsOf, List.not_mem_nil, cells1, cellP, forall_eq]
                refine hK (i + 1, .sref ([], 24020003) (verOf H ([], 24020003) + 1) 1 1 false) _ _ ?_ ⟨h', ?_, ?_, .inr ⟨_, verOf H ([], 24020003) + 1, rfl, ?_, ?_⟩⟩ (by simp only; omega)
                · simp only [go_sem, Nat.reduceAdd, Nat.reduceSub, Nat.reduceMul, Nat.reduceEqDiff, Nat.reduceLT, Nat.reduceLeDiff, Nat.reduceBEq, Nat.reduceBNe, Int.reduceToNat, Int.reduceLE, Int.reduceLT, Int.reduceNe, Int.reduceNeg, reduceCtorEq, Int.reduceBEq, Int.reduceBNe, w2, Int.natCast_add, Int.natCast_one]
                · simp only [go_sem, Nat.reduceAdd, Nat.reduceSub, Nat.reduceMul, Nat.reduceEqDiff, Nat.reduceLT, Nat.reduceLeDiff, Nat.reduceBEq, Nat.reduceBNe, Int.reduceToNat, Int.reduceLE, Int.reduceLT, Int.reduceNe, Int.reduceNeg, reduceCtorEq, Int.reduceBEq, Int.reduceBNe, k3]
                · simp only [go_sem, Nat.reduceAdd, Nat.reduceSub, Nat.reduceMul, Nat.reduceEqDiff, Nat.reduceLT, Nat.reduceLeDiff, Nat.reduceBEq, Nat.reduceBNe, Int.reduceToNat, Int.reduceLE, Int.reduceLT, Int.reduceNe, Int.reduceNeg, reduceCtorEq, Int.reduceBEq, Int.reduceBNe, k4]
                · rw [hil, e1]; rfl
                · rw [hil, e1]; simp only [go_sem, Nat.reduceAdd, Nat.reduceSub, Nat.reduceMul, Nat.reduceEqDiff, Nat.reduceLT, Nat.reduceLeDiff, Nat.reduceBEq, Nat.reduceBNe, Int.reduceToNat, Int.reduceLE, Int.reduceLT, Int.reduceNe, Int.reduceNeg, reduceCtorEq, Int.reduceBEq, Int.reduceBNe]
              · simp only [go_sem, Nat.reduceAdd, Nat.reduceSub, Nat.reduceMul, Nat.reduceEqDiff, Nat.reduceLT, Nat.reduceLeDiff, Nat.reduceBEq, Nat.reduceBNe, Int.reduceToNat, Int.reduceLE, Int.reduceLT, Int.reduceNe, Int.reduceNeg, reduceCtorEq, Int.reduceBEq, Int.reduceBNe, k3, k4, k5, app, rowsOf, List.not_mem_nil, cells1, cellP, forall_eq, il_length]
                refine ⟨by omega, hK (i + 1, .sref ([], 24020003) (v + 1) 1 ((twL tt i).length + 1) false) _ _ ?_ ⟨h', ?_, ?_, .inr ⟨_, v + 1, rfl, ?_, ?_⟩⟩ (by simp only; omega)⟩
                · simp only [go_sem, Nat.reduceAdd, Nat.reduceSub, Nat.reduceMul, Nat.reduceEqDiff, Nat.reduceLT, Nat.reduceLeDiff, Nat.reduceBEq, Nat.reduceBNe, Int.reduceToNat, Int.reduceLE, Int.reduceLT, Int.reduceNe, Int.reduceNeg, reduceCtorEq, Int.reduceBEq, Int.reduceBNe, w2, Int.natCast_add, Int.natCast_one]
                · simp only [go_sem, Nat.reduceAdd, Nat.reduceSub, Nat.reduceMul, Nat.reduceEqDiff, Nat.reduceLT, Nat.reduceLeDiff, Nat.reduceBEq, Nat.reduceBNe, Int.reduceToNat, Int.reduceLE, Int.reduceLT, Int.reduceNe, Int.reduceNeg, reduceCtorEq, Int.reduceBEq, Int.reduceBNe, k3]
                · simp only [go_sem, Nat.reduceAdd, Nat.reduceSub, Nat.reduceMul, Nat.reduceEqDiff, Nat.reduceLT, Nat.reduceLeDiff, Nat.reduceBEq, Nat.reduceBNe, Int.reduceToNat, Int.reduceLE, Int.reduceLT, Int.reduceNe, Int.reduceNeg, reduceCtorEq, Int.reduceBEq, Int.reduceBNe, k4]
                · rw [hil]; simp [il_length]
                · rw [hil]; simp only [go_sem, Nat.reduceAdd, Nat.reduceSub, Nat.reduceMul, Nat.reduceEqDiff, Nat.reduceLT, Nat.reduceLeDiff, Nat.reduceBEq, Nat.reduceBNe, Int.reduceToNat, Int.reduceLE, Int.reduceLT, Int.reduceNe, Int.reduceNeg, reduceCtorEq, Int.reduceBEq, Int.reduceBNe]
            · simp only [go_sem, Nat.reduceAdd, Nat.reduceSub, Nat.reduceMul, Nat.reduceEqDiff, Nat.reduceLT, Nat.reduceLeDiff, Nat.reduceBEq, Nat.reduceBNe, Int.reduceToNat, Int.reduceLE, Int.reduceLT, Int.reduceNe, Int.reduceNeg, reduceCtorEq, Int.reduceBEq, Int.reduceBNe]
              refine hK (i + 1, p) _ _ ?_ ⟨h', k3, k4, ?_⟩ (by simp only; omega)
              · simp only [go_sem, Nat.reduceAdd, Nat.reduceSub, Nat.reduceMul, Nat.reduceEqDiff, Nat.reduceLT, Nat.reduceLeDiff, Nat.reduceBEq, Nat.reduceBNe, Int.reduceToNat, Int.reduceLE, Int.reduceLT, Int.reduceNe, Int.reduceNeg, reduceCtorEq, Int.reduceBEq, Int.reduceBNe, w2, Int.natCast_add, Int.natCast_one]
              · rw [hsu, if_neg (by rw [hc]; simp), List.append_nil]; exact k5
          · have h' : i = 10000 := by have : ¬ ((i : Int) < 10000) := by simpa using h
                                      omega
            subst h'
            refine hE _ _ _ (by simp) ?_
            generalize twL tt 10000 = acc at *
            rcases k5 with ⟨e1, rfl⟩ | ⟨K2, v, rfl, rfl, k5⟩
            · have e0 : acc = [] := by cases acc with
                | nil => rfl
                | cons x l => simp [il] at e1
              subst e0
              simp only [go_sem, Nat.reduceAdd, Nat.reduceSub, Nat.reduceMul, Nat.reduceEqDiff, Nat.reduceLT, Nat.reduceLeDiff, Nat.reduceBEq, Nat.reduceBNe, Int.reduceToNat, Int.reduceLE, Int.reduceLT, Int.reduceNe, Int.reduceNeg, reduceCtorEq, Int.reduceBEq, Int.reduceBNe, il_nil']
            · simp only [go_sem, Nat.reduceAdd, Nat.reduceSub, Nat.reduceMul, Nat.reduceEqDiff, Nat.reduceLT, Nat.reduceLeDiff, Nat.reduceBEq, Nat.reduceBNe, Int.reduceToNat, Int.reduceLE, Int.reduceLT, Int.reduceNe, Int.reduceNeg, reduceCtorEq, Int.reduceBEq, Int.reduceBNe, k5, il_length]
def s24 : Spec := spec2 (fun (r : Rack) (_ : Int) => okRack r) (fun r on => .tup [.sl (il (twinsM r on).1) true, .int .i64 (twinsM r on).2])
theorem s24_ok : SpecOK Tryd.prog glB 24 s24 := spec2_ok E17_ok Tryd.func24 rfl (by kernel_rfl) fun r on h => Twins_fn r h on
end Wb
