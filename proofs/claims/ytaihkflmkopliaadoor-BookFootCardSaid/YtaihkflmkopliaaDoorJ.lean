import Derived.Test.YtaihkflmkopliaaDoorI
set_option linter.unusedVariables false
set_option linter.unusedSimpArgs false
/- The laws that compare the program with the reference. -/
namespace Wb
open Go Go.Proofs Enc Row
set_option linter.unusedSimpArgs false
set_option linter.unusedVariables false
set_option maxRecDepth 20000
set_option maxHeartbeats 4000000
theorem fitsM_len (r : Rack) (i n : Int) (d : Int × Int) : (fitsM r i n d).1.length < 4611686018427387904 := by
  unfold fitsM
  rcases hE : entErr r (qSizes i n d) i n with ⟨o, k⟩
  rcases entErr_err r (qSizes i n d) i n with ⟨h1, e, h2, h3, h4, h5⟩ | ⟨h1, h2⟩
  · rw [hE] at h2
    simp only at h2
    subst h2
    obtain ⟨a, b, _⟩ := entAt_mem h3
    have hm : r.issues.getD i.toNat default ∈ r.issues := by
      have : i.toNat < r.issues.length := by have := a.2; omega
      simp [List.getD_eq_getElem?_getD, this]
    have := (((rack_good h4).issues _ hm).entries e b).sizes.2
    have := fitsL_len d e.sizes
    simp only; omega
  · rw [hE] at h2
    simp only at h2
    subst h2
    simp
theorem meansM_len (r : Rack) (d : Int × Int) (n : Int) : (meansM r d n).1.length < 4611686018427387904 := by
  unfold meansM
  split
  · split
    · rename_i h _
      have := (rack_good h).len
      have := meansL_len r d n r.issues.length
      simp only; omega
    · simp
  · simp
theorem twinsM_len (r : Rack) (on : Int) : (twinsM r on).1.length < 4611686018427387904 := by
  unfold twinsM
  split
  · split
    · have := twL_len (twAt on r.issues).t 10000
      simp only; omega
    · simp
  · simp
theorem pricesM_len (r : Rack) (d : Int × Int) (t : Item) : (pricesM r d t).1.length < 4611686018427387904 := by
  unfold pricesM
  split
  · split
    · rename_i h _
      have h1 := cutsM_len (rack_good h) d
      have h2 := compact_len (sortL ((cutsM r d).filterMap fun on => priceP r on t))
      have h3 : (sortL ((cutsM r d).filterMap fun on => priceP r on t)).length = ((cutsM r d).filterMap fun on => priceP r on t).length := by simp [sortL]
      have h4 := List.length_filterMap_le (fun on => priceP r on t) (cutsM r d)
      unfold pricesL
      simp only; omega
    · simp
  · simp
theorem fits_law (r : Rack) (hr : okRack r) (a b : Int) (d : Int × Int) : Fn E32 0 6 Tryd.f6 (Tryd.f6.body.getD .skip) [.agg (encR r), .agg [.int .i64 a, .int .i64 b], .agg [.int .i64 d.1, .int .i64 d.2]] (.bool true) := by
  unfold Fn Tryd.f6
  have hη : (⟨r.goods, r.issues⟩ : Rack) = r := rfl
  have hd : (d.1, d.2) = d := rfl
  simp (maxSteps := 4000000) only [go_sem, Nat.reduceAdd, Nat.reduceSub, Nat.reduceMul, Nat.reduceEqDiff, Nat.reduceLT, Nat.reduceLeDiff, Nat.reduceBEq, Nat.reduceBNe, Int.reduceToNat, Int.reduceLE, Int.reduceLT, Int.reduceNe, Int.reduceNeg, reduceCtorEq, Int.reduceBEq, Int.reduceBNe, @callV_spec E32 38 s38 rfl, @callV_specT E32 38 s38 rfl, @stepV_spec E32 38 s38 rfl, @effV_spec E32 38 s38 rfl, s38, @callV_spec E32 39 s39 rfl, @callV_specT E32 39 s39 rfl, @stepV_spec E32 39 s39 rfl, @effV_spec E32 39 s39 rfl, s39, @callV_spec E32 26 s26 rfl, @callV_specT E32 26 s26 rfl, @stepV_spec E32 26 s26 rfl, @effV_spec E32 26 s26 rfl, s26, @callV_spec E32 40 s40 rfl, @callV_specT E32 40 s40 rfl, @stepV_spec E32 40 s40 rfl, @effV_spec E32 40 s40 rfl, s40, @callV_spec E32 41 s40 rfl, @callV_specT E32 41 s40 rfl, @stepV_spec E32 41 s40 rfl, @effV_spec E32 41 s40 rfl, s40, @callV_spec E32 27 s27 rfl, @callV_specT E32 27 s27 rfl, @stepV_spec E32 27 s27 rfl, @effV_spec E32 27 s27 rfl, s27, encR, callSpec, hr, hη, hd, big, bne_self_eq_false, fitsM_len]
theorem numbers_law (r : Rack) (hr : okRack r) (d : Int × Int) (a b c e : Int) : Fn E32 0 3 Tryd.f3 (Tryd.f3.body.getD .skip) [.agg (encR r), .agg [.int .i64 d.1, .int .i64 d.2], .agg [.int .i64 a, .int .i64 b, .int .i64 c, .int .i64 e]] (.bool true) := by
  unfold Fn Tryd.f3
  have hη : (⟨r.goods, r.issues⟩ : Rack) = r := rfl
  have hd : (d.1, d.2) = d := rfl
  simp (maxSteps := 4000000) only [go_sem, Nat.reduceAdd, Nat.reduceSub, Nat.reduceMul, Nat.reduceEqDiff, Nat.reduceLT, Nat.reduceLeDiff, Nat.reduceBEq, Nat.reduceBNe, Int.reduceToNat, Int.reduceLE, Int.reduceLT, Int.reduceNe, Int.reduceNeg, reduceCtorEq, Int.reduceBEq, Int.reduceBNe, @callV_spec E32 17 s17 rfl, @callV_specT E32 17 s17 rfl, @stepV_spec E32 17 s17 rfl, @effV_spec E32 17 s17 rfl, s17, @callV_spec E32 18 s18 rfl, @callV_specT E32 18 s18 rfl, @stepV_spec E32 18 s18 rfl, @effV_spec E32 18 s18 rfl, s18, @callV_spec E32 19 s19 rfl, @callV_specT E32 19 s19 rfl, @stepV_spec E32 19 s19 rfl, @effV_spec E32 19 s19 rfl, s19, @callV_spec E32 20 s20 rfl, @callV_specT E32 20 s20 rfl, @stepV_spec E32 20 s20 rfl, @effV_spec E32 20 s20 rfl, s20, @callV_spec E32 21 s21 rfl, @callV_specT E32 21 s21 rfl, @stepV_spec E32 21 s21 rfl, @effV_spec E32 21 s21 rfl, s21, @callV_spec E32 22 s22 rfl, @callV_specT E32 22 s22 rfl, @stepV_spec E32 22 s22 rfl, @effV_spec E32 22 s22 rfl, s22, @callV_spec E32 23 s22 rfl, @callV_specT E32 23 s22 rfl, @stepV_spec E32 23 s22 rfl, @effV_spec E32 23 s22 rfl, s22, @callV_spec E32 24 s24 rfl, @callV_specT E32 24 s24 rfl, @stepV_spec E32 24 s24 rfl, @effV_spec E32 24 s24 rfl, s24, @callV_spec E32 25 s25 rfl, @callV_specT E32 25 s25 rfl, @stepV_spec E32 25 s25 rfl, @effV_spec E32 25 s25 rfl, s25, @callV_spec E32 26 s26 rfl, @callV_specT E32 26 s26 rfl, @stepV_spec E32 26 s26 rfl, @effV_spec E32 26 s26 rfl, s26, @callV_spec E32 27 s27 rfl, @callV_specT E32 27 s27 rfl, @stepV_spec E32 27 s27 rfl, @effV_spec E32 27 s27 rfl, s27, encR, callSpec, hr, hη, hd, big, bne_self_eq_false, meansM_len, twinsM_len, dec_ml]
theorem prices_law (r : Rack) (hr : okRack r) (d : Int × Int) (t : Item) (on : Int) : Fn E32 0 4 Tryd.f4 (Tryd.f4.body.getD .skip) [.agg (encR r), .agg [.int .i64 d.1, .int .i64 d.2], .agg (encT t), .int .i64 on] (.bool true) := by
  unfold Fn Tryd.f4
  have hη : (⟨r.goods, r.issues⟩ : Rack) = r := rfl
  have hd : (d.1, d.2) = d := rfl
  have ht : (⟨t.good, t.size, t.colour⟩ : Item) = t := rfl
  simp (maxSteps := 4000000) only [go_sem, Nat.reduceAdd, Nat.reduceSub, Nat.reduceMul, Nat.reduceEqDiff, Nat.reduceLT, Nat.reduceLeDiff, Nat.reduceBEq, Nat.reduceBNe, Int.reduceToNat, Int.reduceLE, Int.reduceLT, Int.reduceNe, Int.reduceNeg, reduceCtorEq, Int.reduceBEq, Int.reduceBNe, @callV_spec E32 28 s28 rfl, @callV_specT E32 28 s28 rfl, @stepV_spec E32 28 s28 rfl, @effV_spec E32 28 s28 rfl, s28, @callV_spec E32 29 s28 rfl, @callV_specT E32 29 s28 rfl, @stepV_spec E32 29 s28 rfl, @effV_spec E32 29 s28 rfl, s28, @callV_spec E32 30 s30 rfl, @callV_specT E32 30 s30 rfl, @stepV_spec E32 30 s30 rfl, @effV_spec E32 30 s30 rfl, s30, @callV_spec E32 31 s31 rfl, @callV_specT E32 31 s31 rfl, @stepV_spec E32 31 s31 rfl, @effV_spec E32 31 s31 rfl, s31, @callV_spec E32 32 s32 rfl, @callV_specT E32 32 s32 rfl, @stepV_spec E32 32 s32 rfl, @effV_spec E32 32 s32 rfl, s32, @callV_spec E32 33 s32 rfl, @callV_specT E32 33 s32 rfl, @stepV_spec E32 33 s32 rfl, @effV_spec E32 33 s32 rfl, s32, @callV_spec E32 26 s26 rfl, @callV_specT E32 26 s26 rfl, @stepV_spec E32 26 s26 rfl, @effV_spec E32 26 s26 rfl, s26, @callV_spec E32 27 s27 rfl, @callV_specT E32 27 s27 rfl, @stepV_spec E32 27 s27 rfl, @effV_spec E32 27 s27 rfl, s27, encR, encT, callSpec, hr, hη, hd, ht, big, bne_self_eq_false, pricesM_len]
theorem sums_law (r : Rack) (hr : okRack r) (d : Int × Int) (ls : List Line) (hls : ls.length < 4611686018427387904) : Fn E32 0 5 Tryd.f5 (Tryd.f5.body.getD .skip) [.agg (encR r), .agg [.int .i64 d.1, .int .i64 d.2], .sl (ls.map encL) false] (.bool true) := by
  unfold Fn Tryd.f5
  have hη : (⟨r.goods, r.issues⟩ : Rack) = r := rfl
  have hd : (d.1, d.2) = d := rfl
  simp (maxSteps := 4000000) only [go_sem, Nat.reduceAdd, Nat.reduceSub, Nat.reduceMul, Nat.reduceEqDiff, Nat.reduceLT, Nat.reduceLeDiff, Nat.reduceBEq, Nat.reduceBNe, Int.reduceToNat, Int.reduceLE, Int.reduceLT, Int.reduceNe, Int.reduceNeg, reduceCtorEq, Int.reduceBEq, Int.reduceBNe, @callV_spec E32 34 s34 rfl, @callV_specT E32 34 s34 rfl, @stepV_spec E32 34 s34 rfl, @effV_spec E32 34 s34 rfl, s34, @callV_spec E32 35 s34 rfl, @callV_specT E32 35 s34 rfl, @stepV_spec E32 35 s34 rfl, @effV_spec E32 35 s34 rfl, s34, @callV_spec E32 36 s36 rfl, @callV_specT E32 36 s36 rfl, @stepV_spec E32 36 s36 rfl, @effV_spec E32 36 s36 rfl, s36, @callV_spec E32 37 s36 rfl, @callV_specT E32 37 s36 rfl, @stepV_spec E32 37 s36 rfl, @effV_spec E32 37 s36 rfl, s36, @callV_spec E32 27 s27 rfl, @callV_specT E32 27 s27 rfl, @stepV_spec E32 27 s27 rfl, @effV_spec E32 27 s27 rfl, s27, encR, callSpec, hr, hη, hd, big, bne_self_eq_false, dec_lines, dLn_map, hls]
end Wb
