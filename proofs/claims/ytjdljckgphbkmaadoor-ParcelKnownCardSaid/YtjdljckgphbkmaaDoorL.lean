import Derived.Test.YtjdljckgphbkmaaDoorJ
set_option linter.unusedVariables false
set_option linter.unusedSimpArgs false
/- ParcelKnown. -/
namespace Wb
open Go Go.Proofs Enc Row
set_option linter.unusedSimpArgs false
set_option linter.unusedVariables false
set_option maxRecDepth 20000
set_option maxHeartbeats 40000000
/-- The books as they stand: nil slices, and slices that were made, are known to have no room behind them. -/
def encX (x : PBook × Bool × Bool × Bool) : List PV :=
  [.sl (x.1.pieces.map encP) x.2.1, .sl (x.1.kinds.map encK) x.2.2.1, .int .i64 x.1.grams, .int .i64 x.1.free, .int .i64 x.1.unit, .int .i64 x.1.fee, .sl (il x.1.stamps) x.2.2.2]
def fl : List (Bool × Bool × Bool) := [(true, true, true), (true, false, false), (false, false, false), (false, false, false), (false, false, false), (false, false, false), (false, false, false), (false, false, false), (false, false, false), (false, false, false), (false, false, true), (false, false, false)]
def badsX : List (PBook × Bool × Bool × Bool) := bads.zip fl
theorem bad_row {i : Nat} (h : i < 12) : ∃ b ∈ bads, ∃ e1 e2 e3, ∀ z, (badsX.map encX).getD i z = encX (b, e1, e2, e3) := by
  have h1 : i < badsX.length := h
  have h2 : i < bads.length := h
  have h3 : i < fl.length := h
  refine ⟨bads[i], List.getElem_mem _, (fl[i]).1, (fl[i]).2.1, (fl[i]).2.2, fun z => ?_⟩
  rw [List.getD_eq_getElem?_getD, List.getElem?_eq_getElem (show i < (badsX.map encX).length by rw [List.length_map]; exact h1)]
  simp [badsX]
  rfl
theorem forall_bk {p : List Nat} {H : Heap} {P : PV → Heap → Prop} : (∀ (v : PV) (H' : Heap), (∀ K : Key, ¬ K.1 = p → H' K = H K) → (v = .agg (bkC p H) ∧ ∀ K : Key, K.1 = p → H' K = bkH p H K) → P v H') ↔
    P (.agg [.aref (p, 53001004) (verOf H (p, 53001004) + 1) 0 4 4, .aref (p, 53001009) (verOf H (p, 53001009) + 1) 0 4 2, .int .i64 500, .int .i64 1000, .int .i64 1000, .int .i64 3, .aref (p, 53001010) (verOf H (p, 53001010) + 1) 0 1 4])
      (((((((H.set (p, 53000000) (.cells [.sl [] true, .sl [] true, .int .i64 0, .int .i64 0, .int .i64 0, .int .i64 0, .sl [] true] (verOf H (p, 53000000) + 1) false)).set
    (p, 53001004) (.cells [.int .i64 10, .int .i64 500, .int .i64 300, .bool false, .int .i64 20, .int .i64 800, .int .i64 1200, .bool false, .int .i64 5, .int .i64 200, .int .i64 100, .bool true, .int .i64 30, .int .i64 1500, .int .i64 2000, .bool false] (verOf H (p, 53001004) + 1) false)).set
    (p, 53001005) (.cells [.int .i64 10, .int .i64 12, .int .i64 14, .int .i64 16, .int .i64 18] (verOf H (p, 53001005) + 1) false)).set
    (p, 53001007) (.cells [.int .i64 20, .int .i64 24, .int .i64 28, .int .i64 32, .int .i64 36] (verOf H (p, 53001007) + 1) false)).set
    (p, 53001009) (.cells [.int .i64 25, .int .i64 1000, .aref (p, 53001005) (verOf H (p, 53001005) + 1) 0 1 5, .int .i64 2, .int .i64 60, .int .i64 3000, .aref (p, 53001007) (verOf H (p, 53001007) + 1) 0 1 5, .int .i64 5] (verOf H (p, 53001009) + 1) false)).set
    (p, 53001010) (.cells [.int .i64 1, .int .i64 2, .int .i64 5, .int .i64 10] (verOf H (p, 53001010) + 1) false)).set
    (p, 53000000) (.cells ([.aref (p, 53001004) (verOf H (p, 53001004) + 1) 0 4 4, .aref (p, 53001009) (verOf H (p, 53001009) + 1) 0 4 2, .int .i64 500, .int .i64 1000, .int .i64 1000, .int .i64 3, .aref (p, 53001010) (verOf H (p, 53001010) + 1) 0 1 4]) (verOf H (p, 53000000) + 1) false)) :=
  show _ ↔ P (.agg (bkC p H)) (bkH p H) from
  ⟨fun h => h _ _ (fun K hK => bkH_off hK H) ⟨rfl, fun _ _ => rfl⟩, fun h v H' h1 h2 => by rw [h2.1, bkH_eq h1 h2.2]; exact h⟩
theorem wrong_row {i : Nat} (h : i < 6) : ∃ q ∈ wrong, ∀ z, (wrong.map encQ).getD i z = encQ q := by
  have h1 : i < wrong.length := h
  refine ⟨wrong[i], List.getElem_mem _, fun z => ?_⟩
  rw [List.getD_eq_getElem?_getD, List.getElem?_eq_getElem (show i < (wrong.map encQ).length by rw [List.length_map]; exact h1)]
  simp
noncomputable def largeX : PBook := Classical.choose (⟨large, rfl⟩ : ∃ b, b = large)
theorem largeX_eq : largeX = large := Classical.choose_spec (⟨large, rfl⟩ : ∃ b, b = large)
noncomputable def oddX : PBook := Classical.choose (⟨odd, rfl⟩ : ∃ b, b = odd)
theorem oddX_eq : oddX = odd := Classical.choose_spec (⟨odd, rfl⟩ : ∃ b, b = odd)
theorem large_big4 : Big4 largeX := by
  rw [largeX_eq]
  refine ⟨?_, ?_, ?_, ?_⟩ <;> simp [large, kd1, kd2, big]
theorem odd_big4 : Big4 oddX := by
  rw [oddX_eq]
  refine ⟨?_, ?_, ?_, ?_⟩ <;> simp [odd, kd1, kd2, big]
theorem bk_lit : bk = ⟨[pc1, pc2, pc3, pc4], [kd1, kd2], 500, 1000, 1000, 3, [1, 2, 5, 10]⟩ := rfl
theorem dk_bk : (dec (.agg [.sl (arows 4 4 [.int .i64 10, .int .i64 500, .int .i64 300, .bool false, .int .i64 20, .int .i64 800, .int .i64 1200, .bool false, .int .i64 5, .int .i64 200, .int .i64 100, .bool true, .int .i64 30, .int .i64 1500, .int .i64 2000, .bool false]) false, .sl (arows 4 2 [.int .i64 25, .int .i64 1000, .sl [[.int .i64 10], [.int .i64 12], [.int .i64 14], [.int .i64 16], [.int .i64 18]] false, .int .i64 2, .int .i64 60, .int .i64 3000, .sl [[.int .i64 20], [.int .i64 24], [.int .i64 28], [.int .i64 32], [.int .i64 36]] false, .int .i64 5]) false, .int .i64 500, .int .i64 1000, .int .i64 1000, .int .i64 3, .sl (arows 1 4 [.int .i64 1, .int .i64 2, .int .i64 5, .int .i64 10]) false]) : Option PBook) = some bkX := by rw [bkX_eq]; rfl
theorem dk_large : (dec (.agg [.sl (arows 4 4 [.int .i64 10, .int .i64 500, .int .i64 300, .bool false, .int .i64 61, .int .i64 800, .int .i64 1200, .bool false, .int .i64 5, .int .i64 200, .int .i64 100, .bool true, .int .i64 30, .int .i64 1500, .int .i64 2000, .bool false]) false, .sl (arows 4 2 [.int .i64 25, .int .i64 1000, .sl [[.int .i64 10], [.int .i64 12], [.int .i64 14], [.int .i64 16], [.int .i64 18]] false, .int .i64 2, .int .i64 60, .int .i64 3000, .sl [[.int .i64 20], [.int .i64 24], [.int .i64 28], [.int .i64 32], [.int .i64 36]] false, .int .i64 5]) false, .int .i64 500, .int .i64 1000, .int .i64 1000, .int .i64 3, .sl (arows 1 4 [.int .i64 1, .int .i64 2, .int .i64 5, .int .i64 10]) false]) : Option PBook) = some largeX := by rw [largeX_eq]; rfl
theorem dk_odd : (dec (.agg [.sl (arows 4 4 [.int .i64 10, .int .i64 500, .int .i64 300, .bool false, .int .i64 20, .int .i64 800, .int .i64 1200, .bool false, .int .i64 5, .int .i64 200, .int .i64 100, .bool true, .int .i64 30, .int .i64 1500, .int .i64 2000, .bool false]) false, .sl (arows 4 2 [.int .i64 25, .int .i64 1000, .sl [[.int .i64 10], [.int .i64 12], [.int .i64 14], [.int .i64 16], [.int .i64 18]] false, .int .i64 2, .int .i64 60, .int .i64 3000, .sl [[.int .i64 20], [.int .i64 24], [.int .i64 28], [.int .i64 32], [.int .i64 36]] false, .int .i64 5]) false, .int .i64 500, .int .i64 1000, .int .i64 1000, .int .i64 3, .sl (arows 1 2 [.int .i64 3, .int .i64 7]) false]) : Option PBook) = some oddX := by rw [oddX_eq]; rfl
theorem x_a1 : (postM bkX ⟨0, [0]⟩ 5).2 = 61 := by rw [bkX_eq]; exact k_a1
theorem x_c1 : (cheapestM bkX (-1)).2 = 61 := by rw [bkX_eq]; exact k_c1
theorem x_d1 : (costM bkX 5).2 = 61 := by rw [bkX_eq]; exact k_d1
theorem x_e1 : (stampO bkX 20001).2 = 61 := by rw [bkX_eq]; exact k_e1
theorem x_f1 : (sendX bkX 5 0).2 = 61 := by rw [bkX_eq, sendX_eq]; exact k_f1
theorem x_g1 : (sendX bkX 0 (-1)).2 = 61 := by rw [bkX_eq, sendX_eq]; exact k_g1
theorem x_h1 : (postM bkX ⟨0, [0, 1]⟩ 0).2 = 4 := by rw [bkX_eq]; exact k_h1
theorem x_a2 : (cheapestM largeX 0).2 = 4 := by rw [largeX_eq]; exact k_a2
theorem x_c2 : (fewM largeX).2 = 4 := by rw [largeX_eq]; exact k_c2
theorem x_d2 : bigM largeX = ([1], 0) := by rw [largeX_eq]; exact k_d2
theorem x_e2 : fitsM bkX ⟨1, [0, 2]⟩ = (false, 0) := by rw [bkX_eq]; exact k_e2
theorem x_f2 : isDivM bkX [⟨1, [0, 1, 3]⟩] = (false, 0) := by rw [bkX_eq]; exact k_f2
theorem x_a3 : postM bkX ⟨0, [1]⟩ 0 = (15, 0) := by rw [bkX_eq]; exact k_a3
theorem x_c3 : costM bkX 4 = (88, 0) := by rw [bkX_eq]; exact k_c3
theorem x_d3 : sendX bkX 0 15 = ([1], 0) := by rw [bkX_eq, sendX_eq]; exact k_d3
theorem x_e3 : sendX bkX 0 9 = ([], 0) := by rw [bkX_eq, sendX_eq]; exact k_e3
theorem x_f3 : stampO oddX 11 = ([4, 0], 0) := by rw [oddX_eq]; exact k_f3
theorem x_g3 : stampO oddX 0 = ([0, 0], 0) := by rw [oddX_eq]; exact k_g3
theorem x_h3 : stampO oddX 21 = ([0, 3], 0) := by rw [oddX_eq]; exact k_h3
theorem x_wr_fits : ∀ q ∈ wrong, (fitsM bkX q).2 = 61 := by rw [bkX_eq]; exact wr_fits
theorem x_wr_post : ∀ q ∈ wrong, (postM bkX q 0).2 = 61 := by rw [bkX_eq]; exact wr_post
theorem x_wr_div : ∀ q ∈ wrong, isDivM bkX [⟨0, [2]⟩, ⟨1, [0, 1, 3]⟩, q] = (false, 0) := by rw [bkX_eq]; exact wr_div
theorem dq3 (k : Int) (l : List Int) : (dec (.sl [[.int .i64 0, .sl (il [2]) false], [.int .i64 1, .sl (il [0, 1, 3]) false], [.int .i64 k, .sl (il l) false]] true) : Option (List Parc)) = some [⟨0, [2]⟩, ⟨1, [0, 1, 3]⟩, ⟨k, l⟩] := drows_rows [(⟨0, [2]⟩ : Parc), ⟨1, [0, 1, 3]⟩, ⟨k, l⟩]
theorem dq1 : (dec (.sl [[.int .i64 1, .sl (il [0, 1, 3]) false]] true) : Option (List Parc)) = some [⟨1, [0, 1, 3]⟩] := drows_rows [(⟨1, [0, 1, 3]⟩ : Parc)]
theorem wrong_len : ∀ q ∈ wrong, q.pieces.length ≤ 2 := by decide
theorem dl_4_0 : (dec (.sl (arows 1 2 [.int .i64 4, .int .i64 0]) false) : Option (List Int)) = some [4, 0] := rfl
theorem dl_0_3 : (dec (.sl (arows 1 2 [.int .i64 0, .int .i64 3]) false) : Option (List Int)) = some [0, 3] := rfl
theorem il_nil_len : (il []).length = 0 := rfl
theorem dl_0 : (dec (.sl (arows 1 1 [.int .i64 0]) false) : Option (List Int)) = some [0] := rfl
theorem dl_4 : (dec (.sl (arows 1 1 [.int .i64 4]) false) : Option (List Int)) = some [4] := rfl
theorem dl_1_0 : (dec (.sl (arows 1 2 [.int .i64 1, .int .i64 0]) false) : Option (List Int)) = some [1, 0] := rfl
theorem dl_0_0 : (dec (.sl (arows 1 2 [.int .i64 0, .int .i64 0]) false) : Option (List Int)) = some [0, 0] := rfl
theorem dl_2 : (dec (.sl (arows 1 1 [.int .i64 2]) false) : Option (List Int)) = some [2] := rfl
theorem dl_0_1_3 : (dec (.sl (arows 1 3 [.int .i64 0, .int .i64 1, .int .i64 3]) false) : Option (List Int)) = some [0, 1, 3] := rfl
theorem dl_0_1 : (dec (.sl (arows 1 2 [.int .i64 0, .int .i64 1]) false) : Option (List Int)) = some [0, 1] := rfl
theorem dl_0_2 : (dec (.sl (arows 1 2 [.int .i64 0, .int .i64 2]) false) : Option (List Int)) = some [0, 2] := rfl
theorem dl_1 : (dec (.sl (arows 1 1 [.int .i64 1]) false) : Option (List Int)) = some [1] := rfl
theorem known_fn : Fn E43 2 13 Tryd.f13 (Tryd.f13.body.getD .skip) [] (.bool true) := by
  unfold Fn Tryd.f13
  have hb : ∀ p H Q, callN E43 2 p (.fn 53 [] []) [] H Q = Q (.agg (bkC p H)) (bkH p H) := book_in rfl rfl rfl 1
  have hba : ∃ B : List (List PV), B = badsX.map encX := ⟨_, rfl⟩
  obtain ⟨B, hB⟩ := hba
  have hBl : B.length = 12 := by rw [hB]; rfl
  simp (maxSteps := 40000000) only [go_sem, Nat.reduceAdd, Nat.reduceSub, Nat.reduceMul, Nat.reduceEqDiff, Nat.reduceLT, Nat.reduceLeDiff, Nat.reduceBEq, Nat.reduceBNe, Int.reduceToNat, Int.reduceLE, Int.reduceLT, Int.reduceNe, Int.reduceNeg, reduceCtorEq, Int.reduceBEq, Int.reduceBNe, @callV_spec E43 42 s42 rfl, @callV_specT E43 42 s42 rfl, @stepV_spec E43 42 s42 rfl, @effV_spec E43 42 s42 rfl, s42, @callV_in E43 53 rfl, heavy_none, hb, bkC, bkH, tiD_eq, dp22, dp23, dp24, dp77, dp40, callSpec, buildCells]
  refine ⟨by decide, ?_⟩
  refine ev_loopD 1 (t := .sl B false) rfl ?_ [0] (fun i : Nat => [(1, .sl B false), (2, .int .i64 i)]) (fun i _ => i ≤ 12) (fun i => 12 - i) 0 ?_ (Nat.zero_le _) ?_
  · rw [hB]
    refine Stands.of ?_
    kernel_rfl
  · simp only [go_sem, Nat.reduceAdd, Nat.reduceSub, Nat.reduceMul, Nat.reduceEqDiff, Nat.reduceLT, Nat.reduceLeDiff, Nat.reduceBEq, Nat.reduceBNe, Int.reduceToNat, Int.reduceLE, Int.reduceLT, Int.reduceNe, Int.reduceNeg, reduceCtorEq, Int.reduceBEq, Int.reduceBNe, Int.natCast_zero]
  · simp only [go_sem, Nat.reduceAdd, Nat.reduceSub, Nat.reduceMul, Nat.reduceEqDiff, Nat.reduceLT, Nat.reduceLeDiff, Nat.reduceBEq, Nat.reduceBNe, Int.reduceToNat, Int.reduceLE, Int.reduceLT, Int.reduceNe, Int.reduceNeg, reduceCtorEq, Int.reduceBEq, Int.reduceBNe]
    intro K i H hi hK hE
    simp only [go_sem, Nat.reduceAdd, Nat.reduceSub, Nat.reduceMul, Nat.reduceEqDiff, Nat.reduceLT, Nat.reduceLeDiff, Nat.reduceBEq, Nat.reduceBNe, Int.reduceToNat, Int.reduceLE, Int.reduceLT, Int.reduceNe, Int.reduceNeg, reduceCtorEq, Int.reduceBEq, Int.reduceBNe, tiD_eq, hBl]
    rw [condK_bool]
    refine ⟨fun hc => ?_, fun hc => ?_⟩
    · as_aux_lemma =>
        have hi' : i < 12 := by have := of_decide_eq_true hc; omega
        have w2 : IntKind.i64.wrap ((i : Int) + 1) = (i : Int) + 1 := wrap_id (by omega)
        obtain ⟨b, hb1, e1, e2, e3, hb2⟩ := bad_row hi'
        rw [← hB] at hb2
        have ho := bads_no b hb1
        have hg := bads_big b hb1
        clear hb1
        obtain ⟨ps, ks, gr, fr, un, fe, st⟩ := b
        have hii : (0 ≤ (i : Int) ∧ (i : Int) < 12) := by omega
        have hi3 : ((i : Int) < 12) = True := eq_true (by omega)
        have hg0 : big 0 = True := eq_true (by simp [big])
        have no_sendX : ∀ z c, (sendX ⟨ps, ks, gr, fr, un, fe, st⟩ z c).2 = 60 := fun z c => by rw [sendX_eq]; exact no_send ho z c
        have xz : ((60 : Int) != 60) = false := rfl
        simp (maxSteps := 4000000) only [go_sem, Nat.reduceAdd, Nat.reduceSub, Nat.reduceMul, Nat.reduceEqDiff, Nat.reduceLT, Nat.reduceLeDiff, Nat.reduceBEq, Nat.reduceBNe, Int.reduceToNat, Int.reduceLE, Int.reduceLT, Int.reduceNe, Int.reduceNeg, reduceCtorEq, Int.reduceBEq, Int.reduceBNe, @callV_spec E43 42 s42 rfl, @callV_specT E43 42 s42 rfl, @stepV_spec E43 42 s42 rfl, @effV_spec E43 42 s42 rfl, s42, @callV_spec E43 14 s14 rfl, @callV_specT E43 14 s14 rfl, @stepV_spec E43 14 s14 rfl, @effV_spec E43 14 s14 rfl, s14, @callV_spec E43 18 s18 rfl, @callV_specT E43 18 s18 rfl, @stepV_spec E43 18 s18 rfl, @effV_spec E43 18 s18 rfl, s18, @callV_spec E43 24 s24 rfl, @callV_specT E43 24 s24 rfl, @stepV_spec E43 24 s24 rfl, @effV_spec E43 24 s24 rfl, s24, @callV_spec E43 29 s29 rfl, @callV_specT E43 29 s29 rfl, @stepV_spec E43 29 s29 rfl, @effV_spec E43 29 s29 rfl, s29, @callV_spec E43 28 s28 rfl, @callV_specT E43 28 s28 rfl, @stepV_spec E43 28 s28 rfl, @effV_spec E43 28 s28 rfl, s28, @callV_spec E43 26 s26 rfl, @callV_specT E43 26 s26 rfl, @stepV_spec E43 26 s26 rfl, @effV_spec E43 26 s26 rfl, s26, @callV_spec E43 20 s20 rfl, @callV_specT E43 20 s20 rfl, @stepV_spec E43 20 s20 rfl, @effV_spec E43 20 s20 rfl, s20, @callV_spec E43 31 s31 rfl, @callV_specT E43 31 s31 rfl, @stepV_spec E43 31 s31 rfl, @effV_spec E43 31 s31 rfl, s31, @callV_spec E43 33 s33x rfl, @callV_specT E43 33 s33x rfl, @stepV_spec E43 33 s33x rfl, @effV_spec E43 33 s33x rfl, s33x, @callV_spec E43 16 s16 rfl, @callV_specT E43 16 s16 rfl, @stepV_spec E43 16 s16 rfl, @effV_spec E43 16 s16 rfl, s16, callSpec, tiD_eq, hb2, encX, hBl, hg, no_fits ho, no_post ho, no_div ho, no_cheap ho, no_cost ho, no_few ho, no_big ho, no_stamp ho, no_sendX, ho, hi3, hg0, xz, w2]
        refine hK (i + 1) _ _ ?_ hi' (by omega)
        simp only [go_sem, Nat.reduceAdd, Nat.reduceSub, Nat.reduceMul, Nat.reduceEqDiff, Nat.reduceLT, Nat.reduceLeDiff, Nat.reduceBEq, Nat.reduceBNe, Int.reduceToNat, Int.reduceLE, Int.reduceLT, Int.reduceNe, Int.reduceNeg, reduceCtorEq, Int.reduceBEq, Int.reduceBNe, w2, Int.natCast_add, Int.natCast_one]
    · simp only [go_sem, Nat.reduceAdd, Nat.reduceSub, Nat.reduceMul, Nat.reduceEqDiff, Nat.reduceLT, Nat.reduceLeDiff, Nat.reduceBEq, Nat.reduceBNe, Int.reduceToNat, Int.reduceLE, Int.reduceLT, Int.reduceNe, Int.reduceNeg, reduceCtorEq, Int.reduceBEq, Int.reduceBNe]
      refine hE _ _ _ (by simp) ?_
      have hg0 : big 0 = True := eq_true (by simp [big])
      simp (maxSteps := 4000000) only [go_sem, Nat.reduceAdd, Nat.reduceSub, Nat.reduceMul, Nat.reduceEqDiff, Nat.reduceLT, Nat.reduceLeDiff, Nat.reduceBEq, Nat.reduceBNe, Int.reduceToNat, Int.reduceLE, Int.reduceLT, Int.reduceNe, Int.reduceNeg, reduceCtorEq, Int.reduceBEq, Int.reduceBNe, @callV_spec E43 42 s42 rfl, @callV_specT E43 42 s42 rfl, @stepV_spec E43 42 s42 rfl, @effV_spec E43 42 s42 rfl, s42, callSpec, tiD_eq, dp22, dp23, dp24, dp77, dp40, buildCells, hg0, dl_0, dl_4, dl_1_0, dl_0_0, dl_2, dl_0_1_3, dl_0_1, dl_0_2, dl_1]
      have hwa : ∃ W : List (List PV), W = wrong.map encQ := ⟨_, rfl⟩
      obtain ⟨W, hW⟩ := hwa
      have hWl : W.length = 6 := by rw [hW]; rfl
      refine ev_loopD 21 (t := .sl W true) rfl ?_ [0] (fun i : Nat => [(21, .sl W true), (22, .int .i64 i)]) (fun i _ => i ≤ 6) (fun i => 6 - i) 0 ?_ (Nat.zero_le _) ?_
      · rw [hW]
        unfold Stands
        simp only [go_sem, Nat.reduceAdd, Nat.reduceSub, Nat.reduceMul, Nat.reduceEqDiff, Nat.reduceLT, Nat.reduceLeDiff, Nat.reduceBEq, Nat.reduceBNe, Int.reduceToNat, Int.reduceLE, Int.reduceLT, Int.reduceNe, Int.reduceNeg, reduceCtorEq, Int.reduceBEq, Int.reduceBNe, frz, set_at_eq]
        rfl
      · simp only [go_sem, Nat.reduceAdd, Nat.reduceSub, Nat.reduceMul, Nat.reduceEqDiff, Nat.reduceLT, Nat.reduceLeDiff, Nat.reduceBEq, Nat.reduceBNe, Int.reduceToNat, Int.reduceLE, Int.reduceLT, Int.reduceNe, Int.reduceNeg, reduceCtorEq, Int.reduceBEq, Int.reduceBNe, Int.natCast_zero]
      · clear hE hK
        simp only [go_sem, Nat.reduceAdd, Nat.reduceSub, Nat.reduceMul, Nat.reduceEqDiff, Nat.reduceLT, Nat.reduceLeDiff, Nat.reduceBEq, Nat.reduceBNe, Int.reduceToNat, Int.reduceLE, Int.reduceLT, Int.reduceNe, Int.reduceNeg, reduceCtorEq, Int.reduceBEq, Int.reduceBNe]
        intro K i H hi hK hE
        simp only [go_sem, Nat.reduceAdd, Nat.reduceSub, Nat.reduceMul, Nat.reduceEqDiff, Nat.reduceLT, Nat.reduceLeDiff, Nat.reduceBEq, Nat.reduceBNe, Int.reduceToNat, Int.reduceLE, Int.reduceLT, Int.reduceNe, Int.reduceNeg, reduceCtorEq, Int.reduceBEq, Int.reduceBNe, tiD_eq, hWl]
        rw [condK_bool]
        refine ⟨fun hc => ?_, fun hc => ?_⟩
        · as_aux_lemma =>
            have hi' : i < 6 := by have := of_decide_eq_true hc; omega
            have w2 : IntKind.i64.wrap ((i : Int) + 1) = (i : Int) + 1 := wrap_id (by omega)
            have hi3 : ((i : Int) < 6) = True := eq_true (by omega)
            obtain ⟨q, hq1, hq2⟩ := wrong_row hi'
            rw [← hW] at hq2
            have x1 := x_wr_fits q hq1
            have x2 := x_wr_post q hq1
            have x3 := x_wr_div q hq1
            have x4 := wrong_len q hq1
            obtain ⟨qk, qp⟩ := q
            have x5 : big qp.length = True := eq_true (by simp only at x4; unfold big; omega)
            have x6 : big [(⟨0, [2]⟩ : Parc), ⟨1, [0, 1, 3]⟩, ⟨qk, qp⟩].length = True := eq_true (by simp [big])
            have x7 : (∀ q : Parc, q ∈ [(⟨0, [2]⟩ : Parc), ⟨1, [0, 1, 3]⟩, ⟨qk, qp⟩] → big q.pieces.length) = True := eq_true (by
              intro q hq
              simp only [List.mem_cons, List.not_mem_nil, or_false] at hq
              simp only at x4
              rcases hq with h | h | h <;> subst h <;> simp only [List.length_cons, List.length_nil] <;> unfold big <;> omega)
            have x8 := dq3 qk qp
            have y1 : ((61 : Int) != 61) = false := rfl
            have y2 : ((0 : Int) != 0) = false := rfl
            simp (maxSteps := 4000000) only [go_sem, Nat.reduceAdd, Nat.reduceSub, Nat.reduceMul, Nat.reduceEqDiff, Nat.reduceLT, Nat.reduceLeDiff, Nat.reduceBEq, Nat.reduceBNe, Int.reduceToNat, Int.reduceLE, Int.reduceLT, Int.reduceNe, Int.reduceNeg, reduceCtorEq, Int.reduceBEq, Int.reduceBNe, @effV_eff E43 53 e53 rfl rfl, e53, @callV_spec E43 42 s42 rfl, @callV_specT E43 42 s42 rfl, @stepV_spec E43 42 s42 rfl, @effV_spec E43 42 s42 rfl, s42, @callV_spec E43 14 s14 rfl, @callV_specT E43 14 s14 rfl, @stepV_spec E43 14 s14 rfl, @effV_spec E43 14 s14 rfl, s14, @callV_spec E43 18 s18 rfl, @callV_specT E43 18 s18 rfl, @stepV_spec E43 18 s18 rfl, @effV_spec E43 18 s18 rfl, s18, @callV_spec E43 24 s24 rfl, @callV_specT E43 24 s24 rfl, @stepV_spec E43 24 s24 rfl, @effV_spec E43 24 s24 rfl, s24, callSpec, tiD_eq, dp22, dp23, dp24, dp77, dp40, hWl, hi3, ↓forall_bk, hq2, encQ, dk_bk, bk_big4, x1, x2, x3, x5, x6, x7, x8, y1, y2, w2, buildCells, dl_4_0, dl_0_3, il_nil_len, Int.natCast_zero, dl_0, dl_4, dl_1_0, dl_0_0, dl_2, dl_0_1_3, dl_0_1, dl_0_2, dl_1]
            refine ⟨fun q h => x7.mpr trivial q (by simpa using h), ?_⟩
            refine hK (i + 1) _ _ ?_ hi' (by omega)
            simp only [go_sem, Nat.reduceAdd, Nat.reduceSub, Nat.reduceMul, Nat.reduceEqDiff, Nat.reduceLT, Nat.reduceLeDiff, Nat.reduceBEq, Nat.reduceBNe, Int.reduceToNat, Int.reduceLE, Int.reduceLT, Int.reduceNe, Int.reduceNeg, reduceCtorEq, Int.reduceBEq, Int.reduceBNe, w2, Int.natCast_add, Int.natCast_one]
        · simp only [go_sem, Nat.reduceAdd, Nat.reduceSub, Nat.reduceMul, Nat.reduceEqDiff, Nat.reduceLT, Nat.reduceLeDiff, Nat.reduceBEq, Nat.reduceBNe, Int.reduceToNat, Int.reduceLE, Int.reduceLT, Int.reduceNe, Int.reduceNeg, reduceCtorEq, Int.reduceBEq, Int.reduceBNe]
          refine hE _ _ _ (by simp) ?_
          clear hE hK
          have y1 : ((61 : Int) != 61) = false := rfl
          have y2 : ((0 : Int) != 0) = false := rfl
          have y3 : ((4 : Int) != 4) = false := rfl
          have y4 : ((0 : Int) == 0) = true := rfl
          have y5 : ((15 : Int) == 15) = true := rfl
          have y6 : ((88 : Int) == 88) = true := rfl
          have y7 : (([1] : List Int) == [1]) = true := rfl
          have y8 : (([4, 0] : List Int) == [4, 0]) = true := rfl
          have y9 : (([0, 0] : List Int) == [0, 0]) = true := rfl
          have y10 : (([0, 3] : List Int) == [0, 3]) = true := rfl
          have b1 : big 1 = True := eq_true (by simp [big])
          have b2 : big 2 = True := eq_true (by simp [big])
          have b3 : big 3 = True := eq_true (by simp [big])
          have b4 : big (0 + 1) = True := eq_true (by simp [big])
          have b5 : big (0 + 1 + 1) = True := eq_true (by simp [big])
          have b7 : (∀ q : Parc, q = ⟨1, [0, 1, 3]⟩ → big q.pieces.length) = True := eq_true (by intro q h; subst h; simp [big])
          have b6 : big (0 + 1 + 1 + 1) = True := eq_true (by simp [big])
          simp (maxSteps := 40000000) only [go_sem, Nat.reduceAdd, Nat.reduceSub, Nat.reduceMul, Nat.reduceEqDiff, Nat.reduceLT, Nat.reduceLeDiff, Nat.reduceBEq, Nat.reduceBNe, Int.reduceToNat, Int.reduceLE, Int.reduceLT, Int.reduceNe, Int.reduceNeg, reduceCtorEq, Int.reduceBEq, Int.reduceBNe, @callV_spec E43 42 s42 rfl, @callV_specT E43 42 s42 rfl, @stepV_spec E43 42 s42 rfl, @effV_spec E43 42 s42 rfl, s42, @callV_spec E43 18 s18 rfl, @callV_specT E43 18 s18 rfl, @stepV_spec E43 18 s18 rfl, @effV_spec E43 18 s18 rfl, s18, @callV_spec E43 29 s29 rfl, @callV_specT E43 29 s29 rfl, @stepV_spec E43 29 s29 rfl, @effV_spec E43 29 s29 rfl, s29, @callV_spec E43 28 s28 rfl, @callV_specT E43 28 s28 rfl, @stepV_spec E43 28 s28 rfl, @effV_spec E43 28 s28 rfl, s28, @callV_spec E43 31 s31 rfl, @callV_specT E43 31 s31 rfl, @stepV_spec E43 31 s31 rfl, @effV_spec E43 31 s31 rfl, s31, @callV_in E43 53 rfl, heavy_none, hb, bkC, bkH, callSpec, tiD_eq, dp22, dp23, dp24, dp77, dp40, buildCells, hg0, y1, y2, y3, y4, y5, y6, y7, y8, y9, y10, b1, b2, b3, b4, b5, b6, b7, List.append, dl_4_0, dl_0_3, il_nil_len, Int.natCast_zero, dl_0, dl_4, dl_1_0, dl_0_0, dl_2, dl_0_1_3, dl_0_1, dl_0_2, dl_1, dk_bk, dk_large, dk_odd, bk_big4, large_big4, odd_big4, x_a1, x_c1, x_d1, x_e1, x_f1, x_g1, x_h1, x_a2, x_c2, x_d2, x_e2, x_f2, x_a3, x_c3, x_d3, x_e3, x_f3, x_g3, x_h3, dq1]
          as_aux_lemma =>
            simp (maxSteps := 40000000) only [go_sem, Nat.reduceAdd, Nat.reduceSub, Nat.reduceMul, Nat.reduceEqDiff, Nat.reduceLT, Nat.reduceLeDiff, Nat.reduceBEq, Nat.reduceBNe, Int.reduceToNat, Int.reduceLE, Int.reduceLT, Int.reduceNe, Int.reduceNeg, reduceCtorEq, Int.reduceBEq, Int.reduceBNe, @callV_spec E43 42 s42 rfl, @callV_specT E43 42 s42 rfl, @stepV_spec E43 42 s42 rfl, @effV_spec E43 42 s42 rfl, s42, @callV_spec E43 18 s18 rfl, @callV_specT E43 18 s18 rfl, @stepV_spec E43 18 s18 rfl, @effV_spec E43 18 s18 rfl, s18, @callV_spec E43 29 s29 rfl, @callV_specT E43 29 s29 rfl, @stepV_spec E43 29 s29 rfl, @effV_spec E43 29 s29 rfl, s29, @callV_spec E43 33 s33x rfl, @callV_specT E43 33 s33x rfl, @stepV_spec E43 33 s33x rfl, @effV_spec E43 33 s33x rfl, s33x, @callV_in E43 53 rfl, heavy_none, hb, bkC, bkH, callSpec, tiD_eq, dp22, dp23, dp24, dp77, dp40, buildCells, hg0, y1, y2, y3, y4, y5, y6, y7, y8, y9, y10, b1, b2, b3, b4, b5, b6, b7, List.append, dl_4_0, dl_0_3, il_nil_len, Int.natCast_zero, dl_0, dl_4, dl_1_0, dl_0_0, dl_2, dl_0_1_3, dl_0_1, dl_0_2, dl_1, dk_bk, dk_large, dk_odd, bk_big4, large_big4, odd_big4, x_a1, x_c1, x_d1, x_e1, x_f1, x_g1, x_h1, x_a2, x_c2, x_d2, x_e2, x_f2, x_a3, x_c3, x_d3, x_e3, x_f3, x_g3, x_h3, dq1]
            as_aux_lemma =>
              simp (maxSteps := 40000000) only [go_sem, Nat.reduceAdd, Nat.reduceSub, Nat.reduceMul, Nat.reduceEqDiff, Nat.reduceLT, Nat.reduceLeDiff, Nat.reduceBEq, Nat.reduceBNe, Int.reduceToNat, Int.reduceLE, Int.reduceLT, Int.reduceNe, Int.reduceNeg, reduceCtorEq, Int.reduceBEq, Int.reduceBNe, @callV_spec E43 42 s42 rfl, @callV_specT E43 42 s42 rfl, @stepV_spec E43 42 s42 rfl, @effV_spec E43 42 s42 rfl, s42, @callV_spec E43 14 s14 rfl, @callV_specT E43 14 s14 rfl, @stepV_spec E43 14 s14 rfl, @effV_spec E43 14 s14 rfl, s14, @callV_spec E43 18 s18 rfl, @callV_specT E43 18 s18 rfl, @stepV_spec E43 18 s18 rfl, @effV_spec E43 18 s18 rfl, s18, @callV_spec E43 24 s24 rfl, @callV_specT E43 24 s24 rfl, @stepV_spec E43 24 s24 rfl, @effV_spec E43 24 s24 rfl, s24, @callV_spec E43 29 s29 rfl, @callV_specT E43 29 s29 rfl, @stepV_spec E43 29 s29 rfl, @effV_spec E43 29 s29 rfl, s29, @callV_spec E43 28 s28 rfl, @callV_specT E43 28 s28 rfl, @stepV_spec E43 28 s28 rfl, @effV_spec E43 28 s28 rfl, s28, @callV_spec E43 26 s26 rfl, @callV_specT E43 26 s26 rfl, @stepV_spec E43 26 s26 rfl, @effV_spec E43 26 s26 rfl, s26, @callV_spec E43 20 s20 rfl, @callV_specT E43 20 s20 rfl, @stepV_spec E43 20 s20 rfl, @effV_spec E43 20 s20 rfl, s20, @callV_spec E43 31 s31 rfl, @callV_specT E43 31 s31 rfl, @stepV_spec E43 31 s31 rfl, @effV_spec E43 31 s31 rfl, s31, @callV_spec E43 33 s33x rfl, @callV_specT E43 33 s33x rfl, @stepV_spec E43 33 s33x rfl, @effV_spec E43 33 s33x rfl, s33x, @callV_spec E43 22 s22 rfl, @callV_specT E43 22 s22 rfl, @stepV_spec E43 22 s22 rfl, @effV_spec E43 22 s22 rfl, s22, @callV_in E43 53 rfl, heavy_none, hb, bkC, bkH, callSpec, tiD_eq, dp22, dp23, dp24, dp77, dp40, buildCells, hg0, y1, y2, y3, y4, y5, y6, y7, y8, y9, y10, b1, b2, b3, b4, b5, b6, b7, List.append, dl_4_0, dl_0_3, il_nil_len, Int.natCast_zero, dl_0, dl_4, dl_1_0, dl_0_0, dl_2, dl_0_1_3, dl_0_1, dl_0_2, dl_1, dk_bk, dk_large, dk_odd, bk_big4, large_big4, odd_big4, x_a1, x_c1, x_d1, x_e1, x_f1, x_g1, x_h1, x_a2, x_c2, x_d2, x_e2, x_f2, x_a3, x_c3, x_d3, x_e3, x_f3, x_g3, x_h3, dq1]
              as_aux_lemma =>
                simp (maxSteps := 40000000) only [go_sem, Nat.reduceAdd, Nat.reduceSub, Nat.reduceMul, Nat.reduceEqDiff, Nat.reduceLT, Nat.reduceLeDiff, Nat.reduceBEq, Nat.reduceBNe, Int.reduceToNat, Int.reduceLE, Int.reduceLT, Int.reduceNe, Int.reduceNeg, reduceCtorEq, Int.reduceBEq, Int.reduceBNe, @callV_spec E43 42 s42 rfl, @callV_specT E43 42 s42 rfl, @stepV_spec E43 42 s42 rfl, @effV_spec E43 42 s42 rfl, s42, @callV_spec E43 14 s14 rfl, @callV_specT E43 14 s14 rfl, @stepV_spec E43 14 s14 rfl, @effV_spec E43 14 s14 rfl, s14, @callV_spec E43 18 s18 rfl, @callV_specT E43 18 s18 rfl, @stepV_spec E43 18 s18 rfl, @effV_spec E43 18 s18 rfl, s18, @callV_spec E43 24 s24 rfl, @callV_specT E43 24 s24 rfl, @stepV_spec E43 24 s24 rfl, @effV_spec E43 24 s24 rfl, s24, @callV_spec E43 29 s29 rfl, @callV_specT E43 29 s29 rfl, @stepV_spec E43 29 s29 rfl, @effV_spec E43 29 s29 rfl, s29, @callV_spec E43 28 s28 rfl, @callV_specT E43 28 s28 rfl, @stepV_spec E43 28 s28 rfl, @effV_spec E43 28 s28 rfl, s28, @callV_spec E43 26 s26 rfl, @callV_specT E43 26 s26 rfl, @stepV_spec E43 26 s26 rfl, @effV_spec E43 26 s26 rfl, s26, @callV_spec E43 20 s20 rfl, @callV_specT E43 20 s20 rfl, @stepV_spec E43 20 s20 rfl, @effV_spec E43 20 s20 rfl, s20, @callV_spec E43 31 s31 rfl, @callV_specT E43 31 s31 rfl, @stepV_spec E43 31 s31 rfl, @effV_spec E43 31 s31 rfl, s31, @callV_spec E43 33 s33x rfl, @callV_specT E43 33 s33x rfl, @stepV_spec E43 33 s33x rfl, @effV_spec E43 33 s33x rfl, s33x, @callV_spec E43 22 s22 rfl, @callV_specT E43 22 s22 rfl, @stepV_spec E43 22 s22 rfl, @effV_spec E43 22 s22 rfl, s22, @callV_spec E43 23 s23 rfl, @callV_specT E43 23 s23 rfl, @stepV_spec E43 23 s23 rfl, @effV_spec E43 23 s23 rfl, s23, @callV_in E43 53 rfl, heavy_none, hb, bkC, bkH, callSpec, tiD_eq, dp22, dp23, dp24, dp77, dp40, buildCells, hg0, y1, y2, y3, y4, y5, y6, y7, y8, y9, y10, b1, b2, b3, b4, b5, b6, b7, List.append, dl_4_0, dl_0_3, il_nil_len, Int.natCast_zero, dl_0, dl_4, dl_1_0, dl_0_0, dl_2, dl_0_1_3, dl_0_1, dl_0_2, dl_1, dk_bk, dk_large, dk_odd, bk_big4, large_big4, odd_big4, x_a1, x_c1, x_d1, x_e1, x_f1, x_g1, x_h1, x_a2, x_c2, x_d2, x_e2, x_f2, x_a3, x_c3, x_d3, x_e3, x_f3, x_g3, x_h3, dq1]
end Wb
