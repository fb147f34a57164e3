import Derived.Test.YtjdljckgphbkmaaDoorY
set_option linter.unusedVariables false
set_option linter.unusedSimpArgs false
/- A book of some pieces alone: the walk. -/
namespace Wb
open Go Go.Proofs Enc Row
set_option linter.unusedSimpArgs false
set_option linter.unusedVariables false
set_option maxRecDepth 20000
set_option maxHeartbeats 4000000
theorem part_fn (b : PBook) (l : List Int) (hl : inP b l) (hn : l.length ≤ 1000) (hps : big b.pieces.length) : Fn E24 0 51 Tryd.f51 (Tryd.f51.body.getD .skip) [.agg (encB b), .sl (il l) false] (.agg (encB (partB b l))) := by
  have hpb : partB b l = ⟨l.map (pieceAt b), b.kinds, b.grams, b.free, b.unit, b.fee, b.stamps⟩ := rfl
  have htk : ∀ i, i < l.length → ((l.take (i + 1)).map (pieceAt b)).map encP = ((l.take i).map (pieceAt b)).map encP ++ [encP (pieceAt b (l.getD i 0))] := fun i h => by
    rw [List.take_succ_eq_append_getElem h, List.map_append, List.map_append]; simp [h]
  unfold Fn Tryd.f51
  rw [hpb]
  have hpa : ∀ k : Int, pieceAt b k = b.pieces.getD k.toNat default := fun _ => rfl
  generalize pieceAt b = pa at *
  obtain ⟨ps, ks, gr, fr, un, fe, st⟩ := b
  simp only at hpa hps
  unfold inP at hl
  simp only at hl
  unfold big at hps
  simp only [go_sem, Nat.reduceAdd, Nat.reduceSub, Nat.reduceMul, Nat.reduceEqDiff, Nat.reduceLT, Nat.reduceLeDiff, Nat.reduceBEq, Nat.reduceBNe, Int.reduceToNat, Int.reduceLE, Int.reduceLT, Int.reduceNe, Int.reduceNeg, reduceCtorEq, Int.reduceBEq, Int.reduceBNe, encB]
  refine ev_loopS [1, 2, 4, 5] (fun i : Nat => [(6, .int .i64 i)])
    (fun i H => i ≤ l.length ∧ H (([], 51000000) : Key) = some (.cells (encB ⟨ps, ks, gr, fr, un, fe, st⟩) 1 false) ∧ H (([], 51000001) : Key) = some (.cells [.sl [] true, .sl [] true, .int .i64 0, .int .i64 0, .int .i64 0, .int .i64 0, .sl [] true] 1 false) ∧ ∃ p, H (([], 51001001) : Key) = some (.cells [p, .sl (ks.map encK) false, .int .i64 gr, .int .i64 fr, .int .i64 un, .int .i64 fe, .sl (il st) false] 1 false) ∧
      Own H (fun K => K = ([], 51006011)) p 4 (((l.take i).map pa).map encP))
    (fun i => l.length - i) 0 ?_ ⟨Nat.zero_le _, ?_, ?_, .sl [] true, ?_, .nil⟩ ?_
  · simp only [go_sem, Nat.reduceAdd, Nat.reduceSub, Nat.reduceMul, Nat.reduceEqDiff, Nat.reduceLT, Nat.reduceLeDiff, Nat.reduceBEq, Nat.reduceBNe, Int.reduceToNat, Int.reduceLE, Int.reduceLT, Int.reduceNe, Int.reduceNeg, reduceCtorEq, Int.reduceBEq, Int.reduceBNe, Int.natCast_zero]
  · simp only [go_sem, Nat.reduceAdd, Nat.reduceSub, Nat.reduceMul, Nat.reduceEqDiff, Nat.reduceLT, Nat.reduceLeDiff, Nat.reduceBEq, Nat.reduceBNe, Int.reduceToNat, Int.reduceLE, Int.reduceLT, Int.reduceNe, Int.reduceNeg, reduceCtorEq, Int.reduceBEq, Int.reduceBNe, encB]
  · simp only [go_sem, Nat.reduceAdd, Nat.reduceSub, Nat.reduceMul, Nat.reduceEqDiff, Nat.reduceLT, Nat.reduceLeDiff, Nat.reduceBEq, Nat.reduceBNe, Int.reduceToNat, Int.reduceLE, Int.reduceLT, Int.reduceNe, Int.reduceNeg, reduceCtorEq, Int.reduceBEq, Int.reduceBNe]
  · simp only [go_sem, Nat.reduceAdd, Nat.reduceSub, Nat.reduceMul, Nat.reduceEqDiff, Nat.reduceLT, Nat.reduceLeDiff, Nat.reduceBEq, Nat.reduceBNe, Int.reduceToNat, Int.reduceLE, Int.reduceLT, Int.reduceNe, Int.reduceNeg, reduceCtorEq, Int.reduceBEq, Int.reduceBNe]
  · simp only [go_sem, Nat.reduceAdd, Nat.reduceSub, Nat.reduceMul, Nat.reduceEqDiff, Nat.reduceLT, Nat.reduceLeDiff, Nat.reduceBEq, Nat.reduceBNe, Int.reduceToNat, Int.reduceLE, Int.reduceLT, Int.reduceNe, Int.reduceNeg, reduceCtorEq, Int.reduceBEq, Int.reduceBNe]
    intro K i H ⟨hi, g1, g0, p, g2, g3⟩ hK hE
    obtain ⟨hT, hC, hP, hV, hU⟩ := OwnTaint g3
    have g1' := g1
    simp only [encB] at g1'
    simp only [go_sem, Nat.reduceAdd, Nat.reduceSub, Nat.reduceMul, Nat.reduceEqDiff, Nat.reduceLT, Nat.reduceLeDiff, Nat.reduceBEq, Nat.reduceBNe, Int.reduceToNat, Int.reduceLE, Int.reduceLT, Int.reduceNe, Int.reduceNeg, reduceCtorEq, Int.reduceBEq, Int.reduceBNe, il_length]
    rw [condK_bool]
    refine ⟨fun h => ?_, fun h => ?_⟩
    · have h' : i < l.length := by simpa using h
      have hii : (i : Int) < (l.length : Int) := by omega
      have w2 : IntKind.i64.wrap ((i : Int) + 1) = ((i + 1 : Nat) : Int) := by rw [Int.natCast_add, Int.natCast_one]; exact wrap_id (by omega)
      have hm : l.getD i 0 ∈ l := by simp [List.getD_eq_getElem?_getD, h']
      have hp := hl _ hm
      obtain ⟨q, hq⟩ : ∃ q : Nat, l.getD i 0 = (q : Int) := ⟨(l.getD i 0).toNat, by omega⟩
      have hqp : q < ps.length := by omega
      have hqi : (q : Int) < (ps.length : Int) := by omega
      have htk := htk i h'
      have hlt := List.length_take_le' i l
      rw [hq, hpa, Int.toNat_natCast] at htk
      generalize hyy : ps.getD q default = y at *
      simp only [go_sem, Nat.reduceAdd, Nat.reduceSub, Nat.reduceMul, Nat.reduceEqDiff, Nat.reduceLT, Nat.reduceLeDiff, Nat.reduceBEq, Nat.reduceBNe, Int.reduceToNat, Int.reduceLE, Int.reduceLT, Int.reduceNe, Int.reduceNeg, reduceCtorEq, Int.reduceBEq, Int.reduceBNe, g1', g2, hii, h', il_getD, il_length, hq, hqi, hqp, getD_mapN encP ps q _ hqp, hyy, encP, hT, hC, hP, hV, hU, List.length_map]
      have hmi : (((l.take i).map pa).map encP).length = i := by rw [List.length_map, List.length_map, List.length_take]; omega
      refine app_oneF trivial rfl rfl (by decide) (by decide) (set_at_eq _ _ _) (g3.frame fun K hK => ?_) ?_ ?_ ⟨rfl, rfl⟩ fun p' H' R' hR hO hF => ?_
      · subst hK; simp only [go_sem, Nat.reduceAdd, Nat.reduceSub, Nat.reduceMul, Nat.reduceEqDiff, Nat.reduceLT, Nat.reduceLeDiff, Nat.reduceBEq, Nat.reduceBNe, Int.reduceToNat, Int.reduceLE, Int.reduceLT, Int.reduceNe, Int.reduceNeg, reduceCtorEq, Int.reduceBEq, Int.reduceBNe]
      · rw [hmi]
        have : (E24.ti 79).bytes = 32 := rfl
        rw [this]; omega
      · intro row hrow
        obtain ⟨q, _, rfl⟩ := List.mem_map.1 hrow; rfl
      · have hO' : Own H' (fun K => K = ([], 51006011)) p' 4 (((l.take (i + 1)).map pa).map encP) := by
          rw [htk]; exact hO
        obtain ⟨hT', hC', hP', hV', hU'⟩ := OwnTaint hO
        have f1 := (hF ([], 51000000) (by simp))
        have f2 := (hF ([], 51000001) (by simp))
        have f3 := (hF ([], 51001001) (by simp))
        simp only [go_sem, Nat.reduceAdd, Nat.reduceSub, Nat.reduceMul, Nat.reduceEqDiff, Nat.reduceLT, Nat.reduceLeDiff, Nat.reduceBEq, Nat.reduceBNe, Int.reduceToNat, Int.reduceLE, Int.reduceLT, Int.reduceNe, Int.reduceNeg, reduceCtorEq, Int.reduceBEq, Int.reduceBNe, g1, g0, g2] at f1 f2 f3
        rcases hR with rfl | rfl
        · simp only [go_sem, Nat.reduceAdd, Nat.reduceSub, Nat.reduceMul, Nat.reduceEqDiff, Nat.reduceLT, Nat.reduceLeDiff, Nat.reduceBEq, Nat.reduceBNe, Int.reduceToNat, Int.reduceLE, Int.reduceLT, Int.reduceNe, Int.reduceNeg, reduceCtorEq, Int.reduceBEq, Int.reduceBNe, hT', hC', hP', hV', hU', f3]
          refine hK (i + 1) _ _ ?_ ⟨h', ?_, ?_, p', ?_, ?_⟩ (by omega)
          · simp only [go_sem, Nat.reduceAdd, Nat.reduceSub, Nat.reduceMul, Nat.reduceEqDiff, Nat.reduceLT, Nat.reduceLeDiff, Nat.reduceBEq, Nat.reduceBNe, Int.reduceToNat, Int.reduceLE, Int.reduceLT, Int.reduceNe, Int.reduceNeg, reduceCtorEq, Int.reduceBEq, Int.reduceBNe, w2]
          · simp only [go_sem, Nat.reduceAdd, Nat.reduceSub, Nat.reduceMul, Nat.reduceEqDiff, Nat.reduceLT, Nat.reduceLeDiff, Nat.reduceBEq, Nat.reduceBNe, Int.reduceToNat, Int.reduceLE, Int.reduceLT, Int.reduceNe, Int.reduceNeg, reduceCtorEq, Int.reduceBEq, Int.reduceBNe, f1]
          · simp only [go_sem, Nat.reduceAdd, Nat.reduceSub, Nat.reduceMul, Nat.reduceEqDiff, Nat.reduceLT, Nat.reduceLeDiff, Nat.reduceBEq, Nat.reduceBNe, Int.reduceToNat, Int.reduceLE, Int.reduceLT, Int.reduceNe, Int.reduceNeg, reduceCtorEq, Int.reduceBEq, Int.reduceBNe, f2]
          · simp only [go_sem, Nat.reduceAdd, Nat.reduceSub, Nat.reduceMul, Nat.reduceEqDiff, Nat.reduceLT, Nat.reduceLeDiff, Nat.reduceBEq, Nat.reduceBNe, Int.reduceToNat, Int.reduceLE, Int.reduceLT, Int.reduceNe, Int.reduceNeg, reduceCtorEq, Int.reduceBEq, Int.reduceBNe]
          · exact hO'.frame fun K hK => by subst hK; simp only [go_sem, Nat.reduceAdd, Nat.reduceSub, Nat.reduceMul, Nat.reduceEqDiff, Nat.reduceLT, Nat.reduceLeDiff, Nat.reduceBEq, Nat.reduceBNe, Int.reduceToNat, Int.reduceLE, Int.reduceLT, Int.reduceNe, Int.reduceNeg, reduceCtorEq, Int.reduceBEq, Int.reduceBNe]
        · simp only [go_sem, Nat.reduceAdd, Nat.reduceSub, Nat.reduceMul, Nat.reduceEqDiff, Nat.reduceLT, Nat.reduceLeDiff, Nat.reduceBEq, Nat.reduceBNe, Int.reduceToNat, Int.reduceLE, Int.reduceLT, Int.reduceNe, Int.reduceNeg, reduceCtorEq, Int.reduceBEq, Int.reduceBNe, hT', hC', hP', hV', hU', f3]
          refine hK (i + 1) _ _ ?_ ⟨h', ?_, ?_, p', ?_, ?_⟩ (by omega)
          · simp only [go_sem, Nat.reduceAdd, Nat.reduceSub, Nat.reduceMul, Nat.reduceEqDiff, Nat.reduceLT, Nat.reduceLeDiff, Nat.reduceBEq, Nat.reduceBNe, Int.reduceToNat, Int.reduceLE, Int.reduceLT, Int.reduceNe, Int.reduceNeg, reduceCtorEq, Int.reduceBEq, Int.reduceBNe, w2]
          · simp only [go_sem, Nat.reduceAdd, Nat.reduceSub, Nat.reduceMul, Nat.reduceEqDiff, Nat.reduceLT, Nat.reduceLeDiff, Nat.reduceBEq, Nat.reduceBNe, Int.reduceToNat, Int.reduceLE, Int.reduceLT, Int.reduceNe, Int.reduceNeg, reduceCtorEq, Int.reduceBEq, Int.reduceBNe, f1]
          · simp only [go_sem, Nat.reduceAdd, Nat.reduceSub, Nat.reduceMul, Nat.reduceEqDiff, Nat.reduceLT, Nat.reduceLeDiff, Nat.reduceBEq, Nat.reduceBNe, Int.reduceToNat, Int.reduceLE, Int.reduceLT, Int.reduceNe, Int.reduceNeg, reduceCtorEq, Int.reduceBEq, Int.reduceBNe, f2]
          · simp only [go_sem, Nat.reduceAdd, Nat.reduceSub, Nat.reduceMul, Nat.reduceEqDiff, Nat.reduceLT, Nat.reduceLeDiff, Nat.reduceBEq, Nat.reduceBNe, Int.reduceToNat, Int.reduceLE, Int.reduceLT, Int.reduceNe, Int.reduceNeg, reduceCtorEq, Int.reduceBEq, Int.reduceBNe]
          · exact hO'.frame fun K hK => by subst hK; simp only [go_sem, Nat.reduceAdd, Nat.reduceSub, Nat.reduceMul, Nat.reduceEqDiff, Nat.reduceLT, Nat.reduceLeDiff, Nat.reduceBEq, Nat.reduceBNe, Int.reduceToNat, Int.reduceLE, Int.reduceLT, Int.reduceNe, Int.reduceNeg, reduceCtorEq, Int.reduceBEq, Int.reduceBNe]
    · have hil : i = l.length := by simp only [decide_eq_false_iff_not] at h; omega
      subst hil
      rw [List.take_length] at g3
      refine hE _ _ _ (by simp) ?_
      rcases g3 with ⟨e1, rfl⟩ | ⟨K', v', rfl, rfl, h5⟩
      · simp only [go_sem, Nat.reduceAdd, Nat.reduceSub, Nat.reduceMul, Nat.reduceEqDiff, Nat.reduceLT, Nat.reduceLeDiff, Nat.reduceBEq, Nat.reduceBNe, Int.reduceToNat, Int.reduceLE, Int.reduceLT, Int.reduceNe, Int.reduceNeg, reduceCtorEq, Int.reduceBEq, Int.reduceBNe, g0, g2, e1]
        trace_state
      · simp only [go_sem, Nat.reduceAdd, Nat.reduceSub, Nat.reduceMul, Nat.reduceEqDiff, Nat.reduceLT, Nat.reduceLeDiff, Nat.reduceBEq, Nat.reduceBNe, Int.reduceToNat, Int.reduceLE, Int.reduceLT, Int.reduceNe, Int.reduceNeg, reduceCtorEq, Int.reduceBEq, Int.reduceBNe, g0, g2, h5, List.length_map]
        trace_state
def s51p : Spec := spec2 (fun (b : PBook) (l : List Int) => inP b l ∧ l.length ≤ 1000 ∧ big b.pieces.length) (fun b l => .agg (encB (partB b l)))
theorem s51p_ok : SpecOK Tryd.prog glB 51 s51p := spec2_ok E24_ok Tryd.func51 rfl (by kernel_rfl) fun b l h => part_fn b l h.1 h.2.1 h.2.2
noncomputable def E25t : List (Nat × Spec) := [(51, s51p)] ++ E24t
theorem E25t_ok : AllOK E25t := ⟨⟨s51p_ok, Tryd.call51⟩, E24t_ok⟩
noncomputable def E25 : Env := mkE E25t []
theorem E25_ok : EnvOK Tryd.prog E25 := envOK E25t_ok trivial
theorem E25_ti {t : Nat} : E25.ti t = ti t := rfl
theorem E25_q0 : (E25).eqt 130 = true := rfl
theorem E25_q1 : (E25).keyt 3 = true := rfl
theorem E25_q2 : (E25).keyt 85 = true := rfl
attribute [go_sem] E25_ti E25_q0 E25_q1 E25_q2
end Wb
/- ParcelSend. -/
namespace Wb
open Go Go.Proofs Enc Row
set_option linter.unusedSimpArgs false
set_option linter.unusedVariables false
set_option maxRecDepth 20000
set_option maxHeartbeats 4000000
theorem part_big {b : PBook} (h4 : Big4 b) {l : List Int} (hl : l.length ≤ 1000) : Big4 (partB b l) :=
  ⟨by unfold partB; rw [List.length_map]; unfold big; omega, h4.k, h4.z, h4.s⟩
/-- What a part of the book costs, as the law looks at it. -/
theorem part_case {b : PBook} (hb : bookOk b = true) {s : Nat} (hs : s < 2 ^ b.pieces.length) {z : Int} (hz : 0 ≤ z ∧ z ≤ 4) : ∃ q g, costM (partB b (ofS s 7)) z = (q, g) ∧ (s = 0 ∨ (g = 4 ∧ q = 0 ∧ (dvOf true b z s).2 < 0) ∨ (g = 0 ∧ q = (dvOf true b z s).2 ∧ 0 ≤ q)) := by
  by_cases h0 : s = 0
  · exact ⟨_, _, rfl, .inl h0⟩
  · rw [part_cost hb h0 hs hz]
    by_cases h : (dvOf true b z s).2 < 0
    · rw [if_pos h]; exact ⟨0, 4, rfl, .inr (.inl ⟨rfl, rfl, h⟩)⟩
    · rw [if_neg h]; exact ⟨_, 0, rfl, .inr (.inr ⟨rfl, rfl, by omega⟩)⟩
theorem send_law (b : PBook) (h4 : Big4 b) (n0 n1 n2 n3 : Int) : Fn E25 0 12 Tryd.f12 (Tryd.f12.body.getD .skip) [.agg (encB b), .agg [.int .i64 n0, .int .i64 n1, .int .i64 n2, .int .i64 n3]] (.bool true) := by
  have hdb : (dec (.agg (encB b)) : Option PBook) = some b := dec_book b
  unfold Fn Tryd.f12
  cases hb : bookOk b with
  | false =>
    obtain ⟨ps, ks, gr, fr, un, fe, st⟩ := b
    simp only [encB] at hdb
    simp only [go_sem, Nat.reduceAdd, Nat.reduceSub, Nat.reduceMul, Nat.reduceEqDiff, Nat.reduceLT, Nat.reduceLeDiff, Nat.reduceBEq, Nat.reduceBNe, Int.reduceToNat, Int.reduceLE, Int.reduceLT, Int.reduceNe, Int.reduceNeg, reduceCtorEq, Int.reduceBEq, Int.reduceBNe, @callV_spec E25 36 s36 rfl, @callV_specT E25 36 s36 rfl, @stepV_spec E25 36 s36 rfl, @effV_spec E25 36 s36 rfl, s36, @callV_spec E25 23 s23 rfl, @callV_specT E25 23 s23 rfl, @stepV_spec E25 23 s23 rfl, @effV_spec E25 23 s23 rfl, s23, encB, callSpec, hdb, h4, hb]
  | true =>
    have hG := book_good hb
    have p7 := hG.p7
    have hn7 := two7 p7
    have hpn := Nat.two_pow_pos b.pieces.length
    obtain ⟨z1, z2⟩ := spin_range (n := n0) (m := 5) (by omega)
    generalize hz : spinF n0 5 = z at *
    have hzz : 0 ≤ z ∧ z ≤ 4 := by omega
    obtain ⟨c1, c2⟩ := spin_range (n := n1) (m := 20001) (by omega)
    generalize hc : spinF n1 20001 = c at *
    obtain ⟨d1, d2⟩ := spin_range (n := n2) (m := 100) (by omega)
    generalize hd : spinF n2 100 = d at *
    have wcd : IntKind.i64.wrap (c + d) = c + d := wrap_id (by omega)
    obtain ⟨c', hc'⟩ : ∃ c', (if c + d < 20000 then c + d else 20000) = c' := ⟨_, rfl⟩
    have hcc : c ≤ c' ∧ c' ≤ 20000 := by split at hc' <;> omega
    obtain ⟨o, ho, hol⟩ := spin_nat (n := n3) (m := 2 ^ b.pieces.length) (by omega)
    have hsh := shl_one (k := b.pieces.length) (by omega)
    have hpw : (((2 ^ b.pieces.length : Nat) : Int) ≤ 9223372036854775807) = True := eq_true (by omega)
    obtain ⟨B1, x1, x2, x3, x4⟩ := sendM_ok hb hzz (c := c) ⟨c1, by omega⟩
    obtain ⟨B2, y1, y2, y3, y4⟩ := sendM_ok hb hzz (c := c') ⟨by omega, by omega⟩
    rw [← sendX_eq] at x1 y1
    have hofo := of_trunc p7 hol
    have hcl := fun s (hs : s < 2 ^ b.pieces.length) => climbs_all b.pieces.length (by omega) s (by omega) hs
    have hcl1 := hcl B1 x2
    have hcl2 := hcl B2 y2
    have hlen := fun s => ofS_len s 7
    have hin := fun s (hs : s < 2 ^ b.pieces.length) => eq_true (inP_of (b := b) hs)
    have hin1 := hin B1 x2
    have hin2 := hin B2 y2
    have hino := hin o hol
    have hl1 : ∀ s, ((ofS s 7).length ≤ 1000) = True := fun s => eq_true (by have := hlen s; omega)
    have hlb : ∀ s, (big (ofS s 7).length) = True := fun s => eq_true (by have := hlen s; unfold big; omega)
    have hpbig : ∀ s, (Big4 (partB b (ofS s 7))) = True := fun s => eq_true (part_big h4 (by have := hlen s; omega))
    have hpp : big b.pieces.length = True := eq_true h4.p
    obtain ⟨q1, g1, e1, f1⟩ := part_case hb x2 hzz
    obtain ⟨q2, g2, e2, f2⟩ := part_case hb hol hzz
    obtain ⟨q3, g3, e3, f3⟩ : ∃ q g, costM b z = (q, g) ∧ ((g = 4 ∧ q = 0) ∨ (g = 0 ∧ 0 ≤ q ∧ okS b z q (2 ^ b.pieces.length - 1))) := by
      unfold costM
      rw [whole_eq hb hzz]
      by_cases h : (dvOf true b z (2 ^ b.pieces.length - 1)).2 < 0
      · rw [if_pos h]; exact ⟨0, 4, rfl, .inl ⟨rfl, rfl⟩⟩
      · rw [if_neg h]; exact ⟨(dvOf true b z (2 ^ b.pieces.length - 1)).2, 0, rfl, .inr ⟨rfl, by omega, by unfold okS; omega⟩⟩
    have hofz : ofS 0 7 = [] := by decide
    have cond1 : (decide (((ofS B1 7).length : Int) > 0) && ((g1 != 0) || decide (q1 > c))) = false := by
      rcases f1 with rfl | ⟨_, _, h⟩ | ⟨rfl, rfl, h⟩
      · rw [hofz]; rfl
      · unfold okS at x3; omega
      · unfold okS at x3
        have : decide ((dvOf true b z B1).2 > c) = false := decide_eq_false (by omega)
        rw [this]; simp
    have cond2 : ((decide (((ofS o 7).length : Int) > 0) && (g2 == 0)) && decide (q2 ≤ c)) = true → moreR b o B1 = false := by
      intro h
      simp only [Bool.and_eq_true, decide_eq_true_eq, beq_iff_eq] at h
      rw [moreR_eq]
      refine x4 o hol ?_
      rcases f2 with rfl | ⟨rfl, _, _⟩ | ⟨_, rfl, h2⟩
      · rw [hofz] at h; simp at h
      · omega
      · unfold okS; omega
    have cond3 : decide (sumP b .worth (ofS B2 7) < sumP b .worth (ofS B1 7)) = false := by
      have h := y4 B1 x2 (by unfold okS at *; omega)
      rw [← Bool.not_eq_true, more_iff] at h
      exact decide_eq_false (by omega)
    unfold moreR at cond2
    obtain ⟨B3, hB3⟩ : ∃ B3, g3 = 0 → q3 ≤ 20000 → sendX b z q3 = (ofS B3 7, 0) ∧ (ofS B3 7).length = b.pieces.length := by
      by_cases h : g3 = 0 ∧ q3 ≤ 20000
      · rcases f3 with ⟨h1, _⟩ | ⟨_, h1, h2⟩
        · omega
        · obtain ⟨B3, w1, w2, w3, w4⟩ := sendM_ok hb hzz (c := q3) ⟨h1, h.2⟩
          rw [← sendX_eq] at w1
          exact ⟨B3, fun _ _ => ⟨w1, send_all hG w2 (w4 _ (full_lt _) h2)⟩⟩
      · exact ⟨0, fun a b => absurd ⟨a, b⟩ h⟩
    have ho62 : ((o : Int) < 2 ^ 62) = True := eq_true (by omega)
    have hp62 : ((b.pieces.length : Int) ≤ 62) = True := eq_true (by omega)
    have hdp : ∀ s, (dec (.agg (encB (partB b (ofS s 7)))) : Option PBook) = some (partB b (ofS s 7)) := fun s => dec_book _
    obtain ⟨ps, ks, gr, fr, un, fe, st⟩ := b
    simp only [encB] at hdb
    simp only at ho hsh hpw hofo hcl1 hcl2 hB3 hp62 hpp
    simp only [go_sem, Nat.reduceAdd, Nat.reduceSub, Nat.reduceMul, Nat.reduceEqDiff, Nat.reduceLT, Nat.reduceLeDiff, Nat.reduceBEq, Nat.reduceBNe, Int.reduceToNat, Int.reduceLE, Int.reduceLT, Int.reduceNe, Int.reduceNeg, reduceCtorEq, Int.reduceBEq, Int.reduceBNe, @callV_spec E25 36 s36 rfl, @callV_specT E25 36 s36 rfl, @stepV_spec E25 36 s36 rfl, @effV_spec E25 36 s36 rfl, s36, @callV_spec E25 35 sSpin rfl, @callV_specT E25 35 sSpin rfl, @stepV_spec E25 35 sSpin rfl, @effV_spec E25 35 sSpin rfl, sSpin, @callV_spec E25 33 s33x rfl, @callV_specT E25 33 s33x rfl, @stepV_spec E25 33 s33x rfl, @effV_spec E25 33 s33x rfl, s33x, @callV_spec E25 37 s37 rfl, @callV_specT E25 37 s37 rfl, @stepV_spec E25 37 s37 rfl, @effV_spec E25 37 s37 rfl, s37, @callV_spec E25 51 s51p rfl, @callV_specT E25 51 s51p rfl, @stepV_spec E25 51 s51p rfl, @effV_spec E25 51 s51p rfl, s51p, @callV_spec E25 28 s28 rfl, @callV_specT E25 28 s28 rfl, @stepV_spec E25 28 s28 rfl, @effV_spec E25 28 s28 rfl, s28, @callV_spec E25 46 s46 rfl, @callV_specT E25 46 s46 rfl, @stepV_spec E25 46 s46 rfl, @effV_spec E25 46 s46 rfl, s46, encB, callSpec, hdb, h4, hb, hz, hc, hd, wcd, hc', ho, hsh, hpw, binInt, x1, y1, hofo, hcl1, hcl2, hin1, hin2, hino, hl1, hlb, hpbig, hpp, hdp, e1, e2, cond1, ho62, hp62, il_length, List.length_map, Int.natCast_nonneg, Int.toNat_natCast]
    refine ⟨fun a b => ⟨a, b⟩, ?_⟩
    rw [condK_bool]
    refine ⟨fun hc2 => ?_, fun hc2 => ?_⟩
    · have hm := cond2 hc2
      simp only [go_sem, Nat.reduceAdd, Nat.reduceSub, Nat.reduceMul, Nat.reduceEqDiff, Nat.reduceLT, Nat.reduceLeDiff, Nat.reduceBEq, Nat.reduceBNe, Int.reduceToNat, Int.reduceLE, Int.reduceLT, Int.reduceNe, Int.reduceNeg, reduceCtorEq, Int.reduceBEq, Int.reduceBNe, @callV_spec E25 52 s52 rfl, @callV_specT E25 52 s52 rfl, @stepV_spec E25 52 s52 rfl, @effV_spec E25 52 s52 rfl, s52, @callV_spec E25 50 s50 rfl, @callV_specT E25 50 s50 rfl, @stepV_spec E25 50 s50 rfl, @effV_spec E25 50 s50 rfl, s50, callSpec, encB, hdb, h4, hG, hin1, hin2, hino, hl1, hlb, hm, il_length, List.length_map]
      refine ⟨fun a b => ⟨a, b⟩, fun a b => ⟨a, b⟩, fun a b => ⟨a, b⟩, ?_⟩
      rcases f3 with ⟨rfl, rfl⟩ | ⟨rfl, h3⟩
      · simp only [go_sem, Nat.reduceAdd, Nat.reduceSub, Nat.reduceMul, Nat.reduceEqDiff, Nat.reduceLT, Nat.reduceLeDiff, Nat.reduceBEq, Nat.reduceBNe, Int.reduceToNat, Int.reduceLE, Int.reduceLT, Int.reduceNe, Int.reduceNeg, reduceCtorEq, Int.reduceBEq, Int.reduceBNe, @callV_spec E25 52 s52 rfl, @callV_specT E25 52 s52 rfl, @stepV_spec E25 52 s52 rfl, @effV_spec E25 52 s52 rfl, s52, @callV_spec E25 50 s50 rfl, @callV_specT E25 50 s50 rfl, @stepV_spec E25 50 s50 rfl, @effV_spec E25 50 s50 rfl, s50, @callV_spec E25 28 s28 rfl, @callV_specT E25 28 s28 rfl, @stepV_spec E25 28 s28 rfl, @effV_spec E25 28 s28 rfl, s28, @callV_spec E25 33 s33x rfl, @callV_specT E25 33 s33x rfl, @stepV_spec E25 33 s33x rfl, @effV_spec E25 33 s33x rfl, s33x, @callV_spec E25 23 s23 rfl, @callV_specT E25 23 s23 rfl, @stepV_spec E25 23 s23 rfl, @effV_spec E25 23 s23 rfl, s23, callSpec, encB, hdb, h4, hG, hin1, hin2, hino, hl1, hlb, cond3, e3, il_length, List.length_map, bne_self_eq_false, beq_self_eq_true]
      · by_cases hq : q3 > 20000
        · have hqd : decide (q3 > 20000) = true := decide_eq_true hq
          simp only [go_sem, Nat.reduceAdd, Nat.reduceSub, Nat.reduceMul, Nat.reduceEqDiff, Nat.reduceLT, Nat.reduceLeDiff, Nat.reduceBEq, Nat.reduceBNe, Int.reduceToNat, Int.reduceLE, Int.reduceLT, Int.reduceNe, Int.reduceNeg, reduceCtorEq, Int.reduceBEq, Int.reduceBNe, @callV_spec E25 52 s52 rfl, @callV_specT E25 52 s52 rfl, @stepV_spec E25 52 s52 rfl, @effV_spec E25 52 s52 rfl, s52, @callV_spec E25 50 s50 rfl, @callV_specT E25 50 s50 rfl, @stepV_spec E25 50 s50 rfl, @effV_spec E25 50 s50 rfl, s50, @callV_spec E25 28 s28 rfl, @callV_specT E25 28 s28 rfl, @stepV_spec E25 28 s28 rfl, @effV_spec E25 28 s28 rfl, s28, @callV_spec E25 33 s33x rfl, @callV_specT E25 33 s33x rfl, @stepV_spec E25 33 s33x rfl, @effV_spec E25 33 s33x rfl, s33x, @callV_spec E25 23 s23 rfl, @callV_specT E25 23 s23 rfl, @stepV_spec E25 23 s23 rfl, @effV_spec E25 23 s23 rfl, s23, callSpec, encB, hdb, h4, hG, hin1, hin2, hino, hl1, hlb, cond3, e3, hqd, il_length, List.length_map, bne_self_eq_false, beq_self_eq_true]
        · have hqd : decide (q3 > 20000) = false := decide_eq_false hq
          obtain ⟨hx3, hl3⟩ := hB3 rfl (by omega)
          simp only [go_sem, Nat.reduceAdd, Nat.reduceSub, Nat.reduceMul, Nat.reduceEqDiff, Nat.reduceLT, Nat.reduceLeDiff, Nat.reduceBEq, Nat.reduceBNe, Int.reduceToNat, Int.reduceLE, Int.reduceLT, Int.reduceNe, Int.reduceNeg, reduceCtorEq, Int.reduceBEq, Int.reduceBNe, @callV_spec E25 52 s52 rfl, @callV_specT E25 52 s52 rfl, @stepV_spec E25 52 s52 rfl, @effV_spec E25 52 s52 rfl, s52, @callV_spec E25 50 s50 rfl, @callV_specT E25 50 s50 rfl, @stepV_spec E25 50 s50 rfl, @effV_spec E25 50 s50 rfl, s50, @callV_spec E25 28 s28 rfl, @callV_specT E25 28 s28 rfl, @stepV_spec E25 28 s28 rfl, @effV_spec E25 28 s28 rfl, s28, @callV_spec E25 33 s33x rfl, @callV_specT E25 33 s33x rfl, @stepV_spec E25 33 s33x rfl, @effV_spec E25 33 s33x rfl, s33x, @callV_spec E25 23 s23 rfl, @callV_specT E25 23 s23 rfl, @stepV_spec E25 23 s23 rfl, @effV_spec E25 23 s23 rfl, s23, callSpec, encB, hdb, h4, hG, hin1, hin2, hino, hl1, hlb, cond3, e3, hqd, hx3, hl3, il_length, List.length_map, bne_self_eq_false, beq_self_eq_true]
    · simp only [go_sem, Nat.reduceAdd, Nat.reduceSub, Nat.reduceMul, Nat.reduceEqDiff, Nat.reduceLT, Nat.reduceLeDiff, Nat.reduceBEq, Nat.reduceBNe, Int.reduceToNat, Int.reduceLE, Int.reduceLT, Int.reduceNe, Int.reduceNeg, reduceCtorEq, Int.reduceBEq, Int.reduceBNe, encB]
      rcases f3 with ⟨rfl, rfl⟩ | ⟨rfl, h3⟩
      · simp only [go_sem, Nat.reduceAdd, Nat.reduceSub, Nat.reduceMul, Nat.reduceEqDiff, Nat.reduceLT, Nat.reduceLeDiff, Nat.reduceBEq, Nat.reduceBNe, Int.reduceToNat, Int.reduceLE, Int.reduceLT, Int.reduceNe, Int.reduceNeg, reduceCtorEq, Int.reduceBEq, Int.reduceBNe, @callV_spec E25 52 s52 rfl, @callV_specT E25 52 s52 rfl, @stepV_spec E25 52 s52 rfl, @effV_spec E25 52 s52 rfl, s52, @callV_spec E25 50 s50 rfl, @callV_specT E25 50 s50 rfl, @stepV_spec E25 50 s50 rfl, @effV_spec E25 50 s50 rfl, s50, @callV_spec E25 28 s28 rfl, @callV_specT E25 28 s28 rfl, @stepV_spec E25 28 s28 rfl, @effV_spec E25 28 s28 rfl, s28, @callV_spec E25 33 s33x rfl, @callV_specT E25 33 s33x rfl, @stepV_spec E25 33 s33x rfl, @effV_spec E25 33 s33x rfl, s33x, @callV_spec E25 23 s23 rfl, @callV_specT E25 23 s23 rfl, @stepV_spec E25 23 s23 rfl, @effV_spec E25 23 s23 rfl, s23, callSpec, encB, hdb, h4, hG, hin1, hin2, hino, hl1, hlb, cond3, e3, il_length, List.length_map, bne_self_eq_false, beq_self_eq_true]
      · by_cases hq : q3 > 20000
        · have hqd : decide (q3 > 20000) = true := decide_eq_true hq
          simp only [go_sem, Nat.reduceAdd, Nat.reduceSub, Nat.reduceMul, Nat.reduceEqDiff, Nat.reduceLT, Nat.reduceLeDiff, Nat.reduceBEq, Nat.reduceBNe, Int.reduceToNat, Int.reduceLE, Int.reduceLT, Int.reduceNe, Int.reduceNeg, reduceCtorEq, Int.reduceBEq, Int.reduceBNe, @callV_spec E25 52 s52 rfl, @callV_specT E25 52 s52 rfl, @stepV_spec E25 52 s52 rfl, @effV_spec E25 52 s52 rfl, s52, @callV_spec E25 50 s50 rfl, @callV_specT E25 50 s50 rfl, @stepV_spec E25 50 s50 rfl, @effV_spec E25 50 s50 rfl, s50, @callV_spec E25 28 s28 rfl, @callV_specT E25 28 s28 rfl, @stepV_spec E25 28 s28 rfl, @effV_spec E25 28 s28 rfl, s28, @callV_spec E25 33 s33x rfl, @callV_specT E25 33 s33x rfl, @stepV_spec E25 33 s33x rfl, @effV_spec E25 33 s33x rfl, s33x, @callV_spec E25 23 s23 rfl, @callV_specT E25 23 s23 rfl, @stepV_spec E25 23 s23 rfl, @effV_spec E25 23 s23 rfl, s23, callSpec, encB, hdb, h4, hG, hin1, hin2, hino, hl1, hlb, cond3, e3, hqd, il_length, List.length_map, bne_self_eq_false, beq_self_eq_true]
        · have hqd : decide (q3 > 20000) = false := decide_eq_false hq
          obtain ⟨hx3, hl3⟩ := hB3 rfl (by omega)
          simp only [go_sem, Nat.reduceAdd, Nat.reduceSub, Nat.reduceMul, Nat.reduceEqDiff, Nat.reduceLT, Nat.reduceLeDiff, Nat.reduceBEq, Nat.reduceBNe, Int.reduceToNat, Int.reduceLE, Int.reduceLT, Int.reduceNe, Int.reduceNeg, reduceCtorEq, Int.reduceBEq, Int.reduceBNe, @callV_spec E25 52 s52 rfl, @callV_specT E25 52 s52 rfl, @stepV_spec E25 52 s52 rfl, @effV_spec E25 52 s52 rfl, s52, @callV_spec E25 50 s50 rfl, @callV_specT E25 50 s50 rfl, @stepV_spec E25 50 s50 rfl, @effV_spec E25 50 s50 rfl, s50, @callV_spec E25 28 s28 rfl, @callV_specT E25 28 s28 rfl, @stepV_spec E25 28 s28 rfl, @effV_spec E25 28 s28 rfl, s28, @callV_spec E25 33 s33x rfl, @callV_specT E25 33 s33x rfl, @stepV_spec E25 33 s33x rfl, @effV_spec E25 33 s33x rfl, s33x, @callV_spec E25 23 s23 rfl, @callV_specT E25 23 s23 rfl, @stepV_spec E25 23 s23 rfl, @effV_spec E25 23 s23 rfl, s23, callSpec, encB, hdb, h4, hG, hin1, hin2, hino, hl1, hlb, cond3, e3, hqd, hx3, hl3, il_length, List.length_map, bne_self_eq_false, beq_self_eq_true]
end Wb
