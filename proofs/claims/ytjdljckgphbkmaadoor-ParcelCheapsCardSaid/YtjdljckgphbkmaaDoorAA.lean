import Derived.Test.YtjdljckgphbkmaaDoorY
set_option linter.unusedVariables false
set_option linter.unusedSimpArgs false
/- The reference's Few. -/
namespace Wb
open Go Go.Proofs Enc Row
set_option linter.unusedSimpArgs false
set_option linter.unusedVariables false
set_option maxRecDepth 20000
set_option maxHeartbeats 4000000
def encF (k : Kind) : List PV := [.int .i64 k.room, .int .i64 k.most, .sl [[.int .i64 1], [.int .i64 1], [.int .i64 1], [.int .i64 1], [.int .i64 1]] true, .int .i64 0]
theorem drows_flat : ∀ ks : List Kind, (drows (ks.map encF) : Option (List Kind)) = some (ks.map flatK)
  | [] => rfl
  | k :: ks => by
    rw [List.map_cons, List.map_cons, drows, drows_flat ks]
    rfl
theorem dec_flat (ps : List Piece) (ks : List Kind) (a b c d : Int) (st : List Int) (e1 e2 e3 : Bool) : (dec (.agg [.sl (ps.map encP) e1, .sl (ks.map encF) e2, .int .i64 a, .int .i64 b, .int .i64 c, .int .i64 d, .sl (il st) e3]) : Option PBook) = some ⟨ps, ks.map flatK, a, b, c, d, st⟩ := by
  show dB7 _ _ _ _ _ _ _ = _
  have h1 := drows_rows ps
  have h2 := drows_flat ks
  have h3 := drows_rows st
  unfold dB7
  rw [show ps.map encP = rows ps from rfl, show il st = rows st from rfl, h1, h2, h3]
theorem rFew_fn (b : PBook) (h4 : Big4 b) : Fn E22 0 27 Tryd.f27 (Tryd.f27.body.getD .skip) [.agg (encB b)] (.tup [.int .i64 (fewM b).1, .int .i64 (fewM b).2]) := by
  unfold Fn Tryd.f27
  have hdb : (dec (.agg (encB b)) : Option PBook) = some b := dec_book b
  cases hb : bookOk b with
  | false =>
    have hf : fewM b = (0, 60) := by unfold fewM wholeM; rw [hb]; rfl
    obtain ⟨ps, ks, gr, fr, un, fe, st⟩ := b
    simp only [encB] at hdb
    simp only [go_sem, Nat.reduceAdd, Nat.reduceSub, Nat.reduceMul, Nat.reduceEqDiff, Nat.reduceLT, Nat.reduceLeDiff, Nat.reduceBEq, Nat.reduceBNe, Int.reduceToNat, Int.reduceLE, Int.reduceLT, Int.reduceNe, Int.reduceNeg, reduceCtorEq, Int.reduceBEq, Int.reduceBNe, @callV_spec E22 17 s17 rfl, @callV_specT E22 17 s17 rfl, @stepV_spec E22 17 s17 rfl, @effV_spec E22 17 s17 rfl, s17, callSpec, encB, hdb, hb, h4, hf]
  | true =>
    have hG := book_good hb
    have k1 := hG.k1
    have k4 := hG.k4
    have hp1 := Nat.two_pow_pos b.pieces.length
    have hple := two7 hG.p7
    have hbf := flat_ok hb
    have hfp := flat_price hb (s := 2 ^ b.pieces.length - 1) (by omega)
    have hpr := priceT_dv (book_good hbf) (z := 0) (by decide) (s := 2 ^ b.pieces.length - 1) (by omega)
    have hfew : (rcheapM (flatB b) 0).1.2 = (fewM b).1 ∧ (rcheapM (flatB b) 0).2 = (fewM b).2 := by
      have e : ∀ c x, bookOk x = true → wholeM c x 0 = if (dvOf c x 0 (2 ^ x.pieces.length - 1)).2 < 0 then (([], 0), 4) else (dvOf c x 0 (2 ^ x.pieces.length - 1), 0) := fun c x hx => by unfold wholeM; rw [hx]; rfl
      unfold rcheapM fewM
      rw [e _ _ hb, e _ _ hbf]
      rw [show (flatB b).pieces = b.pieces from rfl] at *
      rw [hfp] at hpr
      by_cases h1 : (dvOf false b 0 (2 ^ b.pieces.length - 1)).2 < 0
      · rw [if_pos h1] at hpr ⊢
        by_cases h2 : (dvOf true (flatB b) 0 (2 ^ b.pieces.length - 1)).2 < 0
        · rw [if_pos h2]; exact ⟨rfl, rfl⟩
        · rw [if_neg h2] at hpr
          have := congrArg Prod.snd hpr
          simp only at this; omega
      · rw [if_neg h1] at hpr ⊢
        by_cases h2 : (dvOf true (flatB b) 0 (2 ^ b.pieces.length - 1)).2 < 0
        · rw [if_pos h2] at hpr
          have := congrArg Prod.snd hpr
          simp only at this; omega
        · rw [if_neg h2] at hpr ⊢
          have := congrArg Prod.snd hpr
          simp only at this
          exact ⟨this.symm, rfl⟩
    have h4f : Big4 (flatB b) := ⟨h4.p, by unfold flatB; rw [List.length_map]; exact h4.k, fun k hk => by
      unfold flatB at hk
      obtain ⟨j, _, rfl⟩ := List.mem_map.1 hk
      unfold flatK big; simp, h4.s⟩
    generalize hrc : rcheapM (flatB b) 0 = rc at *
    generalize hfm : fewM b = fm at *
    unfold flatB at hrc h4f
    obtain ⟨ps, ks, gr, fr, un, fe, st⟩ := b
    simp only [encB] at hdb
    simp only at k1 k4 hrc h4f
    simp only [go_sem, Nat.reduceAdd, Nat.reduceSub, Nat.reduceMul, Nat.reduceEqDiff, Nat.reduceLT, Nat.reduceLeDiff, Nat.reduceBEq, Nat.reduceBNe, Int.reduceToNat, Int.reduceLE, Int.reduceLT, Int.reduceNe, Int.reduceNeg, reduceCtorEq, Int.reduceBEq, Int.reduceBNe, @callV_spec E22 17 s17 rfl, @callV_specT E22 17 s17 rfl, @stepV_spec E22 17 s17 rfl, @effV_spec E22 17 s17 rfl, s17, callSpec, encB, hdb, hb, h4, List.length_map]
    refine ev_loopS [1, 5] (fun i : Nat => [(6, .int .i64 i)])
      (fun i H => i ≤ ks.length ∧ H (([], 27000000) : Key) = some (.cells (encB ⟨ps, ks, gr, fr, un, fe, st⟩) 1 false) ∧ ∃ p, H (([], 27004001) : Key) = some (.cells [.sl (ps.map encP) false, p, .int .i64 gr, .int .i64 fr, .int .i64 un, .int .i64 0, .sl (il st) false] 1 false) ∧
        Own H (fun K => K = ([], 27009017)) p 4 ((ks.take i).map encF))
      (fun i => ks.length - i) 0 ?_ ⟨Nat.zero_le _, ?_, .sl [] true, ?_, .nil⟩ ?_
    · simp only [go_sem, Nat.reduceAdd, Nat.reduceSub, Nat.reduceMul, Nat.reduceEqDiff, Nat.reduceLT, Nat.reduceLeDiff, Nat.reduceBEq, Nat.reduceBNe, Int.reduceToNat, Int.reduceLE, Int.reduceLT, Int.reduceNe, Int.reduceNeg, reduceCtorEq, Int.reduceBEq, Int.reduceBNe]
      trace_state
    · simp only [go_sem, Nat.reduceAdd, Nat.reduceSub, Nat.reduceMul, Nat.reduceEqDiff, Nat.reduceLT, Nat.reduceLeDiff, Nat.reduceBEq, Nat.reduceBNe, Int.reduceToNat, Int.reduceLE, Int.reduceLT, Int.reduceNe, Int.reduceNeg, reduceCtorEq, Int.reduceBEq, Int.reduceBNe, encB]
    · simp only [go_sem, Nat.reduceAdd, Nat.reduceSub, Nat.reduceMul, Nat.reduceEqDiff, Nat.reduceLT, Nat.reduceLeDiff, Nat.reduceBEq, Nat.reduceBNe, Int.reduceToNat, Int.reduceLE, Int.reduceLT, Int.reduceNe, Int.reduceNeg, reduceCtorEq, Int.reduceBEq, Int.reduceBNe]
      trace_state
    · simp only [go_sem, Nat.reduceAdd, Nat.reduceSub, Nat.reduceMul, Nat.reduceEqDiff, Nat.reduceLT, Nat.reduceLeDiff, Nat.reduceBEq, Nat.reduceBNe, Int.reduceToNat, Int.reduceLE, Int.reduceLT, Int.reduceNe, Int.reduceNeg, reduceCtorEq, Int.reduceBEq, Int.reduceBNe]
      intro K i H ⟨hi, g1, p, g2, g3⟩ hK hE
      obtain ⟨hT, hC, hP, hV, hU⟩ := OwnTaint g3
      have g1' := g1
      simp only [encB] at g1'
      simp only [go_sem, Nat.reduceAdd, Nat.reduceSub, Nat.reduceMul, Nat.reduceEqDiff, Nat.reduceLT, Nat.reduceLeDiff, Nat.reduceBEq, Nat.reduceBNe, Int.reduceToNat, Int.reduceLE, Int.reduceLT, Int.reduceNe, Int.reduceNeg, reduceCtorEq, Int.reduceBEq, Int.reduceBNe, g1', List.length_map]
      rw [condK_bool]
      refine ⟨fun h => ?_, fun h => ?_⟩
      · have h' : i < ks.length := by simpa using h
        have hii : (i : Int) < (ks.length : Int) := by omega
        have w2 : IntKind.i64.wrap ((i : Int) + 1) = ((i + 1 : Nat) : Int) := by rw [Int.natCast_add, Int.natCast_one]; exact wrap_id (by omega)
        have htk : (ks.take (i + 1)).map encF = (ks.take i).map encF ++ [encF (ks.getD i default)] := by
          rw [List.take_succ_eq_append_getElem h', List.map_append]; simp [h']
        have hlt := List.length_take_le' i ks
        generalize hyy : ks.getD i default = y at *
        simp only [go_sem, Nat.reduceAdd, Nat.reduceSub, Nat.reduceMul, Nat.reduceEqDiff, Nat.reduceLT, Nat.reduceLeDiff, Nat.reduceBEq, Nat.reduceBNe, Int.reduceToNat, Int.reduceLE, Int.reduceLT, Int.reduceNe, Int.reduceNeg, reduceCtorEq, Int.reduceBEq, Int.reduceBNe, waits2, g1', g2, hii, h', getD_mapN encK ks i _ h', hyy, encK, hT, hC, hP, hV, hU, List.length_map]
        refine ⟨rfl, ?_⟩
        have hmi : ((ks.take i).map encF).length = i := by rw [List.length_map, List.length_take]; omega
        refine app_oneF trivial rfl rfl (by decide) (by decide) (set_at_eq _ _ _) (g3.frame fun K hK => ?_) ?_ ?_ ⟨rfl, rfl⟩ fun p' H' R' hR hO hF => ?_
        · subst hK; simp only [go_sem, Nat.reduceAdd, Nat.reduceSub, Nat.reduceMul, Nat.reduceEqDiff, Nat.reduceLT, Nat.reduceLeDiff, Nat.reduceBEq, Nat.reduceBNe, Int.reduceToNat, Int.reduceLE, Int.reduceLT, Int.reduceNe, Int.reduceNeg, reduceCtorEq, Int.reduceBEq, Int.reduceBNe]
        · rw [hmi]
          have : (E22.ti 71).bytes = 48 := rfl
          rw [this]; omega
        · intro row hrow
          obtain ⟨q, _, rfl⟩ := List.mem_map.1 hrow; rfl
        · have hO' : Own H' (fun K => K = ([], 27009017)) p' 4 ((ks.take (i + 1)).map encF) := by
            rw [htk]; exact hO
          obtain ⟨hT', hC', hP', hV', hU'⟩ := OwnTaint hO
          have f1 := (hF ([], 27000000) (by simp))
          have f3 := (hF ([], 27004001) (by simp))
          simp only [go_sem, Nat.reduceAdd, Nat.reduceSub, Nat.reduceMul, Nat.reduceEqDiff, Nat.reduceLT, Nat.reduceLeDiff, Nat.reduceBEq, Nat.reduceBNe, Int.reduceToNat, Int.reduceLE, Int.reduceLT, Int.reduceNe, Int.reduceNeg, reduceCtorEq, Int.reduceBEq, Int.reduceBNe, g1, g2] at f1 f3
          rcases hR with rfl | rfl
          · simp only [go_sem, Nat.reduceAdd, Nat.reduceSub, Nat.reduceMul, Nat.reduceEqDiff, Nat.reduceLT, Nat.reduceLeDiff, Nat.reduceBEq, Nat.reduceBNe, Int.reduceToNat, Int.reduceLE, Int.reduceLT, Int.reduceNe, Int.reduceNeg, reduceCtorEq, Int.reduceBEq, Int.reduceBNe, hT', hC', hP', hV', hU', f3]
            refine hK (i + 1) _ _ ?_ ⟨h', ?_, p', ?_, ?_⟩ (by omega)
            · simp only [go_sem, Nat.reduceAdd, Nat.reduceSub, Nat.reduceMul, Nat.reduceEqDiff, Nat.reduceLT, Nat.reduceLeDiff, Nat.reduceBEq, Nat.reduceBNe, Int.reduceToNat, Int.reduceLE, Int.reduceLT, Int.reduceNe, Int.reduceNeg, reduceCtorEq, Int.reduceBEq, Int.reduceBNe, w2]
            · simp only [go_sem, Nat.reduceAdd, Nat.reduceSub, Nat.reduceMul, Nat.reduceEqDiff, Nat.reduceLT, Nat.reduceLeDiff, Nat.reduceBEq, Nat.reduceBNe, Int.reduceToNat, Int.reduceLE, Int.reduceLT, Int.reduceNe, Int.reduceNeg, reduceCtorEq, Int.reduceBEq, Int.reduceBNe, f1]
            · simp only [go_sem, Nat.reduceAdd, Nat.reduceSub, Nat.reduceMul, Nat.reduceEqDiff, Nat.reduceLT, Nat.reduceLeDiff, Nat.reduceBEq, Nat.reduceBNe, Int.reduceToNat, Int.reduceLE, Int.reduceLT, Int.reduceNe, Int.reduceNeg, reduceCtorEq, Int.reduceBEq, Int.reduceBNe]
            · exact hO'.frame fun K hK => by subst hK; simp only [go_sem, Nat.reduceAdd, Nat.reduceSub, Nat.reduceMul, Nat.reduceEqDiff, Nat.reduceLT, Nat.reduceLeDiff, Nat.reduceBEq, Nat.reduceBNe, Int.reduceToNat, Int.reduceLE, Int.reduceLT, Int.reduceNe, Int.reduceNeg, reduceCtorEq, Int.reduceBEq, Int.reduceBNe]
          · simp only [go_sem, Nat.reduceAdd, Nat.reduceSub, Nat.reduceMul, Nat.reduceEqDiff, Nat.reduceLT, Nat.reduceLeDiff, Nat.reduceBEq, Nat.reduceBNe, Int.reduceToNat, Int.reduceLE, Int.reduceLT, Int.reduceNe, Int.reduceNeg, reduceCtorEq, Int.reduceBEq, Int.reduceBNe, hT', hC', hP', hV', hU', f3]
            refine hK (i + 1) _ _ ?_ ⟨h', ?_, p', ?_, ?_⟩ (by omega)
            · simp only [go_sem, Nat.reduceAdd, Nat.reduceSub, Nat.reduceMul, Nat.reduceEqDiff, Nat.reduceLT, Nat.reduceLeDiff, Nat.reduceBEq, Nat.reduceBNe, Int.reduceToNat, Int.reduceLE, Int.reduceLT, Int.reduceNe, Int.reduceNeg, reduceCtorEq, Int.reduceBEq, Int.reduceBNe, w2]
            · simp only [go_sem, Nat.reduceAdd, Nat.reduceSub, Nat.reduceMul, Nat.reduceEqDiff, Nat.reduceLT, Nat.reduceLeDiff, Nat.reduceBEq, Nat.reduceBNe, Int.reduceToNat, Int.reduceLE, Int.reduceLT, Int.reduceNe, Int.reduceNeg, reduceCtorEq, Int.reduceBEq, Int.reduceBNe, f1]
            · simp only [go_sem, Nat.reduceAdd, Nat.reduceSub, Nat.reduceMul, Nat.reduceEqDiff, Nat.reduceLT, Nat.reduceLeDiff, Nat.reduceBEq, Nat.reduceBNe, Int.reduceToNat, Int.reduceLE, Int.reduceLT, Int.reduceNe, Int.reduceNeg, reduceCtorEq, Int.reduceBEq, Int.reduceBNe]
            · exact hO'.frame fun K hK => by subst hK; simp only [go_sem, Nat.reduceAdd, Nat.reduceSub, Nat.reduceMul, Nat.reduceEqDiff, Nat.reduceLT, Nat.reduceLeDiff, Nat.reduceBEq, Nat.reduceBNe, Int.reduceToNat, Int.reduceLE, Int.reduceLT, Int.reduceNe, Int.reduceNeg, reduceCtorEq, Int.reduceBEq, Int.reduceBNe]
      · have hil : i = ks.length := by simp only [decide_eq_false_iff_not] at h; omega
        subst hil
        rw [List.take_length] at g3
        refine hE _ _ _ (by simp) ?_
        rcases g3 with ⟨e1, rfl⟩ | ⟨K', v', rfl, rfl, h5⟩
        · have := congrArg List.length e1
          rw [List.length_map, List.length_nil] at this; omega
        · simp only [go_sem, Nat.reduceAdd, Nat.reduceSub, Nat.reduceMul, Nat.reduceEqDiff, Nat.reduceLT, Nat.reduceLeDiff, Nat.reduceBEq, Nat.reduceBNe, Int.reduceToNat, Int.reduceLE, Int.reduceLT, Int.reduceNe, Int.reduceNeg, reduceCtorEq, Int.reduceBEq, Int.reduceBNe, @callV_spec E22 30 s30 rfl, @callV_specT E22 30 s30 rfl, @stepV_spec E22 30 s30 rfl, @effV_spec E22 30 s30 rfl, s30, callSpec, g2, h5, dec_flat, h4f, hrc, hfew, List.length_map]

def s27 : Spec := spec1 (fun (b : PBook) => Big4 b) (fun b => .tup [.int .i64 (fewM b).1, .int .i64 (fewM b).2])
theorem s27_ok : SpecOK Tryd.prog glB 27 s27 := spec1_ok E22_ok Tryd.func27 rfl (by kernel_rfl) fun b h => rFew_fn b h
end Wb
/- ParcelCheaps. -/
namespace Wb
open Go Go.Proofs Enc Row
set_option linter.unusedSimpArgs false
set_option linter.unusedVariables false
set_option maxRecDepth 20000
set_option maxHeartbeats 4000000
noncomputable def E23t : List (Nat × Spec) := [(27, s27)] ++ E22t
theorem E23t_ok : AllOK E23t := ⟨⟨s27_ok, Tryd.call27⟩, E22t_ok⟩
noncomputable def E23 : Env := mkE E23t []
theorem E23_ok : EnvOK Tryd.prog E23 := envOK E23t_ok trivial
theorem E23_ti {t : Nat} : E23.ti t = ti t := rfl
theorem E23_q0 : (E23).eqt 130 = true := rfl
theorem E23_q1 : (E23).keyt 3 = true := rfl
theorem E23_q2 : (E23).keyt 85 = true := rfl
attribute [go_sem] E23_ti E23_q0 E23_q1 E23_q2
theorem big_told {L : List (Nat × Nat)} (h : L.length ≤ 127) : (big (toldL L).length) = True := eq_true (by rw [toldL_len]; unfold big; omega)
theorem cheaps_law (b : PBook) (h4 : Big4 b) (l : List Parc) (hl : big l.length) (hls : ∀ q ∈ l, big q.pieces.length) (z : Int) :
    Fn E23 0 4 Tryd.f4 (Tryd.f4.body.getD .skip) [.agg (encB b), .sl (l.map encQ) false, .int .i64 z] (.bool true) := by
  have hdb : (dec (.agg (encB b)) : Option PBook) = some b := dec_book b
  have hdl : ∀ (l : List Parc) (ex : Bool), (dec (.sl (l.map encQ) ex) : Option (List Parc)) = some l := fun l ex => drows_rows l
  have hlb := eq_true hl
  have hlsb := eq_true hls
  have hco : costM b z = ((wholeM true b z).1.2, (wholeM true b z).2) := rfl
  have hrc : rcheapM b z = (((wholeM true b z).1.2, ((wholeM true b z).1.1.length : Int)), (wholeM true b z).2) := rfl
  have hch : cheapestM b z = if (wholeM true b z).2 ≠ 0 then ([], (wholeM true b z).2) else (toldL (wholeM true b z).1.1, 0) := rfl
  have hsm := whole_small (c := true) (b := b) (z := z)
  unfold Fn Tryd.f4
  generalize hf : fewM b = f at *
  obtain ⟨f1, f2⟩ := f
  generalize hd : isDivM b l = d at *
  obtain ⟨d1, d2⟩ := d
  generalize hw : wholeM true b z = w at *
  obtain ⟨⟨L, c⟩, e⟩ := w
  simp only at hco hrc hch
  by_cases he : e = 0
  · subst he
    rw [if_neg (by simp)] at hch
    obtain ⟨hb, hz, h1, h2⟩ := hsm rfl
    have hG := book_good hb
    obtain ⟨p1, p2⟩ := pow7 hG
    have hok := divD_ok (c := true) (nk := b.kinds.length) (post := postG b z) (fun k p => (postG_nonneg hG hz k p).1) 128 _ p1 p1
    have hlen := hok.len p1
    have hdv : dvOf true b z (2 ^ b.pieces.length - 1) = (L, c) := by simp only [Prod.mk.injEq, and_true] at h1; exact h1.symm
    have hdv' : divD true b.kinds.length (postG b z) (2 ^ b.pieces.length - 1) = (L, c) := hdv
    rw [hdv] at h2
    simp only at h2
    rw [hdv'] at hok hlen
    simp only at hlen
    rcases hok with ⟨q1, _⟩ | ⟨_, q2, q3, _⟩
    · simp only [Prod.mk.injEq] at q1; omega
    · simp only at q2 q3
      have hgood := isDiv_good hG hz p2 q2
      have htd := told_div hb hz q2
      have hbt := big_told hlen
      have htl := toldL_len L
      have hbL : big L.length = True := eq_true (by unfold big; omega)
      have hbq : (∀ q ∈ toldL L, big q.pieces.length) = True := eq_true fun q hq => by
        unfold toldL at hq
        obtain ⟨x, _, rfl⟩ := List.mem_map.1 hq
        have := ofS_len x.2 7
        unfold big; simp only; omega
      have hpo : ∀ i, i < L.length → postM b ⟨((L.getD i default).1 : Int), ofS (L.getD i default).2 7⟩ z = (postG b z (L.getD i default).1 (L.getD i default).2, 0) := fun i h => told_post hb hz hgood h
      have hbnd := sumW_bound (fun k p => postG_nonneg hG hz k p)
      have htake := fun i h => sumW_take (postG b z) L (i := i) h
      have hpb := postG_nonneg hG hz
      obtain ⟨ps, ks, gr, fr, un, fe, st⟩ := b
      simp only [encB] at hdb
      simp only [go_sem, Nat.reduceAdd, Nat.reduceSub, Nat.reduceMul, Nat.reduceEqDiff, Nat.reduceLT, Nat.reduceLeDiff, Nat.reduceBEq, Nat.reduceBNe, Int.reduceToNat, Int.reduceLE, Int.reduceLT, Int.reduceNe, Int.reduceNeg, reduceCtorEq, Int.reduceBEq, Int.reduceBNe, @callV_spec E23 24 s24 rfl, @callV_specT E23 24 s24 rfl, @stepV_spec E23 24 s24 rfl, @effV_spec E23 24 s24 rfl, s24, @callV_spec E23 25 s25 rfl, @callV_specT E23 25 s25 rfl, @stepV_spec E23 25 s25 rfl, @effV_spec E23 25 s25 rfl, s25, @callV_spec E23 26 s26 rfl, @callV_specT E23 26 s26 rfl, @stepV_spec E23 26 s26 rfl, @effV_spec E23 26 s26 rfl, s26, @callV_spec E23 27 s27 rfl, @callV_specT E23 27 s27 rfl, @stepV_spec E23 27 s27 rfl, @effV_spec E23 27 s27 rfl, s27, @callV_spec E23 28 s28 rfl, @callV_specT E23 28 s28 rfl, @stepV_spec E23 28 s28 rfl, @effV_spec E23 28 s28 rfl, s28, @callV_spec E23 29 s29 rfl, @callV_specT E23 29 s29 rfl, @stepV_spec E23 29 s29 rfl, @effV_spec E23 29 s29 rfl, s29, @callV_spec E23 30 s30 rfl, @callV_specT E23 30 s30 rfl, @stepV_spec E23 30 s30 rfl, @effV_spec E23 30 s30 rfl, s30, encB, callSpec, hdb, hdl, h4, hlb, hlsb, hd, hf, hco, hrc, hch, htd, hbt, hbL, hbq, htl, bne_self_eq_false, List.length_map]
      refine ev_loopS [2, 3, 13, 14, 16] (fun j : Nat => [(18, .int .i64 (sumW (postG ⟨ps, ks, gr, fr, un, fe, st⟩ z) (L.take j))), (19, .int .i64 j)])
        (fun j H => j ≤ L.length ∧ H (([], 4000000) : Key) = some (.cells (encB ⟨ps, ks, gr, fr, un, fe, st⟩) 1 false))
        (fun j => L.length - j) 0 ?_ ⟨Nat.zero_le _, ?_⟩ ?_
      · simp only [go_sem, Nat.reduceAdd, Nat.reduceSub, Nat.reduceMul, Nat.reduceEqDiff, Nat.reduceLT, Nat.reduceLeDiff, Nat.reduceBEq, Nat.reduceBNe, Int.reduceToNat, Int.reduceLE, Int.reduceLT, Int.reduceNe, Int.reduceNeg, reduceCtorEq, Int.reduceBEq, Int.reduceBNe, List.take_zero, sumW]
        trace_state
      · simp only [go_sem, Nat.reduceAdd, Nat.reduceSub, Nat.reduceMul, Nat.reduceEqDiff, Nat.reduceLT, Nat.reduceLeDiff, Nat.reduceBEq, Nat.reduceBNe, Int.reduceToNat, Int.reduceLE, Int.reduceLT, Int.reduceNe, Int.reduceNeg, reduceCtorEq, Int.reduceBEq, Int.reduceBNe, encB]
      · simp only [go_sem, Nat.reduceAdd, Nat.reduceSub, Nat.reduceMul, Nat.reduceEqDiff, Nat.reduceLT, Nat.reduceLeDiff, Nat.reduceBEq, Nat.reduceBNe, Int.reduceToNat, Int.reduceLE, Int.reduceLT, Int.reduceNe, Int.reduceNeg, reduceCtorEq, Int.reduceBEq, Int.reduceBNe]
        intro K j H ⟨hj, g1⟩ hK hE
        have g1' := g1
        simp only [encB] at g1'
        simp only [go_sem, Nat.reduceAdd, Nat.reduceSub, Nat.reduceMul, Nat.reduceEqDiff, Nat.reduceLT, Nat.reduceLeDiff, Nat.reduceBEq, Nat.reduceBNe, Int.reduceToNat, Int.reduceLE, Int.reduceLT, Int.reduceNe, Int.reduceNeg, reduceCtorEq, Int.reduceBEq, Int.reduceBNe, List.length_map, htl]
        rw [condK_bool]
        refine ⟨fun h => ?_, fun h => ?_⟩
        · have h' : j < L.length := by simpa using h
          have hjt : j < (toldL L).length := by rw [htl]; exact h'
          have hii : (j : Int) < (L.length : Int) := by omega
          have w2 : IntKind.i64.wrap ((j : Int) + 1) = ((j + 1 : Nat) : Int) := by rw [Int.natCast_add, Int.natCast_one]; exact wrap_id (by omega)
          have hgq := getD_mapN encQ (toldL L) j [PV.int .i64 0, .sl [] true] hjt
          rw [told_get (b := ⟨ps, ks, gr, fr, un, fe, st⟩) (z := z) h'] at hgq
          have hpj := hpo j h'
          have ht := htake j h'
          have b1 := hbnd (L.take (j + 1))
          have hlt := List.length_take_le' (j + 1) L
          have hblq : (big (ofS (L.getD j default).2 7).length) = True := eq_true (by have := ofS_len (L.getD j default).2 7; unfold big; omega)
          generalize hxx : L.getD j default = x at *
          have w3 : IntKind.i64.wrap (sumW (postG ⟨ps, ks, gr, fr, un, fe, st⟩ z) (L.take j) + postG ⟨ps, ks, gr, fr, un, fe, st⟩ z x.1 x.2) = sumW (postG ⟨ps, ks, gr, fr, un, fe, st⟩ z) (L.take (j + 1)) := by
            rw [ht] at b1 ⊢; exact wrap_id (by omega)
          simp only [go_sem, Nat.reduceAdd, Nat.reduceSub, Nat.reduceMul, Nat.reduceEqDiff, Nat.reduceLT, Nat.reduceLeDiff, Nat.reduceBEq, Nat.reduceBNe, Int.reduceToNat, Int.reduceLE, Int.reduceLT, Int.reduceNe, Int.reduceNeg, reduceCtorEq, Int.reduceBEq, Int.reduceBNe, @callV_spec E23 19 s19 rfl, @callV_specT E23 19 s19 rfl, @stepV_spec E23 19 s19 rfl, @effV_spec E23 19 s19 rfl, s19, callSpec, g1', hdb, h4, hii, h', hjt, hgq, encQ, hblq, hpj, w3, htl]
          refine hK (j + 1) _ _ ?_ ⟨h', ?_⟩ (by omega)
          · simp only [go_sem, Nat.reduceAdd, Nat.reduceSub, Nat.reduceMul, Nat.reduceEqDiff, Nat.reduceLT, Nat.reduceLeDiff, Nat.reduceBEq, Nat.reduceBNe, Int.reduceToNat, Int.reduceLE, Int.reduceLT, Int.reduceNe, Int.reduceNeg, reduceCtorEq, Int.reduceBEq, Int.reduceBNe, w2, w3]
          · simp only [go_sem, Nat.reduceAdd, Nat.reduceSub, Nat.reduceMul, Nat.reduceEqDiff, Nat.reduceLT, Nat.reduceLeDiff, Nat.reduceBEq, Nat.reduceBNe, Int.reduceToNat, Int.reduceLE, Int.reduceLT, Int.reduceNe, Int.reduceNeg, reduceCtorEq, Int.reduceBEq, Int.reduceBNe, g1]
        · have hil : j = L.length := by simp only [decide_eq_false_iff_not] at h; omega
          subst hil
          rw [List.take_length] at *
          refine hE _ _ _ (by simp) ?_
          simp only [go_sem, Nat.reduceAdd, Nat.reduceSub, Nat.reduceMul, Nat.reduceEqDiff, Nat.reduceLT, Nat.reduceLeDiff, Nat.reduceBEq, Nat.reduceBNe, Int.reduceToNat, Int.reduceLE, Int.reduceLT, Int.reduceNe, Int.reduceNeg, reduceCtorEq, Int.reduceBEq, Int.reduceBNe, @callV_spec E23 23 s23 rfl, @callV_specT E23 23 s23 rfl, @stepV_spec E23 23 s23 rfl, @effV_spec E23 23 s23 rfl, s23, callSpec, ← q3, beq_self_eq_true]
  · rw [if_pos he] at hch
    have he0 : (e != 0) = true := by simpa using he
    obtain ⟨ps, ks, gr, fr, un, fe, st⟩ := b
    simp only [encB] at hdb
    simp only [go_sem, Nat.reduceAdd, Nat.reduceSub, Nat.reduceMul, Nat.reduceEqDiff, Nat.reduceLT, Nat.reduceLeDiff, Nat.reduceBEq, Nat.reduceBNe, Int.reduceToNat, Int.reduceLE, Int.reduceLT, Int.reduceNe, Int.reduceNeg, reduceCtorEq, Int.reduceBEq, Int.reduceBNe, @callV_spec E23 24 s24 rfl, @callV_specT E23 24 s24 rfl, @stepV_spec E23 24 s24 rfl, @effV_spec E23 24 s24 rfl, s24, @callV_spec E23 25 s25 rfl, @callV_specT E23 25 s25 rfl, @stepV_spec E23 25 s25 rfl, @effV_spec E23 25 s25 rfl, s25, @callV_spec E23 26 s26 rfl, @callV_specT E23 26 s26 rfl, @stepV_spec E23 26 s26 rfl, @effV_spec E23 26 s26 rfl, s26, @callV_spec E23 27 s27 rfl, @callV_specT E23 27 s27 rfl, @stepV_spec E23 27 s27 rfl, @effV_spec E23 27 s27 rfl, s27, @callV_spec E23 28 s28 rfl, @callV_specT E23 28 s28 rfl, @stepV_spec E23 28 s28 rfl, @effV_spec E23 28 s28 rfl, s28, @callV_spec E23 29 s29 rfl, @callV_specT E23 29 s29 rfl, @stepV_spec E23 29 s29 rfl, @effV_spec E23 29 s29 rfl, s29, @callV_spec E23 30 s30 rfl, @callV_specT E23 30 s30 rfl, @stepV_spec E23 30 s30 rfl, @effV_spec E23 30 s30 rfl, s30, @callV_spec E23 23 s23 rfl, @callV_specT E23 23 s23 rfl, @stepV_spec E23 23 s23 rfl, @effV_spec E23 23 s23 rfl, s23, encB, callSpec, hdb, hdl, h4, hlb, hlsb, hd, hf, hco, hrc, hch, he, he0, bne_self_eq_false, List.map_nil, List.length_nil]
    trace_state
end Wb
