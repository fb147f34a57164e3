import Derived.Test.YtjdljckgphbkmaaDoorC
import Derived.Test.YtjdljckgphbkmaaDoorB
set_option linter.unusedVariables false
set_option linter.unusedSimpArgs false
/- What a sound book is; what pieces are together. -/
namespace Wb
open Go Go.Proofs Enc Row
set_option linter.unusedSimpArgs false
set_option linter.unusedVariables false
set_option maxRecDepth 20000
set_option maxHeartbeats 4000000
def E3t : List (Nat × Spec) := [(49, s49), (46, s46), (69, s69), (66, s66), (92, s92), (71, s71), (50, s50), (79, s79), (83, s83)] ++ E2t
theorem E3t_ok : AllOK E3t := AllOK.append (l := [(49, s49), (46, s46), (69, s69), (66, s66), (92, s92), (71, s71), (50, s50), (79, s79), (83, s83)]) ⟨⟨s49_ok, Tryd.call49⟩, ⟨s46_ok, Tryd.call46⟩, ⟨s69_ok, Tryd.call69⟩, ⟨s66_ok, Tryd.call66⟩, ⟨s92_ok, Tryd.call92⟩, ⟨s71_ok, Tryd.call71⟩, ⟨s50_ok, Tryd.call50⟩, ⟨s79_ok, Tryd.call79⟩, ⟨s83_ok, Tryd.call83⟩, trivial⟩ E2t_ok
def E3 : Env := mkE E3t []
theorem E3_ok : EnvOK Tryd.prog E3 := envOK E3t_ok trivial
theorem E3_ti {t : Nat} : E3.ti t = ti t := rfl
theorem E3_q0 : (E3).eqt 130 = true := rfl
theorem E3_q1 : (E3).keyt 3 = true := rfl
theorem E3_q2 : (E3).keyt 85 = true := rfl
attribute [go_sem] E3_ti E3_q0 E3_q1 E3_q2
def btw (n a b : Int) : Bool := decide (a ≤ n) && decide (n ≤ b)
def pieceOk (p : Piece) : Bool := btw p.size 1 500 && btw p.weight 1 5000 && btw p.worth 0 10000
def kindOk (k : Kind) : Bool := btw k.room 1 500 && btw k.most 1 5000 && decide (k.zones.length = 5) && btw k.step 0 1000 && k.zones.all fun n => btw n 1 1000
def stampsOk : Int → List Int → Bool
  | _, [] => true
  | last, n :: l => btw n (last + 1) 1000 && stampsOk n l
def bookOk (b : PBook) : Bool := btw b.pieces.length 1 7 && btw b.kinds.length 1 4 && btw b.grams 1 5000 && btw b.free 0 10000 && btw b.unit 1 10000 && btw b.fee 0 1000 && btw b.stamps.length 1 5 &&
  b.pieces.all pieceOk && b.kinds.all kindOk && stampsOk 0 b.stamps
structure GBook (b : PBook) : Prop where
  p1 : 1 ≤ b.pieces.length
  p7 : b.pieces.length ≤ 7
  k1 : 1 ≤ b.kinds.length
  k4 : b.kinds.length ≤ 4
  grams : 1 ≤ b.grams ∧ b.grams ≤ 5000
  free : 0 ≤ b.free ∧ b.free ≤ 10000
  unit : 1 ≤ b.unit ∧ b.unit ≤ 10000
  fee : 0 ≤ b.fee ∧ b.fee ≤ 1000
  s1 : 1 ≤ b.stamps.length
  s5 : b.stamps.length ≤ 5
  ps : ∀ p ∈ b.pieces, (1 ≤ p.size ∧ p.size ≤ 500) ∧ (1 ≤ p.weight ∧ p.weight ≤ 5000) ∧ 0 ≤ p.worth ∧ p.worth ≤ 10000
  ks : ∀ k ∈ b.kinds, (1 ≤ k.room ∧ k.room ≤ 500) ∧ (1 ≤ k.most ∧ k.most ≤ 5000) ∧ k.zones.length = 5 ∧ (0 ≤ k.step ∧ k.step ≤ 1000) ∧ ∀ n ∈ k.zones, 1 ≤ n ∧ n ≤ 1000
  st : stampsOk 0 b.stamps = true
theorem book_good {b : PBook} (h : bookOk b = true) : GBook b := by
  unfold bookOk btw at h
  simp only [Bool.and_eq_true, decide_eq_true_eq, List.all_eq_true] at h
  obtain ⟨⟨⟨⟨⟨⟨⟨⟨⟨h1, h2⟩, h3⟩, h4⟩, h5⟩, h6⟩, h7⟩, h8⟩, h9⟩, h10⟩ := h
  refine ⟨by omega, by omega, by omega, by omega, h3, h4, h5, h6, by omega, by omega, fun p hp => ?_, fun k hk => ?_, h10⟩
  · have := h8 p hp
    unfold pieceOk btw at this
    simp only [Bool.and_eq_true, decide_eq_true_eq] at this
    exact ⟨this.1.1, this.1.2, this.2⟩
  · have := h9 k hk
    unfold kindOk btw at this
    simp only [Bool.and_eq_true, decide_eq_true_eq, List.all_eq_true] at this
    exact ⟨this.1.1.1.1, this.1.1.1.2, this.1.1.2, this.1.2, this.2⟩
theorem mem_ofS {s n : Nat} {k : Int} : k ∈ ofS s n ↔ ∃ j, j < n ∧ s.testBit j = true ∧ k = (j : Int) := by
  unfold ofS
  simp only [List.mem_map, List.mem_filter, List.mem_range]
  constructor
  · rintro ⟨j, ⟨h1, h2⟩, rfl⟩; exact ⟨j, h1, h2, rfl⟩
  · rintro ⟨j, h1, h2, rfl⟩; exact ⟨j, ⟨h1, h2⟩, rfl⟩
theorem ofS_lt {s n m : Nat} (hs : s < 2 ^ m) {k : Int} (h : k ∈ ofS s n) : 0 ≤ k ∧ k < m := by
  obtain ⟨j, h1, h2, rfl⟩ := mem_ofS.1 h
  have h3 : 2 ^ j ≤ s := Nat.ge_two_pow_of_testBit h2
  have : j < m := (Nat.pow_lt_pow_iff_right (a := 2) (by decide)).1 (Nat.lt_of_le_of_lt h3 hs)
  omega
inductive What where
  | worth | size | weight
def What.f : What → Nat
  | .worth => 93
  | .size => 94
  | .weight => 95
def What.of : What → Piece → Int
  | .worth => (·.worth)
  | .size => (·.size)
  | .weight => (·.weight)
def dW : PV → Option What
  | .agg [.fn 93 [] []] => some .worth
  | .agg [.fn 94 [] []] => some .size
  | .agg [.fn 95 [] []] => some .weight
  | _ => none
instance : Enc What where
  enc x := .agg [.fn x.f [] []]
  dec := dW
  wk_dec p a h := by unfold dW at h; split at h <;> cases h <;> exact wk_refl _
  dec_enc x := by cases x <;> rfl
theorem dec_w93 : (dec (.agg [.fn 93 [] []]) : Option What) = some .worth := rfl
theorem dec_w94 : (dec (.agg [.fn 94 [] []]) : Option What) = some .size := rfl
theorem dec_w95 : (dec (.agg [.fn 95 [] []]) : Option What) = some .weight := rfl
attribute [go_sem] dec_w93 dec_w94 dec_w95
def piecesOf (b : PBook) (l : List Int) : List Piece := l.map fun k => b.pieces.getD k.toNat default
def allF (b : PBook) (w : What) (s : Nat) : Int := sumI ((piecesOf b (ofS s 7)).map w.of)
theorem What.ok {b : PBook} (hG : GBook b) (w : What) (k : Nat) (hk : k < b.pieces.length) : 0 ≤ w.of (b.pieces.getD k default) ∧ w.of (b.pieces.getD k default) ≤ 10000 := by
  have hm : b.pieces.getD k default ∈ b.pieces := by simp [hk]
  have := hG.ps _ hm
  cases w <;> simp only [What.of] <;> omega
end Wb
/- What pieces are together: the walk. -/
namespace Wb
open Go Go.Proofs Enc Row
set_option linter.unusedSimpArgs false
set_option linter.unusedVariables false
set_option maxRecDepth 20000
set_option maxHeartbeats 4000000
theorem getD_mapN {α : Type} [Inhabited α] (enc : α → List PV) (l : List α) (i : Nat) (z : List PV) (h : i < l.length) : (l.map enc).getD i z = enc (l.getD i default) := by
  simp [List.getD_eq_getElem?_getD, h]
/-- One row more, in a region that draws its order. -/
theorem app_oneF {E : Env} {K K2 : Key} {t e sz v2 : Nat} {p : PV} {rs : List (List PV)} {row : List PV} {ex ro : Bool} {q : Prop} {Q : PV → Heap → List Key → List Key → Prop} {H : Heap} (hq : q) (hk : (E.ti t).kind = .slice e) (hsz : (E.ti e).size = sz) (h0 : 0 < sz) (hb0 : 0 < (E.ti e).bytes)
    (hx : H K2 = some (.rows sz [row] v2 ro)) (hO : Own H (fun K' => K' = K) p sz rs) (hb : (rs.length + 1) * (E.ti e).bytes ≤ 35184372088832) (hrs : ∀ row ∈ rs, row.length = sz) (hrow : row.length = sz ∧ cells1 row = true)
    (hQ : ∀ p' H' R', (R' = [K2] ∨ R' = [K, K2]) → Own H' (fun K' => K' = K) p' sz (rs ++ [row]) → (∀ K', K' ≠ K → H' K' = H K') → Q p' H' R' [K]) : (app E K t p (.sref K2 v2 sz 1 ex)).wpF q Q H [] [] := by
  subst hsz
  unfold app
  rw [hk]
  refine ⟨fun _ => h0, ?_⟩
  simp only [rowsOf, frz, Prg.wpF, hx]
  refine ⟨fun _ => by simp, fun _ => fun r hr => by rw [List.mem_singleton.1 hr]; exact hrow, ?_⟩
  rcases hO with ⟨rfl, rfl⟩ | ⟨K', v, rfl, rfl, h2⟩
  · refine ⟨fun _ => ⟨rfl, .inl (List.cons_ne_nil _ _), fun row h => (by cases h), h0, hb0, hb⟩, fun v => rfl, ?_⟩
    refine hQ _ _ _ (.inl rfl) (.inr ⟨K, verOf H K + 1, rfl, by simp, by simp [Heap.set]⟩) fun K' hK' => set_at_ne _ _ hK'
  · simp only [Prg.wpF, h2]
    refine ⟨fun _ => ⟨trivial, trivial, trivial, trivial, h0, hb0, hb⟩, fun _ => trivial, hq, ?_⟩
    exact hQ _ _ _ (.inr rfl) (.inr ⟨K', v + 1, rfl, by simp, by simp [Heap.set]⟩) fun K2 hK2 => set_at_ne _ _ hK2
theorem all_fn (x : Calc) (s : Nat) (w : What) (hG : GBook x.b) (hs : s < 2 ^ x.b.pieces.length) : Fn E3 0 76 Tryd.f76 (Tryd.f76.body.getD .skip) [.agg (encC x), .int .i64 s, .agg [.fn w.f [] []]] (.int .i64 (allF x.b w s)) := by
  obtain ⟨⟨ps, ks, gr, fr, un, fe, st⟩, z, es⟩ := x
  simp only at hG hs
  have h7 := hG.p7
  have hs2 : s < 2 ^ 62 := Nat.lt_of_lt_of_le hs (Nat.pow_le_pow_right (by decide) (by simp only at h7; omega))
  have hs3 : ((s : Int) < 2 ^ 62) = True := eq_true (by exact_mod_cast hs2)
  have hm : ∀ k ∈ ofS s 7, 0 ≤ k ∧ k < ps.length := fun k hk => ofS_lt hs hk
  have hll := ofS_len s 7
  unfold Fn Tryd.f76 allF
  simp only [go_sem, Nat.reduceAdd, Nat.reduceSub, Nat.reduceMul, Nat.reduceEqDiff, Nat.reduceLT, Nat.reduceLeDiff, Nat.reduceBEq, Nat.reduceBNe, Int.reduceToNat, Int.reduceLE, Int.reduceLT, Int.reduceNe, Int.reduceNeg, reduceCtorEq, Int.reduceBEq, Int.reduceBNe, @callV_spec E3 69 s69 rfl, @callV_specT E3 69 s69 rfl, @stepV_spec E3 69 s69 rfl, @effV_spec E3 69 s69 rfl, s69, encC, encB, callSpec, hs3, Int.natCast_nonneg, Int.toNat_natCast, il_length]
  generalize ofS s 7 = l at *
  refine ev_loopS [3, 5, 6, 11, 12] (fun x : Nat × PV => [(7, x.2), (13, .int .i64 x.1)])
    (fun y H => y.1 ≤ l.length ∧ H (([], 76000000) : Key) = some (.cells (encC ⟨⟨ps, ks, gr, fr, un, fe, st⟩, z, es⟩) 1 false) ∧ H (([], 76000001) : Key) = some (.cells [.fn w.f [] []] 1 false) ∧
      Own H (fun K => K = ([], 76005011)) y.2 1 (il ((piecesOf ⟨ps, ks, gr, fr, un, fe, st⟩ (l.take y.1)).map w.of))) (fun y => l.length - y.1) (0, .sl [] true) ?_ ⟨Nat.zero_le _, ?_, ?_, .nil⟩ ?_
  · simp only [go_sem, Nat.reduceAdd, Nat.reduceSub, Nat.reduceMul, Nat.reduceEqDiff, Nat.reduceLT, Nat.reduceLeDiff, Nat.reduceBEq, Nat.reduceBNe, Int.reduceToNat, Int.reduceLE, Int.reduceLT, Int.reduceNe, Int.reduceNeg, reduceCtorEq, Int.reduceBEq, Int.reduceBNe]
  · simp only [go_sem, Nat.reduceAdd, Nat.reduceSub, Nat.reduceMul, Nat.reduceEqDiff, Nat.reduceLT, Nat.reduceLeDiff, Nat.reduceBEq, Nat.reduceBNe, Int.reduceToNat, Int.reduceLE, Int.reduceLT, Int.reduceNe, Int.reduceNeg, reduceCtorEq, Int.reduceBEq, Int.reduceBNe, encC, encB]
  · simp only [go_sem, Nat.reduceAdd, Nat.reduceSub, Nat.reduceMul, Nat.reduceEqDiff, Nat.reduceLT, Nat.reduceLeDiff, Nat.reduceBEq, Nat.reduceBNe, Int.reduceToNat, Int.reduceLE, Int.reduceLT, Int.reduceNe, Int.reduceNeg, reduceCtorEq, Int.reduceBEq, Int.reduceBNe]
  · simp only [go_sem, Nat.reduceAdd, Nat.reduceSub, Nat.reduceMul, Nat.reduceEqDiff, Nat.reduceLT, Nat.reduceLeDiff, Nat.reduceBEq, Nat.reduceBNe, Int.reduceToNat, Int.reduceLE, Int.reduceLT, Int.reduceNe, Int.reduceNeg, reduceCtorEq, Int.reduceBEq, Int.reduceBNe]
    intro K y H ⟨hi, h1, h2, h3⟩ hK hE
    obtain ⟨i, p⟩ := y
    simp only at hi h3
    dsimp only
    obtain ⟨ex, qs, hz1, hz2, hks⟩ := h3.frz
    obtain ⟨hT, hC, hP, hV, hU⟩ := OwnTaint h3
    rw [condK_bool]
    refine ⟨fun h => ?_, fun h => ?_⟩
    · have h' : i < l.length := by simpa using h
      have hii : (i : Int) < (l.length : Int) := by omega
      have w2 : IntKind.i64.wrap ((i : Int) + 1) = (i : Int) + 1 := wrap_id (by omega)
      have hmem : l.getD i 0 ∈ l := by simp [h']
      obtain ⟨k0, k1⟩ := hm _ hmem
      obtain ⟨k, hk⟩ := Int.eq_ofNat_of_zero_le k0
      rw [hk] at k0 k1
      have k2 : k < ps.length := by omega
      simp only [go_sem, Nat.reduceAdd, Nat.reduceSub, Nat.reduceMul, Nat.reduceEqDiff, Nat.reduceLT, Nat.reduceLeDiff, Nat.reduceBEq, Nat.reduceBNe, Int.reduceToNat, Int.reduceLE, Int.reduceLT, Int.reduceNe, Int.reduceNeg, reduceCtorEq, Int.reduceBEq, Int.reduceBNe, il_length, il_get, hii, hk]
      simp only [go_sem, Nat.reduceAdd, Nat.reduceSub, Nat.reduceMul, Nat.reduceEqDiff, Nat.reduceLT, Nat.reduceLeDiff, Nat.reduceBEq, Nat.reduceBNe, Int.reduceToNat, Int.reduceLE, Int.reduceLT, Int.reduceNe, Int.reduceNeg, reduceCtorEq, Int.reduceBEq, Int.reduceBNe, h1, h2, encC, encB, hU, hT, hC, k0, k1]
      have hg := getD_mapN encP ps k [PV.int IntKind.i64 0, PV.int IntKind.i64 0, PV.int IntKind.i64 0, PV.bool false] k2
      have hwk := What.ok hG w k k2
      have hpo : piecesOf ⟨ps, ks, gr, fr, un, fe, st⟩ (l.take (i + 1)) = piecesOf ⟨ps, ks, gr, fr, un, fe, st⟩ (l.take i) ++ [ps.getD k default] := by
        unfold piecesOf
        rw [List.take_succ_eq_append_getElem h', List.map_append]
        have : l[i] = (k : Int) := by rw [← hk]; simp [h']
        simp [this]
      have hlen : (piecesOf ⟨ps, ks, gr, fr, un, fe, st⟩ (l.take i)).length ≤ 7 := by
        unfold piecesOf
        rw [List.length_map]
        have := List.length_take_le' i l; omega
      have h1' := h1
      simp only [encC, encB, List.cons_append, List.nil_append] at h1'
      cases w
      · simp only [What.f, What.of] at h2 ⊢
        simp only [go_sem, Nat.reduceAdd, Nat.reduceSub, Nat.reduceMul, Nat.reduceEqDiff, Nat.reduceLT, Nat.reduceLeDiff, Nat.reduceBEq, Nat.reduceBNe, Int.reduceToNat, Int.reduceLE, Int.reduceLT, Int.reduceNe, Int.reduceNeg, reduceCtorEq, Int.reduceBEq, Int.reduceBNe, @callV_spec E3 93 s93 rfl, @callV_specT E3 93 s93 rfl, @stepV_spec E3 93 s93 rfl, @effV_spec E3 93 s93 rfl, s93, callSpec, h1', h2, hU, hT, hC, k0, k1, hg, encP]
        refine app_oneF trivial rfl rfl (by decide) (by decide) (set_at_eq _ _ _) (h3.frame fun K hK => set_at_ne _ _ (by rw [hK]; simp)) (by rw [il_length, List.length_map]; show (_ + 1) * 8 ≤ _; omega) (il_row _) ⟨rfl, rfl⟩ fun p' H' R' hR hO hF => ?_
        obtain ⟨hT', hC', hP', hV', hU'⟩ := OwnTaint hO
        rcases hR with rfl | rfl
        · simp only [go_sem, Nat.reduceAdd, Nat.reduceSub, Nat.reduceMul, Nat.reduceEqDiff, Nat.reduceLT, Nat.reduceLeDiff, Nat.reduceBEq, Nat.reduceBNe, Int.reduceToNat, Int.reduceLE, Int.reduceLT, Int.reduceNe, Int.reduceNeg, reduceCtorEq, Int.reduceBEq, Int.reduceBNe, hT', hC', hP', hV', hU', binds_data]
          refine hK (i + 1, p') _ _ ?_ ⟨h', (hF _ (by simp)).trans ((set_at_ne _ _ (by simp)).trans h1), (hF _ (by simp)).trans ((set_at_ne _ _ (by simp)).trans h2), by rw [hpo, List.map_append, il_append']; exact hO⟩ (by simp only; omega)
          simp only [go_sem, Nat.reduceAdd, Nat.reduceSub, Nat.reduceMul, Nat.reduceEqDiff, Nat.reduceLT, Nat.reduceLeDiff, Nat.reduceBEq, Nat.reduceBNe, Int.reduceToNat, Int.reduceLE, Int.reduceLT, Int.reduceNe, Int.reduceNeg, reduceCtorEq, Int.reduceBEq, Int.reduceBNe, w2, Int.natCast_add, Int.natCast_one]
        · simp only [go_sem, Nat.reduceAdd, Nat.reduceSub, Nat.reduceMul, Nat.reduceEqDiff, Nat.reduceLT, Nat.reduceLeDiff, Nat.reduceBEq, Nat.reduceBNe, Int.reduceToNat, Int.reduceLE, Int.reduceLT, Int.reduceNe, Int.reduceNeg, reduceCtorEq, Int.reduceBEq, Int.reduceBNe, hT', hC', hP', hV', hU', binds_data]
          refine hK (i + 1, p') _ _ ?_ ⟨h', (hF _ (by simp)).trans ((set_at_ne _ _ (by simp)).trans h1), (hF _ (by simp)).trans ((set_at_ne _ _ (by simp)).trans h2), by rw [hpo, List.map_append, il_append']; exact hO⟩ (by simp only; omega)
          simp only [go_sem, Nat.reduceAdd, Nat.reduceSub, Nat.reduceMul, Nat.reduceEqDiff, Nat.reduceLT, Nat.reduceLeDiff, Nat.reduceBEq, Nat.reduceBNe, Int.reduceToNat, Int.reduceLE, Int.reduceLT, Int.reduceNe, Int.reduceNeg, reduceCtorEq, Int.reduceBEq, Int.reduceBNe, w2, Int.natCast_add, Int.natCast_one]
      · simp only [What.f, What.of] at h2 ⊢
        simp only [go_sem, Nat.reduceAdd, Nat.reduceSub, Nat.reduceMul, Nat.reduceEqDiff, Nat.reduceLT, Nat.reduceLeDiff, Nat.reduceBEq, Nat.reduceBNe, Int.reduceToNat, Int.reduceLE, Int.reduceLT, Int.reduceNe, Int.reduceNeg, reduceCtorEq, Int.reduceBEq, Int.reduceBNe, @callV_spec E3 94 s94 rfl, @callV_specT E3 94 s94 rfl, @stepV_spec E3 94 s94 rfl, @effV_spec E3 94 s94 rfl, s94, callSpec, h1', h2, hU, hT, hC, k0, k1, hg, encP]
        refine app_oneF trivial rfl rfl (by decide) (by decide) (set_at_eq _ _ _) (h3.frame fun K hK => set_at_ne _ _ (by rw [hK]; simp)) (by rw [il_length, List.length_map]; show (_ + 1) * 8 ≤ _; omega) (il_row _) ⟨rfl, rfl⟩ fun p' H' R' hR hO hF => ?_
        obtain ⟨hT', hC', hP', hV', hU'⟩ := OwnTaint hO
        rcases hR with rfl | rfl
        · simp only [go_sem, Nat.reduceAdd, Nat.reduceSub, Nat.reduceMul, Nat.reduceEqDiff, Nat.reduceLT, Nat.reduceLeDiff, Nat.reduceBEq, Nat.reduceBNe, Int.reduceToNat, Int.reduceLE, Int.reduceLT, Int.reduceNe, Int.reduceNeg, reduceCtorEq, Int.reduceBEq, Int.reduceBNe, hT', hC', hP', hV', hU', binds_data]
          refine hK (i + 1, p') _ _ ?_ ⟨h', (hF _ (by simp)).trans ((set_at_ne _ _ (by simp)).trans h1), (hF _ (by simp)).trans ((set_at_ne _ _ (by simp)).trans h2), by rw [hpo, List.map_append, il_append']; exact hO⟩ (by simp only; omega)
          simp only [go_sem, Nat.reduceAdd, Nat.reduceSub, Nat.reduceMul, Nat.reduceEqDiff, Nat.reduceLT, Nat.reduceLeDiff, Nat.reduceBEq, Nat.reduceBNe, Int.reduceToNat, Int.reduceLE, Int.reduceLT, Int.reduceNe, Int.reduceNeg, reduceCtorEq, Int.reduceBEq, Int.reduceBNe, w2, Int.natCast_add, Int.natCast_one]
        · simp only [go_sem, Nat.reduceAdd, Nat.reduceSub, Nat.reduceMul, Nat.reduceEqDiff, Nat.reduceLT, Nat.reduceLeDiff, Nat.reduceBEq, Nat.reduceBNe, Int.reduceToNat, Int.reduceLE, Int.reduceLT, Int.reduceNe, Int.reduceNeg, reduceCtorEq, Int.reduceBEq, Int.reduceBNe, hT', hC', hP', hV', hU', binds_data]
          refine hK (i + 1, p') _ _ ?_ ⟨h', (hF _ (by simp)).trans ((set_at_ne _ _ (by simp)).trans h1), (hF _ (by simp)).trans ((set_at_ne _ _ (by simp)).trans h2), by rw [hpo, List.map_append, il_append']; exact hO⟩ (by simp only; omega)
          simp only [go_sem, Nat.reduceAdd, Nat.reduceSub, Nat.reduceMul, Nat.reduceEqDiff, Nat.reduceLT, Nat.reduceLeDiff, Nat.reduceBEq, Nat.reduceBNe, Int.reduceToNat, Int.reduceLE, Int.reduceLT, Int.reduceNe, Int.reduceNeg, reduceCtorEq, Int.reduceBEq, Int.reduceBNe, w2, Int.natCast_add, Int.natCast_one]
      · simp only [What.f, What.of] at h2 ⊢
        simp only [go_sem, Nat.reduceAdd, Nat.reduceSub, Nat.reduceMul, Nat.reduceEqDiff, Nat.reduceLT, Nat.reduceLeDiff, Nat.reduceBEq, Nat.reduceBNe, Int.reduceToNat, Int.reduceLE, Int.reduceLT, Int.reduceNe, Int.reduceNeg, reduceCtorEq, Int.reduceBEq, Int.reduceBNe, @callV_spec E3 95 s95 rfl, @callV_specT E3 95 s95 rfl, @stepV_spec E3 95 s95 rfl, @effV_spec E3 95 s95 rfl, s95, callSpec, h1', h2, hU, hT, hC, k0, k1, hg, encP]
        refine app_oneF trivial rfl rfl (by decide) (by decide) (set_at_eq _ _ _) (h3.frame fun K hK => set_at_ne _ _ (by rw [hK]; simp)) (by rw [il_length, List.length_map]; show (_ + 1) * 8 ≤ _; omega) (il_row _) ⟨rfl, rfl⟩ fun p' H' R' hR hO hF => ?_
        obtain ⟨hT', hC', hP', hV', hU'⟩ := OwnTaint hO
        rcases hR with rfl | rfl
        · simp only [go_sem, Nat.reduceAdd, Nat.reduceSub, Nat.reduceMul, Nat.reduceEqDiff, Nat.reduceLT, Nat.reduceLeDiff, Nat.reduceBEq, Nat.reduceBNe, Int.reduceToNat, Int.reduceLE, Int.reduceLT, Int.reduceNe, Int.reduceNeg, reduceCtorEq, Int.reduceBEq, Int.reduceBNe, hT', hC', hP', hV', hU', binds_data]
          refine hK (i + 1, p') _ _ ?_ ⟨h', (hF _ (by simp)).trans ((set_at_ne _ _ (by simp)).trans h1), (hF _ (by simp)).trans ((set_at_ne _ _ (by simp)).trans h2), by rw [hpo, List.map_append, il_append']; exact hO⟩ (by simp only; omega)
          simp only [go_sem, Nat.reduceAdd, Nat.reduceSub, Nat.reduceMul, Nat.reduceEqDiff, Nat.reduceLT, Nat.reduceLeDiff, Nat.reduceBEq, Nat.reduceBNe, Int.reduceToNat, Int.reduceLE, Int.reduceLT, Int.reduceNe, Int.reduceNeg, reduceCtorEq, Int.reduceBEq, Int.reduceBNe, w2, Int.natCast_add, Int.natCast_one]
        · simp only [go_sem, Nat.reduceAdd, Nat.reduceSub, Nat.reduceMul, Nat.reduceEqDiff, Nat.reduceLT, Nat.reduceLeDiff, Nat.reduceBEq, Nat.reduceBNe, Int.reduceToNat, Int.reduceLE, Int.reduceLT, Int.reduceNe, Int.reduceNeg, reduceCtorEq, Int.reduceBEq, Int.reduceBNe, hT', hC', hP', hV', hU', binds_data]
          refine hK (i + 1, p') _ _ ?_ ⟨h', (hF _ (by simp)).trans ((set_at_ne _ _ (by simp)).trans h1), (hF _ (by simp)).trans ((set_at_ne _ _ (by simp)).trans h2), by rw [hpo, List.map_append, il_append']; exact hO⟩ (by simp only; omega)
          simp only [go_sem, Nat.reduceAdd, Nat.reduceSub, Nat.reduceMul, Nat.reduceEqDiff, Nat.reduceLT, Nat.reduceLeDiff, Nat.reduceBEq, Nat.reduceBNe, Int.reduceToNat, Int.reduceLE, Int.reduceLT, Int.reduceNe, Int.reduceNeg, reduceCtorEq, Int.reduceBEq, Int.reduceBNe, w2, Int.natCast_add, Int.natCast_one]
    · have h' : i = l.length := by have : ¬ ((i : Int) < (l.length : Int)) := by simpa using h
                                   omega
      subst h'
      refine hE _ _ _ (by simp) ?_
      have hpl : (piecesOf ⟨ps, ks, gr, fr, un, fe, st⟩ l).length = l.length := List.length_map ..
      have hb : ((∀ k ∈ (piecesOf ⟨ps, ks, gr, fr, un, fe, st⟩ l).map w.of, 0 ≤ k ∧ k ≤ 1000000000) ∧ ((piecesOf ⟨ps, ks, gr, fr, un, fe, st⟩ l).map w.of).length ≤ 1000000) = True := eq_true ⟨fun k hk => by
        simp only [piecesOf, List.mem_map] at hk
        obtain ⟨_, ⟨j, hj, rfl⟩, rfl⟩ := hk
        have h5 := hm j hj
        have := What.ok hG w j.toNat (by simp only; omega)
        simp only at this; omega, by rw [List.length_map, hpl]; omega⟩
      rw [List.take_length] at *
      simp only [go_sem, Nat.reduceAdd, Nat.reduceSub, Nat.reduceMul, Nat.reduceEqDiff, Nat.reduceLT, Nat.reduceLeDiff, Nat.reduceBEq, Nat.reduceBNe, Int.reduceToNat, Int.reduceLE, Int.reduceLT, Int.reduceNe, Int.reduceNeg, reduceCtorEq, Int.reduceBEq, Int.reduceBNe, @callV_spec E3 92 s92 rfl, @callV_specT E3 92 s92 rfl, @stepV_spec E3 92 s92 rfl, @effV_spec E3 92 s92 rfl, s92, callSpec, hz1, hT, hC, hP, hV, hU, hb]
      exact ⟨(of_eq_true hb).1, by omega⟩
def GC (x : Calc) : Prop := GBook x.b
def s76 : Spec := spec3 (fun (x : Calc) (s : Int) (_ : What) => GBook x.b ∧ 0 ≤ s ∧ s.toNat < 2 ^ x.b.pieces.length) (fun x s w => .int .i64 (allF x.b w s.toNat))
theorem s76_ok : SpecOK Tryd.prog glB 76 s76 := spec3_ok E3_ok Tryd.func76 rfl (by kernel_rfl) fun x s w h => by
  obtain ⟨h1, h2, h3⟩ := h
  obtain ⟨a, rfl⟩ := Int.eq_ofNat_of_zero_le h2
  exact all_fn x a w h1 h3
end Wb
/- The parts of a postage; does a parcel fit? -/
namespace Wb
open Go Go.Proofs Enc Row
set_option linter.unusedSimpArgs false
set_option linter.unusedVariables false
set_option maxRecDepth 20000
set_option maxHeartbeats 4000000
def E4t : List (Nat × Spec) := [(76, s76)] ++ E3t
theorem E4t_ok : AllOK E4t := AllOK.append (l := [(76, s76)]) ⟨⟨s76_ok, Tryd.call76⟩, trivial⟩ E3t_ok
def E4 : Env := mkE E4t []
theorem E4_ok : EnvOK Tryd.prog E4 := envOK E4t_ok trivial
theorem E4_ti {t : Nat} : E4.ti t = ti t := rfl
theorem E4_q0 : (E4).eqt 130 = true := rfl
theorem E4_q1 : (E4).keyt 3 = true := rfl
theorem E4_q2 : (E4).keyt 85 = true := rfl
attribute [go_sem] E4_ti E4_q0 E4_q1 E4_q2
structure OkLoad (x : Calc) (k s : Nat) : Prop where
  g : GBook x.b
  k : k < x.b.kinds.length
  s : s < 2 ^ x.b.pieces.length
theorem sum_le {b : PBook} (hG : GBook b) (w : What) {s : Nat} (hs : s < 2 ^ b.pieces.length) : 0 ≤ allF b w s ∧ allF b w s ≤ 70000 := by
  have hll := ofS_len s 7
  have h := sumI_le (l := (piecesOf b (ofS s 7)).map w.of) (b := 10000) fun k hk => by
    simp only [piecesOf, List.mem_map] at hk
    obtain ⟨_, ⟨j, hj, rfl⟩, rfl⟩ := hk
    have h5 := ofS_lt hs hj
    exact What.ok hG w j.toNat (by omega)
  unfold allF
  rw [List.length_map, piecesOf, List.length_map] at h
  unfold piecesOf
  omega
def priceB (b : PBook) (z : Int) (k : Nat) : Int := (b.kinds.getD k default).zones.getD z.toNat 0
def stepsB (b : PBook) (k s : Nat) : Int := (b.kinds.getD k default).step * ((allF b .weight s + b.grams - 1) / b.grams - 1)
def insB (b : PBook) (s : Nat) : Int := b.fee * (((if allF b .worth s - b.free > 0 then allF b .worth s - b.free else 0) + b.unit - 1) / b.unit)
theorem price_fn (x : Calc) (k s : Nat) (h : OkLoad x k s) (hz : 0 ≤ x.zone ∧ x.zone ≤ 4) : Fn E4 0 113 Tryd.f113 (Tryd.f113.body.getD .skip) [.agg (encC x), .agg [.int .i64 k, .int .i64 s]] (.int .i64 (priceB x.b x.zone k)) := by
  obtain ⟨⟨ps, ks, gr, fr, un, fe, st⟩, z, es⟩ := x
  obtain ⟨hG, hk, hs⟩ := h
  simp only at hG hk hs hz
  obtain ⟨z, rfl⟩ := Int.eq_ofNat_of_zero_le hz.1
  have hkk := hG.ks _ (show ks.getD k default ∈ ks by simp [hk])
  have hki : (k : Int) < (ks.length : Int) := by omega
  have hg := getD_mapN encK ks k [PV.int IntKind.i64 0, PV.int IntKind.i64 0, PV.sl [] true, PV.int IntKind.i64 0] hk
  have hzl : (z : Int) < ((ks.getD k default).zones.length : Int) := by omega
  unfold Fn Tryd.f113 priceB
  simp only [go_sem, Nat.reduceAdd, Nat.reduceSub, Nat.reduceMul, Nat.reduceEqDiff, Nat.reduceLT, Nat.reduceLeDiff, Nat.reduceBEq, Nat.reduceBNe, Int.reduceToNat, Int.reduceLE, Int.reduceLT, Int.reduceNe, Int.reduceNeg, reduceCtorEq, Int.reduceBEq, Int.reduceBNe, encC, encB, hki, List.length_map, Int.natCast_nonneg, Int.toNat_natCast, hg, encK, il_length, il_get, hzl]
theorem steps_fn (x : Calc) (k s : Nat) (h : OkLoad x k s) : Fn E4 0 114 Tryd.f114 (Tryd.f114.body.getD .skip) [.agg (encC x), .agg [.int .i64 k, .int .i64 s]] (.int .i64 (stepsB x.b k s)) := by
  obtain ⟨⟨ps, ks, gr, fr, un, fe, st⟩, z, es⟩ := x
  obtain ⟨hG, hk, hs⟩ := h
  simp only at hG hk hs
  have hkk := hG.ks _ (show ks.getD k default ∈ ks by simp [hk])
  have hki : (k : Int) < (ks.length : Int) := by omega
  have hg := getD_mapN encK ks k [PV.int IntKind.i64 0, PV.int IntKind.i64 0, PV.sl [] true, PV.int IntKind.i64 0] hk
  have hw := sum_le hG .weight hs
  have hgr := hG.grams
  simp only at hgr
  unfold Fn Tryd.f114 stepsB
  simp only
  generalize hW : allF ⟨ps, ks, gr, fr, un, fe, st⟩ .weight s = W at *
  have hd : (W + gr - 1).tdiv gr = (W + gr - 1) / gr := Int.tdiv_eq_ediv_of_nonneg (by omega)
  have hq : 0 ≤ (W + gr - 1) / gr ∧ (W + gr - 1) / gr ≤ 100000 := by
    have h0 := Int.ediv_nonneg (a := W + gr - 1) (b := gr) (by omega) (by omega)
    have h1 := Int.ediv_le_self (a := W + gr - 1) gr (by omega)
    omega
  have w1 : IntKind.i64.wrap (W + gr) = W + gr := wrap_id (by omega)
  have w2 : IntKind.i64.wrap (W + gr - 1) = W + gr - 1 := wrap_id (by omega)
  generalize hQ : (W + gr - 1) / gr = Q at *
  have w3 : IntKind.i64.wrap Q = Q := wrap_id (by omega)
  have w4 : IntKind.i64.wrap (Q - 1) = Q - 1 := wrap_id (by omega)
  have hm : -1000000 ≤ (ks.getD k default).step * (Q - 1) ∧ (ks.getD k default).step * (Q - 1) ≤ 1000000000 := by
    obtain ⟨a, b⟩ := hkk.2.2.2.1
    generalize (ks.getD k default).step = S at *
    constructor
    · have : S * (-1) ≤ S * (Q - 1) := Int.mul_le_mul_of_nonneg_left (by omega) a
      omega
    · have : S * (Q - 1) ≤ S * 100000 := Int.mul_le_mul_of_nonneg_left (by omega) a
      omega
  have w5 : IntKind.i64.wrap ((ks.getD k default).step * (Q - 1)) = (ks.getD k default).step * (Q - 1) := wrap_id (by omega)
  have hgn : gr ≠ 0 := by omega
  simp only [go_sem, Nat.reduceAdd, Nat.reduceSub, Nat.reduceMul, Nat.reduceEqDiff, Nat.reduceLT, Nat.reduceLeDiff, Nat.reduceBEq, Nat.reduceBNe, Int.reduceToNat, Int.reduceLE, Int.reduceLT, Int.reduceNe, Int.reduceNeg, reduceCtorEq, Int.reduceBEq, Int.reduceBNe, @callV_spec E4 85 s85 rfl, @callV_specT E4 85 s85 rfl, @stepV_spec E4 85 s85 rfl, @effV_spec E4 85 s85 rfl, s85, @callV_spec E4 76 s76 rfl, @callV_specT E4 76 s76 rfl, @stepV_spec E4 76 s76 rfl, @effV_spec E4 76 s76 rfl, s76, encC, encB, callSpec, hki, List.length_map, Int.natCast_nonneg, Int.toNat_natCast, hg, encK, hG, hs, hW, w1, w2, w3, w4, w5, hd, hgn, ne_eq, not_false_eq_true]
theorem insurance_fn (x : Calc) (k s : Nat) (h : OkLoad x k s) : Fn E4 0 115 Tryd.f115 (Tryd.f115.body.getD .skip) [.agg (encC x), .agg [.int .i64 k, .int .i64 s]] (.int .i64 (insB x.b s)) := by
  obtain ⟨⟨ps, ks, gr, fr, un, fe, st⟩, z, es⟩ := x
  obtain ⟨hG, hk, hs⟩ := h
  simp only at hG hk hs
  have hw := sum_le hG .worth hs
  have hfr := hG.free
  have hun := hG.unit
  have hfe := hG.fee
  simp only at hfr hun hfe
  unfold Fn Tryd.f115 insB
  simp only
  generalize hW : allF ⟨ps, ks, gr, fr, un, fe, st⟩ .worth s = W at *
  have w1 : IntKind.i64.wrap (W - fr) = W - fr := wrap_id (by omega)
  have hM : 0 ≤ (if W - fr > 0 then W - fr else 0) ∧ (if W - fr > 0 then W - fr else 0) ≤ 70000 := by split <;> omega
  simp only [go_sem, Nat.reduceAdd, Nat.reduceSub, Nat.reduceMul, Nat.reduceEqDiff, Nat.reduceLT, Nat.reduceLeDiff, Nat.reduceBEq, Nat.reduceBNe, Int.reduceToNat, Int.reduceLE, Int.reduceLT, Int.reduceNe, Int.reduceNeg, reduceCtorEq, Int.reduceBEq, Int.reduceBNe, @callV_spec E4 77 s77 rfl, @callV_specT E4 77 s77 rfl, @stepV_spec E4 77 s77 rfl, @effV_spec E4 77 s77 rfl, s77, @callV_spec E4 76 s76 rfl, @callV_specT E4 76 s76 rfl, @stepV_spec E4 76 s76 rfl, @effV_spec E4 76 s76 rfl, s76, encC, encB, callSpec, Int.natCast_nonneg, Int.toNat_natCast, hG, hs, hW, w1]
  generalize (if W - fr > 0 then W - fr else 0) = M at *
  have hd : (M + un - 1).tdiv un = (M + un - 1) / un := Int.tdiv_eq_ediv_of_nonneg (by omega)
  have hq : 0 ≤ (M + un - 1) / un ∧ (M + un - 1) / un ≤ 100000 := by
    have h0 := Int.ediv_nonneg (a := M + un - 1) (b := un) (by omega) (by omega)
    have h1 := Int.ediv_le_self (a := M + un - 1) un (by omega)
    omega
  have w2 : IntKind.i64.wrap (M + un) = M + un := wrap_id (by omega)
  have w3 : IntKind.i64.wrap (M + un - 1) = M + un - 1 := wrap_id (by omega)
  generalize hQ : (M + un - 1) / un = Q at *
  have w4 : IntKind.i64.wrap Q = Q := wrap_id (by omega)
  have hm : 0 ≤ fe * Q ∧ fe * Q ≤ 1000000000 := by
    constructor
    · exact Int.mul_nonneg hfe.1 hq.1
    · have : fe * Q ≤ fe * 100000 := Int.mul_le_mul_of_nonneg_left hq.2 hfe.1
      omega
  have w5 : IntKind.i64.wrap (fe * Q) = fe * Q := wrap_id (by omega)
  have hgn : un ≠ 0 := by omega
  simp only [go_sem, Nat.reduceAdd, Nat.reduceSub, Nat.reduceMul, Nat.reduceEqDiff, Nat.reduceLT, Nat.reduceLeDiff, Nat.reduceBEq, Nat.reduceBNe, Int.reduceToNat, Int.reduceLE, Int.reduceLT, Int.reduceNe, Int.reduceNeg, reduceCtorEq, Int.reduceBEq, Int.reduceBNe, w2, w3, w4, w5, hd, hQ, hgn, ne_eq, not_false_eq_true]
def s113 : Spec := spec2 (fun (x : Calc) (l : Int × Int) => (GBook x.b ∧ (0 ≤ l.1 ∧ l.1 < x.b.kinds.length) ∧ 0 ≤ l.2 ∧ l.2.toNat < 2 ^ x.b.pieces.length) ∧ 0 ≤ x.zone ∧ x.zone ≤ 4) (fun x l => .int .i64 (priceB x.b x.zone l.1.toNat))
theorem s113_ok : SpecOK Tryd.prog glB 113 s113 := spec2_ok E4_ok Tryd.func113 rfl (by kernel_rfl) fun x l h => by
  obtain ⟨k, s⟩ := l
  obtain ⟨⟨h1, ⟨h2, h3⟩, h4, h5⟩, h6⟩ := h
  simp only at h2 h3 h4 h5
  obtain ⟨k, rfl⟩ := Int.eq_ofNat_of_zero_le h2
  obtain ⟨s, rfl⟩ := Int.eq_ofNat_of_zero_le h4
  exact price_fn x k s ⟨h1, by omega, h5⟩ h6
def s114 : Spec := spec2 (fun (x : Calc) (l : Int × Int) => GBook x.b ∧ (0 ≤ l.1 ∧ l.1 < x.b.kinds.length) ∧ 0 ≤ l.2 ∧ l.2.toNat < 2 ^ x.b.pieces.length) (fun x l => .int .i64 (stepsB x.b l.1.toNat l.2.toNat))
theorem s114_ok : SpecOK Tryd.prog glB 114 s114 := spec2_ok E4_ok Tryd.func114 rfl (by kernel_rfl) fun x l h => by
  obtain ⟨k, s⟩ := l
  obtain ⟨h1, ⟨h2, h3⟩, h4, h5⟩ := h
  simp only at h2 h3 h4 h5
  obtain ⟨k, rfl⟩ := Int.eq_ofNat_of_zero_le h2
  obtain ⟨s, rfl⟩ := Int.eq_ofNat_of_zero_le h4
  exact steps_fn x k s ⟨h1, by omega, h5⟩
def s115 : Spec := spec2 (fun (x : Calc) (l : Int × Int) => GBook x.b ∧ (0 ≤ l.1 ∧ l.1 < x.b.kinds.length) ∧ 0 ≤ l.2 ∧ l.2.toNat < 2 ^ x.b.pieces.length) (fun x l => .int .i64 (insB x.b l.2.toNat))
theorem s115_ok : SpecOK Tryd.prog glB 115 s115 := spec2_ok E4_ok Tryd.func115 rfl (by kernel_rfl) fun x l h => by
  obtain ⟨k, s⟩ := l
  obtain ⟨h1, ⟨h2, h3⟩, h4, h5⟩ := h
  simp only at h2 h3 h4 h5
  obtain ⟨k, rfl⟩ := Int.eq_ofNat_of_zero_le h2
  obtain ⟨s, rfl⟩ := Int.eq_ofNat_of_zero_le h4
  exact insurance_fn x k s ⟨h1, by omega, h5⟩
end Wb
/- Does a parcel fit? -/
namespace Wb
open Go Go.Proofs Enc Row
set_option linter.unusedSimpArgs false
set_option linter.unusedVariables false
set_option maxRecDepth 20000
set_option maxHeartbeats 4000000
def aloneB (b : PBook) (s : Nat) (n : Int) : Bool := (b.pieces.getD n.toNat default).alone && decide (s ≠ 2 ^ n.toNat)
def fitsB (b : PBook) (k s : Nat) : Bool := !(ofS s 7).any (aloneB b s) && (decide (allF b .size s ≤ (b.kinds.getD k default).room) && decide (allF b .weight s ≤ (b.kinds.getD k default).most))
theorem any_drop (p : Int → Bool) {l : List Int} {i : Nat} (h : i < l.length) : (l.drop i).any p = (p (l.getD i 0) || (l.drop (i + 1)).any p) := by
  rw [List.drop_eq_getElem_cons h, List.any_cons]
  simp [h]
theorem fits_fn (x : Calc) (k s : Nat) (h : OkLoad x k s) : Fn E4 0 56 Tryd.f56 (Tryd.f56.body.getD .skip) [.agg (encC x), .agg [.int .i64 k, .int .i64 s]] (.bool (fitsB x.b k s)) := by
  obtain ⟨⟨ps, ks, gr, fr, un, fe, st⟩, z, es⟩ := x
  obtain ⟨hG, hk, hs⟩ := h
  simp only at hG hk hs
  have h7 := hG.p7
  have hs2 : s < 2 ^ 62 := Nat.lt_of_lt_of_le hs (Nat.pow_le_pow_right (by decide) (by simp only at h7; omega))
  have hs3 : ((s : Int) < 2 ^ 62) = True := eq_true (by exact_mod_cast hs2)
  have hm : ∀ k ∈ ofS s 7, 0 ≤ k ∧ k < ps.length := fun k hk => ofS_lt hs hk
  have hll := ofS_len s 7
  have hki : (k : Int) < (ks.length : Int) := by omega
  have hg := getD_mapN encK ks k [PV.int IntKind.i64 0, PV.int IntKind.i64 0, PV.sl [] true, PV.int IntKind.i64 0] hk
  unfold Fn Tryd.f56 fitsB
  simp only [go_sem, Nat.reduceAdd, Nat.reduceSub, Nat.reduceMul, Nat.reduceEqDiff, Nat.reduceLT, Nat.reduceLeDiff, Nat.reduceBEq, Nat.reduceBNe, Int.reduceToNat, Int.reduceLE, Int.reduceLT, Int.reduceNe, Int.reduceNeg, reduceCtorEq, Int.reduceBEq, Int.reduceBNe, @callV_spec E4 69 s69 rfl, @callV_specT E4 69 s69 rfl, @stepV_spec E4 69 s69 rfl, @effV_spec E4 69 s69 rfl, s69, encC, encB, encK, callSpec, hs3, Int.natCast_nonneg, Int.toNat_natCast, il_length, List.length_map, hki, hg]
  generalize ofS s 7 = l at *
  refine ev_loopS [2, 3, 4, 5, 17, 18] (fun i : Nat => [(19, .int .i64 i)])
    (fun i H => i ≤ l.length ∧ (l.drop i).any (aloneB ⟨ps, ks, gr, fr, un, fe, st⟩ s) = l.any (aloneB ⟨ps, ks, gr, fr, un, fe, st⟩ s) ∧ H (([], 56000000) : Key) = some (.cells (encC ⟨⟨ps, ks, gr, fr, un, fe, st⟩, z, es⟩) 1 false) ∧ H (([], 56000001) : Key) = some (.cells [.int .i64 k, .int .i64 s] 1 false) ∧
      H (([], 56001007) : Key) = some (.cells (encK (ks.getD k default)) 1 false)) (fun i => l.length - i) 0 ?_ ⟨Nat.zero_le _, rfl, ?_, ?_, ?_⟩ ?_
  · simp only [go_sem, Nat.reduceAdd, Nat.reduceSub, Nat.reduceMul, Nat.reduceEqDiff, Nat.reduceLT, Nat.reduceLeDiff, Nat.reduceBEq, Nat.reduceBNe, Int.reduceToNat, Int.reduceLE, Int.reduceLT, Int.reduceNe, Int.reduceNeg, reduceCtorEq, Int.reduceBEq, Int.reduceBNe]
  · simp only [go_sem, Nat.reduceAdd, Nat.reduceSub, Nat.reduceMul, Nat.reduceEqDiff, Nat.reduceLT, Nat.reduceLeDiff, Nat.reduceBEq, Nat.reduceBNe, Int.reduceToNat, Int.reduceLE, Int.reduceLT, Int.reduceNe, Int.reduceNeg, reduceCtorEq, Int.reduceBEq, Int.reduceBNe, encC, encB]
  · simp only [go_sem, Nat.reduceAdd, Nat.reduceSub, Nat.reduceMul, Nat.reduceEqDiff, Nat.reduceLT, Nat.reduceLeDiff, Nat.reduceBEq, Nat.reduceBNe, Int.reduceToNat, Int.reduceLE, Int.reduceLT, Int.reduceNe, Int.reduceNeg, reduceCtorEq, Int.reduceBEq, Int.reduceBNe]
  · simp only [go_sem, Nat.reduceAdd, Nat.reduceSub, Nat.reduceMul, Nat.reduceEqDiff, Nat.reduceLT, Nat.reduceLeDiff, Nat.reduceBEq, Nat.reduceBNe, Int.reduceToNat, Int.reduceLE, Int.reduceLT, Int.reduceNe, Int.reduceNeg, reduceCtorEq, Int.reduceBEq, Int.reduceBNe, encK]
  · simp only [go_sem, Nat.reduceAdd, Nat.reduceSub, Nat.reduceMul, Nat.reduceEqDiff, Nat.reduceLT, Nat.reduceLeDiff, Nat.reduceBEq, Nat.reduceBNe, Int.reduceToNat, Int.reduceLE, Int.reduceLT, Int.reduceNe, Int.reduceNeg, reduceCtorEq, Int.reduceBEq, Int.reduceBNe]
    intro K i H ⟨hi, hf, h1, h2, h3⟩ hK hE
    have h1' := h1
    have h3' := h3
    simp only [encC, encB, List.cons_append, List.nil_append] at h1'
    simp only [encK] at h3'
    rw [condK_bool]
    refine ⟨fun h => ?_, fun h => ?_⟩
    · have h' : i < l.length := by simpa using h
      have hii : (i : Int) < (l.length : Int) := by omega
      have w2 : IntKind.i64.wrap ((i : Int) + 1) = (i : Int) + 1 := wrap_id (by omega)
      have hmem : l.getD i 0 ∈ l := by simp [h']
      obtain ⟨k0, k1⟩ := hm _ hmem
      obtain ⟨n, hn⟩ := Int.eq_ofNat_of_zero_le k0
      rw [any_drop _ h'] at hf
      rw [hn] at k0 k1 hf
      have k2 : n < ps.length := by omega
      have hgp := getD_mapN encP ps n [PV.int IntKind.i64 0, PV.int IntKind.i64 0, PV.int IntKind.i64 0, PV.bool false] k2
      have hsh := shl_one (k := n) (by simp only at h7; omega)
      simp only [go_sem, Nat.reduceAdd, Nat.reduceSub, Nat.reduceMul, Nat.reduceEqDiff, Nat.reduceLT, Nat.reduceLeDiff, Nat.reduceBEq, Nat.reduceBNe, Int.reduceToNat, Int.reduceLE, Int.reduceLT, Int.reduceNe, Int.reduceNeg, reduceCtorEq, Int.reduceBEq, Int.reduceBNe, il_length, il_get, hii, hn]
      simp only [go_sem, Nat.reduceAdd, Nat.reduceSub, Nat.reduceMul, Nat.reduceEqDiff, Nat.reduceLT, Nat.reduceLeDiff, Nat.reduceBEq, Nat.reduceBNe, Int.reduceToNat, Int.reduceLE, Int.reduceLT, Int.reduceNe, Int.reduceNeg, reduceCtorEq, Int.reduceBEq, Int.reduceBNe, h1', h2, k0, k1, hgp, encP, hsh, List.length_map]
      have hcd : ((ps.getD n default).alone && ((s : Int) != ((2 ^ n : Nat) : Int))) = aloneB ⟨ps, ks, gr, fr, un, fe, st⟩ s (n : Int) := by
        unfold aloneB
        simp only [Int.toNat_natCast]
        congr 1
        rw [Bool.eq_iff_iff]
        simp only [bne_iff_ne, ne_eq, decide_eq_true_eq]
        omega
      rw [hcd, condK_bool]
      refine ⟨fun hc => ?_, fun hc => ?_⟩
      · rw [hc, Bool.true_or] at hf
        simp only [go_sem, Nat.reduceAdd, Nat.reduceSub, Nat.reduceMul, Nat.reduceEqDiff, Nat.reduceLT, Nat.reduceLeDiff, Nat.reduceBEq, Nat.reduceBNe, Int.reduceToNat, Int.reduceLE, Int.reduceLT, Int.reduceNe, Int.reduceNeg, reduceCtorEq, Int.reduceBEq, Int.reduceBNe]
        refine hE _ _ _ (by simp) ?_
        simp only [go_sem, Nat.reduceAdd, Nat.reduceSub, Nat.reduceMul, Nat.reduceEqDiff, Nat.reduceLT, Nat.reduceLeDiff, Nat.reduceBEq, Nat.reduceBNe, Int.reduceToNat, Int.reduceLE, Int.reduceLT, Int.reduceNe, Int.reduceNeg, reduceCtorEq, Int.reduceBEq, Int.reduceBNe, ← hf]
      · rw [hc, Bool.false_or] at hf
        simp only [go_sem, Nat.reduceAdd, Nat.reduceSub, Nat.reduceMul, Nat.reduceEqDiff, Nat.reduceLT, Nat.reduceLeDiff, Nat.reduceBEq, Nat.reduceBNe, Int.reduceToNat, Int.reduceLE, Int.reduceLT, Int.reduceNe, Int.reduceNeg, reduceCtorEq, Int.reduceBEq, Int.reduceBNe]
        refine hK (i + 1) _ _ ?_ ⟨h', hf, h1, h2, h3⟩ (by omega)
        simp only [go_sem, Nat.reduceAdd, Nat.reduceSub, Nat.reduceMul, Nat.reduceEqDiff, Nat.reduceLT, Nat.reduceLeDiff, Nat.reduceBEq, Nat.reduceBNe, Int.reduceToNat, Int.reduceLE, Int.reduceLT, Int.reduceNe, Int.reduceNeg, reduceCtorEq, Int.reduceBEq, Int.reduceBNe, w2, Int.natCast_add, Int.natCast_one]
    · have h' : i = l.length := by have : ¬ ((i : Int) < (l.length : Int)) := by simpa using h
                                   omega
      refine hE _ _ _ (by simp) ?_
      have hany : l.any (aloneB ⟨ps, ks, gr, fr, un, fe, st⟩ s) = false := by rw [← hf, h', List.drop_length]; rfl
      simp only [go_sem, Nat.reduceAdd, Nat.reduceSub, Nat.reduceMul, Nat.reduceEqDiff, Nat.reduceLT, Nat.reduceLeDiff, Nat.reduceBEq, Nat.reduceBNe, Int.reduceToNat, Int.reduceLE, Int.reduceLT, Int.reduceNe, Int.reduceNeg, reduceCtorEq, Int.reduceBEq, Int.reduceBNe, @callV_spec E4 84 s84 rfl, @callV_specT E4 84 s84 rfl, @stepV_spec E4 84 s84 rfl, @effV_spec E4 84 s84 rfl, s84, @callV_spec E4 85 s85 rfl, @callV_specT E4 85 s85 rfl, @stepV_spec E4 85 s85 rfl, @effV_spec E4 85 s85 rfl, s85, @callV_spec E4 76 s76 rfl, @callV_specT E4 76 s76 rfl, @stepV_spec E4 76 s76 rfl, @effV_spec E4 76 s76 rfl, s76, callSpec, h1', h2, h3', hany, hG, hs, Int.natCast_nonneg, Int.toNat_natCast, Bool.not_false, Bool.true_and]
def s56 : Spec := spec2 (fun (x : Calc) (l : Int × Int) => GBook x.b ∧ (0 ≤ l.1 ∧ l.1 < x.b.kinds.length) ∧ 0 ≤ l.2 ∧ l.2.toNat < 2 ^ x.b.pieces.length) (fun x l => .bool (fitsB x.b l.1.toNat l.2.toNat))
theorem s56_ok : SpecOK Tryd.prog glB 56 s56 := spec2_ok (n := 0) E4_ok Tryd.func56 rfl (by kernel_rfl) fun x l h => by
  obtain ⟨k, s⟩ := l
  obtain ⟨h1, ⟨h2, h3⟩, h4, h5⟩ := h
  simp only at h2 h3 h4 h5
  obtain ⟨k, rfl⟩ := Int.eq_ofNat_of_zero_le h2
  obtain ⟨s, rfl⟩ := Int.eq_ofNat_of_zero_le h4
  exact fits_fn x k s ⟨h1, by omega, h5⟩
end Wb
/- A parcel as a kind and a set. -/
namespace Wb
open Go Go.Proofs Enc Row
set_option linter.unusedSimpArgs false
set_option linter.unusedVariables false
set_option maxRecDepth 20000
set_option maxHeartbeats 4000000
def E5t : List (Nat × Spec) := [(56, s56), (113, s113), (114, s114), (115, s115)] ++ E4t
theorem E5t_ok : AllOK E5t := AllOK.append (l := [(56, s56), (113, s113), (114, s114), (115, s115)]) ⟨⟨s56_ok, Tryd.call56⟩, ⟨s113_ok, Tryd.call113⟩, ⟨s114_ok, Tryd.call114⟩, ⟨s115_ok, Tryd.call115⟩, trivial⟩ E4t_ok
def E5 : Env := mkE E5t []
theorem E5_ok : EnvOK Tryd.prog E5 := envOK E5t_ok trivial
theorem E5_ti {t : Nat} : E5.ti t = ti t := rfl
theorem E5_q0 : (E5).eqt 130 = true := rfl
theorem E5_q1 : (E5).keyt 3 = true := rfl
theorem E5_q2 : (E5).keyt 85 = true := rfl
attribute [go_sem] E5_ti E5_q0 E5_q1 E5_q2
def metL (l : List Int) : List Bool := l.foldl (fun m k => m.set k.toNat true) (List.replicate 7 false)
theorem metL_len : ∀ (l : List Int) (m : List Bool), (l.foldl (fun m k => m.set k.toNat true) m).length = m.length
  | [], _ => rfl
  | k :: l, m => by rw [List.foldl_cons, metL_len l]; simp
theorem met_get : ∀ (l : List Int) (m : List Bool) (i : Nat), i < m.length → (∀ k ∈ l, 0 ≤ k) → ((l.foldl (fun m k => m.set k.toNat true) m).getD i false = true ↔ m.getD i false = true ∨ (i : Int) ∈ l)
  | [], m, i, _, _ => by simp
  | k :: l, m, i, h, hl => by
    have hk := hl k (by simp)
    rw [List.foldl_cons, met_get l _ i (by simpa using h) fun k hk => hl k (by simp [hk])]
    simp only [List.getD_eq_getElem?_getD, List.getElem?_set, List.mem_cons]
    by_cases e : k.toNat = i
    · have : (i : Int) = k := by omega
      simp [e, h, this]
    · have : (i : Int) ≠ k := by omega
      simp [e, this]
theorem setF_bit (l : List Bool) : ∀ (n i : Nat), (setF l n).testBit i = (decide (i < n) && l.getD i false)
  | 0, i => by simp [setF]
  | n + 1, i => by
    unfold setF
    by_cases e : i = n
    · subst e
      cases hl : l.getD i false with
      | true => simp only [if_true, Nat.testBit_or, setF_bit l i i, Nat.testBit_two_pow_self]; simp
      | false => simp only [Bool.false_eq_true, if_false, setF_bit l i i]; simp
    · have hd : decide (i < n + 1) = decide (i < n) := by rw [decide_eq_decide]; omega
      rw [hd]
      split
      · rw [Nat.testBit_or, setF_bit l n i, Nat.testBit_two_pow]; simp [Ne.symm e]
      · exact setF_bit l n i
theorem putS_bit : ∀ (l : List Int) (s i : Nat), (∀ k ∈ l, 0 ≤ k) → ((l.foldl (fun s k => s ||| 2 ^ k.toNat) s).testBit i = true ↔ s.testBit i = true ∨ (i : Int) ∈ l)
  | [], s, i, _ => by simp
  | k :: l, s, i, hl => by
    have hk := hl k (by simp)
    rw [List.foldl_cons, putS_bit l _ i fun k hk => hl k (by simp [hk]), Nat.testBit_or, Nat.testBit_two_pow]
    simp only [Bool.or_eq_true, decide_eq_true_eq, List.mem_cons]
    constructor
    · rintro ((h | h) | h)
      · exact .inl h
      · exact .inr (.inl (by omega))
      · exact .inr (.inr h)
    · rintro (h | h | h)
      · exact .inl (.inl h)
      · exact .inl (.inr (by omega))
      · exact .inr h
theorem set_put {l : List Int} (h : ∀ k ∈ l, 0 ≤ k ∧ k < 7) : setF (metL l) 7 = putS l := Nat.eq_of_testBit_eq fun i => by
  rw [setF_bit, Bool.eq_iff_iff]
  unfold putS
  rw [putS_bit l 0 i fun k hk => (h k hk).1]
  simp only [Bool.and_eq_true, decide_eq_true_eq, Nat.zero_testBit, Bool.false_eq_true, false_or]
  constructor
  · rintro ⟨h1, h2⟩
    unfold metL at h2
    rw [met_get l _ i (by simpa using h1) fun k hk => (h k hk).1] at h2
    rcases h2 with h2 | h2
    · exfalso
      rw [List.getD_eq_getElem?_getD, List.getElem?_replicate, if_pos h1] at h2
      cases h2
    · exact h2
  · intro hm
    have h1 : i < 7 := by have := (h _ hm).2; omega
    refine ⟨h1, ?_⟩
    unfold metL
    rw [met_get l _ i (by simpa using h1) fun k hk => (h k hk).1]
    exact .inr hm
theorem met_any {l : List Int} (h : ∀ k ∈ l, 0 ≤ k ∧ k < 7) : (metL l).any id = decide (l ≠ []) := by
  rw [Bool.eq_iff_iff, List.any_eq_true, decide_eq_true_eq]
  have hl := metL_len l (List.replicate 7 false)
  rw [List.length_replicate] at hl
  constructor
  · rintro ⟨b, hb, hbt⟩ rfl
    unfold metL at hb
    simp only [List.foldl_nil] at hb
    rw [(List.mem_replicate.1 hb).2] at hbt
    cases hbt
  · intro hne
    match l, hne with
    | k :: l', _ =>
      have hk := h k (by simp)
      have h7 : k.toNat < 7 := by omega
      have := (met_get (k :: l') (List.replicate 7 false) k.toNat (by simpa using h7) fun k hk => (h k hk).1).2 (.inr (by simp; omega))
      have hl' : k.toNat < (metL (k :: l')).length := by unfold metL; omega
      have h2 : (metL (k :: l'))[k.toNat] = true := by
        have h3 : (metL (k :: l')).getD k.toNat false = true := this
        rw [List.getD_eq_getElem?_getD, List.getElem?_eq_getElem hl'] at h3
        exact h3
      exact ⟨_, List.getElem_mem hl', h2⟩
def loadM (np nk : Int) (q : Parc) : (Int × Int) × Bool :=
  if climbsF np (-1) q.pieces then ((q.kind, (putS q.pieces : Int)), (decide (0 ≤ q.kind) && decide (q.kind ≤ nk - 1)) && decide (q.pieces ≠ [])) else ((0, 0), false)
theorem climbs_mem {n : Int} : ∀ (l : List Int) (b : Int), climbsF n b l = true → ∀ k ∈ l, b < k ∧ k < n
  | [], _, _, _, h => by cases h
  | a :: l, b, h, k, hk => by
    simp only [climbsF, Bool.and_eq_true, decide_eq_true_eq] at h
    rcases List.mem_cons.1 hk with rfl | hk
    · exact h.1
    · have := climbs_mem l a h.2 k hk; omega
theorem encBs_set (m : List Bool) (n : Nat) : (encBs m).set n (.bool true) = encBs (m.set n true) := by simp [encBs, List.map_set]
theorem eqL_bs : ∀ m : List Bool, m.length = 7 → eqL (encBs m) (encBs (List.replicate 7 false)) = !m.any id
  | [a, b, c, d, e, f, g], _ => by cases a <;> cases b <;> cases c <;> cases d <;> cases e <;> cases f <;> cases g <;> rfl
theorem likeL_bs : ∀ m : List Bool, m.length = 7 → likeL (encBs m) (ti 130).zero = true
  | [a, b, c, d, e, f, g], _ => rfl
theorem dec_bs7 (a b c d e f g : Bool) : (dec (.agg [.bool a, .bool b, .bool c, .bool d, .bool e, .bool f, .bool g]) : Option Bs) = some ⟨[a, b, c, d, e, f, g]⟩ := rfl
attribute [go_sem] dec_bs7
theorem seven : ∀ m : List Bool, m.length = 7 → ∃ a b c d e f g, m = [a, b, c, d, e, f, g]
  | [a, b, c, d, e, f, g], _ => ⟨a, b, c, d, e, f, g, rfl⟩
theorem load_fn (x : Calc) (q : Parc) (h7 : x.b.pieces.length ≤ 7) (h4 : x.b.kinds.length ≤ 4) (hq : big q.pieces.length) :
    Fn E5 0 55 Tryd.f55 (Tryd.f55.body.getD .skip) [.agg (encC x), .agg (encQ q)] (.tup [.agg [.int .i64 (loadM x.b.pieces.length x.b.kinds.length q).1.1, .int .i64 (loadM x.b.pieces.length x.b.kinds.length q).1.2], .bool (loadM x.b.pieces.length x.b.kinds.length q).2]) := by
  obtain ⟨⟨ps, ks, gr, fr, un, fe, st⟩, z, es⟩ := x
  obtain ⟨kd, l⟩ := q
  simp only at h7 h4 hq
  unfold big at hq
  have w1 : IntKind.i64.wrap ((ks.length : Int) - 1) = (ks.length : Int) - 1 := wrap_id (by omega)
  have w3 : IntKind.i64.wrap ((ps.length : Int) - 1) = (ps.length : Int) - 1 := wrap_id (by omega)
  unfold Fn Tryd.f55
  simp only [go_sem, Nat.reduceAdd, Nat.reduceSub, Nat.reduceMul, Nat.reduceEqDiff, Nat.reduceLT, Nat.reduceLeDiff, Nat.reduceBEq, Nat.reduceBNe, Int.reduceToNat, Int.reduceLE, Int.reduceLT, Int.reduceNe, Int.reduceNeg, reduceCtorEq, Int.reduceBEq, Int.reduceBNe, @callV_spec E5 60 sTween rfl, @callV_specT E5 60 sTween rfl, @stepV_spec E5 60 sTween rfl, @effV_spec E5 60 sTween rfl, sTween, encC, encB, encQ, callSpec, w1, List.length_map, il_length]
  generalize hok : (decide (0 ≤ kd) && decide (kd ≤ (ks.length : Int) - 1)) = ok
  refine ev_loopS [2, 3, 4, 6, 8, 20, 21] (fun x : Nat × Int => [(5, .bool false), (7, .int .i64 x.2), (22, .int .i64 x.1)])
    (fun x H => x.1 ≤ l.length ∧ (-1 ≤ x.2 ∧ x.2 < 7) ∧ climbsF ps.length (-1) l = climbsF ps.length x.2 (l.drop x.1) ∧ (∀ k ∈ l.take x.1, 0 ≤ k ∧ k < 7) ∧
      H (([], 55000000) : Key) = some (.cells (encC ⟨⟨ps, ks, gr, fr, un, fe, st⟩, z, es⟩) 1 false) ∧ H (([], 55000001) : Key) = some (.cells [.int .i64 kd, .sl (il l) false] 1 false) ∧
      H (([], 55000002) : Key) = some (.cells [.int .i64 0, .int .i64 0] 1 false) ∧ H (([], 55002000) : Key) = some (.cells (encBs (metL (l.take x.1))) 1 false)) (fun x => l.length - x.1) (0, -1) ?_ ⟨Nat.zero_le _, by simp, rfl, fun k hk => (by simp at hk), ?_, ?_, ?_, ?_⟩ ?_
  · simp only [go_sem, Nat.reduceAdd, Nat.reduceSub, Nat.reduceMul, Nat.reduceEqDiff, Nat.reduceLT, Nat.reduceLeDiff, Nat.reduceBEq, Nat.reduceBNe, Int.reduceToNat, Int.reduceLE, Int.reduceLT, Int.reduceNe, Int.reduceNeg, reduceCtorEq, Int.reduceBEq, Int.reduceBNe]
  · simp only [go_sem, Nat.reduceAdd, Nat.reduceSub, Nat.reduceMul, Nat.reduceEqDiff, Nat.reduceLT, Nat.reduceLeDiff, Nat.reduceBEq, Nat.reduceBNe, Int.reduceToNat, Int.reduceLE, Int.reduceLT, Int.reduceNe, Int.reduceNeg, reduceCtorEq, Int.reduceBEq, Int.reduceBNe, encC, encB]
  · simp only [go_sem, Nat.reduceAdd, Nat.reduceSub, Nat.reduceMul, Nat.reduceEqDiff, Nat.reduceLT, Nat.reduceLeDiff, Nat.reduceBEq, Nat.reduceBNe, Int.reduceToNat, Int.reduceLE, Int.reduceLT, Int.reduceNe, Int.reduceNeg, reduceCtorEq, Int.reduceBEq, Int.reduceBNe]
  · simp only [go_sem, Nat.reduceAdd, Nat.reduceSub, Nat.reduceMul, Nat.reduceEqDiff, Nat.reduceLT, Nat.reduceLeDiff, Nat.reduceBEq, Nat.reduceBNe, Int.reduceToNat, Int.reduceLE, Int.reduceLT, Int.reduceNe, Int.reduceNeg, reduceCtorEq, Int.reduceBEq, Int.reduceBNe]
  · simp only [go_sem, Nat.reduceAdd, Nat.reduceSub, Nat.reduceMul, Nat.reduceEqDiff, Nat.reduceLT, Nat.reduceLeDiff, Nat.reduceBEq, Nat.reduceBNe, Int.reduceToNat, Int.reduceLE, Int.reduceLT, Int.reduceNe, Int.reduceNeg, reduceCtorEq, Int.reduceBEq, Int.reduceBNe]; rfl
  · simp only [go_sem, Nat.reduceAdd, Nat.reduceSub, Nat.reduceMul, Nat.reduceEqDiff, Nat.reduceLT, Nat.reduceLeDiff, Nat.reduceBEq, Nat.reduceBNe, Int.reduceToNat, Int.reduceLE, Int.reduceLT, Int.reduceNe, Int.reduceNeg, reduceCtorEq, Int.reduceBEq, Int.reduceBNe]
    intro K x H ⟨hi, hb, hf, hm, k1, k2, k3, k4⟩ hK hE
    obtain ⟨i, b⟩ := x
    simp only at hi hb hf hm k4
    dsimp only
    have k1' := k1
    simp only [encC, encB, List.cons_append, List.nil_append] at k1'
    rw [condK_bool]
    refine ⟨fun h => ?_, fun h => ?_⟩
    · have h' : i < l.length := by simpa using h
      have hii : (i : Int) < (l.length : Int) := by omega
      have w2 : IntKind.i64.wrap ((i : Int) + 1) = (i : Int) + 1 := wrap_id (by omega)
      have w4 : IntKind.i64.wrap (b + 1) = b + 1 := wrap_id (by omega)
      rw [climbs_drop h'] at hf
      simp only [go_sem, Nat.reduceAdd, Nat.reduceSub, Nat.reduceMul, Nat.reduceEqDiff, Nat.reduceLT, Nat.reduceLeDiff, Nat.reduceBEq, Nat.reduceBNe, Int.reduceToNat, Int.reduceLE, Int.reduceLT, Int.reduceNe, Int.reduceNeg, reduceCtorEq, Int.reduceBEq, Int.reduceBNe, @callV_spec E5 60 sTween rfl, @callV_specT E5 60 sTween rfl, @stepV_spec E5 60 sTween rfl, @effV_spec E5 60 sTween rfl, sTween, callSpec, il_length, il_get, hii, k1', w4, w3, List.length_map]
      generalize hn : l.getD i 0 = n at *
      rw [condK_bool]
      refine ⟨fun hc => ?_, fun hc => ?_⟩
      · have hcl : climbsF ps.length (-1) l = false := by
          rw [hf]
          have : ¬ (b < n ∧ n < ps.length) := fun q => by
            simp at hc; omega
          simp only [Bool.and_eq_false_iff, decide_eq_false_iff_not]
          by_cases q : b < n
          · exact .inl (.inr fun r => this ⟨q, r⟩)
          · exact .inl (.inl q)
        simp only [go_sem, Nat.reduceAdd, Nat.reduceSub, Nat.reduceMul, Nat.reduceEqDiff, Nat.reduceLT, Nat.reduceLeDiff, Nat.reduceBEq, Nat.reduceBNe, Int.reduceToNat, Int.reduceLE, Int.reduceLT, Int.reduceNe, Int.reduceNeg, reduceCtorEq, Int.reduceBEq, Int.reduceBNe, k3]
        refine hE _ _ _ (by simp) ?_
        simp only [go_sem, Nat.reduceAdd, Nat.reduceSub, Nat.reduceMul, Nat.reduceEqDiff, Nat.reduceLT, Nat.reduceLeDiff, Nat.reduceBEq, Nat.reduceBNe, Int.reduceToNat, Int.reduceLE, Int.reduceLT, Int.reduceNe, Int.reduceNeg, reduceCtorEq, Int.reduceBEq, Int.reduceBNe, loadM, hcl]
      · have hbn : b < n ∧ n < ps.length := by simp at hc; omega
        obtain ⟨j, rfl⟩ := Int.eq_ofNat_of_zero_le (show 0 ≤ n by omega)
        have hj7 : (j : Int) < 7 := by omega
        have hlen : (encBs (metL (l.take i))).length = 7 := by rw [encBs_len]; unfold metL; rw [metL_len]; rfl
        have hjl : j + 1 ≤ 7 := by omega
        have htk := List.take_succ_eq_append_getElem h'
        have hgi : l[i] = (j : Int) := by rw [← hn]; simp [h']
        rw [hgi] at htk
        simp only [hbn, decide_true, Bool.true_and] at hf
        simp only [go_sem, Nat.reduceAdd, Nat.reduceSub, Nat.reduceMul, Nat.reduceEqDiff, Nat.reduceLT, Nat.reduceLeDiff, Nat.reduceBEq, Nat.reduceBNe, Int.reduceToNat, Int.reduceLE, Int.reduceLT, Int.reduceNe, Int.reduceNeg, reduceCtorEq, Int.reduceBEq, Int.reduceBNe, k4, Int.natCast_nonneg, hj7, Nat.mul_one, Nat.zero_add, hlen, hjl, encBs_set]
        refine hK (i + 1, (j : Int)) _ _ ?_ ⟨h', by omega, hf, fun k hk => ?_, ?_, ?_, ?_, ?_⟩ (by simp only; omega)
        · simp only [go_sem, Nat.reduceAdd, Nat.reduceSub, Nat.reduceMul, Nat.reduceEqDiff, Nat.reduceLT, Nat.reduceLeDiff, Nat.reduceBEq, Nat.reduceBNe, Int.reduceToNat, Int.reduceLE, Int.reduceLT, Int.reduceNe, Int.reduceNeg, reduceCtorEq, Int.reduceBEq, Int.reduceBNe, w2, Int.natCast_add, Int.natCast_one]
        · rw [htk] at hk
          rcases List.mem_append.1 hk with hk | hk
          · exact hm k hk
          · rw [List.mem_singleton.1 hk]; omega
        · simp only [go_sem, Nat.reduceAdd, Nat.reduceSub, Nat.reduceMul, Nat.reduceEqDiff, Nat.reduceLT, Nat.reduceLeDiff, Nat.reduceBEq, Nat.reduceBNe, Int.reduceToNat, Int.reduceLE, Int.reduceLT, Int.reduceNe, Int.reduceNeg, reduceCtorEq, Int.reduceBEq, Int.reduceBNe, k1]
        · simp only [go_sem, Nat.reduceAdd, Nat.reduceSub, Nat.reduceMul, Nat.reduceEqDiff, Nat.reduceLT, Nat.reduceLeDiff, Nat.reduceBEq, Nat.reduceBNe, Int.reduceToNat, Int.reduceLE, Int.reduceLT, Int.reduceNe, Int.reduceNeg, reduceCtorEq, Int.reduceBEq, Int.reduceBNe, k2]
        · simp only [go_sem, Nat.reduceAdd, Nat.reduceSub, Nat.reduceMul, Nat.reduceEqDiff, Nat.reduceLT, Nat.reduceLeDiff, Nat.reduceBEq, Nat.reduceBNe, Int.reduceToNat, Int.reduceLE, Int.reduceLT, Int.reduceNe, Int.reduceNeg, reduceCtorEq, Int.reduceBEq, Int.reduceBNe, k3]
        · simp only [go_sem, Nat.reduceAdd, Nat.reduceSub, Nat.reduceMul, Nat.reduceEqDiff, Nat.reduceLT, Nat.reduceLeDiff, Nat.reduceBEq, Nat.reduceBNe, Int.reduceToNat, Int.reduceLE, Int.reduceLT, Int.reduceNe, Int.reduceNeg, reduceCtorEq, Int.reduceBEq, Int.reduceBNe]
          rw [htk]
          unfold metL
          rw [List.foldl_append]
          simp only [List.foldl_cons, List.foldl_nil, Int.toNat_natCast]
    · have h' : i = l.length := by have : ¬ ((i : Int) < (l.length : Int)) := by simpa using h
                                   omega
      subst h'
      rw [List.take_length] at k4 hm
      have hcl : climbsF ps.length (-1) l = true := by rw [hf, List.drop_length]; rfl
      have hlen : (metL l).length = 7 := by unfold metL; rw [metL_len]; rfl
      have hany := met_any hm
      have hset := set_put hm
      have hlt := setF_lt (metL l) 7 (by decide)
      refine hE _ _ _ (by simp) ?_
      have hez := eqL_bs _ hlen
      rw [hany] at hez
      generalize metL l = m at *
      obtain ⟨a0, a1, a2, a3, a4, a5, a6, rfl⟩ := seven m hlen
      simp only [encBs, List.replicate, List.map_cons, List.map_nil] at hez k4
      simp only [go_sem, Nat.reduceAdd, Nat.reduceSub, Nat.reduceMul, Nat.reduceEqDiff, Nat.reduceLT, Nat.reduceLeDiff, Nat.reduceBEq, Nat.reduceBNe, Int.reduceToNat, Int.reduceLE, Int.reduceLT, Int.reduceNe, Int.reduceNeg, reduceCtorEq, Int.reduceBEq, Int.reduceBNe, @callV_spec E5 83 s83 rfl, @callV_specT E5 83 s83 rfl, @stepV_spec E5 83 s83 rfl, @effV_spec E5 83 s83 rfl, s83, callSpec, k2, k3, k4, encBs, hset, loadM, hcl, hok]
      simp only [go_sem, Nat.reduceAdd, Nat.reduceSub, Nat.reduceMul, Nat.reduceEqDiff, Nat.reduceLT, Nat.reduceLeDiff, Nat.reduceBEq, Nat.reduceBNe, Int.reduceToNat, Int.reduceLE, Int.reduceLT, Int.reduceNe, Int.reduceNeg, reduceCtorEq, Int.reduceBEq, Int.reduceBNe] at hez
      rw [hez, Bool.not_not]
def s55 : Spec := spec2 (fun (x : Calc) (q : Parc) => (x.b.pieces.length ≤ 7 ∧ x.b.kinds.length ≤ 4) ∧ big q.pieces.length) (fun x q => .tup [.agg [.int .i64 (loadM x.b.pieces.length x.b.kinds.length q).1.1, .int .i64 (loadM x.b.pieces.length x.b.kinds.length q).1.2], .bool (loadM x.b.pieces.length x.b.kinds.length q).2])
theorem s55_ok : SpecOK Tryd.prog glB 55 s55 := spec2_ok (n := 0) E5_ok Tryd.func55 rfl (by kernel_rfl) fun x q h => load_fn x q h.1.1 h.1.2 h.2
end Wb
/- Divisions of a set into parcels: the best one (no program in sight). -/
namespace Wb
/-! Divisions of a set (its bits) into parcels: the best one. -/
def subsF (m : Nat) : Nat → Nat → List Nat
  | 0, _ => []
  | f + 1, c => c :: (if c = 0 then [] else subsF m f ((c - 1) &&& m))
def lowF : Nat → Nat → Nat
  | 0, _ => 0
  | f + 1, s => if s % 2 = 1 then 1 else 2 * lowF f (s / 2)
/-- The lowest bit's value. -/
def lowB (s : Nat) : Nat := lowF 7 s
/-- All parts of a set that have its first piece, as the program comes to them. -/
def partsL (s : Nat) : List Nat := (subsF (s - lowB s) 128 (s - lowB s)).map (· ||| lowB s)
def partsB (s : Nat) : Bool := partsL s == (List.range 128).reverse.filter (fun x => decide (x &&& s = x) && decide (x &&& lowB s ≠ 0))
theorem partsB_all : ∀ s, s < 128 → s ≠ 0 → partsB s = true := by decide +kernel
theorem lowB_all : ∀ s, s < 128 → s ≠ 0 → lowB s &&& s = lowB s ∧ lowB s ≠ 0 ∧ ∃ i, i < 7 ∧ lowB s = 2 ^ i := by decide +kernel
theorem mem_partsL {s x : Nat} (h : s < 128) (h0 : s ≠ 0) : x ∈ partsL s ↔ x < 128 ∧ x &&& s = x ∧ x &&& lowB s ≠ 0 := by
  have := partsB_all s h h0
  unfold partsB at this
  rw [beq_iff_eq] at this
  rw [this]
  simp
def subB (s x : Nat) : Bool := decide (x &&& s ≠ x) || (decide ((s - x) &&& x = 0) && decide ((s - x) &&& s = s - x) && decide ((s - x) ||| x = s) && decide (s - x ≤ s) && (decide (x = 0) || decide (s - x < s)))
theorem subB_all : ∀ s, s < 128 → ∀ x, x < 128 → subB s x = true := by decide +kernel
theorem sub_all (s : Nat) (hs : s < 128) (x : Nat) (hx : x < 128) (h : x &&& s = x) : (s - x) &&& x = 0 ∧ (s - x) &&& s = s - x ∧ (s - x) ||| x = s ∧ s - x ≤ s ∧ (x ≠ 0 → s - x < s) := by
  have := subB_all s hs x hx
  unfold subB at this
  simp only [h, ne_eq, not_true_eq_false, decide_false, Bool.false_or, Bool.and_eq_true, decide_eq_true_eq, Bool.or_eq_true] at this
  obtain ⟨⟨⟨⟨h1, h2⟩, h3⟩, h4⟩, h5⟩ := this
  exact ⟨h1, h2, h3, h4, fun h => h5.resolve_left h⟩

/-! ### Keys: cents, then how many -/
def lt2 (a b : Int × Int) : Bool := decide (a.1 < b.1) || (decide (a.1 = b.1) && decide (a.2 < b.2))
theorem lt2_iff {a b : Int × Int} : lt2 a b = true ↔ a.1 < b.1 ∨ a.1 = b.1 ∧ a.2 < b.2 := by simp [lt2]
theorem lt2_not {a b : Int × Int} : lt2 a b = false ↔ b.1 < a.1 ∨ b.1 = a.1 ∧ b.2 ≤ a.2 := by
  rw [← Bool.not_eq_true, lt2_iff]; omega
def best2 (m : Option (Int × Int)) (x : Int × Int) : Option (Int × Int) :=
  match m with
  | none => some x
  | some y => if lt2 x y then some x else some y
def minK (l : List (Int × Int)) : Option (Int × Int) := l.foldl best2 none
theorem foldB : ∀ (l : List (Int × Int)) (m : Option (Int × Int)), (l.foldl best2 m = none ↔ m = none ∧ l = []) ∧ ∀ x, l.foldl best2 m = some x → (m = some x ∨ x ∈ l) ∧ (∀ y ∈ l, lt2 y x = false) ∧ ∀ y, m = some y → lt2 y x = false
  | [], m => ⟨by simp, fun x h => ⟨.inl h, (fun y hy => by cases hy), fun y hy => by
      rw [List.foldl_nil] at h
      rw [h] at hy; cases hy
      rw [lt2_not]; omega⟩⟩
  | a :: l, m => by
    obtain ⟨h1, h2⟩ := foldB l (best2 m a)
    rw [List.foldl_cons]
    refine ⟨⟨fun h => ?_, fun h => by simp at h⟩, fun x hx => ?_⟩
    · obtain ⟨h3, _⟩ := h1.1 h
      cases m with
      | none => simp [best2] at h3
      | some y => unfold best2 at h3; simp only at h3; split at h3 <;> cases h3
    · obtain ⟨h3, h4, h5⟩ := h2 x hx
      cases m with
      | none =>
        simp only [best2] at h3 h5
        refine ⟨.inr ?_, fun y hy => ?_, fun y hy => by cases hy⟩
        · rcases h3 with h3 | h3
          · cases h3; simp
          · exact List.mem_cons_of_mem _ h3
        · rcases List.mem_cons.1 hy with rfl | hy
          · exact h5 _ rfl
          · exact h4 y hy
      | some z =>
        simp only [best2] at h3 h5
        by_cases hl : lt2 a z = true
        · rw [if_pos hl] at h3 h5
          have h6 := h5 _ rfl
          refine ⟨.inr ?_, fun y hy => ?_, fun y hy => ?_⟩
          · rcases h3 with h3 | h3
            · cases h3; simp
            · exact List.mem_cons_of_mem _ h3
          · rcases List.mem_cons.1 hy with rfl | hy
            · exact h6
            · exact h4 y hy
          · cases hy
            rw [lt2_not] at h6 ⊢; rw [lt2_iff] at hl; omega
        · have hl' : lt2 a z = false := by simpa using hl
          rw [if_neg hl] at h3 h5
          have h6 := h5 _ rfl
          refine ⟨?_, fun y hy => ?_, fun y hy => ?_⟩
          · rcases h3 with h3 | h3
            · exact .inl h3
            · exact .inr (List.mem_cons_of_mem _ h3)
          · rcases List.mem_cons.1 hy with rfl | hy
            · rw [lt2_not] at h6 hl' ⊢; omega
            · exact h4 y hy
          · cases hy; exact h6
theorem minK_none {l : List (Int × Int)} : minK l = none ↔ l = [] := by
  have := (foldB l none).1
  unfold minK
  simpa using this
theorem minK_some {l : List (Int × Int)} {x : Int × Int} (h : minK l = some x) : x ∈ l ∧ ∀ y ∈ l, lt2 y x = false := by
  obtain ⟨h1, h2, _⟩ := (foldB l none).2 x h
  exact ⟨h1.resolve_left (fun h => by cases h), h2⟩
theorem minK_of {l : List (Int × Int)} {x : Int × Int} (h1 : x ∈ l) (h2 : ∀ y ∈ l, lt2 y x = false) : minK l = some x := by
  cases hm : minK l with
  | none => rw [minK_none] at hm; subst hm; cases h1
  | some y =>
    obtain ⟨h3, h4⟩ := minK_some hm
    have a := h2 y h3
    have b := h4 x h1
    rw [lt2_not] at a b
    congr 1
    apply Prod.ext <;> omega
theorem minK_eq {l m : List (Int × Int)} (h : ∀ x, x ∈ l ↔ x ∈ m) : minK l = minK m := by
  cases hl : minK l with
  | none =>
    rw [minK_none] at hl
    subst hl
    symm
    rw [minK_none]
    cases m with
    | nil => rfl
    | cons a m => have := (h a).2 (by simp); cases this
  | some x =>
    obtain ⟨h1, h2⟩ := minK_some hl
    exact (minK_of ((h x).1 h1) fun y hy => h2 y ((h y).2 hy)).symm

/-! ### The best division -/
/-- Which parcels can be the first piece's: a kind, and its pieces. -/
def loadsL (nk : Nat) (post : Nat → Nat → Int) (s : Nat) : List (Nat × Nat) :=
  (partsL s).flatMap fun p => ((List.range nk).filter fun k => post k p ≠ 0).map fun k => (k, p)
theorem mem_loadsL {nk : Nat} {post : Nat → Nat → Int} {s : Nat} {x : Nat × Nat} : x ∈ loadsL nk post s ↔ x.2 ∈ partsL s ∧ x.1 < nk ∧ post x.1 x.2 ≠ 0 := by
  unfold loadsL
  simp only [List.mem_flatMap, List.mem_map, List.mem_filter, List.mem_range, decide_eq_true_eq]
  constructor
  · rintro ⟨p, hp, k, ⟨h1, h2⟩, rfl⟩; exact ⟨hp, h1, h2⟩
  · rintro ⟨h1, h2, h3⟩; exact ⟨x.2, h1, x.1, ⟨h2, h3⟩, rfl⟩
def bestF (nk : Nat) (post : Nat → Nat → Int) (w : Nat → Nat → Int) : Nat → Nat → Option (Int × Int)
  | 0, _ => none
  | f + 1, s => if s = 0 then some (0, 0) else minK ((loadsL nk post s).filterMap fun x => (bestF nk post w f (s - x.2)).map fun c => (c.1 + w x.1 x.2, c.2 + 1))
theorem part_lt {s p : Nat} (h : s < 128) (h0 : s ≠ 0) (hp : p ∈ partsL s) : s - p < s := by
  obtain ⟨h1, h2, h3⟩ := (mem_partsL h h0).1 hp
  exact (sub_all s h p h1 h2).2.2.2.2 (by rintro rfl; simp at h3)
theorem bestF_eq {nk : Nat} {post w : Nat → Nat → Int} : ∀ (f g s : Nat), s < 128 → s < f → s < g → bestF nk post w f s = bestF nk post w g s
  | 0, _, s, _, h, _ => by omega
  | f + 1, 0, s, _, _, h => by omega
  | f + 1, g + 1, s, hs, hf, hg => by
    unfold bestF
    split
    · rfl
    · rename_i h0
      congr 1
      have : ∀ x ∈ loadsL nk post s, (bestF nk post w f (s - x.2)).map (fun c => (c.1 + w x.1 x.2, c.2 + 1)) = (bestF nk post w g (s - x.2)).map (fun c => (c.1 + w x.1 x.2, c.2 + 1)) := fun x hx => by
        have hp := part_lt hs h0 (mem_loadsL.1 hx).1
        rw [bestF_eq f g (s - x.2) (by omega) (by omega) (by omega)]
      have h2 : ∀ (l : List (Nat × Nat)) (a b : Nat × Nat → Option (Int × Int)), (∀ x ∈ l, a x = b x) → l.filterMap a = l.filterMap b := by
        intro l a b
        induction l with
        | nil => intro _; rfl
        | cons x l ih =>
          intro h
          rw [List.filterMap_cons, List.filterMap_cons, h x (by simp), ih fun y hy => h y (by simp [hy])]
      exact h2 _ _ _ this
def bestK (nk : Nat) (post w : Nat → Nat → Int) (s : Nat) : Option (Int × Int) := bestF nk post w 128 s
theorem bestK_zero {nk : Nat} {post w : Nat → Nat → Int} : bestK nk post w 0 = some (0, 0) := by unfold bestK bestF; rfl
theorem bestK_step {nk : Nat} {post w : Nat → Nat → Int} {s : Nat} (hs : s < 128) (h0 : s ≠ 0) : bestK nk post w s = minK ((loadsL nk post s).filterMap fun x => (bestK nk post w (s - x.2)).map fun c => (c.1 + w x.1 x.2, c.2 + 1)) := by
  conv => lhs; unfold bestK
  rw [bestF_eq 128 129 s hs hs (by omega)]
  conv => lhs; unfold bestF
  rw [if_neg h0]
  rfl
/-- Parcels that are a division of a set. -/
structure IsDiv (nk : Nat) (post : Nat → Nat → Int) (s : Nat) (L : List (Nat × Nat)) : Prop where
  ok : ∀ x ∈ L, x.1 < nk ∧ x.2 < 128 ∧ x.2 ≠ 0 ∧ post x.1 x.2 ≠ 0
  once : ∀ i, (L.filter fun x => x.2.testBit i).length = if s.testBit i then 1 else 0
def sumW (w : Nat → Nat → Int) : List (Nat × Nat) → Int
  | [] => 0
  | x :: l => w x.1 x.2 + sumW w l
theorem sumW_append (w : Nat → Nat → Int) : ∀ l m : List (Nat × Nat), sumW w (l ++ m) = sumW w l + sumW w m
  | [], m => by simp [sumW]
  | x :: l, m => by simp only [List.cons_append, sumW, sumW_append w l m]; omega
theorem sumW_erase (w : Nat → Nat → Int) : ∀ (L : List (Nat × Nat)) (x : Nat × Nat), x ∈ L → sumW w (L.erase x) + w x.1 x.2 = sumW w L ∧ (L.erase x).length + 1 = L.length
  | [], _, h => by cases h
  | y :: L, x, h => by
    by_cases hy : y = x
    · subst hy
      rw [List.erase_cons_head]
      exact ⟨by simp only [sumW]; omega, by simp⟩
    · rw [List.erase_cons_tail (by simpa using hy)]
      obtain ⟨h1, h2⟩ := sumW_erase w L x ((List.mem_cons.1 h).resolve_left (fun e => hy e.symm))
      exact ⟨by simp only [sumW]; omega, by simp; omega⟩
theorem bit_erase : ∀ (L : List (Nat × Nat)) (x : Nat × Nat) (i : Nat), x ∈ L → ((L.erase x).filter fun x => x.2.testBit i).length + (if x.2.testBit i then 1 else 0) = (L.filter fun x => x.2.testBit i).length
  | [], _, _, h => by cases h
  | y :: L, x, i, h => by
    by_cases hy : y = x
    · subst hy
      rw [List.erase_cons_head, List.filter_cons]
      split <;> simp
    · rw [List.erase_cons_tail (by simpa using hy)]
      have := bit_erase L x i ((List.mem_cons.1 h).resolve_left (fun e => hy e.symm))
      simp only [List.filter_cons]
      by_cases hb : y.2.testBit i = true
      · rw [if_pos hb, if_pos hb, List.length_cons, List.length_cons]; omega
      · rw [if_neg hb, if_neg hb]; exact this
theorem eq_zero_of_bits {s : Nat} (h : ∀ i, s.testBit i = false) : s = 0 := Nat.eq_of_testBit_eq fun i => by rw [h i]; simp
theorem sub_bits {s x : Nat} (hs : s < 128) (hx : x < 128) (h : x &&& s = x) (i : Nat) : (s - x).testBit i = (s.testBit i && !x.testBit i) := by
  obtain ⟨h1, h2, h3, h4, h5⟩ := sub_all s hs x hx h
  have e1 : (s - x).testBit i = true → x.testBit i = false := fun a => by
    have : ((s - x) &&& x).testBit i = false := by rw [h1]; simp
    rw [Nat.testBit_and, a, Bool.true_and] at this
    exact this
  have e2 : s.testBit i = ((s - x).testBit i || x.testBit i) := by rw [← Nat.testBit_or, h3]
  rw [e2]
  cases ha : (s - x).testBit i with
  | true => rw [e1 ha]; rfl
  | false => cases x.testBit i <;> rfl
theorem sub_of_bits {s x : Nat} (h : ∀ i, x.testBit i = true → s.testBit i = true) : x &&& s = x := Nat.eq_of_testBit_eq fun i => by
  rw [Nat.testBit_and]
  cases hx : x.testBit i with
  | true => rw [h i hx]; rfl
  | false => rfl
theorem div_mem {nk : Nat} {post : Nat → Nat → Int} {s : Nat} {L : List (Nat × Nat)} (h : IsDiv nk post s L) {x : Nat × Nat} (hx : x ∈ L) : x.2 &&& s = x.2 := sub_of_bits fun i hi => by
  have h1 := h.once i
  have : x ∈ L.filter fun x => x.2.testBit i := List.mem_filter.2 ⟨hx, hi⟩
  have h2 := List.length_pos_of_mem this
  cases hs : s.testBit i with
  | true => rfl
  | false => rw [hs] at h1; simp at h1; rw [List.length_pos_iff] at h2; exact absurd (by simpa using h1) h2
theorem div_erase {nk : Nat} {post : Nat → Nat → Int} {s : Nat} (hs : s < 128) {L : List (Nat × Nat)} (h : IsDiv nk post s L) {x : Nat × Nat} (hx : x ∈ L) : IsDiv nk post (s - x.2) (L.erase x) where
  ok := fun y hy => h.ok y (List.mem_of_mem_erase hy)
  once := fun i => by
    have h1 := bit_erase L x i hx
    rw [h.once i] at h1
    rw [sub_bits hs (h.ok x hx).2.1 (div_mem h hx)]
    have h2 : x.2.testBit i = true → s.testBit i = true := fun e => by
      have := div_mem h hx
      have h3 : (x.2 &&& s).testBit i = true := by rw [this]; exact e
      rw [Nat.testBit_and, e] at h3
      simpa using h3
    cases hxi : x.2.testBit i with
    | true => rw [hxi, h2 hxi] at h1; rw [h2 hxi]; simp at h1 ⊢; exact h1
    | false => rw [hxi] at h1; simp at h1 ⊢; exact h1
theorem div_cons {nk : Nat} {post : Nat → Nat → Int} {s : Nat} (hs : s < 128) {L : List (Nat × Nat)} {x : Nat × Nat} (h : IsDiv nk post (s - x.2) L) (h1 : x.1 < nk) (h2 : x.2 < 128) (h3 : x.2 ≠ 0) (h4 : post x.1 x.2 ≠ 0) (h5 : x.2 &&& s = x.2) : IsDiv nk post s (L ++ [x]) where
  ok := fun y hy => by
    rcases List.mem_append.1 hy with hy | hy
    · exact h.ok y hy
    · rw [List.mem_singleton.1 hy]; exact ⟨h1, h2, h3, h4⟩
  once := fun i => by
    have e := h.once i
    rw [sub_bits hs h2 h5] at e
    have h6 : x.2.testBit i = true → s.testBit i = true := fun e => by
      have h3 : (x.2 &&& s).testBit i = true := by rw [h5]; exact e
      rw [Nat.testBit_and, e] at h3
      simpa using h3
    rw [List.filter_append, List.length_append, e, List.filter_cons]
    cases hxi : x.2.testBit i with
    | true => rw [h6 hxi]; simp
    | false => simp
/-- No division is better than the best. -/
theorem bestK_min {nk : Nat} {post w : Nat → Nat → Int} : ∀ (n s : Nat), s < 128 → s < n → ∀ L : List (Nat × Nat), IsDiv nk post s L → ∃ m, bestK nk post w s = some m ∧ lt2 (sumW w L, (L.length : Int)) m = false
  | 0, s, _, h, _, _ => by omega
  | n + 1, s, hs, hn, L, hL => by
    by_cases h0 : s = 0
    · subst h0
      have : L = [] := by
        cases L with
        | nil => rfl
        | cons x L =>
          have h1 := hL.ok x (by simp)
          exfalso
          refine h1.2.2.1 (eq_zero_of_bits fun i => ?_)
          have := div_mem hL (x := x) (by simp)
          have h3 : (x.2 &&& 0).testBit i = x.2.testBit i := by rw [this]
          rw [← h3]; simp
      subst this
      exact ⟨_, bestK_zero, rfl⟩
    · obtain ⟨l1, l2, i, hi, l3⟩ := lowB_all s hs h0
      have hb : s.testBit i = true := by
        have : (lowB s &&& s).testBit i = true := by rw [l1, l3, Nat.testBit_two_pow_self]
        rw [Nat.testBit_and] at this
        simp at this; exact this.2
      have h1 := hL.once i
      rw [hb] at h1
      obtain ⟨x, hx⟩ : ∃ x, x ∈ L.filter fun x => x.2.testBit i := List.exists_mem_of_length_pos (by rw [h1]; decide)
      obtain ⟨hxL, hxi⟩ := List.mem_filter.1 hx
      obtain ⟨o1, o2, o3, o4⟩ := hL.ok x hxL
      have hsub := div_mem hL hxL
      have hpart : x.2 ∈ partsL s := (mem_partsL hs h0).2 ⟨o2, hsub, fun e => by
        have : (x.2 &&& lowB s).testBit i = false := by rw [e]; simp
        rw [Nat.testBit_and, hxi, l3, Nat.testBit_two_pow_self] at this
        cases this⟩
      have hlt := part_lt hs h0 hpart
      obtain ⟨m, hm1, hm2⟩ := bestK_min (w := w) n (s - x.2) (by omega) (by omega) _ (div_erase hs hL hxL)
      obtain ⟨e1, e2⟩ := sumW_erase w L x hxL
      have hmem : (m.1 + w x.1 x.2, m.2 + 1) ∈ (loadsL nk post s).filterMap fun x => (bestK nk post w (s - x.2)).map fun c => (c.1 + w x.1 x.2, c.2 + 1) :=
        List.mem_filterMap.2 ⟨x, mem_loadsL.2 ⟨hpart, o1, o4⟩, by rw [hm1]; rfl⟩
      rw [bestK_step hs h0]
      cases hmk : minK ((loadsL nk post s).filterMap fun x => (bestK nk post w (s - x.2)).map fun c => (c.1 + w x.1 x.2, c.2 + 1)) with
      | none => rw [minK_none] at hmk; rw [hmk] at hmem; cases hmem
      | some k =>
        refine ⟨k, rfl, ?_⟩
        have := (minK_some hmk).2 _ hmem
        rw [lt2_not] at this hm2 ⊢
        simp only at this hm2 ⊢
        omega
/-! ### The program's division -/
abbrev Dv := List (Nat × Nat) × Int
def keyD (c : Bool) (d : Dv) : Int × Int := if c then (d.2, (d.1.length : Int)) else ((d.1.length : Int), (d.1.length : Int))
def wOf (c : Bool) (post : Nat → Nat → Int) : Nat → Nat → Int := fun k p => if c then post k p else 1
def thanD (c : Bool) (a b : Dv) : Bool := if c then decide (a.2 < b.2) || (decide (a.2 = b.2) && decide (a.1.length < b.1.length)) else decide (a.1.length < b.1.length)
theorem thanD_key (c : Bool) (a b : Dv) : thanD c a b = lt2 (keyD c a) (keyD c b) := by
  unfold thanD lt2 keyD
  cases c
  · simp only [Bool.false_eq_true, if_false]
    rw [Bool.eq_iff_iff]; simp
  · simp only [if_true, Int.ofNat_lt]
def pickD (c : Bool) (post : Nat → Nat → Int) (rest : Nat → Dv) (s : Nat) (best : Dv) (x : Nat × Nat) : Dv :=
  if (rest (s - x.2)).2 < 0 then best
  else if best.2 < 0 || thanD c ((rest (s - x.2)).1 ++ [x], (rest (s - x.2)).2 + post x.1 x.2) best then ((rest (s - x.2)).1 ++ [x], (rest (s - x.2)).2 + post x.1 x.2) else best
def divF (c : Bool) (nk : Nat) (post : Nat → Nat → Int) : Nat → Nat → Dv
  | 0, _ => ([], -1)
  | f + 1, s => if s = 0 then ([], 0) else (loadsL nk post s).foldl (pickD c post (divF c nk post f) s) ([], -1)
theorem fold_congr {α β : Type} (f g : α → β → α) : ∀ (l : List β) (a : α), (∀ a, ∀ x ∈ l, f a x = g a x) → l.foldl f a = l.foldl g a
  | [], _, _ => rfl
  | x :: l, a, h => by rw [List.foldl_cons, List.foldl_cons, h a x (by simp)]; exact fold_congr f g l _ fun a y hy => h a y (by simp [hy])
theorem divF_eq {c : Bool} {nk : Nat} {post : Nat → Nat → Int} : ∀ (f g s : Nat), s < 128 → s < f → s < g → divF c nk post f s = divF c nk post g s
  | 0, _, s, _, h, _ => by omega
  | f + 1, 0, s, _, _, h => by omega
  | f + 1, g + 1, s, hs, hf, hg => by
    unfold divF
    split
    · rfl
    · rename_i h0
      refine fold_congr _ _ _ _ fun a x hx => ?_
      have hp := part_lt hs h0 (mem_loadsL.1 hx).1
      unfold pickD
      rw [divF_eq f g (s - x.2) (by omega) (by omega) (by omega)]
def divD (c : Bool) (nk : Nat) (post : Nat → Nat → Int) (s : Nat) : Dv := divF c nk post 128 s
theorem divD_zero {c : Bool} {nk : Nat} {post : Nat → Nat → Int} : divD c nk post 0 = ([], 0) := by unfold divD divF; rfl
theorem divD_step {c : Bool} {nk : Nat} {post : Nat → Nat → Int} {s : Nat} (hs : s < 128) (h0 : s ≠ 0) : divD c nk post s = (loadsL nk post s).foldl (pickD c post (divD c nk post) s) ([], -1) := by
  conv => lhs; unfold divD
  rw [divF_eq 128 129 s hs hs (by omega)]
  conv => lhs; unfold divF
  rw [if_neg h0]
  rfl
/-- What is known of a division that is told. -/
def DvOk (c : Bool) (nk : Nat) (post : Nat → Nat → Int) (s : Nat) (d : Dv) (m : Option (Int × Int)) : Prop :=
  (d = ([], -1) ∧ m = none) ∨ (0 ≤ d.2 ∧ IsDiv nk post s d.1 ∧ d.2 = sumW post d.1 ∧ m = some (keyD c d))
theorem isDiv_nil {nk : Nat} {post : Nat → Nat → Int} : IsDiv nk post 0 [] := ⟨fun x h => (by cases h), fun i => by simp⟩
theorem divD_ok {c : Bool} {nk : Nat} {post : Nat → Nat → Int} (hp : ∀ k p, 0 ≤ post k p) : ∀ (n s : Nat), s < 128 → s < n → DvOk c nk post s (divD c nk post s) (bestK nk post (wOf c post) s)
  | 0, s, _, h => by omega
  | n + 1, s, hs, hn => by
    by_cases h0 : s = 0
    · subst h0
      rw [divD_zero, bestK_zero]
      refine .inr ⟨by decide, isDiv_nil, rfl, ?_⟩
      cases c <;> rfl
    · rw [divD_step hs h0, bestK_step hs h0]
      have key : ∀ (l : List (Nat × Nat)) (d : Dv) (m : Option (Int × Int)), (∀ x ∈ l, x ∈ loadsL nk post s) → DvOk c nk post s d m →
          DvOk c nk post s (l.foldl (pickD c post (divD c nk post) s) d) ((l.filterMap fun x => (bestK nk post (wOf c post) (s - x.2)).map fun c' => (c'.1 + wOf c post x.1 x.2, c'.2 + 1)).foldl best2 m) := by
        intro l
        induction l with
        | nil => intro d m _ h; exact h
        | cons x l ih =>
          intro d m hx hd
          have hxm := hx x (by simp)
          obtain ⟨hpart, hk, hpo⟩ := mem_loadsL.1 hxm
          obtain ⟨p1, p2, p3⟩ := (mem_partsL hs h0).1 hpart
          have hlt := part_lt hs h0 hpart
          have hr := divD_ok (c := c) (nk := nk) hp n (s - x.2) (by omega) (by omega)
          rw [List.foldl_cons, List.filterMap_cons]
          rcases hr with ⟨r1, r2⟩ | ⟨r1, r2, r3, r4⟩
          · rw [r2]
            simp only [Option.map_none]
            refine ih _ _ (fun y hy => hx y (by simp [hy])) ?_
            unfold pickD
            rw [r1, if_pos (by decide)]
            exact hd
          · rw [r4]
            simp only [Option.map_some, List.foldl_cons]
            refine ih _ _ (fun y hy => hx y (by simp [hy])) ?_
            unfold pickD
            rw [if_neg (by omega)]
            generalize hrr : divD c nk post (s - x.2) = r at *
            have h2 := hp x.1 x.2
            have hnew : (0 ≤ (r.1 ++ [x], r.2 + post x.1 x.2).2 ∧ IsDiv nk post s (r.1 ++ [x], r.2 + post x.1 x.2).1 ∧ (r.1 ++ [x], r.2 + post x.1 x.2).2 = sumW post (r.1 ++ [x], r.2 + post x.1 x.2).1) ∧ ((keyD c r).1 + wOf c post x.1 x.2, (keyD c r).2 + 1) = keyD c (r.1 ++ [x], r.2 + post x.1 x.2) := by
              refine ⟨⟨by simp only; omega, div_cons hs r2 hk p1 (by intro e; rw [e] at p3; simp at p3) hpo p2, ?_⟩, ?_⟩
              · simp only [sumW_append, sumW, r3]; omega
              · unfold keyD wOf
                cases c <;> simp
            rw [hnew.2]
            generalize hdd : ((r.1 ++ [x], r.2 + post x.1 x.2) : Dv) = e at *
            rcases hd with ⟨d1, d2⟩ | ⟨d1, d2, d3, d4⟩
            · rw [d1, d2, if_pos (by simp)]
              exact .inr ⟨hnew.1.1, hnew.1.2.1, hnew.1.2.2, rfl⟩
            · rw [d4, thanD_key]
              have hd2 : decide (d.2 < 0) = false := by simp; omega
              rw [hd2, Bool.false_or]
              unfold best2
              simp only
              split
              · exact .inr ⟨hnew.1.1, hnew.1.2.1, hnew.1.2.2, rfl⟩
              · exact .inr ⟨d1, d2, d3, rfl⟩
      exact key _ _ _ (fun x hx => hx) (.inl ⟨rfl, rfl⟩)
theorem div_len {nk : Nat} {post : Nat → Nat → Int} : ∀ (L : List (Nat × Nat)) (s : Nat), s < 128 → IsDiv nk post s L → L.length ≤ s
  | [], _, _, _ => Nat.zero_le _
  | x :: L, s, hs, h => by
    have h1 := div_erase hs h (x := x) (by simp)
    rw [List.erase_cons_head] at h1
    have h2 := h.ok x (by simp)
    have h3 := div_mem h (x := x) (by simp)
    have h4 : x.2 ≤ s := by rw [← h3]; exact Nat.and_le_right
    have := div_len L (s - x.2) (by omega) h1
    simp only [List.length_cons]; omega
theorem DvOk.len {c : Bool} {nk : Nat} {post : Nat → Nat → Int} {s : Nat} (hs : s < 128) {d : Dv} {m : Option (Int × Int)} (h : DvOk c nk post s d m) : d.1.length ≤ 127 := by
  rcases h with ⟨h, _⟩ | ⟨_, h, _⟩
  · rw [h]; simp
  · have := div_len _ _ hs h; omega
end Wb
/- Stamps: how few of them are worth just so much, and the first such ones (no program in sight). -/
set_option linter.unusedVariables false
namespace Wb
/-! Stamps: how few of them are worth just so much, and the first such ones. -/
def lexLt : List Int → List Int → Bool
  | [], [] => false
  | [], _ :: _ => true
  | _ :: _, [] => false
  | a :: l, b :: m => decide (a < b) || (decide (a = b) && lexLt l m)
theorem lex_irr : ∀ l : List Int, lexLt l l = false
  | [] => rfl
  | a :: l => by simp [lexLt, lex_irr l]
theorem lex_tri : ∀ a b : List Int, lexLt a b = false → lexLt b a = false → a = b
  | [], [], _, _ => rfl
  | [], _ :: _, h, _ => by simp [lexLt] at h
  | _ :: _, [], _, h => by simp [lexLt] at h
  | a :: l, b :: m, h, k => by
    simp only [lexLt, Bool.or_eq_false_iff, Bool.and_eq_false_iff, decide_eq_false_iff_not] at h k
    have e : a = b := by omega
    subst e
    rw [lex_tri l m (h.2.resolve_left (by simp)) (k.2.resolve_left (by simp))]
theorem lex_trans : ∀ a b c : List Int, lexLt b a = false → lexLt c b = false → lexLt c a = false
  | [], _, [], _, _ => rfl
  | [], _, _ :: _, _, _ => rfl
  | _ :: _, [], _, h, _ => by simp [lexLt] at h
  | _ :: _, _ :: _, [], _, h => by simp [lexLt] at h
  | a :: l, b :: m, c :: n, h, k => by
    simp only [lexLt, Bool.or_eq_false_iff, Bool.and_eq_false_iff, decide_eq_false_iff_not] at h k ⊢
    refine ⟨by omega, ?_⟩
    by_cases e : c = a
    · right
      have e1 : b = a := by omega
      have e2 : c = b := by omega
      exact lex_trans l m n (h.2.resolve_left (by simp [e1])) (k.2.resolve_left (by simp [e2]))
    · exact .inl e
theorem lex_asym {a b : List Int} (h : lexLt a b = true) : lexLt b a = false := by
  cases hb : lexLt b a with
  | false => rfl
  | true =>
    exfalso
    have : ∀ a b : List Int, lexLt a b = true → lexLt b a = true → False := by
      intro a
      induction a with
      | nil => intro b h k; cases b <;> simp [lexLt] at h k
      | cons x l ih =>
        intro b h k
        cases b with
        | nil => simp [lexLt] at h
        | cons y m =>
          simp only [lexLt, Bool.or_eq_true, Bool.and_eq_true, decide_eq_true_eq] at h k
          rcases h with h | h <;> rcases k with k | k <;> first | omega | exact ih m h.2 k.2
    exact this a b h hb
theorem lex_app : ∀ a b z : List Int, a.length = b.length → lexLt (a ++ z) (b ++ z) = lexLt a b
  | [], [], z, _ => lex_irr z
  | [], _ :: _, _, h => by simp at h
  | _ :: _, [], _, h => by simp at h
  | a :: l, b :: m, z, h => by
    have := lex_app l m z (by simpa using h)
    simp only [List.cons_append, lexLt, this]
def sumL : List Int → Int
  | [] => 0
  | a :: l => a + sumL l
def dot : List Int → List Int → Int
  | w :: st, v :: l => w * v + dot st l
  | _, _ => 0
/-- One more of the k-th. -/
def inc (v : List Int) (k : Nat) : List Int := v.set k (v.getD k 0 + 1)
def dec1 (v : List Int) (k : Nat) : List Int := v.set k (v.getD k 0 - 1)
theorem inc_cons0 (a : Int) (l : List Int) : inc (a :: l) 0 = (a + 1) :: l := rfl
theorem inc_cons (a : Int) (l : List Int) (k : Nat) : inc (a :: l) (k + 1) = a :: inc l k := by simp [inc]
theorem inc_len (v : List Int) (k : Nat) : (inc v k).length = v.length := by simp [inc]
theorem inc_app (v z : List Int) (k : Nat) (h : k < v.length) : inc (v ++ z) k = inc v k ++ z := by
  simp [inc, List.getD_eq_getElem?_getD, List.getElem?_append_left h, List.set_append_left _ _ h]
theorem inc_dec (v : List Int) (k : Nat) (h : k < v.length) : inc (dec1 v k) k = v := by
  simp only [inc, dec1, List.set_set]
  have : (v.set k (v.getD k 0 - 1)).getD k 0 + 1 = v.getD k 0 := by simp [List.getD_eq_getElem?_getD, h]
  rw [this]
  simp [List.getD_eq_getElem?_getD, h]
theorem sum_inc : ∀ (v : List Int) (k : Nat), k < v.length → sumL (inc v k) = sumL v + 1
  | [], k, h => by simp at h
  | a :: l, 0, _ => by rw [inc_cons0]; simp only [sumL]; omega
  | a :: l, k + 1, h => by rw [inc_cons]; simp only [sumL, sum_inc l k (by simpa using h)]; omega
theorem dot_inc : ∀ (st v : List Int) (k : Nat), k < v.length → k < st.length → dot st (inc v k) = dot st v + st.getD k 0
  | _, [], k, h, _ => by simp at h
  | [], _ :: _, k, _, h => by simp at h
  | w :: st, a :: l, 0, _, _ => by
    rw [inc_cons0]; simp only [dot, List.getD_cons_zero]
    rw [Int.mul_add]; omega
  | w :: st, a :: l, k + 1, h, h' => by rw [inc_cons]; simp only [dot, dot_inc st l k (by simpa using h) (by simpa using h'), List.getD_cons_succ]; omega
theorem lex_inc : ∀ (a b : List Int) (k : Nat), k < a.length → k < b.length → lexLt (inc a k) (inc b k) = lexLt a b
  | [], _, k, h, _ => by simp at h
  | _ :: _, [], k, _, h => by simp at h
  | a :: l, b :: m, 0, _, _ => by
    rw [inc_cons0, inc_cons0]
    simp only [lexLt]
    rw [Bool.eq_iff_iff]
    simp only [Bool.or_eq_true, Bool.and_eq_true, decide_eq_true_eq]
    constructor <;> (rintro (h | ⟨h1, h2⟩); · left; omega
                     · right; exact ⟨by omega, h2⟩)
  | a :: l, b :: m, k + 1, h, h' => by rw [inc_cons, inc_cons]; simp only [lexLt, lex_inc l m k (by simpa using h) (by simpa using h')]
theorem dot_nonneg : ∀ (st v : List Int), (∀ w ∈ st, 0 ≤ w) → (∀ a ∈ v, 0 ≤ a) → 0 ≤ dot st v
  | [], _, _, _ => by simp [dot]
  | _ :: _, [], _, _ => by simp [dot]
  | w :: st, a :: l, h, k => by
    have := dot_nonneg st l (fun w hw => h w (by simp [hw])) (fun a ha => k a (by simp [ha]))
    have := Int.mul_nonneg (h w (by simp)) (k a (by simp))
    simp only [dot]; omega
theorem sum_nonneg : ∀ v : List Int, (∀ a ∈ v, 0 ≤ a) → 0 ≤ sumL v
  | [], _ => by simp [sumL]
  | a :: l, h => by
    have := sum_nonneg l (fun a ha => h a (by simp [ha]))
    have := h a (by simp)
    simp only [sumL]; omega
theorem sum_le_dot : ∀ (st v : List Int), st.length = v.length → (∀ w ∈ st, 1 ≤ w) → (∀ a ∈ v, 0 ≤ a) → sumL v ≤ dot st v
  | [], [], _, _, _ => by simp [dot, sumL]
  | [], _ :: _, h, _, _ => by simp at h
  | _ :: _, [], h, _, _ => by simp at h
  | w :: st, a :: l, h, k, m => by
    have h1 := sum_le_dot st l (by simpa using h) (fun w hw => k w (by simp [hw])) (fun a ha => m a (by simp [ha]))
    have h2 : 1 * a ≤ w * a := Int.mul_le_mul_of_nonneg_right (k w (by simp)) (m a (by simp))
    simp only [dot, sumL]; omega
/-- Stamps that are worth just so much. -/
structure Makes (st : List Int) (n : Int) (v : List Int) : Prop where
  len : v.length = st.length
  pos : ∀ a ∈ v, 0 ≤ a
  sum : dot st v = n
/-- No more, and not behind. -/
def leO (a b : List Int) : Prop := sumL a < sumL b ∨ sumL a = sumL b ∧ lexLt b a = false
theorem leO_refl (a : List Int) : leO a a := .inr ⟨rfl, lex_irr a⟩
theorem leO_trans {a b c : List Int} (h : leO a b) (k : leO b c) : leO a c := by
  unfold leO at *
  rcases h with h | ⟨h1, h2⟩ <;> rcases k with k | ⟨k1, k2⟩
  · left; omega
  · left; omega
  · left; omega
  · exact .inr ⟨by omega, lex_trans a b c h2 k2⟩
theorem leO_anti {a b : List Int} (h : leO a b) (k : leO b a) : a = b := by
  unfold leO at *
  rcases h with h | ⟨h1, h2⟩ <;> rcases k with k | ⟨k1, k2⟩
  · omega
  · omega
  · omega
  · exact lex_tri a b k2 h2
structure Opt (st : List Int) (n : Int) (v : List Int) : Prop where
  is : Makes st n v
  best : ∀ u, Makes st n u → leO v u
theorem Opt.uniq {st : List Int} {n : Int} {v u : List Int} (h : Opt st n v) (k : Opt st n u) : v = u := leO_anti (h.best _ k.is) (k.best _ h.is)
theorem makes_inc {st v : List Int} {n : Int} (h : Makes st n v) {k : Nat} (hk : k < st.length) : Makes st (n + st.getD k 0) (inc v k) where
  len := by rw [inc_len, h.len]
  pos := fun a ha => by
    obtain ⟨i, hi, rfl⟩ := List.mem_iff_getElem.1 ha
    simp only [inc, List.getElem_set]
    split
    · have := h.pos (v.getD k 0) (by rw [List.getD_eq_getElem?_getD, List.getElem?_eq_getElem (by rw [h.len]; exact hk)]; exact List.getElem_mem _)
      omega
    · exact h.pos _ (List.getElem_mem _)
  sum := by rw [dot_inc st v k (by rw [h.len]; exact hk) hk, h.sum]
theorem makes_dec {st v : List Int} {n : Int} (h : Makes st n v) {k : Nat} (hk : k < st.length) (hp : 0 < v.getD k 0) : Makes st (n - st.getD k 0) (dec1 v k) where
  len := by simp [dec1, h.len]
  pos := fun a ha => by
    obtain ⟨i, hi, rfl⟩ := List.mem_iff_getElem.1 ha
    simp only [dec1, List.getElem_set]
    split
    · omega
    · exact h.pos _ (List.getElem_mem _)
  sum := by
    have hl : k < v.length := by rw [h.len]; exact hk
    have := dot_inc st (dec1 v k) k (by simp [dec1]; exact hl) hk
    rw [inc_dec v k hl, h.sum] at this
    omega
theorem some_pos : ∀ (st v : List Int) (n : Int), Makes st n v → 0 < n → ∃ k, k < st.length ∧ 0 < v.getD k 0
  | [], v, n, h, hn => by
    have := h.sum
    cases v <;> simp [dot] at this <;> omega
  | w :: st, [], n, h, _ => by have := h.len; simp at this
  | w :: st, a :: l, n, h, hn => by
    by_cases ha : 0 < a
    · exact ⟨0, by simp, by simpa using ha⟩
    · have h0 := h.pos a (by simp)
      have e : a = 0 := by omega
      subst e
      obtain ⟨k, h1, h2⟩ := some_pos st l n ⟨by have := h.len; simpa using this, fun a ha => h.pos a (by simp [ha]), by have := h.sum; simpa [dot] using this⟩ hn
      exact ⟨k + 1, by simpa using h1, by simpa using h2⟩
def padS (v : List Int) : List Int := v ++ List.replicate (5 - v.length) 0
/-- What the program's table says of a number. -/
def Says (st : List Int) (n : Nat) (e : Int × List Int) : Prop :=
  (e = (-1, [0, 0, 0, 0, 0]) ∧ ∀ v, ¬ Makes st n v) ∨ ∃ v, Opt st n v ∧ e = (sumL v, padS v)
def takeS (st : List Int) (tab : Nat → Int × List Int) (n : Nat) (best : Int × List Int) (k : Nat) : Int × List Int :=
  if st.getD k 0 > n ∨ (tab (n - (st.getD k 0).toNat)).1 < 0 then best
  else if best.1 < 0 ∨ (tab (n - (st.getD k 0).toNat)).1 + 1 < best.1 ∨ (tab (n - (st.getD k 0).toNat)).1 + 1 = best.1 ∧ lexLt (inc (tab (n - (st.getD k 0).toNat)).2 k) best.2 = true
    then ((tab (n - (st.getD k 0).toNat)).1 + 1, inc (tab (n - (st.getD k 0).toNat)).2 k) else best
def bestS (st : List Int) (tab : Nat → Int × List Int) (n : Nat) : Int × List Int := (List.range st.length).foldl (takeS st tab n) (-1, [0, 0, 0, 0, 0])
theorem bestS_says {st : List Int} (h5 : st.length ≤ 5) (hst : ∀ w ∈ st, 1 ≤ w) {tab : Nat → Int × List Int} {n : Nat} (hn : 0 < n) (ht : ∀ m, m < n → Says st m (tab m)) : Says st n (bestS st tab n) := by
  have hw : ∀ k, k < st.length → 1 ≤ st.getD k 0 := fun k hk => hst _ (by rw [List.getD_eq_getElem?_getD, List.getElem?_eq_getElem hk]; exact List.getElem_mem _)
  have key : ∀ j, j ≤ st.length → (((List.range j).foldl (takeS st tab n) (-1, [0, 0, 0, 0, 0]) = (-1, [0, 0, 0, 0, 0]) ∧ ∀ v, Makes st n v → ∀ k, k < j → ¬ 0 < v.getD k 0) ∨
      ∃ v, Makes st n v ∧ (List.range j).foldl (takeS st tab n) (-1, [0, 0, 0, 0, 0]) = (sumL v, padS v) ∧ ∀ u, Makes st n u → (∃ k, k < j ∧ 0 < u.getD k 0) → leO v u) := by
    intro j
    induction j with
    | zero => intro _; exact .inl ⟨rfl, fun v _ k hk => by omega⟩
    | succ j ih =>
      intro hj
      have ih := ih (by omega)
      rw [List.range_succ, List.foldl_append, List.foldl_cons, List.foldl_nil]
      generalize (List.range j).foldl (takeS st tab n) (-1, [0, 0, 0, 0, 0]) = b at *
      have hj' : j < st.length := by omega
      have hwj := hw j hj'
      have hwn : ((st.getD j 0).toNat : Int) = st.getD j 0 := by omega
      generalize hW : st.getD j 0 = W at *
      -- what has one of these
      by_cases hgt : W > n
      · have hno : ∀ v, Makes st n v → ¬ 0 < v.getD j 0 := fun v hv hp => by
          have h1 := makes_dec hv hj' hp
          rw [hW] at h1
          have h2 := dot_nonneg st _ (fun w hw => by have := hst w hw; omega) h1.pos
          rw [h1.sum] at h2; omega
        unfold takeS
        rw [hW, if_pos (.inl hgt)]
        rcases ih with ⟨e, i2⟩ | ⟨v, i1, i2, i3⟩
        · refine .inl ⟨e, fun v hv k hk => ?_⟩
          by_cases e : k = j
          · subst e; exact hno v hv
          · exact i2 v hv k (by omega)
        · refine .inr ⟨v, i1, i2, fun u hu ⟨k, h1, h2⟩ => ?_⟩
          by_cases e : k = j
          · subst e; exact absurd h2 (hno u hu)
          · exact i3 u hu ⟨k, by omega, h2⟩
      · have hle : W.toNat ≤ n := by omega
        have hm := ht (n - W.toNat) (by omega)
        have hcast : ((n - W.toNat : Nat) : Int) = (n : Int) - W := by omega
        unfold takeS
        rw [hW]
        rcases hm with ⟨e, hm⟩ | ⟨v0, hm, e⟩
        · have hno : ∀ v, Makes st n v → ¬ 0 < v.getD j 0 := fun v hv hp => by
            have h1 := makes_dec hv hj' hp
            rw [hW, ← hcast] at h1
            exact hm _ h1
          rw [e, if_pos (.inr (by decide))]
          rcases ih with ⟨e, i2⟩ | ⟨v, i1, i2, i3⟩
          · refine .inl ⟨e, fun v hv k hk => ?_⟩
            by_cases e : k = j
            · subst e; exact hno v hv
            · exact i2 v hv k (by omega)
          · refine .inr ⟨v, i1, i2, fun u hu ⟨k, h1, h2⟩ => ?_⟩
            by_cases e : k = j
            · subst e; exact absurd h2 (hno u hu)
            · exact i3 u hu ⟨k, by omega, h2⟩
        · have hs0 := sum_nonneg v0 hm.is.pos
          rw [e]
          simp only
          rw [if_neg (by omega)]
          have hv0 : j < v0.length := by rw [hm.is.len]; exact hj'
          have hmk := makes_inc hm.is hj'
          rw [hW, hcast, Int.sub_add_cancel] at hmk
          have hinc : inc (padS v0) j = padS (inc v0 j) := by
            unfold padS
            rw [inc_app _ _ _ hv0, inc_len]
          have hsum : sumL v0 + 1 = sumL (inc v0 j) := (sum_inc v0 j hv0).symm
          have hmin : ∀ u, Makes st n u → 0 < u.getD j 0 → leO (inc v0 j) u := fun u hu hp => by
            have h1 := makes_dec hu hj' hp
            rw [hW, ← hcast] at h1
            have hul : j < u.length := by rw [hu.len]; exact hj'
            have h2 := hm.best _ h1
            have hdl : j < (dec1 u j).length := by simp [dec1]; exact hul
            have h3 := sum_inc (dec1 u j) j hdl
            have h4 := lex_inc (dec1 u j) v0 j hdl hv0
            rw [inc_dec u j hul] at h3 h4
            unfold leO at *
            rw [h4, h3, ← hsum]
            rcases h2 with h2 | ⟨h2, h5⟩
            · left; omega
            · exact .inr ⟨by omega, h5⟩
          rw [hinc, hsum]
          generalize hX : inc v0 j = X at *
          have hXl : X.length = st.length := hmk.len
          rcases ih with ⟨eb, i2⟩ | ⟨v, i1, i2, i3⟩
          · rw [eb, if_pos (.inl (by decide))]
            refine .inr ⟨X, hmk, rfl, fun u hu ⟨k, h1, h2⟩ => ?_⟩
            by_cases e : k = j
            · subst e; exact hmin u hu h2
            · exact absurd h2 (i2 u hu k (by omega))
          · rw [i2]
            have hsv := sum_nonneg v i1.pos
            have hpad : lexLt (padS X) (padS v) = lexLt X v := by
              unfold padS
              rw [hXl, i1.len]
              exact lex_app _ _ _ (by rw [hXl, i1.len])
            simp only [hpad]
            split
            · rename_i hc
              refine .inr ⟨X, hmk, rfl, fun u hu ⟨k, h1, h2⟩ => ?_⟩
              by_cases e : k = j
              · subst e; exact hmin u hu h2
              · refine leO_trans ?_ (i3 u hu ⟨k, by omega, h2⟩)
                rcases hc with hc | hc | ⟨hc, hl⟩
                · omega
                · exact .inl hc
                · exact .inr ⟨hc, lex_asym hl⟩
            · rename_i hc
              refine .inr ⟨v, i1, rfl, fun u hu ⟨k, h1, h2⟩ => ?_⟩
              by_cases e : k = j
              · subst e
                refine leO_trans ?_ (hmin u hu h2)
                unfold leO
                by_cases h3 : sumL v < sumL X
                · exact .inl h3
                · refine .inr ⟨by omega, ?_⟩
                  rw [← Bool.not_eq_true]
                  intro hl
                  exact hc (.inr (.inr ⟨by omega, hl⟩))
              · exact i3 u hu ⟨k, by omega, h2⟩
  rcases key st.length (Nat.le_refl _) with ⟨e, h⟩ | ⟨v, h1, h2, h3⟩
  · refine .inl ⟨e, fun v hv => ?_⟩
    obtain ⟨k, k1, k2⟩ := some_pos st v n hv (by omega)
    exact h v hv k k1 k2
  · refine .inr ⟨v, ⟨h1, fun u hu => ?_⟩, h2⟩
    exact h3 u hu (some_pos st u n hu (by omega))
/-! ### The program's table, and what it tells -/
def tabS (st : List Int) : Nat → List (Int × List Int)
  | 0 => [(0, [0, 0, 0, 0, 0])]
  | n + 1 => tabS st n ++ [bestS st (fun m => (tabS st n).getD m (0, [])) (n + 1)]
theorem tabS_len (st : List Int) : ∀ n, (tabS st n).length = n + 1
  | 0 => rfl
  | n + 1 => by simp [tabS, tabS_len st n]
def ent (st : List Int) (n : Nat) : Int × List Int := (tabS st n).getD n (0, [])
theorem tabS_get (st : List Int) : ∀ n m, m ≤ n → (tabS st n).getD m (0, []) = ent st m
  | 0, m, h => by
    have : m = 0 := by omega
    subst this; rfl
  | n + 1, m, h => by
    by_cases e : m = n + 1
    · subst e; rfl
    · rw [← tabS_get st n m (by omega)]
      simp only [tabS, List.getD_eq_getElem?_getD]
      rw [List.getElem?_append_left (by rw [tabS_len]; omega)]
theorem bestS_congr {st : List Int} {t t' : Nat → Int × List Int} {n : Nat} (hst : ∀ w ∈ st, 1 ≤ w) (hn : 0 < n) (h : ∀ m, m < n → t m = t' m) : bestS st t n = bestS st t' n := by
  unfold bestS
  have : ∀ (l : List Nat) (b : Int × List Int), (∀ k ∈ l, k < st.length) → l.foldl (takeS st t n) b = l.foldl (takeS st t' n) b := by
    intro l
    induction l with
    | nil => intro b _; rfl
    | cons k l ih =>
      intro b hk
      have h1 := hk k (by simp)
      have hw : 1 ≤ st.getD k 0 := hst _ (by rw [List.getD_eq_getElem?_getD, List.getElem?_eq_getElem h1]; exact List.getElem_mem _)
      rw [List.foldl_cons, List.foldl_cons, ih _ fun k hk' => hk k (by simp [hk'])]
      congr 1
      unfold takeS
      rw [h (n - (st.getD k 0).toNat) (by omega)]
  exact this _ _ fun k hk => by simpa using hk
theorem ent_zero (st : List Int) : ent st 0 = (0, [0, 0, 0, 0, 0]) := rfl
theorem ent_succ {st : List Int} (hst : ∀ w ∈ st, 1 ≤ w) (n : Nat) : ent st (n + 1) = bestS st (ent st) (n + 1) := by
  unfold ent
  simp only [tabS, List.getD_eq_getElem?_getD]
  rw [List.getElem?_append_right (by rw [tabS_len]; omega), tabS_len]
  simp only [Nat.sub_self, List.getElem?_cons_zero, Option.getD_some]
  exact bestS_congr hst (by omega) fun m hm => by rw [← List.getD_eq_getElem?_getD]; exact tabS_get st n m (by omega)
theorem sumL_rep : ∀ n, sumL (List.replicate n 0) = 0
  | 0 => rfl
  | n + 1 => by simp [List.replicate_succ, sumL, sumL_rep n]
theorem dot_rep : ∀ (st : List Int) (n : Nat), dot st (List.replicate n 0) = 0
  | [], _ => by simp [dot]
  | w :: st, 0 => by simp [dot]
  | w :: st, n + 1 => by simp [List.replicate_succ, dot, dot_rep st n]
theorem zero_of_sum : ∀ v : List Int, (∀ a ∈ v, 0 ≤ a) → sumL v ≤ 0 → v = List.replicate v.length 0
  | [], _, _ => rfl
  | a :: l, h, k => by
    have h1 := h a (by simp)
    have h2 := sum_nonneg l fun a ha => h a (by simp [ha])
    simp only [sumL] at k
    have e : a = 0 := by omega
    subst e
    rw [List.length_cons, List.replicate_succ, ← zero_of_sum l (fun a ha => h a (by simp [ha])) (by omega)]
theorem opt_zero {st : List Int} (hst : ∀ w ∈ st, 1 ≤ w) : Opt st 0 (List.replicate st.length 0) where
  is := ⟨by simp, fun a ha => by rw [(List.mem_replicate.1 ha).2]; exact Int.le_refl _, dot_rep _ _⟩
  best := fun u hu => by
    have h1 := sum_le_dot st u hu.len.symm hst hu.pos
    rw [hu.sum] at h1
    have := zero_of_sum u hu.pos h1
    rw [hu.len] at this
    rw [← this]; exact leO_refl _
theorem ent_says {st : List Int} (h5 : st.length ≤ 5) (hst : ∀ w ∈ st, 1 ≤ w) : ∀ n, Says st n (ent st n) := by
  have : ∀ N n, n < N → Says st n (ent st n) := by
    intro N
    induction N with
    | zero => intro n h; omega
    | succ N ih =>
      intro n hn
      cases n with
      | zero =>
        rw [ent_zero]
        refine .inr ⟨_, opt_zero hst, ?_⟩
        rw [sumL_rep, padS, List.length_replicate, List.replicate_append_replicate, show st.length + (5 - st.length) = 5 by omega]; rfl
      | succ n =>
        rw [ent_succ hst]
        exact bestS_says h5 hst (by omega) fun m hm => ih m (by omega)
  exact fun n => this (n + 1) n (by omega)
theorem padS_take {st v : List Int} (h : v.length = st.length) : (padS v).take st.length = v := by
  unfold padS; rw [← h, List.take_left]
/-- The first number from c up that stamps can make. -/
def stampV (st : List Int) (c : Nat) : Nat := c + (List.range 1001).findIdx fun i => decide (0 ≤ (ent st (c + i)).1)
def stampM (st : List Int) (c : Nat) : List Int := (ent st (stampV st c)).2.take st.length
theorem makes_some {st : List Int} (h1 : st ≠ []) (hst : ∀ w ∈ st, 1 ≤ w ∧ w ≤ 1000) (c : Nat) : ∃ i, i < 1000 ∧ ∃ v, Makes st ((c + i : Nat) : Int) v := by
  match st, h1, hst with
  | w :: st, _, hst =>
    obtain ⟨w1, w2⟩ := hst w (by simp)
    have hq := Int.emod_add_mul_ediv (c + w - 1 : Int) w
    have r0 := Int.emod_nonneg (c + w - 1 : Int) (show w ≠ 0 by omega)
    have r1 := Int.emod_lt_of_pos (c + w - 1 : Int) (show 0 < w by omega)
    have q0 := Int.ediv_nonneg (a := (c + w - 1 : Int)) (b := w) (by omega) (by omega)
    generalize (c + w - 1 : Int) / w = q at *
    refine ⟨(w * q - c).toNat, by omega, q :: List.replicate st.length 0, by simp, fun a ha => ?_, ?_⟩
    · rcases List.mem_cons.1 ha with rfl | ha
      · exact q0
      · rw [(List.mem_replicate.1 ha).2]; exact Int.le_refl _
    · simp only [dot, dot_rep]; omega
theorem stampV_ok {st : List Int} (h1 : st ≠ []) (h5 : st.length ≤ 5) (hst : ∀ w ∈ st, 1 ≤ w ∧ w ≤ 1000) (c : Nat) :
    c ≤ stampV st c ∧ stampV st c < c + 1000 ∧ Opt st (stampV st c) (stampM st c) ∧ ent st (stampV st c) = (sumL (stampM st c), padS (stampM st c)) ∧ ∀ u : Nat, c ≤ u → u < stampV st c → (ent st u).1 < 0 ∧ ∀ v, ¬ Makes st u v := by
  have hs1 : ∀ w ∈ st, 1 ≤ w := fun w hw => (hst w hw).1
  obtain ⟨i, hi, v, hv⟩ := makes_some h1 hst c
  have hsay := ent_says h5 hs1
  have hpos : ∀ n v, Makes st ((n : Nat) : Int) v → 0 ≤ (ent st n).1 := fun n v hv => by
    rcases hsay n with ⟨_, h⟩ | ⟨u, h, e⟩
    · exact absurd hv (h v)
    · rw [e]; exact sum_nonneg u h.is.pos
  have hneg : ∀ n, (ent st n).1 < 0 → ∀ v, ¬ Makes st ((n : Nat) : Int) v := fun n hn v hv => by have := hpos n v hv; omega
  have hlt : (List.range 1001).findIdx (fun i => decide (0 ≤ (ent st (c + i)).1)) ≤ i := by
    refine Nat.le_of_not_lt fun hgt => ?_
    have := List.not_of_lt_findIdx hgt
    rw [List.getElem_range] at this
    simp only [decide_eq_false_iff_not] at this
    exact this (hpos _ v hv)
  have hle : (List.range 1001).findIdx (fun i => decide (0 ≤ (ent st (c + i)).1)) < (List.range 1001).length := by rw [List.length_range]; omega
  have hat := List.findIdx_getElem (w := hle)
  have hbe : ∀ u : Nat, c ≤ u → u < stampV st c → (ent st u).1 < 0 := fun u hu1 hu2 => by
    unfold stampV at hu2
    have h3 : u - c < (List.range 1001).findIdx (fun i => decide (0 ≤ (ent st (c + i)).1)) := by omega
    have := List.not_of_lt_findIdx h3
    rw [List.getElem_range] at this
    simp only [decide_eq_false_iff_not, show c + (u - c) = u by omega] at this
    omega
  rw [List.getElem_range] at hat
  simp only [decide_eq_true_eq] at hat
  have hat : 0 ≤ (ent st (stampV st c)).1 := hat
  have hO : ∃ v, Opt st (stampV st c) v ∧ ent st (stampV st c) = (sumL v, padS v) := by
    rcases hsay (stampV st c) with ⟨e, _⟩ | h
    · rw [e] at hat; exact absurd hat (by decide)
    · exact h
  obtain ⟨v', ho, e⟩ := hO
  have hm : stampM st c = v' := by unfold stampM; rw [e]; exact padS_take ho.is.len
  refine ⟨by unfold stampV; omega, by unfold stampV; omega, by rw [hm]; exact ho, by rw [hm]; exact e, fun u h1 h2 => ⟨hbe u h1 h2, hneg u (hbe u h1 h2)⟩⟩
/-! ### The reference's table: how few -/
def lowS (st : List Int) (tab : Nat → Int) (n : Nat) (best : Int) (i : Nat) : Int := if st.getD i 0 ≤ n then (if tab (n - (st.getD i 0).toNat) + 1 < best then tab (n - (st.getD i 0).toNat) + 1 else best) else best
def leastT (st : List Int) : Nat → List Int
  | 0 => [0]
  | n + 1 => leastT st n ++ [(List.range st.length).foldl (lowS st (fun m => (leastT st n).getD m 0) (n + 1)) 1000000]
theorem leastT_len (st : List Int) : ∀ n, (leastT st n).length = n + 1
  | 0 => rfl
  | n + 1 => by simp [leastT, leastT_len st n]
def few (st : List Int) (n : Nat) : Int := (leastT st n).getD n 0
theorem leastT_get (st : List Int) : ∀ n m, m ≤ n → (leastT st n).getD m 0 = few st m
  | 0, m, h => by
    have : m = 0 := by omega
    subst this; rfl
  | n + 1, m, h => by
    by_cases e : m = n + 1
    · subst e; rfl
    · rw [← leastT_get st n m (by omega)]
      simp only [leastT, List.getD_eq_getElem?_getD]
      rw [List.getElem?_append_left (by rw [leastT_len]; omega)]
/-- What it says of a number. -/
def Low (st : List Int) (n : Nat) (c : Int) : Prop := (c = 1000000 ∧ ∀ v, ¬ Makes st n v) ∨ ∃ v, Makes st n v ∧ c = sumL v ∧ ∀ u, Makes st n u → sumL v ≤ sumL u
theorem few_low {st : List Int} (hst : ∀ w ∈ st, 1 ≤ w) : ∀ n, n < 1000000 → Low st n (few st n) := by
  have hw : ∀ k, k < st.length → 1 ≤ st.getD k 0 := fun k hk => hst _ (by rw [List.getD_eq_getElem?_getD, List.getElem?_eq_getElem hk]; exact List.getElem_mem _)
  have : ∀ N n, n < N → n < 1000000 → Low st n (few st n) := by
    intro N
    induction N with
    | zero => intro n h; omega
    | succ N ih =>
      intro n hn hm
      cases n with
      | zero =>
        refine .inr ⟨_, (opt_zero hst).is, ?_, fun u hu => ?_⟩
        · rw [sumL_rep]; rfl
        · rw [sumL_rep]; exact sum_nonneg u hu.pos
      | succ n =>
        have hf : few st (n + 1) = (List.range st.length).foldl (lowS st (fun m => (leastT st n).getD m 0) (n + 1)) 1000000 := by
          unfold few
          simp only [leastT, List.getD_eq_getElem?_getD]
          rw [List.getElem?_append_right (by rw [leastT_len]; omega), leastT_len]
          simp
        rw [hf]
        have key : ∀ j, j ≤ st.length → (((List.range j).foldl (lowS st (fun m => (leastT st n).getD m 0) (n + 1)) 1000000 = 1000000 ∧ ∀ v, Makes st ((n + 1 : Nat) : Int) v → ∀ k, k < j → ¬ 0 < v.getD k 0) ∨
            ∃ v, Makes st ((n + 1 : Nat) : Int) v ∧ (List.range j).foldl (lowS st (fun m => (leastT st n).getD m 0) (n + 1)) 1000000 = sumL v ∧ ∀ u, Makes st ((n + 1 : Nat) : Int) u → (∃ k, k < j ∧ 0 < u.getD k 0) → sumL v ≤ sumL u) := by
          intro j
          induction j with
          | zero => intro _; exact .inl ⟨rfl, fun v _ k hk => by omega⟩
          | succ j ihj =>
            intro hj
            have ihj := ihj (by omega)
            rw [List.range_succ, List.foldl_append, List.foldl_cons, List.foldl_nil]
            generalize (List.range j).foldl (lowS st (fun m => (leastT st n).getD m 0) (n + 1)) 1000000 = b at *
            have hj' : j < st.length := by omega
            have hwj := hw j hj'
            unfold lowS
            by_cases hle : st.getD j 0 ≤ ((n + 1 : Nat) : Int)
            · rw [if_pos hle]
              simp only
              have hcast : ((n + 1 - (st.getD j 0).toNat : Nat) : Int) = ((n + 1 : Nat) : Int) - st.getD j 0 := by omega
              rw [leastT_get st n (n + 1 - (st.getD j 0).toNat) (by omega)]
              have hlo := ih (n + 1 - (st.getD j 0).toNat) (by omega) (by omega)
              rcases hlo with ⟨e, hlo⟩ | ⟨v0, h0, e, h0m⟩
              · have hno : ∀ v, Makes st ((n + 1 : Nat) : Int) v → ¬ 0 < v.getD j 0 := fun v hv hp => by
                  have h1 := makes_dec hv hj' hp
                  rw [← hcast] at h1
                  exact hlo _ h1
                rw [e]
                rcases ihj with ⟨eb, i2⟩ | ⟨v, i1, i2, i3⟩
                · rw [eb, if_neg (by omega)]
                  refine .inl ⟨rfl, fun v hv k hk => ?_⟩
                  by_cases e : k = j
                  · subst e; exact hno v hv
                  · exact i2 v hv k (by omega)
                · have hs := sum_le_dot st v i1.len.symm hst i1.pos
                  rw [i1.sum] at hs
                  rw [if_neg (by rw [i2]; omega)]
                  refine .inr ⟨v, i1, i2, fun u hu ⟨k, h1, h2⟩ => ?_⟩
                  by_cases e : k = j
                  · subst e; exact absurd h2 (hno u hu)
                  · exact i3 u hu ⟨k, by omega, h2⟩
              · have hv0 : j < v0.length := by rw [h0.len]; exact hj'
                have hmk := makes_inc h0 hj'
                rw [hcast, Int.sub_add_cancel] at hmk
                have hsum : sumL v0 + 1 = sumL (inc v0 j) := (sum_inc v0 j hv0).symm
                have hmin : ∀ u, Makes st ((n + 1 : Nat) : Int) u → 0 < u.getD j 0 → sumL (inc v0 j) ≤ sumL u := fun u hu hp => by
                  have h1 := makes_dec hu hj' hp
                  rw [← hcast] at h1
                  have hul : j < u.length := by rw [hu.len]; exact hj'
                  have h2 := h0m _ h1
                  have h3 := sum_inc (dec1 u j) j (by simp [dec1]; exact hul)
                  rw [inc_dec u j hul] at h3
                  omega
                rw [e, hsum]
                generalize inc v0 j = X at *
                have hs := sum_le_dot st X hmk.len.symm hst hmk.pos
                rw [hmk.sum] at hs
                rcases ihj with ⟨eb, i2⟩ | ⟨v, i1, i2, i3⟩
                · rw [eb, if_pos (by omega)]
                  refine .inr ⟨X, hmk, rfl, fun u hu ⟨k, h1, h2⟩ => ?_⟩
                  by_cases e : k = j
                  · subst e; exact hmin u hu h2
                  · exact absurd h2 (i2 u hu k (by omega))
                · rw [i2]
                  split
                  · refine .inr ⟨X, hmk, rfl, fun u hu ⟨k, h1, h2⟩ => ?_⟩
                    by_cases e : k = j
                    · subst e; exact hmin u hu h2
                    · have := i3 u hu ⟨k, by omega, h2⟩; omega
                  · refine .inr ⟨v, i1, rfl, fun u hu ⟨k, h1, h2⟩ => ?_⟩
                    by_cases e : k = j
                    · subst e; have := hmin u hu h2; omega
                    · exact i3 u hu ⟨k, by omega, h2⟩
            · rw [if_neg hle]
              have hno : ∀ v, Makes st ((n + 1 : Nat) : Int) v → ¬ 0 < v.getD j 0 := fun v hv hp => by
                have h1 := makes_dec hv hj' hp
                have h2 := dot_nonneg st _ (fun w hw => by have := hst w hw; omega) h1.pos
                rw [h1.sum] at h2; omega
              rcases ihj with ⟨eb, i2⟩ | ⟨v, i1, i2, i3⟩
              · refine .inl ⟨eb, fun v hv k hk => ?_⟩
                by_cases e : k = j
                · subst e; exact hno v hv
                · exact i2 v hv k (by omega)
              · refine .inr ⟨v, i1, i2, fun u hu ⟨k, h1, h2⟩ => ?_⟩
                by_cases e : k = j
                · subst e; exact absurd h2 (hno u hu)
                · exact i3 u hu ⟨k, by omega, h2⟩
        rcases key st.length (Nat.le_refl _) with ⟨e, h⟩ | ⟨v, h1, h2, h3⟩
        · refine .inl ⟨e, fun v hv => ?_⟩
          obtain ⟨k, k1, k2⟩ := some_pos st v _ hv (by omega)
          exact h v hv k k1 k2
        · exact .inr ⟨v, h1, h2, fun u hu => h3 u hu (some_pos st u _ hu (by omega))⟩
  exact fun n hn => this (n + 1) n (by omega) hn
/-- How the reference finds them, value by value. -/
theorem greedy_step {w : Int} {st : List Int} {left : Nat} {a : Int} {v : List Int} (hst : ∀ w' ∈ w :: st, 1 ≤ w') (hl : left < 1000000) (h : Opt (w :: st) left (a :: v)) :
    0 ≤ a ∧ 0 ≤ (left : Int) - a * w ∧ few st ((left : Int) - a * w).toNat = sumL v ∧ Opt st ((left : Int) - a * w) v ∧ ∀ n : Int, 0 ≤ n → n < a → 0 ≤ (left : Int) - n * w ∧ few st ((left : Int) - n * w).toNat ≠ sumL (a :: v) - n := by
  have ha := h.is.pos a (by simp)
  have hw := hst w (by simp)
  have hst' : ∀ w' ∈ st, 1 ≤ w' := fun w' hw' => hst w' (by simp [hw'])
  have hsum : w * a + dot st v = left := h.is.sum
  have hmul : w * a = a * w := Int.mul_comm ..
  have hd := dot_nonneg st v (fun w' hw' => by have := hst' w' hw'; omega) fun a' ha' => h.is.pos a' (by simp [ha'])
  have hmv : Makes st ((left : Int) - a * w) v := ⟨by have := h.is.len; simpa using this, fun a' ha' => h.is.pos a' (by simp [ha']), by omega⟩
  have ext : ∀ (n : Int) (u : List Int), 0 ≤ n → Makes st ((left : Int) - n * w) u → Makes (w :: st) left (n :: u) := fun n u hn hu => ⟨by have := hu.len; simp [this], fun a' ha' => by
    rcases List.mem_cons.1 ha' with rfl | ha'
    · exact hn
    · exact hu.pos a' ha', by
      have e := hu.sum
      have : w * n = n * w := Int.mul_comm ..
      show w * n + dot st u = _
      omega⟩
  have hO : Opt st ((left : Int) - a * w) v := ⟨hmv, fun u hu => by
    have := h.best _ (ext a u ha hu)
    unfold leO at this ⊢
    simp only [sumL, lexLt, Int.lt_irrefl, decide_false, decide_true, Bool.false_or, Bool.true_and] at this
    rcases this with h1 | ⟨h1, h2⟩
    · left; omega
    · exact .inr ⟨by omega, h2⟩⟩
  have haw : 0 ≤ a * w := Int.mul_nonneg ha (by omega)
  have hnat : (((left : Int) - a * w).toNat : Int) = (left : Int) - a * w := by omega
  refine ⟨ha, by omega, ?_, hO, fun n hn hna => ?_⟩
  · rcases few_low hst' ((left : Int) - a * w).toNat (by omega) with ⟨_, hno⟩ | ⟨u, hu, e, hmin⟩
    · rw [hnat] at hno; exact absurd hmv (hno v)
    · rw [hnat] at hu hmin
      have h1 := hmin v hmv
      have h2 := hO.best u hu
      unfold leO at h2
      omega
  · have hnw : n * w ≤ a * w := Int.mul_le_mul_of_nonneg_right (by omega) (by omega)
    have hn0 : 0 ≤ n * w := Int.mul_nonneg hn (by omega)
    have hnat' : (((left : Int) - n * w).toNat : Int) = (left : Int) - n * w := by omega
    refine ⟨by omega, fun e => ?_⟩
    have hsv := sum_nonneg v hmv.pos
    have hs := sum_le_dot (w :: st) (a :: v) h.is.len.symm hst h.is.pos
    rw [h.is.sum] at hs
    rcases few_low hst' ((left : Int) - n * w).toNat (by omega) with ⟨e1, _⟩ | ⟨u, hu, e1, _⟩
    · rw [e1] at e
      omega
    · rw [hnat'] at hu
      have := h.best _ (ext n u hn hu)
      unfold leO at this
      have e3 : sumL (n :: u) = sumL (a :: v) := by simp only [sumL] at e ⊢; omega
      rcases this with h1 | ⟨h1, h2⟩
      · omega
      · simp only [lexLt, Bool.or_eq_false_iff, decide_eq_false_iff_not] at h2
        omega
end Wb
/- The postage of a parcel: it turns the map of what is known. -/
namespace Wb
open Go Go.Proofs Enc Row
set_option linter.unusedSimpArgs false
set_option linter.unusedVariables false
set_option maxRecDepth 20000
set_option maxHeartbeats 4000000
theorem mget_mset (es : List (List Int × PV)) (k k' : List Int) (v : PV) : mget (mset es k v) k' = if k = k' then some v else mget es k' := by
  induction es with
  | nil => simp only [mset, mget]
  | cons e es ih =>
    simp only [mset]
    split
    · rename_i h
      simp only [mget, h]
      split <;> rfl
    · rename_i h
      simp only [mget, ih]
      by_cases h2 : e.1 = k'
      · have : k ≠ k' := fun q => h (by rw [h2, q])
        simp [h2, this]
      · simp [h2]
/-- The postage; 0: it does not fit. -/
def postG (b : PBook) (z : Int) (k s : Nat) : Int :=
  if (k < b.kinds.length ∧ 0 < s ∧ s < 2 ^ b.pieces.length) ∧ fitsB b k s = true then priceB b z k + stepsB b k s + insB b s else 0
theorem sumI_ge {l : List Int} (h : ∀ k ∈ l, 1 ≤ k) : (l.length : Int) ≤ sumI l := by
  unfold sumI
  suffices h : ∀ (l : List Int) (s : Int), (∀ k ∈ l, 1 ≤ k) → s + (l.length : Int) ≤ l.foldl (· + ·) s by
    have := h l 0 ‹_›; omega
  intro l
  induction l with
  | nil => intro s _; simp
  | cons a l ih =>
    intro s h1
    have h2 := h1 a (List.mem_cons_self ..)
    have h3 := ih (s + a) fun k hk => h1 k (List.mem_cons_of_mem _ hk)
    rw [List.foldl_cons, List.length_cons]
    omega
theorem ofS_ne {s n : Nat} (h0 : 0 < s) (hs : s < 2 ^ n) (hn : n ≤ 7) : ofS s 7 ≠ [] := by
  intro h
  have hb : ∀ i, s.testBit i = false := fun i => by
    cases hi : s.testBit i with
    | false => rfl
    | true =>
      have h3 : 2 ^ i ≤ s := Nat.ge_two_pow_of_testBit hi
      have h4 : i < n := (Nat.pow_lt_pow_iff_right (a := 2) (by decide)).1 (Nat.lt_of_le_of_lt h3 hs)
      have : (i : Int) ∈ ofS s 7 := mem_ofS.2 ⟨i, by omega, hi, rfl⟩
      rw [h] at this; cases this
  have := eq_zero_of_bits hb
  omega
theorem weight_pos {b : PBook} (hG : GBook b) {s : Nat} (h0 : 0 < s) (hs : s < 2 ^ b.pieces.length) : 1 ≤ allF b .weight s := by
  have h := sumI_ge (l := (piecesOf b (ofS s 7)).map What.weight.of) fun k hk => by
    simp only [piecesOf, List.mem_map] at hk
    obtain ⟨_, ⟨j, hj, rfl⟩, rfl⟩ := hk
    have h5 := ofS_lt hs hj
    have h6 : j.toNat < b.pieces.length := by omega
    have := (hG.ps (b.pieces.getD j.toNat default) (by rw [List.getD_eq_getElem?_getD, List.getElem?_eq_getElem h6]; exact List.getElem_mem _)).2.1
    exact this.1
  have hne := List.length_pos_iff.2 (ofS_ne h0 hs hG.p7)
  unfold allF
  rw [List.length_map, piecesOf, List.length_map] at h
  unfold piecesOf
  omega
theorem zone_le {b : PBook} (hG : GBook b) {k : Nat} (hk : k < b.kinds.length) {z : Int} (hz : 0 ≤ z ∧ z ≤ 4) : 1 ≤ priceB b z k ∧ priceB b z k ≤ 1000 := by
  have hkk := hG.ks (b.kinds.getD k default) (by rw [List.getD_eq_getElem?_getD, List.getElem?_eq_getElem hk]; exact List.getElem_mem _)
  obtain ⟨_, _, h5, _, hz2⟩ := hkk
  have hl : z.toNat < (b.kinds.getD k default).zones.length := by omega
  have hm : (b.kinds.getD k default).zones[z.toNat] ∈ (b.kinds.getD k default).zones := List.getElem_mem hl
  have he : priceB b z k = (b.kinds.getD k default).zones[z.toNat] := by unfold priceB; rw [List.getD_eq_getElem?_getD, List.getElem?_eq_getElem hl]; rfl
  rw [he]
  exact hz2 _ hm
theorem steps_le {b : PBook} (hG : GBook b) {k s : Nat} (hk : k < b.kinds.length) (h0 : 0 < s) (hs : s < 2 ^ b.pieces.length) : 0 ≤ stepsB b k s ∧ stepsB b k s ≤ 100000000 := by
  have hkk := hG.ks (b.kinds.getD k default) (by rw [List.getD_eq_getElem?_getD, List.getElem?_eq_getElem hk]; exact List.getElem_mem _)
  have hst := hkk.2.2.2.1
  have hw := sum_le hG .weight hs
  have hp := weight_pos hG h0 hs
  have hgr := hG.grams
  unfold stepsB
  generalize allF b .weight s = W at *
  generalize (b.kinds.getD k default).step = S at *
  have h1 : 1 ≤ (W + b.grams - 1) / b.grams := by
    rw [Int.le_ediv_iff_mul_le (by omega)]; omega
  have h2 := Int.ediv_le_self (a := W + b.grams - 1) b.grams (by omega)
  generalize (W + b.grams - 1) / b.grams = Q at *
  constructor
  · exact Int.mul_nonneg hst.1 (by omega)
  · have e1 : S * (Q - 1) ≤ 1000 * (Q - 1) := Int.mul_le_mul_of_nonneg_right hst.2 (by omega)
    omega
theorem ins_le {b : PBook} (hG : GBook b) {s : Nat} (hs : s < 2 ^ b.pieces.length) : 0 ≤ insB b s ∧ insB b s ≤ 100000000 := by
  have hw := sum_le hG .worth hs
  have hfr := hG.free
  have hun := hG.unit
  have hfe := hG.fee
  unfold insB
  generalize allF b .worth s = W at *
  have hM : 0 ≤ (if W - b.free > 0 then W - b.free else 0) ∧ (if W - b.free > 0 then W - b.free else 0) ≤ 70000 := by split <;> omega
  generalize (if W - b.free > 0 then W - b.free else 0) = M at *
  have h1 := Int.ediv_nonneg (a := M + b.unit - 1) (b := b.unit) (by omega) (by omega)
  have h2 := Int.ediv_le_self (a := M + b.unit - 1) b.unit (by omega)
  generalize (M + b.unit - 1) / b.unit = Q at *
  constructor
  · exact Int.mul_nonneg hfe.1 h1
  · have e1 : b.fee * Q ≤ 1000 * Q := Int.mul_le_mul_of_nonneg_right hfe.2 h1
    omega
theorem postG_nonneg {b : PBook} (hG : GBook b) {z : Int} (hz : 0 ≤ z ∧ z ≤ 4) (k s : Nat) : 0 ≤ postG b z k s ∧ postG b z k s ≤ 200001000 := by
  unfold postG
  split
  · rename_i h
    have h1 := zone_le hG h.1.1 hz
    have h2 := steps_le hG h.1.1 h.1.2.1 h.1.2.2
    have h3 := ins_le hG h.1.2.2
    omega
  · omega
theorem postG_zero {b : PBook} (hG : GBook b) {z : Int} (hz : 0 ≤ z ∧ z ≤ 4) {k s : Nat} (hk : k < b.kinds.length) (h0 : 0 < s) (hs : s < 2 ^ b.pieces.length) : postG b z k s = 0 ↔ fitsB b k s = false := by
  unfold postG
  have h1 := zone_le hG hk hz
  have h2 := steps_le hG hk h0 hs
  have h3 := ins_le hG hs
  cases fitsB b k s with
  | true => rw [if_pos ⟨⟨hk, h0, hs⟩, rfl⟩]; simp; omega
  | false => simp
def OkM (b : PBook) (z : Int) (es : List (List Int × PV)) : Prop := ∀ (k s : Nat) v, k < b.kinds.length → 0 < s → s < 2 ^ b.pieces.length → mget es [(k : Int), (s : Int)] = some v → v = .int .i64 (postG b z k s)
theorem OkM.nil {b : PBook} {z : Int} : OkM b z [] := fun k s v _ _ _ h => by simp [mget] at h
theorem OkM.put {b : PBook} {z : Int} {es : List (List Int × PV)} (h : OkM b z es) (k s : Nat) : OkM b z (mset es [(k : Int), (s : Int)] (.int .i64 (postG b z k s))) := fun k' s' v h1 h2 h3 hv => by
  rw [mget_mset] at hv
  split at hv
  · rename_i e
    simp only [List.cons.injEq, and_true] at e
    have e1 : k = k' := by omega
    have e2 : s = s' := by omega
    subst e1; subst e2
    cases hv; rfl
  · exact h k' s' v h1 h2 h3 hv
def E6t : List (Nat × Spec) := [(55, s55)] ++ E5t
theorem E6t_ok : AllOK E6t := ⟨⟨s55_ok, Tryd.call55⟩, E5t_ok⟩
noncomputable def E6 : Env := mkE E6t [(62, Tryd.f62)]
theorem E6_ok : EnvOK Tryd.prog E6 := envOK E6t_ok ⟨⟨Tryd.func62, Tryd.call62, by kernel_rfl⟩, trivial⟩
theorem E6_ti {t : Nat} : E6.ti t = ti t := rfl
theorem E6_q0 : (E6).eqt 130 = true := rfl
theorem E6_q1 : (E6).keyt 3 = true := rfl
theorem E6_q2 : (E6).keyt 85 = true := rfl
attribute [go_sem] E6_ti E6_q0 E6_q1 E6_q2
theorem E6_g0 : E6.glob 0 = some [.fn 113 [] [], .fn 114 [] [], .fn 115 [] []] := rfl
theorem E6_i62 : E6.inl 62 = some Tryd.f62 := rfl
theorem ns_ne {path : List Nat} {K : Key} {s : Nat} (h : ¬ path <:+ K.1) : K ≠ (path, s) := by rintro rfl; exact h (List.suffix_refl _)
theorem key_ns {path : List Nat} {K : Key} {s : Nat} (h : ¬ path <:+ K.1) : (K = (path, s)) = False := eq_false (ns_ne h)
def partS (b : PBook) (z : Int) (k s : Nat) : Nat → Int
  | 0 => 0
  | 1 => priceB b z k
  | 2 => priceB b z k + stepsB b k s
  | _ => priceB b z k + stepsB b k s + insB b s
theorem postage_in {E : Env} (hti : ∀ t, E.ti t = ti t) (h56 : E.spec 56 = some s56) (h113 : E.spec 113 = some s113) (h114 : E.spec 114 = some s114) (h115 : E.spec 115 = some s115) (hg0 : E.glob 0 = some [.fn 113 [] [], .fn 114 [] [], .fn 115 [] []]) (hkt : E.keyt 85 = true) (h62 : E.inl 62 = some Tryd.f62) {b : PBook} (hG : GBook b) {z : Int} (hz : 0 ≤ z ∧ z ≤ 4) {k s : Nat} (hk : k < b.kinds.length) (h0 : 0 < s) (hs : s < 2 ^ b.pieces.length) (fuel : Nat) (path : List Nat) (H0 : Heap) (Q : PV → Heap → Prop) (Km : Key) (vm : Nat) (es : List (List Int × PV))
    (hM : H0 Km = some (.map true 2 es vm false)) (hes : OkM b z es) (hKm : ¬ path <:+ Km.1)
    (hQ : ∀ H' es', H' Km = some (.map true 2 es' vm false) → OkM b z es' → (∀ K : Key, ¬ path <:+ K.1 → K ≠ Km → H' K = H0 K) → Q (.int .i64 (postG b z k s)) H') :
    callN E (fuel + 1) path (.fn 62 [] []) [.agg (encB b ++ [.int .i64 z, .mref Km vm]), .agg [.int .i64 k, .int .i64 s]] H0 Q := by
  obtain ⟨ps, ks, gr, fr, un, fe, st⟩ := b
  simp only at hk hs
  have hne : ∀ s, (Km = (path, s)) = False := fun s => key_ns hKm
  have hne' : ∀ s, (((path, s) : Key) = Km) = False := fun s => eq_false fun e => ns_ne hKm e.symm
  simp only [callN, h62, Tryd.f62]
  simp only [go_sem, Nat.reduceAdd, Nat.reduceSub, Nat.reduceMul, Nat.reduceEqDiff, Nat.reduceLT, Nat.reduceLeDiff, Nat.reduceBEq, Nat.reduceBNe, Int.reduceToNat, Int.reduceLE, Int.reduceLT, Int.reduceNe, Int.reduceNeg, reduceCtorEq, Int.reduceBEq, Int.reduceBNe, hti, encB, hM, hne]
  generalize hv1 : verOf H0 (path, 62000000) + 1 = v1
  generalize hv2 : verOf H0 (path, 62000001) + 1 = v2
  cases hg : mget es [(k : Int), (s : Int)] with
  | some v =>
    obtain rfl := hes k s v hk h0 hs hg
    simp only [go_sem, Nat.reduceAdd, Nat.reduceSub, Nat.reduceMul, Nat.reduceEqDiff, Nat.reduceLT, Nat.reduceLeDiff, Nat.reduceBEq, Nat.reduceBNe, Int.reduceToNat, Int.reduceLE, Int.reduceLT, Int.reduceNe, Int.reduceNeg, reduceCtorEq, Int.reduceBEq, Int.reduceBNe, hti, look, hkt, keyOf, ints, hg, found, Option.map, hne, hM]
    refine hQ _ es ?_ hes fun K hK hKm => ?_
    · simp only [set_at, hne, if_false, hM]
    · simp only [set_at, key_ns hK, if_false]
  | none =>
    have e1 := zone_le hG hk hz
    have e2 := steps_le hG hk h0 hs
    have e3 := ins_le hG hs
    have hkk : (k : Int) < (ks.length : Int) := by omega
    simp only [go_sem, Nat.reduceAdd, Nat.reduceSub, Nat.reduceMul, Nat.reduceEqDiff, Nat.reduceLT, Nat.reduceLeDiff, Nat.reduceBEq, Nat.reduceBNe, Int.reduceToNat, Int.reduceLE, Int.reduceLT, Int.reduceNe, Int.reduceNeg, reduceCtorEq, Int.reduceBEq, Int.reduceBNe, hti, @callV_spec E 56 s56 h56, @callV_specT E 56 s56 h56, @stepV_spec E 56 s56 h56, @effV_spec E 56 s56 h56, s56, callSpec, look, hkt, keyOf, ints, hg, found, Option.map, hne, hM, hG, hs, hkk, Int.natCast_nonneg, Int.toNat_natCast]
    rw [condK_bool]
    refine ⟨fun hf => ?_, fun hf => ?_⟩
    · have hp : postG ⟨ps, ks, gr, fr, un, fe, st⟩ z k s = priceB ⟨ps, ks, gr, fr, un, fe, st⟩ z k + stepsB ⟨ps, ks, gr, fr, un, fe, st⟩ k s + insB ⟨ps, ks, gr, fr, un, fe, st⟩ s := by
        unfold postG; rw [if_pos ⟨⟨hk, h0, hs⟩, hf⟩]
      simp only [go_sem, Nat.reduceAdd, Nat.reduceSub, Nat.reduceMul, Nat.reduceEqDiff, Nat.reduceLT, Nat.reduceLeDiff, Nat.reduceBEq, Nat.reduceBNe, Int.reduceToNat, Int.reduceLE, Int.reduceLT, Int.reduceNe, Int.reduceNeg, reduceCtorEq, Int.reduceBEq, Int.reduceBNe, hti, hg0]
      refine ev_loopS [2, 3, 22] (fun i : Nat => [(7, .int .i64 (partS ⟨ps, ks, gr, fr, un, fe, st⟩ z k s i)), (23, .int .i64 i)])
        (fun i H => i ≤ 3 ∧ H ((path, 62000000) : Key) = some (.cells (encB ⟨ps, ks, gr, fr, un, fe, st⟩ ++ [.int .i64 z, .mref Km vm]) v1 false) ∧ H ((path, 62000001) : Key) = some (.cells [.int .i64 k, .int .i64 s] v2 false) ∧ H Km = some (.map true 2 es vm false) ∧ ∀ K : Key, ¬ path <:+ K.1 → H K = H0 K)
        (fun i => 3 - i) 0 ?_ ⟨by omega, ?_, ?_, ?_, fun K hK => ?_⟩ ?_
      · simp only [go_sem, Nat.reduceAdd, Nat.reduceSub, Nat.reduceMul, Nat.reduceEqDiff, Nat.reduceLT, Nat.reduceLeDiff, Nat.reduceBEq, Nat.reduceBNe, Int.reduceToNat, Int.reduceLE, Int.reduceLT, Int.reduceNe, Int.reduceNeg, reduceCtorEq, Int.reduceBEq, Int.reduceBNe, hti, partS, Int.natCast_zero]
      · simp only [go_sem, Nat.reduceAdd, Nat.reduceSub, Nat.reduceMul, Nat.reduceEqDiff, Nat.reduceLT, Nat.reduceLeDiff, Nat.reduceBEq, Nat.reduceBNe, Int.reduceToNat, Int.reduceLE, Int.reduceLT, Int.reduceNe, Int.reduceNeg, reduceCtorEq, Int.reduceBEq, Int.reduceBNe, hti, encB]
      · simp only [go_sem, Nat.reduceAdd, Nat.reduceSub, Nat.reduceMul, Nat.reduceEqDiff, Nat.reduceLT, Nat.reduceLeDiff, Nat.reduceBEq, Nat.reduceBNe, Int.reduceToNat, Int.reduceLE, Int.reduceLT, Int.reduceNe, Int.reduceNeg, reduceCtorEq, Int.reduceBEq, Int.reduceBNe, hti]
      · simp only [go_sem, Nat.reduceAdd, Nat.reduceSub, Nat.reduceMul, Nat.reduceEqDiff, Nat.reduceLT, Nat.reduceLeDiff, Nat.reduceBEq, Nat.reduceBNe, Int.reduceToNat, Int.reduceLE, Int.reduceLT, Int.reduceNe, Int.reduceNeg, reduceCtorEq, Int.reduceBEq, Int.reduceBNe, hti, hne, hM]
      · simp only [set_at, key_ns hK, if_false]
      · simp only [go_sem, Nat.reduceAdd, Nat.reduceSub, Nat.reduceMul, Nat.reduceEqDiff, Nat.reduceLT, Nat.reduceLeDiff, Nat.reduceBEq, Nat.reduceBNe, Int.reduceToNat, Int.reduceLE, Int.reduceLT, Int.reduceNe, Int.reduceNeg, reduceCtorEq, Int.reduceBEq, Int.reduceBNe, hti]
        intro K i H ⟨hi, k1, k2, k3, k4⟩ hK hE
        have k1' := k1
        simp only [encB, List.cons_append, List.nil_append] at k1'
        have h4 : i = 0 ∨ i = 1 ∨ i = 2 ∨ i = 3 := by omega
        rcases h4 with rfl | rfl | rfl | rfl
        · have w : IntKind.i64.wrap (0 + priceB ⟨ps, ks, gr, fr, un, fe, st⟩ z k) = priceB ⟨ps, ks, gr, fr, un, fe, st⟩ z k := by rw [Int.zero_add]; exact wrap_id (by omega)
          have hc : (decide (((0 : Nat) : Int) < 3)) = true := rfl
          have w1 : (IntKind.i64.wrap (0 + 1) = 1) = True := eq_true rfl
          have w1' : (1 = IntKind.i64.wrap (0 + 1)) = True := eq_true rfl
          simp only [go_sem, Nat.reduceAdd, Nat.reduceSub, Nat.reduceMul, Nat.reduceEqDiff, Nat.reduceLT, Nat.reduceLeDiff, Nat.reduceBEq, Nat.reduceBNe, Int.reduceToNat, Int.reduceLE, Int.reduceLT, Int.reduceNe, Int.reduceNeg, reduceCtorEq, Int.reduceBEq, Int.reduceBNe, hti, @callV_spec E 113 s113 h113, @callV_specT E 113 s113 h113, @stepV_spec E 113 s113 h113, @effV_spec E 113 s113 h113, s113, callSpec, hc, k1', k2, k3, partS, hG, hkk, hs, hz, w1, Int.natCast_nonneg, Int.toNat_natCast, Int.natCast_zero, w]
          refine hK 1 _ _ ?_ ⟨by omega, k1, k2, k3, k4⟩ (by omega)
          simp only [go_sem, Nat.reduceAdd, Nat.reduceSub, Nat.reduceMul, Nat.reduceEqDiff, Nat.reduceLT, Nat.reduceLeDiff, Nat.reduceBEq, Nat.reduceBNe, Int.reduceToNat, Int.reduceLE, Int.reduceLT, Int.reduceNe, Int.reduceNeg, reduceCtorEq, Int.reduceBEq, Int.reduceBNe, hti, partS, Int.natCast_one, w1']
        · have w : IntKind.i64.wrap (priceB ⟨ps, ks, gr, fr, un, fe, st⟩ z k + stepsB ⟨ps, ks, gr, fr, un, fe, st⟩ k s) = priceB ⟨ps, ks, gr, fr, un, fe, st⟩ z k + stepsB ⟨ps, ks, gr, fr, un, fe, st⟩ k s := wrap_id (by omega)
          have hc : (decide (((1 : Nat) : Int) < 3)) = true := rfl
          have w1 : (IntKind.i64.wrap (1 + 1) = 2) = True := eq_true rfl
          have w1' : (2 = IntKind.i64.wrap (1 + 1)) = True := eq_true rfl
          simp only [go_sem, Nat.reduceAdd, Nat.reduceSub, Nat.reduceMul, Nat.reduceEqDiff, Nat.reduceLT, Nat.reduceLeDiff, Nat.reduceBEq, Nat.reduceBNe, Int.reduceToNat, Int.reduceLE, Int.reduceLT, Int.reduceNe, Int.reduceNeg, reduceCtorEq, Int.reduceBEq, Int.reduceBNe, hti, @callV_spec E 114 s114 h114, @callV_specT E 114 s114 h114, @stepV_spec E 114 s114 h114, @effV_spec E 114 s114 h114, s114, callSpec, hc, k1', k2, k3, partS, hG, hkk, hs, hz, w1, Int.natCast_nonneg, Int.toNat_natCast, Int.natCast_one, w]
          refine hK 2 _ _ ?_ ⟨by omega, k1, k2, k3, k4⟩ (by omega)
          simp only [go_sem, Nat.reduceAdd, Nat.reduceSub, Nat.reduceMul, Nat.reduceEqDiff, Nat.reduceLT, Nat.reduceLeDiff, Nat.reduceBEq, Nat.reduceBNe, Int.reduceToNat, Int.reduceLE, Int.reduceLT, Int.reduceNe, Int.reduceNeg, reduceCtorEq, Int.reduceBEq, Int.reduceBNe, hti, partS, w1']
        · have w : IntKind.i64.wrap (priceB ⟨ps, ks, gr, fr, un, fe, st⟩ z k + stepsB ⟨ps, ks, gr, fr, un, fe, st⟩ k s + insB ⟨ps, ks, gr, fr, un, fe, st⟩ s) = priceB ⟨ps, ks, gr, fr, un, fe, st⟩ z k + stepsB ⟨ps, ks, gr, fr, un, fe, st⟩ k s + insB ⟨ps, ks, gr, fr, un, fe, st⟩ s := wrap_id (by omega)
          have hc : (decide (((2 : Nat) : Int) < 3)) = true := rfl
          have w1 : (IntKind.i64.wrap (2 + 1) = 3) = True := eq_true rfl
          have w1' : (3 = IntKind.i64.wrap (2 + 1)) = True := eq_true rfl
          simp only [go_sem, Nat.reduceAdd, Nat.reduceSub, Nat.reduceMul, Nat.reduceEqDiff, Nat.reduceLT, Nat.reduceLeDiff, Nat.reduceBEq, Nat.reduceBNe, Int.reduceToNat, Int.reduceLE, Int.reduceLT, Int.reduceNe, Int.reduceNeg, reduceCtorEq, Int.reduceBEq, Int.reduceBNe, hti, @callV_spec E 115 s115 h115, @callV_specT E 115 s115 h115, @stepV_spec E 115 s115 h115, @effV_spec E 115 s115 h115, s115, callSpec, hc, k1', k2, k3, partS, hG, hkk, hs, hz, w1, Int.natCast_nonneg, Int.toNat_natCast, w]
          refine hK 3 _ _ ?_ ⟨by omega, k1, k2, k3, k4⟩ (by omega)
          simp only [go_sem, Nat.reduceAdd, Nat.reduceSub, Nat.reduceMul, Nat.reduceEqDiff, Nat.reduceLT, Nat.reduceLeDiff, Nat.reduceBEq, Nat.reduceBNe, Int.reduceToNat, Int.reduceLE, Int.reduceLT, Int.reduceNe, Int.reduceNeg, reduceCtorEq, Int.reduceBEq, Int.reduceBNe, hti, partS, w1']
        · have hc : (decide (((3 : Nat) : Int) < 3)) = false := rfl
          simp only [go_sem, Nat.reduceAdd, Nat.reduceSub, Nat.reduceMul, Nat.reduceEqDiff, Nat.reduceLT, Nat.reduceLeDiff, Nat.reduceBEq, Nat.reduceBNe, Int.reduceToNat, Int.reduceLE, Int.reduceLT, Int.reduceNe, Int.reduceNeg, reduceCtorEq, Int.reduceBEq, Int.reduceBNe, hti, hc]
          refine hE _ _ _ (by simp) ?_
          simp only [go_sem, Nat.reduceAdd, Nat.reduceSub, Nat.reduceMul, Nat.reduceEqDiff, Nat.reduceLT, Nat.reduceLeDiff, Nat.reduceBEq, Nat.reduceBNe, Int.reduceToNat, Int.reduceLE, Int.reduceLT, Int.reduceNe, Int.reduceNeg, reduceCtorEq, Int.reduceBEq, Int.reduceBNe, hti, partS, mapPut, hkt, keyOf, ints, Option.map, k1', k2, k3, ← hp]
          refine hQ _ _ (set_at_eq _ _ _) (hes.put k s) fun K hK1 hK2 => ?_
          rw [set_at_ne _ _ hK2]
          exact k4 K hK1
    · have hp : postG ⟨ps, ks, gr, fr, un, fe, st⟩ z k s = 0 := (postG_zero hG hz hk h0 hs).2 hf
      have hput := hes.put k s
      rw [hp] at hput
      simp only [go_sem, Nat.reduceAdd, Nat.reduceSub, Nat.reduceMul, Nat.reduceEqDiff, Nat.reduceLT, Nat.reduceLeDiff, Nat.reduceBEq, Nat.reduceBNe, Int.reduceToNat, Int.reduceLE, Int.reduceLT, Int.reduceNe, Int.reduceNeg, reduceCtorEq, Int.reduceBEq, Int.reduceBNe, hti, mapPut, hkt, keyOf, ints, Option.map, hne, hM]
      rw [hp] at hQ
      refine hQ _ _ (set_at_eq _ _ _) hput fun K hK1 hK2 => ?_
      simp only [set_at, key_ns hK1, hK2, if_false]
end Wb
