import Derived.Test.YtjdljckgphbkmaaDoorAB
set_option linter.unusedVariables false
set_option linter.unusedSimpArgs false
/- What parcels cost together; are they a division? (the laws' whole and divides) -/
namespace Wb
open Go Go.Proofs Enc Row
set_option linter.unusedSimpArgs false
set_option linter.unusedVariables false
set_option maxRecDepth 20000
set_option maxHeartbeats 4000000
def sumQ (b : PBook) (z : Int) (l : List Parc) : Int := l.foldl (fun a q => a + costsM b q.kind q.pieces z) 0
theorem sumQ_take (b : PBook) (z : Int) {l : List Parc} {i : Nat} (h : i < l.length) : sumQ b z (l.take (i + 1)) = sumQ b z (l.take i) + costsM b (l.getD i default).kind (l.getD i default).pieces z := by
  unfold sumQ
  rw [List.take_succ_eq_append_getElem h, List.foldl_append]
  simp [h]
def okQ (b : PBook) (z : Int) (q : Parc) : Prop := okCost b q.kind q.pieces z ∧ 0 ≤ costsM b q.kind q.pieces z ∧ costsM b q.kind q.pieces z ≤ 200001000
theorem sumQ_bound {b : PBook} {z : Int} {l : List Parc} (h : ∀ q ∈ l, okQ b z q) : ∀ i, i ≤ l.length → 0 ≤ sumQ b z (l.take i) ∧ sumQ b z (l.take i) ≤ 200001000 * i
  | 0, _ => by simp [sumQ]
  | i + 1, hi => by
    have ih := sumQ_bound h i (by omega)
    have hq := h (l.getD i default) (by rw [List.getD_eq_getElem?_getD, List.getElem?_eq_getElem (by omega)]; exact List.getElem_mem _)
    rw [sumQ_take b z (by omega), Int.natCast_add, Int.mul_add]
    have := hq.2
    omega
theorem whole40_fn (b : PBook) (l : List Parc) (z : Int) (hl : l.length ≤ 127) (hq : ∀ q ∈ l, okQ b z q) : Fn E24 0 40 Tryd.f40 (Tryd.f40.body.getD .skip) [.agg (encB b), .sl (l.map encQ) false, .int .i64 z] (.int .i64 (sumQ b z l)) := by
  have hdb : (dec (.agg (encB b)) : Option PBook) = some b := dec_book b
  have hbd := sumQ_bound hq
  have htk := fun i h => sumQ_take b z (l := l) (i := i) h
  have hfull : sumQ b z (l.take l.length) = sumQ b z l := by rw [List.take_length]
  unfold Fn Tryd.f40
  obtain ⟨ps, ks, gr, fr, un, fe, st⟩ := b
  simp only [encB] at hdb
  simp only [go_sem, Nat.reduceAdd, Nat.reduceSub, Nat.reduceMul, Nat.reduceEqDiff, Nat.reduceLT, Nat.reduceLeDiff, Nat.reduceBEq, Nat.reduceBNe, Int.reduceToNat, Int.reduceLE, Int.reduceLT, Int.reduceNe, Int.reduceNeg, reduceCtorEq, Int.reduceBEq, Int.reduceBNe, encB]
  refine ev_loopS [1, 2, 3] (fun i : Nat => [(7, .int .i64 (sumQ ⟨ps, ks, gr, fr, un, fe, st⟩ z (l.take i))), (8, .int .i64 i)])
    (fun i H => i ≤ l.length ∧ H (([], 40000000) : Key) = some (.cells (encB ⟨ps, ks, gr, fr, un, fe, st⟩) 1 false))
    (fun i => l.length - i) 0 ?_ ⟨Nat.zero_le _, ?_⟩ ?_
  · simp only [go_sem, Nat.reduceAdd, Nat.reduceSub, Nat.reduceMul, Nat.reduceEqDiff, Nat.reduceLT, Nat.reduceLeDiff, Nat.reduceBEq, Nat.reduceBNe, Int.reduceToNat, Int.reduceLE, Int.reduceLT, Int.reduceNe, Int.reduceNeg, reduceCtorEq, Int.reduceBEq, Int.reduceBNe, List.take_zero, sumQ, List.foldl_nil, Int.natCast_zero]
  · simp only [go_sem, Nat.reduceAdd, Nat.reduceSub, Nat.reduceMul, Nat.reduceEqDiff, Nat.reduceLT, Nat.reduceLeDiff, Nat.reduceBEq, Nat.reduceBNe, Int.reduceToNat, Int.reduceLE, Int.reduceLT, Int.reduceNe, Int.reduceNeg, reduceCtorEq, Int.reduceBEq, Int.reduceBNe, encB]
  · simp only [go_sem, Nat.reduceAdd, Nat.reduceSub, Nat.reduceMul, Nat.reduceEqDiff, Nat.reduceLT, Nat.reduceLeDiff, Nat.reduceBEq, Nat.reduceBNe, Int.reduceToNat, Int.reduceLE, Int.reduceLT, Int.reduceNe, Int.reduceNeg, reduceCtorEq, Int.reduceBEq, Int.reduceBNe]
    intro K i H ⟨hi, g1⟩ hK hE
    have g1' := g1
    simp only [encB] at g1'
    rw [condK_bool]
    refine ⟨fun h => ?_, fun h => ?_⟩
    · have h' : i < l.length := by simpa using h
      have hii : (i : Int) < (l.length : Int) := by omega
      have w2 : IntKind.i64.wrap ((i : Int) + 1) = ((i + 1 : Nat) : Int) := by rw [Int.natCast_add, Int.natCast_one]; exact wrap_id (by omega)
      have hgq := getD_mapN encQ l i [PV.int .i64 0, .sl [] true] h'
      have hqm := hq (l.getD i default) (by rw [List.getD_eq_getElem?_getD, List.getElem?_eq_getElem h']; exact List.getElem_mem _)
      have ht := htk i h'
      have b1 := hbd (i + 1) h'
      generalize hxx : l.getD i default = q at *
      obtain ⟨kd, qs⟩ := q
      simp only at ht
      have hok := eq_true hqm.1
      simp only at hok
      have w3 : IntKind.i64.wrap (sumQ ⟨ps, ks, gr, fr, un, fe, st⟩ z (l.take i) + costsM ⟨ps, ks, gr, fr, un, fe, st⟩ kd qs z) = sumQ ⟨ps, ks, gr, fr, un, fe, st⟩ z (l.take (i + 1)) := by
        rw [← ht]; exact wrap_id (by omega)
      simp only [go_sem, Nat.reduceAdd, Nat.reduceSub, Nat.reduceMul, Nat.reduceEqDiff, Nat.reduceLT, Nat.reduceLeDiff, Nat.reduceBEq, Nat.reduceBNe, Int.reduceToNat, Int.reduceLE, Int.reduceLT, Int.reduceNe, Int.reduceNeg, reduceCtorEq, Int.reduceBEq, Int.reduceBNe, @callV_spec E24 45 s45 rfl, @callV_specT E24 45 s45 rfl, @stepV_spec E24 45 s45 rfl, @effV_spec E24 45 s45 rfl, s45, callSpec, g1', hdb, hii, h', hgq, encQ, hok, w3, List.length_map]
      refine hK (i + 1) _ _ ?_ ⟨h', ?_⟩ (by omega)
      · simp only [go_sem, Nat.reduceAdd, Nat.reduceSub, Nat.reduceMul, Nat.reduceEqDiff, Nat.reduceLT, Nat.reduceLeDiff, Nat.reduceBEq, Nat.reduceBNe, Int.reduceToNat, Int.reduceLE, Int.reduceLT, Int.reduceNe, Int.reduceNeg, reduceCtorEq, Int.reduceBEq, Int.reduceBNe, w2]
      · simp only [go_sem, Nat.reduceAdd, Nat.reduceSub, Nat.reduceMul, Nat.reduceEqDiff, Nat.reduceLT, Nat.reduceLeDiff, Nat.reduceBEq, Nat.reduceBNe, Int.reduceToNat, Int.reduceLE, Int.reduceLT, Int.reduceNe, Int.reduceNeg, reduceCtorEq, Int.reduceBEq, Int.reduceBNe, g1]
    · have hil : i = l.length := by simp only [decide_eq_false_iff_not] at h; omega
      subst hil
      refine hE _ _ _ (by simp) ?_
      simp only [go_sem, Nat.reduceAdd, Nat.reduceSub, Nat.reduceMul, Nat.reduceEqDiff, Nat.reduceLT, Nat.reduceLeDiff, Nat.reduceBEq, Nat.reduceBNe, Int.reduceToNat, Int.reduceLE, Int.reduceLT, Int.reduceNe, Int.reduceNeg, reduceCtorEq, Int.reduceBEq, Int.reduceBNe, hfull]
def s40 : Spec := spec3 (fun (b : PBook) (l : List Parc) (z : Int) => l.length ≤ 127 ∧ ∀ q ∈ l, okQ b z q) (fun b l z => .int .i64 (sumQ b z l))
theorem s40_ok : SpecOK Tryd.prog glB 40 s40 := spec3_ok E24_ok Tryd.func40 rfl (by kernel_rfl) fun b l z h => whole40_fn b l z h.1 h.2
end Wb
/- A division that numbers choose (no program in sight). -/
namespace Wb
open Go Go.Proofs Enc Row
set_option linter.unusedSimpArgs false
set_option linter.unusedVariables false
set_option maxRecDepth 20000
set_option maxHeartbeats 4000000
def takeF (bits : List Int) (n : Int) : Int := if bits.length = 0 then 0 else bits.getD (spinF n bits.length).toNat 0
/-- The next parcel that is free, from one on. -/
def findK (n : Nat) (S : List (List Int)) : Nat → Int → Int
  | 0, k => k
  | f + 1, k => if ((S.getD k.toNat []).length : Int) > 0 then findK n S f (spinF (k + 1) n) else k
def kOf (b : PBook) (bits : List Int) (S : List (List Int)) (i : Nat) : Int :=
  if (b.pieces.getD i default).alone then findK b.pieces.length S b.pieces.length (spinF (takeF bits i) b.pieces.length) else spinF (takeF bits i) b.pieces.length
def setsF (b : PBook) (bits : List Int) : Nat → List (List Int)
  | 0 => [[], [], [], [], [], [], []]
  | i + 1 => (setsF b bits i).set (kOf b bits (setsF b bits i) i).toNat ((setsF b bits i).getD (kOf b bits (setsF b bits i) i).toNat [] ++ [(i : Int)])
theorem findK_range {n : Nat} (hn : 1 ≤ n) (S : List (List Int)) : ∀ (f : Nat) (k : Int), 0 ≤ k ∧ k < n → 0 ≤ findK n S f k ∧ findK n S f k < n
  | 0, _, h => h
  | f + 1, k, h => by
    unfold findK
    split
    · exact findK_range hn S f _ (spin_range (m := (n : Int)) (by omega))
    · exact h
theorem kOf_range {b : PBook} (h1 : 1 ≤ b.pieces.length) (bits : List Int) (S : List (List Int)) (i : Nat) : 0 ≤ kOf b bits S i ∧ kOf b bits S i < b.pieces.length := by
  unfold kOf
  split
  · exact findK_range h1 S _ _ (spin_range (m := (b.pieces.length : Int)) (by omega))
  · exact spin_range (m := (b.pieces.length : Int)) (by omega)
theorem setsF_len (b : PBook) (bits : List Int) : ∀ i, (setsF b bits i).length = 7
  | 0 => rfl
  | i + 1 => by rw [setsF, List.length_set, setsF_len b bits i]
theorem climbs_app : ∀ (l : List Int) (i : Nat) (c : Int), c < i → climbsF i c l = true → climbsF ((i + 1 : Nat) : Int) c (l ++ [(i : Int)]) = true
  | [], i, c, h, _ => by simp [climbsF]; omega
  | a :: l, i, c, h, hc => by
    simp only [climbsF, Bool.and_eq_true, decide_eq_true_eq] at hc
    simp only [List.cons_append, climbsF, Bool.and_eq_true, decide_eq_true_eq]
    refine ⟨⟨hc.1.1, by omega⟩, climbs_app l i a (by omega) hc.2⟩
theorem climbs_up : ∀ (l : List Int) (i : Nat) (c : Int), climbsF i c l = true → climbsF ((i + 1 : Nat) : Int) c l = true
  | [], _, _, _ => rfl
  | a :: l, i, c, hc => by
    simp only [climbsF, Bool.and_eq_true, decide_eq_true_eq] at hc ⊢
    exact ⟨⟨hc.1.1, by omega⟩, climbs_up l i a hc.2⟩
/-- In how many of the first parcels a piece is. -/
def cntS (S : List (List Int)) (m : Nat) (j : Nat) : Nat := ((List.range m).filter fun k => decide ((j : Int) ∈ S.getD k [])).length
theorem cntS_succ (S : List (List Int)) (m j : Nat) : cntS S (m + 1) j = cntS S m j + if (j : Int) ∈ S.getD m [] then 1 else 0 := by
  unfold cntS
  rw [List.range_succ, List.filter_append, List.length_append]
  congr 1
  by_cases h : (j : Int) ∈ S.getD m []
  · rw [if_pos h, List.filter_cons, if_pos (by simpa using h)]; rfl
  · rw [if_neg h, List.filter_cons, if_neg (by simpa using h)]; rfl
theorem cntS_zero (S : List (List Int)) (m j : Nat) (h : ∀ k, k < m → (j : Int) ∉ S.getD k []) : cntS S m j = 0 := by
  unfold cntS
  rw [List.length_eq_zero_iff, List.filter_eq_nil_iff]
  intro k hk
  simpa using h k (List.mem_range.1 hk)
theorem cntS_same (S S' : List (List Int)) (j : Nat) : ∀ m, (∀ k, k < m → ((j : Int) ∈ S'.getD k [] ↔ (j : Int) ∈ S.getD k [])) → cntS S' m j = cntS S m j
  | 0, _ => rfl
  | m + 1, h => by
    rw [cntS_succ, cntS_succ, cntS_same S S' j m fun k hk => h k (by omega)]
    simp only [h m (by omega)]
theorem cntS_one (S : List (List Int)) (j c : Nat) : ∀ m, (∀ k, k < m → ((j : Int) ∈ S.getD k [] ↔ k = c)) → cntS S m j = if c < m then 1 else 0
  | 0, _ => rfl
  | m + 1, h => by
    rw [cntS_succ, cntS_one S j c m fun k hk => h k (by omega)]
    simp only [h m (by omega)]
    by_cases e : m = c
    · subst e; simp
    · by_cases e2 : c < m
      · rw [if_pos e2, if_neg e, if_pos (by omega)]
      · rw [if_neg e2, if_neg e, if_neg (by omega)]
theorem getD_set (S : List (List Int)) {c : Nat} (hc : c < S.length) (l : List Int) (k : Nat) : (S.set c l).getD k [] = if k = c then l else S.getD k [] := by
  rw [List.getD_eq_getElem?_getD, List.getElem?_set]
  by_cases e : c = k
  · subst e; simp [hc]
  · rw [if_neg e, if_neg (fun h => e h.symm), List.getD_eq_getElem?_getD]
theorem setsF_ok {b : PBook} (hG : GBook b) (bits : List Int) : ∀ i, i ≤ b.pieces.length → (∀ k, k < 7 → climbsF i (-1) ((setsF b bits i).getD k []) = true) ∧ ∀ j, j < i → cntS (setsF b bits i) 7 j = 1
  | 0, _ => by
    refine ⟨fun k hk => ?_, fun j h => by omega⟩
    have : (setsF b bits 0).getD k [] = [] := by
      rcases (show k = 0 ∨ k = 1 ∨ k = 2 ∨ k = 3 ∨ k = 4 ∨ k = 5 ∨ k = 6 by omega) with rfl | rfl | rfl | rfl | rfl | rfl | rfl <;> rfl
    rw [this]; rfl
  | i + 1, hi => by
    obtain ⟨h1, h2⟩ := setsF_ok hG bits i (by omega)
    have hl := setsF_len b bits i
    obtain ⟨k1, k2⟩ := kOf_range hG.p1 bits (setsF b bits i) i
    have hp7 := hG.p7
    rw [setsF]
    generalize setsF b bits i = S at *
    obtain ⟨c, hc⟩ : ∃ c : Nat, kOf b bits S i = (c : Int) := ⟨(kOf b bits S i).toNat, by omega⟩
    rw [hc, Int.toNat_natCast]
    have hc7 : c < 7 := by omega
    have hg := getD_set S (c := c) (by omega) (S.getD c [] ++ [(i : Int)])
    refine ⟨fun k hk => ?_, fun j hj => ?_⟩
    · rw [hg k]
      split
      · exact climbs_app _ i (-1) (by omega) (h1 c hc7)
      · exact climbs_up _ i (-1) (h1 k hk)
    · by_cases e : j = i
      · subst e
        rw [cntS_one _ j c 7 fun k hk => ?_, if_pos hc7]
        rw [hg k]
        split
        · rename_i e; simp [e]
        · rename_i e
          refine ⟨fun hm => ?_, fun h => absurd h e⟩
          have := climbs_mem _ _ (h1 k hk) _ hm; omega
      · rw [cntS_same S _ j 7 fun k hk => ?_]
        · exact h2 j (by omega)
        · rw [hg k]
          split
          · rename_i e2
            subst e2
            rw [List.mem_append, List.mem_singleton]
            constructor
            · rintro (h | h)
              · exact h
              · omega
            · exact .inl
          · exact Iff.rfl
/-- The kind that is found among the first ones. -/
def kindN (b : PBook) (l : List Int) (first : Int) : Nat → Int
  | 0 => -1
  | m + 1 => if kindN b l first m < 0 then (if takesM b (spinF (first + m) b.kinds.length) l then spinF (first + m) b.kinds.length else -1) else kindN b l first m
theorem kindN_ok {b : PBook} (h1 : 1 ≤ b.kinds.length) (l : List Int) (first : Int) : ∀ m, kindN b l first m = -1 ∨ ((0 ≤ kindN b l first m ∧ kindN b l first m < b.kinds.length) ∧ takesM b (kindN b l first m) l = true)
  | 0 => .inl rfl
  | m + 1 => by
    have ih := kindN_ok h1 l first m
    rw [kindN]
    split
    · split
      · rename_i h; exact .inr ⟨spin_range (by omega), h⟩
      · exact .inl rfl
    · exact ih
theorem kindN_stay (b : PBook) (l : List Int) (first : Int) (m : Nat) (h : 0 ≤ kindN b l first m) : ∀ d, kindN b l first (m + d) = kindN b l first m
  | 0 => rfl
  | d + 1 => by
    have ih := kindN_stay b l first m h d
    rw [← Nat.add_assoc, kindN, ih, if_neg (by omega)]
def kindF (b : PBook) (bits : List Int) (S : List (List Int)) (k : Nat) : Int := kindN b (S.getD k []) (spinF (takeF bits ((k : Int) + 3)) b.kinds.length) b.kinds.length
def outF (b : PBook) (bits : List Int) (S : List (List Int)) : Nat → Option (List Parc)
  | 0 => some []
  | k + 1 => match outF b bits S k with
    | none => none
    | some o => if ((S.getD k []).length : Int) == 0 then some o else if kindF b bits S k < 0 then none else some (o ++ [⟨kindF b bits S k, S.getD k []⟩])
theorem outF_none {b : PBook} {bits : List Int} {S : List (List Int)} {k : Nat} (h : outF b bits S k = none) : ∀ d, outF b bits S (k + d) = none
  | 0 => h
  | d + 1 => by rw [← Nat.add_assoc, outF, outF_none h d]
def packedM (b : PBook) (bits : List Int) : List Parc × Bool := match outF b bits (setsF b bits b.pieces.length) 7 with
  | some o => (o, true)
  | none => ([], false)
theorem toldL_append (L M : List (Nat × Nat)) : toldL (L ++ M) = toldL L ++ toldL M := by unfold toldL; simp
theorem cnt_append (L M : List (Nat × Nat)) (j : Nat) : cnt (L ++ M) j = cnt L j + cnt M j := by unfold cnt; simp
theorem outF_ok {b : PBook} (hG : GBook b) (bits : List Int) {S : List (List Int)} (hS : ∀ k, k < 7 → climbsF b.pieces.length (-1) (S.getD k []) = true) :
    ∀ m, m ≤ 7 → ∀ o, outF b bits S m = some o → ∃ L, o = toldL L ∧ L.length ≤ m ∧ GoodL b 0 L ∧ ∀ j, cnt L j = cntS S m j
  | 0, _, o, h => by
    rw [outF] at h; cases h
    exact ⟨[], rfl, Nat.le_refl _, (fun x hx => by cases hx), fun j => rfl⟩
  | m + 1, hm, o, h => by
    rw [outF] at h
    cases ho : outF b bits S m with
    | none => rw [ho] at h; cases h
    | some o' =>
      rw [ho] at h
      obtain ⟨L, l1, l2, l3, l4⟩ := outF_ok hG bits hS m (by omega) o' ho
      have hc := hS m (by omega)
      simp only at h
      by_cases he : ((S.getD m []).length : Int) = 0
      · rw [if_pos (by simpa using he)] at h
        cases h
        refine ⟨L, l1, by omega, l3, fun j => ?_⟩
        have : S.getD m [] = [] := List.length_eq_zero_iff.1 (by omega)
        rw [l4, cntS_succ, this]; simp
      · rw [if_neg (by simpa using he)] at h
        have hk := kindN_ok hG.k1 (S.getD m []) (spinF (takeF bits ((m : Int) + 3)) b.kinds.length) b.kinds.length
        have hkf : kindF b bits S m = kindN b (S.getD m []) (spinF (takeF bits ((m : Int) + 3)) b.kinds.length) b.kinds.length := rfl
        rw [← hkf] at hk
        generalize kindF b bits S m = kd at *
        rcases hk with hk | ⟨⟨k1, k2⟩, k3⟩
        · rw [if_pos (by omega)] at h; cases h
        · rw [if_neg (by omega)] at h
          cases h
          have hl := climb_of hG.p7 hc
          have hmem := climbs_mem _ _ hc
          have hne : S.getD m [] ≠ [] := fun e => he (by rw [e]; rfl)
          have hpos := putS_pos (fun k hk => by have := hmem k hk; omega) hne
          have hlt := putS_pow (n := b.pieces.length) fun k hk => by have := hmem k hk; omega
          have hbit : ∀ j : Nat, (putS (S.getD m [])).testBit j = true ↔ (j : Int) ∈ S.getD m [] := fun j => by
            unfold putS
            rw [putS_bit _ 0 _ fun k hk => by have := hmem k hk; omega]
            simp
          generalize hss : putS (S.getD m []) = s at *
          obtain ⟨kn, rfl⟩ : ∃ kn : Nat, kd = (kn : Int) := ⟨kd.toNat, by omega⟩
          refine ⟨L ++ [(kn, s)], ?_, by rw [List.length_append]; simp only [List.length_cons, List.length_nil]; omega, fun x hx => ?_, fun j => ?_⟩
          · rw [toldL_append, l1]
            unfold toldL
            simp only [List.map_cons, List.map_nil]
            rw [← hl]
          · rcases List.mem_append.1 hx with hx | hx
            · exact l3 x hx
            · rw [List.mem_singleton.1 hx]
              refine ⟨by simp only; omega, hpos, hlt, ?_⟩
              rw [hl] at k3
              rw [← takes_fits hG hlt]; exact k3
          · rw [cnt_append, l4, cntS_succ]
            congr 1
            unfold cnt
            by_cases hj : (j : Int) ∈ S.getD m []
            · rw [if_pos hj, List.filter_cons, if_pos (by simpa using (hbit j).2 hj)]; rfl
            · rw [if_neg hj, List.filter_cons, if_neg (by simpa using fun h => hj ((hbit j).1 h))]; rfl
theorem good_div {b : PBook} (hG : GBook b) {z : Int} (hz : 0 ≤ z ∧ z ≤ 4) {L : List (Nat × Nat)} (hL : GoodL b 0 L) (hc : ∀ j, cnt L j = if j < b.pieces.length then 1 else 0) : IsDiv b.kinds.length (postG b z) (2 ^ b.pieces.length - 1) L := by
  refine ⟨fun x hx => ?_, fun j => ?_⟩
  · obtain ⟨g1, g2, g3, g4⟩ := hL x hx
    refine ⟨g1, Nat.lt_of_lt_of_le g3 (two7 hG.p7), by omega, fun e => ?_⟩
    rw [(postG_zero hG hz g1 g2 g3).1 e] at g4; cases g4
  · have := hc j
    unfold cnt at this
    rw [this, Nat.testBit_two_pow_sub_one]
    simp
/-- What numbers choose is a division. -/
theorem packed_ok {b : PBook} (hG : GBook b) (bits : List Int) (h : (packedM b bits).2 = true) : ∃ L, (packedM b bits).1 = toldL L ∧ L.length ≤ 7 ∧ GoodL b 0 L ∧ ∀ j, cnt L j = if j < b.pieces.length then 1 else 0 := by
  unfold packedM at *
  obtain ⟨s1, s2⟩ := setsF_ok hG bits b.pieces.length (Nat.le_refl _)
  cases ho : outF b bits (setsF b bits b.pieces.length) 7 with
  | none => rw [ho] at h; cases h
  | some o =>
    obtain ⟨L, l1, l2, l3, l4⟩ := outF_ok hG bits s1 7 (Nat.le_refl _) o ho
    refine ⟨L, l1, l2, l3, fun j => ?_⟩
    rw [l4]
    by_cases hj : j < b.pieces.length
    · rw [if_pos hj]; exact s2 j hj
    · rw [if_neg hj]
      refine cntS_zero _ _ _ fun k hk hm => ?_
      have := climbs_mem _ _ (s1 k hk) _ hm; omega
theorem packed_len (b : PBook) (bits : List Int) (hG : GBook b) : (packedM b bits).1.length ≤ 7 := by
  cases h : (packedM b bits).2 with
  | true => obtain ⟨L, h1, h2, _⟩ := packed_ok hG bits h; rw [h1, toldL_len]; exact h2
  | false =>
    unfold packedM at *
    cases ho : outF b bits (setsF b bits b.pieces.length) 7 with
    | none => simp
    | some o => rw [ho] at h; cases h
end Wb
/- The piece in one parcel: what the law asks (no program in sight). -/
namespace Wb
open Go Go.Proofs Enc Row
set_option linter.unusedSimpArgs false
set_option linter.unusedVariables false
set_option maxRecDepth 20000
set_option maxHeartbeats 4000000
theorem bigL_climbs (b : PBook) : ∀ n : Nat, climbsF n (-1) (bigL b n) = true
  | 0 => rfl
  | n + 1 => by
    have ih := bigL_climbs b n
    rw [bigL_succ]
    split
    · exact climbs_app _ n (-1) (by omega) ih
    · rw [List.append_nil]; exact climbs_up _ n (-1) ih
theorem ones_div {b : PBook} (hG : GBook b) (h : ∀ i, i < b.pieces.length → ∃ k, k < b.kinds.length ∧ fitsB b k (2 ^ i) = true) : ∀ m, m ≤ b.pieces.length → ∃ L, GoodL b 0 L ∧ ∀ j, cnt L j = if j < m then 1 else 0
  | 0, _ => ⟨[], (fun x hx => by cases hx), fun j => by simp [cnt]⟩
  | m + 1, hm => by
    obtain ⟨L, l1, l2⟩ := ones_div hG h m (by omega)
    obtain ⟨k, k1, k2⟩ := h m (by omega)
    refine ⟨L ++ [(k, 2 ^ m)], fun x hx => ?_, fun j => ?_⟩
    · rcases List.mem_append.1 hx with hx | hx
      · exact l1 x hx
      · rw [List.mem_singleton.1 hx]
        exact ⟨k1, Nat.two_pow_pos m, (Nat.pow_lt_pow_iff_right (a := 2) (by decide)).2 (by omega), k2⟩
    · rw [cnt_append, l2]
      have e : cnt [(k, 2 ^ m)] j = if m = j then 1 else 0 := by
        unfold cnt
        by_cases hj : m = j
        · subst hj; simp
        · rw [if_neg hj, List.filter_cons, if_neg (by simp only; rw [Nat.testBit_two_pow]; simpa using hj)]; rfl
      rw [e]
      by_cases h1 : m = j
      · subst h1; simp
      · by_cases h2 : j < m
        · rw [if_pos h2, if_neg h1, if_pos (by omega)]
        · rw [if_neg h2, if_neg h1, if_neg (by omega)]
theorem whole_some {b : PBook} (hG : GBook b) {z : Int} (hz : 0 ≤ z ∧ z ≤ 4) : 0 ≤ (dvOf true b z (2 ^ b.pieces.length - 1)).2 ↔ bigL b b.pieces.length = [] := by
  rw [dv_some hG hz (pow7 hG).1]
  constructor
  · rintro ⟨L, hL⟩
    refine List.eq_nil_iff_forall_not_mem.2 fun j hj => ?_
    obtain ⟨i, hi, h1, rfl⟩ := mem_bigL.1 hj
    have h2 := hL.once i
    rw [Nat.testBit_two_pow_sub_one] at h2
    simp only [hi, decide_true, if_true] at h2
    obtain ⟨x, hx⟩ := List.exists_mem_of_length_pos (by rw [h2]; decide)
    obtain ⟨hx, hb⟩ := List.mem_filter.1 hx
    obtain ⟨g1, g2, g3, g4⟩ := isDiv_good hG hz (pow7 hG).2 hL x hx
    have : fitsB b x.1 (2 ^ i) = true := fits_less hG (Nat.two_pow_pos i) g3 (fun j hj => by
      rw [Nat.testBit_two_pow] at hj
      have : i = j := by simpa using hj
      subst this; exact hb) g4
    have := (one_some (c := false) hG (z := 0) (by decide) hi).2 ⟨x.1, g1, this⟩
    omega
  · intro h
    obtain ⟨L, l1, l2⟩ := ones_div hG (fun i hi => by
      refine (one_some (c := false) hG (z := 0) (by decide) hi).1 ?_
      by_cases h1 : 0 ≤ (dvOf false b 0 (2 ^ i)).2
      · exact h1
      · have : (i : Int) ∈ bigL b b.pieces.length := mem_bigL.2 ⟨i, hi, by omega, rfl⟩
        rw [h] at this; cases this) b.pieces.length (Nat.le_refl _)
    exact ⟨L, good_div hG hz l1 l2⟩
theorem sumQ_from (b : PBook) (z : Int) : ∀ (l : List Parc) (a : Int), l.foldl (fun a q => a + costsM b q.kind q.pieces z) a = a + sumQ b z l
  | [], a => by simp [sumQ]
  | q :: l, a => by
    unfold sumQ
    rw [List.foldl_cons, List.foldl_cons, sumQ_from b z l, sumQ_from b z l (0 + _)]; omega
theorem sumQ_told {b : PBook} {z : Int} : ∀ L : List (Nat × Nat), GoodL b 0 L → sumQ b z (toldL L) = sumW (postG b z) L
  | [], _ => rfl
  | x :: L, h => by
    obtain ⟨g1, g2, g3, g4⟩ := h x (by simp)
    have hc : sumQ b z (toldL (x :: L)) = costsM b (x.1 : Int) (ofS x.2 7) z + sumQ b z (toldL L) := by
      unfold toldL
      rw [List.map_cons]
      show List.foldl _ _ _ = _
      rw [List.foldl_cons, sumQ_from]
      simp only; omega
    rw [hc, sumQ_told L fun y hy => h y (by simp [hy]), sumW, postG_fit g1 g2 g3 g4]
theorem okQ_told {b : PBook} (hG : GBook b) {z : Int} (hz : 0 ≤ z ∧ z ≤ 4) {L : List (Nat × Nat)} (h : GoodL b 0 L) : ∀ q ∈ toldL L, okQ b z q := fun q hq => by
  unfold toldL at hq
  obtain ⟨x, hx, rfl⟩ := List.mem_map.1 hq
  obtain ⟨g1, g2, g3, g4⟩ := h x hx
  have hp := postG_nonneg hG hz x.1 x.2
  rw [postG_fit g1 g2 g3 g4] at hp
  refine ⟨⟨⟨hG, ⟨by simp only; omega, by simp only; omega⟩, inP_of g3, Nat.le_trans (ofS_len x.2 7) (by decide)⟩, ?_, hz⟩, hp⟩
  simp only
  rw [sumP_allF]; exact weight_pos hG g2 g3
/-- A division that is told is no worse than any other one. -/
theorem once_facts {b : PBook} (hb : bookOk b = true) {z : Int} (hz : 0 ≤ z ∧ z ≤ 4) (bits : List Int) :
    (wholeM true b z = (([], 0), 4) ∧ wholeM false b 0 = (([], 0), 4) ∧ bigL b b.pieces.length ≠ [] ∧ (packedM b bits).2 = false) ∨
    ∃ L F d, wholeM true b z = ((L, sumW (postG b z) L), 0) ∧ wholeM false b 0 = ((F, d), 0) ∧ bigL b b.pieces.length = [] ∧ GoodL b 0 L ∧ L.length ≤ 127 ∧ (∀ j, j < b.pieces.length → cnt L j = 1) ∧ 1 ≤ F.length ∧ F.length ≤ L.length ∧
      ((packedM b bits).2 = true → ∃ M, (packedM b bits).1 = toldL M ∧ M.length ≤ 7 ∧ GoodL b 0 M ∧ isDivM b (toldL M) = (true, 0) ∧ (sumW (postG b z) L < sumW (postG b z) M ∨ sumW (postG b z) M = sumW (postG b z) L ∧ L.length ≤ M.length) ∧ F.length ≤ M.length) := by
  have hG := book_good hb
  have h0 : (0 : Int) ≤ 0 ∧ (0 : Int) ≤ 4 := by decide
  have hws := whole_some hG hz
  have hw0 := whole_some hG h0
  rw [whole_eq hb hz, whole_eq hb h0]
  have exf : 0 ≤ (dvOf true b 0 (2 ^ b.pieces.length - 1)).2 ↔ 0 ≤ (dvOf false b 0 (2 ^ b.pieces.length - 1)).2 := by
    rw [dv_some hG h0 (pow7 hG).1, dv_some hG h0 (pow7 hG).1]
  have hgz : ∀ L, GoodL b 0 L → GoodL b z L := fun L h x hx => h x hx
  by_cases h1 : (dvOf true b z (2 ^ b.pieces.length - 1)).2 < 0
  · have hn : bigL b b.pieces.length ≠ [] := fun e => by have := hws.2 e; omega
    have h2 : (dvOf false b 0 (2 ^ b.pieces.length - 1)).2 < 0 := by
      have : ¬ 0 ≤ (dvOf true b 0 (2 ^ b.pieces.length - 1)).2 := fun h => hn (hw0.1 h)
      omega
    rw [if_pos h1, if_pos h2]
    refine .inl ⟨rfl, rfl, hn, ?_⟩
    rw [← Bool.not_eq_true]
    intro hp
    obtain ⟨M, m1, m2, m3, m4⟩ := packed_ok hG bits hp
    have := (dv_some (c := true) hG hz (pow7 hG).1).2 ⟨M, good_div hG hz m3 m4⟩
    omega
  · have he : bigL b b.pieces.length = [] := hws.1 (by omega)
    have h2 : ¬ (dvOf false b 0 (2 ^ b.pieces.length - 1)).2 < 0 := by
      have := hw0.2 he; omega
    rw [if_neg h1, if_neg h2]
    rcases best_dv true hG hz (pow7 hG).1 with ⟨e, _⟩ | ⟨_, d2, d3, d4⟩
    · rw [e] at h1; simp at h1
    · rcases best_dv false hG h0 (pow7 hG).1 with ⟨e, _⟩ | ⟨_, f2, f3, f4⟩
      · rw [e] at h2; simp at h2
      · have hLl := div_len _ _ (pow7 hG).1 d2
        have hgl := isDiv_good hG hz (pow7 hG).2 d2
        generalize hD : dvOf true b z (2 ^ b.pieces.length - 1) = D at *
        generalize hF : dvOf false b 0 (2 ^ b.pieces.length - 1) = F at *
        obtain ⟨L, c⟩ := D
        obtain ⟨FL, fd⟩ := F
        simp only at d2 d3 f2 hLl hgl
        subst d3
        have hcnt : ∀ (z : Int) (L : List (Nat × Nat)), IsDiv b.kinds.length (postG b z) (2 ^ b.pieces.length - 1) L → ∀ j, j < b.pieces.length → cnt L j = 1 := fun z L h j hj => by
          have := h.once j
          rw [Nat.testBit_two_pow_sub_one] at this
          simp only [hj, decide_true, if_true] at this
          exact this
        have hfew : ∀ M, IsDiv b.kinds.length (postG b 0) (2 ^ b.pieces.length - 1) M → FL.length ≤ M.length := fun M hM => by
          obtain ⟨m, m1, m2⟩ := bestK_min (w := wOf false (postG b 0)) 128 _ (pow7 hG).1 (pow7 hG).1 M hM
          rw [m1] at f4
          cases f4
          rw [lt2_not, sumW_one] at m2
          unfold keyD at m2
          rw [if_neg (by simp)] at m2
          simp only at m2
          omega
        refine .inr ⟨L, FL, fd, rfl, rfl, he, hgl, ?_, hcnt z L d2, ?_, hfew L (div_zone hG hz h0 (pow7 hG).2 d2), fun hp => ?_⟩
        · have := (pow7 hG).1; omega
        · have := hcnt 0 FL f2 0 (by have := hG.p1; omega)
          cases FL with
          | nil => simp [cnt] at this
          | cons a l => simp
        · obtain ⟨M, m1, m2, m3, m4⟩ := packed_ok hG bits hp
          have hM := good_div hG hz m3 m4
          refine ⟨M, m1, m2, m3, told_div hb hz hM, ?_, hfew M (good_div hG h0 m3 m4)⟩
          obtain ⟨m, k1, k2⟩ := bestK_min (w := wOf true (postG b z)) 128 _ (pow7 hG).1 (pow7 hG).1 M hM
          rw [k1] at d4
          cases d4
          rw [lt2_not, wOf_true] at k2
          unfold keyD at k2
          rw [if_pos rfl] at k2
          simp only at k2
          omega
end Wb
/- Are parcels a division? (the laws' divides, where they are one) -/
namespace Wb
open Go Go.Proofs Enc Row
set_option linter.unusedSimpArgs false
set_option linter.unusedVariables false
set_option maxRecDepth 20000
set_option maxHeartbeats 4000000
/-- How often each piece was met, as cells. -/
def metC (f : Nat → Nat) : List PV := (List.range 7).map fun j => .int .i64 (f j : Nat)
theorem metC_get (f : Nat → Nat) {q : Nat} (h : q < 7) (d : PV) : (metC f).getD q d = .int .i64 (f q : Nat) := by unfold metC; simp [List.getD_eq_getElem?_getD, h]
theorem metC_set (f : Nat → Nat) (q v : Nat) : (metC f).set q (.int .i64 (v : Nat)) = metC fun j => if j = q then v else f j := by
  unfold metC
  apply List.ext_getElem?
  intro j
  rw [List.getElem?_set]
  by_cases e : q = j
  · subst e
    by_cases h : q < 7
    · simp [h]
    · simp [h]
  · rw [if_neg e]
    by_cases h : j < 7
    · simp [h, Ne.symm e]
    · simp [h]
theorem metC_len (f : Nat → Nat) : (metC f).length = 7 := by unfold metC; simp
theorem metC_congr {f g : Nat → Nat} (h : ∀ j, j < 7 → f j = g j) : metC f = metC g := by
  unfold metC
  exact List.map_congr_left fun j hj => by rw [h j (List.mem_range.1 hj)]
theorem metC_zero : metC (fun _ => 0) = [.int .i64 0, .int .i64 0, .int .i64 0, .int .i64 0, .int .i64 0, .int .i64 0, .int .i64 0] := rfl
theorem climbs_new : ∀ (l : List Int) (n c : Int) (k : Nat), climbsF n c l = true → k < l.length → l.getD k 0 ∉ l.take k
  | [], _, _, _, _, h => by simp at h
  | a :: l, n, c, 0, _, _ => by simp
  | a :: l, n, c, k + 1, hc, h => by
    simp only [climbsF, Bool.and_eq_true, decide_eq_true_eq] at hc
    have hk : k < l.length := by simpa using h
    have hm : l.getD k 0 ∈ l := by simp [List.getD_eq_getElem?_getD, hk]
    have h1 := climbs_mem l a hc.2 _ hm
    rw [List.take_succ_cons, List.getD_cons_succ, List.mem_cons]
    rintro (e | e)
    · omega
    · exact climbs_new l n a k hc.2 hk e
theorem cnt_take {L : List (Nat × Nat)} {i : Nat} (h : i < L.length) (j : Nat) : cnt (L.take (i + 1)) j = cnt (L.take i) j + if (L.getD i default).2.testBit j then 1 else 0 := by
  rw [List.take_succ_eq_append_getElem h, cnt_append]
  congr 1
  have e : L.getD i default = L[i] := by simp [h]
  rw [e]
  unfold cnt
  rw [List.filter_cons]
  split <;> rfl
def isDv (b : PBook) (L : List (Nat × Nat)) : Prop := bookOk b = true ∧ GoodL b 0 L ∧ L.length ≤ 127 ∧ ∀ j, j < b.pieces.length → cnt L j = 1
theorem divides_fn (b : PBook) (L : List (Nat × Nat)) (hI : isDv b L) : Fn E24 0 39 Tryd.f39 (Tryd.f39.body.getD .skip) [.agg (encB b), .sl ((toldL L).map encQ) false] (.bool true) := by
  obtain ⟨hb, hL, hlen, hc⟩ := hI
  have hdb : (dec (.agg (encB b)) : Option PBook) = some b := dec_book b
  have hG := book_good hb
  have p7 := hG.p7
  have k4 := hG.k4
  have htl := toldL_len L
  have hgood : ∀ x ∈ L, (x.1 < b.kinds.length ∧ 0 < x.2 ∧ x.2 < 2 ^ b.pieces.length) ∧ takesM b (x.1 : Int) (ofS x.2 7) = true ∧ okTake b (x.1 : Int) (ofS x.2 7) ∧ climbsF b.pieces.length (-1) (ofS x.2 7) = true ∧ (ofS x.2 7) ≠ [] := fun x hx => by
    obtain ⟨g1, g2, g3, g4⟩ := hL x hx
    have h128 := Nat.lt_of_lt_of_le g3 (two7 p7)
    exact ⟨⟨g1, g2, g3⟩, by rw [takes_fits hG g3]; exact g4, ⟨hG, ⟨by omega, by omega⟩, inP_of g3, Nat.le_trans (ofS_len x.2 7) (by decide)⟩, climbs_all _ (by omega) _ h128 g3, ofS_ne g2 g3 p7⟩
  have hcz : (fun j => cnt ([] : List (Nat × Nat)) j) = fun _ => 0 := by funext j; rfl
  unfold Fn Tryd.f39
  obtain ⟨ps, ks, gr, fr, un, fe, st⟩ := b
  simp only [encB] at hdb
  simp only at p7 k4 hc hgood
  have wk1 : IntKind.i64.wrap ((ks.length : Int) - 1) = (ks.length : Int) - 1 := wrap_id (by omega)
  simp only [go_sem, Nat.reduceAdd, Nat.reduceSub, Nat.reduceMul, Nat.reduceEqDiff, Nat.reduceLT, Nat.reduceLeDiff, Nat.reduceBEq, Nat.reduceBNe, Int.reduceToNat, Int.reduceLE, Int.reduceLT, Int.reduceNe, Int.reduceNeg, reduceCtorEq, Int.reduceBEq, Int.reduceBNe, encB]
  refine ev_loopS [1, 2, 5] (fun i : Nat => [(6, .int .i64 i)])
    (fun i H => i ≤ L.length ∧ H (([], 39000000) : Key) = some (.cells (encB ⟨ps, ks, gr, fr, un, fe, st⟩) 1 false) ∧ H (([], 39001000) : Key) = some (.cells (metC fun j => cnt (L.take i) j) 1 false))
    (fun i => L.length - i) 0 ?_ ⟨Nat.zero_le _, ?_, ?_⟩ ?_
  · simp only [go_sem, Nat.reduceAdd, Nat.reduceSub, Nat.reduceMul, Nat.reduceEqDiff, Nat.reduceLT, Nat.reduceLeDiff, Nat.reduceBEq, Nat.reduceBNe, Int.reduceToNat, Int.reduceLE, Int.reduceLT, Int.reduceNe, Int.reduceNeg, reduceCtorEq, Int.reduceBEq, Int.reduceBNe, Int.natCast_zero]
  · simp only [go_sem, Nat.reduceAdd, Nat.reduceSub, Nat.reduceMul, Nat.reduceEqDiff, Nat.reduceLT, Nat.reduceLeDiff, Nat.reduceBEq, Nat.reduceBNe, Int.reduceToNat, Int.reduceLE, Int.reduceLT, Int.reduceNe, Int.reduceNeg, reduceCtorEq, Int.reduceBEq, Int.reduceBNe, encB]
  · rw [List.take_zero, hcz, metC_zero]
    simp only [go_sem, Nat.reduceAdd, Nat.reduceSub, Nat.reduceMul, Nat.reduceEqDiff, Nat.reduceLT, Nat.reduceLeDiff, Nat.reduceBEq, Nat.reduceBNe, Int.reduceToNat, Int.reduceLE, Int.reduceLT, Int.reduceNe, Int.reduceNeg, reduceCtorEq, Int.reduceBEq, Int.reduceBNe]
  · simp only [go_sem, Nat.reduceAdd, Nat.reduceSub, Nat.reduceMul, Nat.reduceEqDiff, Nat.reduceLT, Nat.reduceLeDiff, Nat.reduceBEq, Nat.reduceBNe, Int.reduceToNat, Int.reduceLE, Int.reduceLT, Int.reduceNe, Int.reduceNeg, reduceCtorEq, Int.reduceBEq, Int.reduceBNe]
    intro K i H ⟨hi, g1, g2⟩ hK hE
    have g1' := g1
    simp only [encB] at g1'
    simp only [go_sem, Nat.reduceAdd, Nat.reduceSub, Nat.reduceMul, Nat.reduceEqDiff, Nat.reduceLT, Nat.reduceLeDiff, Nat.reduceBEq, Nat.reduceBNe, Int.reduceToNat, Int.reduceLE, Int.reduceLT, Int.reduceNe, Int.reduceNeg, reduceCtorEq, Int.reduceBEq, Int.reduceBNe, List.length_map, htl]
    rw [condK_bool]
    refine ⟨fun h => ?_, fun h => ?_⟩
    · have h' : i < L.length := by simpa using h
      have hjt : i < (toldL L).length := by rw [htl]; exact h'
      have hii : (i : Int) < (L.length : Int) := by omega
      have w2 : IntKind.i64.wrap ((i : Int) + 1) = ((i + 1 : Nat) : Int) := by rw [Int.natCast_add, Int.natCast_one]; exact wrap_id (by omega)
      have hgq := getD_mapN encQ (toldL L) i [PV.int .i64 0, .sl [] true] hjt
      rw [told_get (b := ⟨ps, ks, gr, fr, un, fe, st⟩) (z := 0) h'] at hgq
      obtain ⟨⟨x1, x2, x3⟩, x4, x5, x6, x7⟩ := hgood (L.getD i default) (by rw [List.getD_eq_getElem?_getD, List.getElem?_eq_getElem h']; exact List.getElem_mem _)
      have hct := fun j => cnt_take h' j
      generalize hxx : L.getD i default = x at *
      obtain ⟨kd, s⟩ := x
      simp only at x1 x2 x3 x4 x5 x6 x7 hct hgq
      have h128 := Nat.lt_of_lt_of_le x3 (two7 p7)
      have hmem : ∀ j : Nat, j < 7 → ((j : Int) ∈ ofS s 7 ↔ s.testBit j = true) := fun j hj => by
        rw [mem_ofS]
        constructor
        · rintro ⟨j', h1, h2, h3⟩
          have : j = j' := by omega
          rw [this]; exact h2
        · exact fun h => ⟨j, hj, h, rfl⟩
      have hrng : ∀ q ∈ ofS s 7, 0 ≤ q ∧ q < 7 := fun q hq => ofS_lt (m := 7) h128 hq
      have hnew := fun k hk => climbs_new (ofS s 7) ps.length (-1) k x6 hk
      have hlp := ofS_len s 7
      have hlb : big (ofS s 7).length = True := eq_true (by unfold big; omega)
      have hl0 : (((ofS s 7).length : Int) == 0) = false := by
        have := List.length_pos_iff.2 x7
        simp; omega
      have x5 := eq_true x5
      have hkd1 : (0 : Int) ≤ (kd : Int) := by omega
      have hkd2 : (kd : Int) ≤ (ks.length : Int) - 1 := by omega
      generalize hp : ofS s 7 = p at *
      simp only [go_sem, Nat.reduceAdd, Nat.reduceSub, Nat.reduceMul, Nat.reduceEqDiff, Nat.reduceLT, Nat.reduceLeDiff, Nat.reduceBEq, Nat.reduceBNe, Int.reduceToNat, Int.reduceLE, Int.reduceLT, Int.reduceNe, Int.reduceNeg, reduceCtorEq, Int.reduceBEq, Int.reduceBNe, @callV_spec E24 41 sTween rfl, @callV_specT E24 41 sTween rfl, @stepV_spec E24 41 sTween rfl, @effV_spec E24 41 sTween rfl, sTween, @callV_spec E24 37 s37 rfl, @callV_specT E24 37 s37 rfl, @stepV_spec E24 37 s37 rfl, @effV_spec E24 37 s37 rfl, s37, @callV_spec E24 43 s43 rfl, @callV_specT E24 43 s43 rfl, @stepV_spec E24 43 s43 rfl, @effV_spec E24 43 s43 rfl, s43, callSpec, g1', hdb, hii, h', hjt, hgq, encQ, wk1, hkd1, hkd2, hl0, hlb, x4, x5, x6, il_length, List.length_map, htl]
      refine ev_loopS [1, 2, 5, 6, 7] (fun k : Nat => [(8, .int .i64 k)])
        (fun k H => k ≤ p.length ∧ H (([], 39000000) : Key) = some (.cells (encB ⟨ps, ks, gr, fr, un, fe, st⟩) 1 false) ∧ H (([], 39001000) : Key) = some (.cells (metC fun j => cnt (L.take i) j + if (j : Int) ∈ p.take k then 1 else 0) 1 false))
        (fun k => p.length - k) 0 ?_ ⟨Nat.zero_le _, ?_, ?_⟩ ?_
      · simp only [go_sem, Nat.reduceAdd, Nat.reduceSub, Nat.reduceMul, Nat.reduceEqDiff, Nat.reduceLT, Nat.reduceLeDiff, Nat.reduceBEq, Nat.reduceBNe, Int.reduceToNat, Int.reduceLE, Int.reduceLT, Int.reduceNe, Int.reduceNeg, reduceCtorEq, Int.reduceBEq, Int.reduceBNe, Int.natCast_zero]
      · simp only [go_sem, Nat.reduceAdd, Nat.reduceSub, Nat.reduceMul, Nat.reduceEqDiff, Nat.reduceLT, Nat.reduceLeDiff, Nat.reduceBEq, Nat.reduceBNe, Int.reduceToNat, Int.reduceLE, Int.reduceLT, Int.reduceNe, Int.reduceNeg, reduceCtorEq, Int.reduceBEq, Int.reduceBNe, g1]
      · rw [metC_congr (g := fun j => cnt (L.take i) j) fun j _ => by simp]
        simp only [go_sem, Nat.reduceAdd, Nat.reduceSub, Nat.reduceMul, Nat.reduceEqDiff, Nat.reduceLT, Nat.reduceLeDiff, Nat.reduceBEq, Nat.reduceBNe, Int.reduceToNat, Int.reduceLE, Int.reduceLT, Int.reduceNe, Int.reduceNeg, reduceCtorEq, Int.reduceBEq, Int.reduceBNe, g2]
      · simp only [go_sem, Nat.reduceAdd, Nat.reduceSub, Nat.reduceMul, Nat.reduceEqDiff, Nat.reduceLT, Nat.reduceLeDiff, Nat.reduceBEq, Nat.reduceBNe, Int.reduceToNat, Int.reduceLE, Int.reduceLT, Int.reduceNe, Int.reduceNeg, reduceCtorEq, Int.reduceBEq, Int.reduceBNe]
        intro K2 k H2 ⟨hk, r1, r2⟩ hK2 hE2
        simp only [go_sem, Nat.reduceAdd, Nat.reduceSub, Nat.reduceMul, Nat.reduceEqDiff, Nat.reduceLT, Nat.reduceLeDiff, Nat.reduceBEq, Nat.reduceBNe, Int.reduceToNat, Int.reduceLE, Int.reduceLT, Int.reduceNe, Int.reduceNeg, reduceCtorEq, Int.reduceBEq, Int.reduceBNe, il_length]
        rw [condK_bool]
        refine ⟨fun hc2 => ?_, fun hc2 => ?_⟩
        · have hk' : k < p.length := by simp only [decide_eq_true_eq] at hc2; omega
          have hki : (k : Int) < (p.length : Int) := by omega
          have w8 : IntKind.i64.wrap ((k : Int) + 1) = ((k + 1 : Nat) : Int) := by rw [Int.natCast_add, Int.natCast_one]; exact wrap_id (by omega)
          have hqm : p.getD k 0 ∈ p := by simp [List.getD_eq_getElem?_getD, hk']
          obtain ⟨q, hq⟩ : ∃ q : Nat, p.getD k 0 = (q : Int) := ⟨(p.getD k 0).toNat, by have := hrng _ hqm; omega⟩
          have hq7 : q < 7 := by have := hrng _ hqm; omega
          have hq7i : (q : Int) < 7 := by omega
          have hq6 : q ≤ 6 := by omega
          have hqn := hnew k hk'
          rw [hq] at hqn
          have htake : p.take (k + 1) = p.take k ++ [(q : Int)] := by
            rw [List.take_succ_eq_append_getElem hk']
            congr 1
            rw [List.getD_eq_getElem?_getD, List.getElem?_eq_getElem hk', Option.getD_some] at hq
            rw [hq]
          have hmg := metC_get (fun j => cnt (L.take i) j + if (j : Int) ∈ p.take k then 1 else 0) hq7
          simp only [if_neg hqn, Nat.add_zero] at hmg
          have hcb : cnt (L.take i) q ≤ 127 := by
            have h1 : cnt (L.take i) q ≤ (L.take i).length := List.length_filter_le _ _
            have h2 := List.length_take_le i L
            omega
          have w9 : IntKind.i64.wrap ((cnt (L.take i) q : Int) + 1) = ((cnt (L.take i) q + 1 : Nat) : Int) := by rw [Int.natCast_add, Int.natCast_one]; exact wrap_id (by omega)
          have hms := metC_set (fun j => cnt (L.take i) j + if (j : Int) ∈ p.take k then 1 else 0) q (cnt (L.take i) q + 1)
          have hmn : metC (fun j => if j = q then cnt (L.take i) q + 1 else cnt (L.take i) j + if (j : Int) ∈ p.take k then 1 else 0) = metC fun j => cnt (L.take i) j + if (j : Int) ∈ p.take (k + 1) then 1 else 0 := metC_congr fun j hj => by
            rw [htake]
            by_cases e : j = q
            · subst e; simp
            · rw [if_neg e]
              congr 1
              have : ((j : Int) ∈ p.take k ++ [(q : Int)]) ↔ (j : Int) ∈ p.take k := by
                rw [List.mem_append, List.mem_singleton]
                exact ⟨fun h => h.resolve_right (by omega), .inl⟩
              simp only [this]
          rw [hmn] at hms
          have hml := metC_len (fun j => cnt (L.take i) j + if (j : Int) ∈ p.take k then 1 else 0)
          generalize metC (fun j => cnt (L.take i) j + if (j : Int) ∈ p.take k then 1 else 0) = mc at *
          simp only [go_sem, Nat.reduceAdd, Nat.reduceSub, Nat.reduceMul, Nat.reduceEqDiff, Nat.reduceLT, Nat.reduceLeDiff, Nat.reduceBEq, Nat.reduceBNe, Int.reduceToNat, Int.reduceLE, Int.reduceLT, Int.reduceNe, Int.reduceNeg, reduceCtorEq, Int.reduceBEq, Int.reduceBNe, hk', hki, il_getD, il_length, hq, hq7, hq7i, hq6, Nat.mul_one, r2, hmg, w9, hms, hml]
          trace_state
          refine hK2 (k + 1) _ _ ?_ ⟨hk', ?_, ?_⟩ (by omega)
          · simp only [go_sem, Nat.reduceAdd, Nat.reduceSub, Nat.reduceMul, Nat.reduceEqDiff, Nat.reduceLT, Nat.reduceLeDiff, Nat.reduceBEq, Nat.reduceBNe, Int.reduceToNat, Int.reduceLE, Int.reduceLT, Int.reduceNe, Int.reduceNeg, reduceCtorEq, Int.reduceBEq, Int.reduceBNe, w8]
          · simp only [go_sem, Nat.reduceAdd, Nat.reduceSub, Nat.reduceMul, Nat.reduceEqDiff, Nat.reduceLT, Nat.reduceLeDiff, Nat.reduceBEq, Nat.reduceBNe, Int.reduceToNat, Int.reduceLE, Int.reduceLT, Int.reduceNe, Int.reduceNeg, reduceCtorEq, Int.reduceBEq, Int.reduceBNe, r1]
          · simp only [go_sem, Nat.reduceAdd, Nat.reduceSub, Nat.reduceMul, Nat.reduceEqDiff, Nat.reduceLT, Nat.reduceLeDiff, Nat.reduceBEq, Nat.reduceBNe, Int.reduceToNat, Int.reduceLE, Int.reduceLT, Int.reduceNe, Int.reduceNeg, reduceCtorEq, Int.reduceBEq, Int.reduceBNe]
        · have hkl : k = p.length := by simp only [decide_eq_false_iff_not] at hc2; omega
          subst hkl
          refine hE2 _ _ _ (by simp) ?_
          rw [List.take_length] at r2
          rw [metC_congr (g := fun j => cnt (L.take (i + 1)) j) fun j hj => by
            rw [hct j]
            congr 1
            by_cases hm : (j : Int) ∈ p
            · rw [if_pos hm, if_pos ((hmem j hj).1 hm)]
            · rw [if_neg hm, if_neg (fun h => hm ((hmem j hj).2 h))]] at r2
          simp only [go_sem, Nat.reduceAdd, Nat.reduceSub, Nat.reduceMul, Nat.reduceEqDiff, Nat.reduceLT, Nat.reduceLeDiff, Nat.reduceBEq, Nat.reduceBNe, Int.reduceToNat, Int.reduceLE, Int.reduceLT, Int.reduceNe, Int.reduceNeg, reduceCtorEq, Int.reduceBEq, Int.reduceBNe]
          refine hK (i + 1) _ _ ?_ ⟨h', ?_, ?_⟩ (by omega)
          · simp only [go_sem, Nat.reduceAdd, Nat.reduceSub, Nat.reduceMul, Nat.reduceEqDiff, Nat.reduceLT, Nat.reduceLeDiff, Nat.reduceBEq, Nat.reduceBNe, Int.reduceToNat, Int.reduceLE, Int.reduceLT, Int.reduceNe, Int.reduceNeg, reduceCtorEq, Int.reduceBEq, Int.reduceBNe, w2]
          · simp only [go_sem, Nat.reduceAdd, Nat.reduceSub, Nat.reduceMul, Nat.reduceEqDiff, Nat.reduceLT, Nat.reduceLeDiff, Nat.reduceBEq, Nat.reduceBNe, Int.reduceToNat, Int.reduceLE, Int.reduceLT, Int.reduceNe, Int.reduceNeg, reduceCtorEq, Int.reduceBEq, Int.reduceBNe, r1]
          · simp only [go_sem, Nat.reduceAdd, Nat.reduceSub, Nat.reduceMul, Nat.reduceEqDiff, Nat.reduceLT, Nat.reduceLeDiff, Nat.reduceBEq, Nat.reduceBNe, Int.reduceToNat, Int.reduceLE, Int.reduceLT, Int.reduceNe, Int.reduceNeg, reduceCtorEq, Int.reduceBEq, Int.reduceBNe, r2]
    · have hil : i = L.length := by simp only [decide_eq_false_iff_not] at h; omega
      subst hil
      rw [List.take_length] at g2
      rw [metC_congr (g := fun j => if j < ps.length then 1 else cnt L j) fun j hj => by
        split
        · rename_i h; exact hc j h
        · rfl] at g2
      refine hE _ _ _ (by simp) ?_
      simp only [go_sem, Nat.reduceAdd, Nat.reduceSub, Nat.reduceMul, Nat.reduceEqDiff, Nat.reduceLT, Nat.reduceLeDiff, Nat.reduceBEq, Nat.reduceBNe, Int.reduceToNat, Int.reduceLE, Int.reduceLT, Int.reduceNe, Int.reduceNeg, reduceCtorEq, Int.reduceBEq, Int.reduceBNe]
      refine ev_loopS [2, 5] (fun j : Nat => [(9, .int .i64 j)])
        (fun j H => j ≤ ps.length ∧ H (([], 39000000) : Key) = some (.cells (encB ⟨ps, ks, gr, fr, un, fe, st⟩) 1 false) ∧ H (([], 39001000) : Key) = some (.cells (metC fun j => if j < ps.length then 1 else cnt L j) 1 false))
        (fun j => ps.length - j) 0 ?_ ⟨Nat.zero_le _, g1, g2⟩ ?_
      · simp only [go_sem, Nat.reduceAdd, Nat.reduceSub, Nat.reduceMul, Nat.reduceEqDiff, Nat.reduceLT, Nat.reduceLeDiff, Nat.reduceBEq, Nat.reduceBNe, Int.reduceToNat, Int.reduceLE, Int.reduceLT, Int.reduceNe, Int.reduceNeg, reduceCtorEq, Int.reduceBEq, Int.reduceBNe, Int.natCast_zero]
      · simp only [go_sem, Nat.reduceAdd, Nat.reduceSub, Nat.reduceMul, Nat.reduceEqDiff, Nat.reduceLT, Nat.reduceLeDiff, Nat.reduceBEq, Nat.reduceBNe, Int.reduceToNat, Int.reduceLE, Int.reduceLT, Int.reduceNe, Int.reduceNeg, reduceCtorEq, Int.reduceBEq, Int.reduceBNe]
        intro K2 j H2 ⟨hj, r1, r2⟩ hK2 hE2
        have r1' := r1
        simp only [encB] at r1'
        simp only [go_sem, Nat.reduceAdd, Nat.reduceSub, Nat.reduceMul, Nat.reduceEqDiff, Nat.reduceLT, Nat.reduceLeDiff, Nat.reduceBEq, Nat.reduceBNe, Int.reduceToNat, Int.reduceLE, Int.reduceLT, Int.reduceNe, Int.reduceNeg, reduceCtorEq, Int.reduceBEq, Int.reduceBNe, r1', List.length_map]
        rw [condK_bool]
        refine ⟨fun hc2 => ?_, fun hc2 => ?_⟩
        · have hj' : j < ps.length := by simp only [decide_eq_true_eq] at hc2; omega
          have hj7 : j < 7 := by omega
          have hj6 : j ≤ 6 := by omega
          have hj7i : (j : Int) < 7 := by omega
          have w8 : IntKind.i64.wrap ((j : Int) + 1) = ((j + 1 : Nat) : Int) := by rw [Int.natCast_add, Int.natCast_one]; exact wrap_id (by omega)
          have hmg := metC_get (fun j => if j < ps.length then 1 else cnt L j) hj7
          simp only [if_pos hj'] at hmg
          have hml := metC_len (fun j => if j < ps.length then 1 else cnt L j)
          generalize metC (fun j => if j < ps.length then 1 else cnt L j) = mc at *
          simp only [go_sem, Nat.reduceAdd, Nat.reduceSub, Nat.reduceMul, Nat.reduceEqDiff, Nat.reduceLT, Nat.reduceLeDiff, Nat.reduceBEq, Nat.reduceBNe, Int.reduceToNat, Int.reduceLE, Int.reduceLT, Int.reduceNe, Int.reduceNeg, reduceCtorEq, Int.reduceBEq, Int.reduceBNe, hj7, hj7i, hj6, Nat.mul_one, r2, hmg, hml, Int.natCast_one]
          refine hK2 (j + 1) _ _ ?_ ⟨hj', ?_, ?_⟩ (by omega)
          · simp only [go_sem, Nat.reduceAdd, Nat.reduceSub, Nat.reduceMul, Nat.reduceEqDiff, Nat.reduceLT, Nat.reduceLeDiff, Nat.reduceBEq, Nat.reduceBNe, Int.reduceToNat, Int.reduceLE, Int.reduceLT, Int.reduceNe, Int.reduceNeg, reduceCtorEq, Int.reduceBEq, Int.reduceBNe, w8]
          · simp only [go_sem, Nat.reduceAdd, Nat.reduceSub, Nat.reduceMul, Nat.reduceEqDiff, Nat.reduceLT, Nat.reduceLeDiff, Nat.reduceBEq, Nat.reduceBNe, Int.reduceToNat, Int.reduceLE, Int.reduceLT, Int.reduceNe, Int.reduceNeg, reduceCtorEq, Int.reduceBEq, Int.reduceBNe, r1]
          · simp only [go_sem, Nat.reduceAdd, Nat.reduceSub, Nat.reduceMul, Nat.reduceEqDiff, Nat.reduceLT, Nat.reduceLeDiff, Nat.reduceBEq, Nat.reduceBNe, Int.reduceToNat, Int.reduceLE, Int.reduceLT, Int.reduceNe, Int.reduceNeg, reduceCtorEq, Int.reduceBEq, Int.reduceBNe, r2]
        · have hjl : j = ps.length := by simp only [decide_eq_false_iff_not] at hc2; omega
          subst hjl
          refine hE2 _ _ _ (by simp) ?_
          simp only [go_sem, Nat.reduceAdd, Nat.reduceSub, Nat.reduceMul, Nat.reduceEqDiff, Nat.reduceLT, Nat.reduceLeDiff, Nat.reduceBEq, Nat.reduceBNe, Int.reduceToNat, Int.reduceLE, Int.reduceLT, Int.reduceNe, Int.reduceNeg, reduceCtorEq, Int.reduceBEq, Int.reduceBNe]
def s39 : Spec := spec2 (fun (b : PBook) (l : List Parc) => ∃ L, l = toldL L ∧ isDv b L) (fun _ _ => .bool true)
theorem s39_ok : SpecOK Tryd.prog glB 39 s39 := spec2_ok E24_ok Tryd.func39 rfl (by kernel_rfl) fun b l h => by
  obtain ⟨L, rfl, hI⟩ := h
  exact divides_fn b L hI
end Wb
