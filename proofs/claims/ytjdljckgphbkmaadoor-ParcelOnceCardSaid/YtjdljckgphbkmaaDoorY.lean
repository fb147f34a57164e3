import Derived.Test.YtjdljckgphbkmaaDoorX
set_option linter.unusedVariables false
set_option linter.unusedSimpArgs false
/- What is told of the cheapest division (no program in sight). -/
namespace Wb
open Go Go.Proofs Enc Row
set_option linter.unusedSimpArgs false
set_option linter.unusedVariables false
set_option maxRecDepth 20000
set_option maxHeartbeats 4000000
theorem whole_eq {b : PBook} (hb : bookOk b = true) {c : Bool} {z : Int} (hz : 0 ≤ z ∧ z ≤ 4) : wholeM c b z = if (dvOf c b z (2 ^ b.pieces.length - 1)).2 < 0 then (([], 0), 4) else (dvOf c b z (2 ^ b.pieces.length - 1), 0) := by
  unfold wholeM
  rw [hb, if_pos rfl, if_pos (by simpa using hz)]
theorem bit_full (n i : Nat) : (2 ^ n - 1).testBit i = decide (i < n) := by rw [Nat.testBit_two_pow_sub_one]
/-- Parcels as the chapter has them. -/
def GoodL (b : PBook) (z : Int) (L : List (Nat × Nat)) : Prop := ∀ x ∈ L, x.1 < b.kinds.length ∧ 0 < x.2 ∧ x.2 < 2 ^ b.pieces.length ∧ fitsB b x.1 x.2 = true
theorem isDiv_good {b : PBook} (hG : GBook b) {z : Int} (hz : 0 ≤ z ∧ z ≤ 4) {s : Nat} (hs : s < 2 ^ b.pieces.length) {L : List (Nat × Nat)} (h : IsDiv b.kinds.length (postG b z) s L) : GoodL b z L := fun x hx => by
  obtain ⟨h1, h2, h3, h4⟩ := h.ok x hx
  have h5 := div_mem h hx
  have h6 : x.2 ≤ s := by rw [← h5]; exact Nat.and_le_right
  have h7 : x.2 < 2 ^ b.pieces.length := by omega
  refine ⟨h1, Nat.pos_of_ne_zero h3, h7, ?_⟩
  rw [← Bool.not_eq_false]
  exact fun e => h4 ((postG_zero hG hz h1 (Nat.pos_of_ne_zero h3) h7).2 e)
def cnt (L : List (Nat × Nat)) (i : Nat) : Nat := (L.filter fun x => x.2.testBit i).length
theorem cnt_cons (x : Nat × Nat) (L : List (Nat × Nat)) (i : Nat) : cnt (x :: L) i = (if x.2.testBit i then 1 else 0) + cnt L i := by
  unfold cnt
  rw [List.filter_cons]
  split
  · rw [List.length_cons]; omega
  · omega
theorem div_told {b : PBook} (hb : bookOk b = true) {z : Int} : ∀ (L : List (Nat × Nat)) (met : Nat), met < 2 ^ b.pieces.length → GoodL b z L → (∀ i, (if met.testBit i then 1 else 0) + cnt L i = if (2 ^ b.pieces.length - 1).testBit i then 1 else 0) → isDivF b met (toldL L) = true
  | [], met, hm, _, h => by
    have e : met = 2 ^ b.pieces.length - 1 := Nat.eq_of_testBit_eq fun i => by
      have := h i
      simp only [cnt, List.filter_nil, List.length_nil] at this
      cases h1 : met.testBit i <;> cases h2 : (2 ^ b.pieces.length - 1).testBit i <;> rw [h1, h2] at this <;> simp at this <;> rfl
    unfold toldL
    rw [List.map_nil, isDivF, e]; simp
  | x :: L, met, hm, hL, h => by
    have hG := book_good hb
    obtain ⟨g1, g2, g3, g4⟩ := hL x (by simp)
    have h128 := Nat.lt_of_lt_of_le g3 (two7 hG.p7)
    have e1 : met &&& x.2 = 0 := eq_zero_of_bits fun i => by
      have := h i
      rw [cnt_cons] at this
      rw [Nat.testBit_and]
      cases h1 : met.testBit i <;> cases h2 : x.2.testBit i <;> rw [h1, h2] at this <;> simp at this ⊢
      split at this <;> omega
    have ih := div_told hb (z := z) L (met ||| x.2) (Nat.or_lt_two_pow hm g3) (fun y hy => hL y (by simp [hy])) fun i => by
      have := h i
      rw [cnt_cons] at this
      rw [← this, Nat.testBit_or]
      have e2 : (met &&& x.2).testBit i = false := by rw [e1]; simp
      rw [Nat.testBit_and] at e2
      cases h1 : met.testBit i <;> cases h2 : x.2.testBit i <;> rw [h1, h2] at e2 <;> simp at e2 ⊢
    unfold toldL at ih ⊢
    rw [List.map_cons, isDivF]
    simp only [Int.toNat_natCast, put_of h128]
    rw [parcOk_of hG g1 g2 g3, g4, e1]
    simp only [Bool.true_and, decide_true, if_true]
    exact ih
theorem told_div {b : PBook} (hb : bookOk b = true) {z : Int} (hz : 0 ≤ z ∧ z ≤ 4) {L : List (Nat × Nat)} (h : IsDiv b.kinds.length (postG b z) (2 ^ b.pieces.length - 1) L) : isDivM b (toldL L) = (true, 0) := by
  have hG := book_good hb
  have hp := Nat.two_pow_pos b.pieces.length
  unfold isDivM
  rw [hb, if_pos rfl, div_told hb (z := z) L 0 hp (isDiv_good hG hz (by omega) h) fun i => by
    have := h.once i
    rw [Nat.zero_testBit]
    simp only [Bool.false_eq_true, if_false, Nat.zero_add]
    exact this]
theorem toldL_len (L : List (Nat × Nat)) : (toldL L).length = L.length := by unfold toldL; simp
theorem told_get {b : PBook} {z : Int} {L : List (Nat × Nat)} {i : Nat} (h : i < L.length) : (toldL L).getD i default = ⟨((L.getD i default).1 : Int), ofS (L.getD i default).2 7⟩ := by
  unfold toldL; simp [List.getD_eq_getElem?_getD, h]
theorem told_post {b : PBook} (hb : bookOk b = true) {z : Int} (hz : 0 ≤ z ∧ z ≤ 4) {L : List (Nat × Nat)} (hL : GoodL b z L) {i : Nat} (h : i < L.length) :
    postM b ⟨((L.getD i default).1 : Int), ofS (L.getD i default).2 7⟩ z = (postG b z (L.getD i default).1 (L.getD i default).2, 0) := by
  obtain ⟨g1, g2, g3, g4⟩ := hL (L.getD i default) (by rw [List.getD_eq_getElem?_getD, List.getElem?_eq_getElem h]; exact List.getElem_mem _)
  rw [postM_of hb g1 g2 g3 hz, if_pos g4]
theorem sumW_take (w : Nat → Nat → Int) (L : List (Nat × Nat)) {i : Nat} (h : i < L.length) : sumW w (L.take (i + 1)) = sumW w (L.take i) + w (L.getD i default).1 (L.getD i default).2 := by
  rw [List.take_succ_eq_append_getElem h, sumW_append]
  simp [sumW, List.getD_eq_getElem?_getD, h]
end Wb
/- A book of some pieces alone: its divisions are those of the set (no program in sight). -/
namespace Wb
open Go Go.Proofs Enc Row
set_option linter.unusedSimpArgs false
set_option linter.unusedVariables false
set_option maxRecDepth 20000
set_option maxHeartbeats 4000000
/-- Which piece of the whole book is the i-th one of the set. -/
def fS (s i : Nat) : Nat := ((ofS s 7).getD i 0).toNat
def nS (s : Nat) : Nat := (ofS s 7).length
def depS (s t : Nat) : Nat := putS ((ofS t 7).map fun i => (ofS s 7).getD i.toNat 0)
def extS (s u : Nat) : Nat := putS (((List.range (nS s)).filter fun i => u.testBit (fS s i)).map fun (i : Nat) => (i : Int))
def depB (s t : Nat) : Bool :=
  (ofS (depS s t) 7 == (ofS t 7).map fun i => (ofS s 7).getD i.toNat 0) && (depS s t &&& s == depS s t) && decide (depS s t < 128) && ((ofS t 7).all fun i => decide (t ≠ 2 ^ i.toNat) == decide (depS s t ≠ 2 ^ fS s i.toNat)) &&
  (decide (t = 0) || decide (depS s t ≠ 0)) && ((List.range (nS s)).all fun i => (depS s t).testBit (fS s i) == t.testBit i)
theorem dep_all : ∀ s, s < 128 → ∀ t, t < 128 → t < 2 ^ nS s → depB s t = true := by decide +kernel
def extB (s u : Nat) : Bool := decide (extS s u < 2 ^ nS s) && (depS s (extS s u) == u)
theorem ext_all : ∀ s, s < 128 → ∀ u, u < 128 → u &&& s = u → extB s u = true := by decide +kernel
theorem nS_le {s n : Nat} (hn : n ≤ 7) (hs : s < 2 ^ n) : nS s ≤ n := by
  have := ofS_len s n
  rw [of_trunc hn hs] at this
  exact this
theorem dep_ok {s t : Nat} (hs : s < 128) (ht : t < 2 ^ nS s) : ofS (depS s t) 7 = (ofS t 7).map (fun i => (ofS s 7).getD i.toNat 0) ∧ depS s t &&& s = depS s t ∧ depS s t < 128 ∧ (∀ i ∈ ofS t 7, decide (t ≠ 2 ^ i.toNat) = decide (depS s t ≠ 2 ^ fS s i.toNat)) ∧ (t ≠ 0 → depS s t ≠ 0) ∧ ∀ i, i < nS s → (depS s t).testBit (fS s i) = t.testBit i := by
  have h7 : nS s ≤ 7 := ofS_len s 7
  have h := dep_all s hs t (Nat.lt_of_lt_of_le ht (two7 h7)) ht
  unfold depB at h
  simp only [Bool.and_eq_true, beq_iff_eq, decide_eq_true_eq, List.all_eq_true, Bool.or_eq_true, List.mem_range] at h
  obtain ⟨⟨⟨⟨⟨h1, h2⟩, h3⟩, h4⟩, h5⟩, h6⟩ := h
  exact ⟨h1, h2, h3, h4, fun h0 => h5.resolve_left h0, h6⟩
theorem ext_ok {s u : Nat} (hs : s < 128) (hu : u &&& s = u) : extS s u < 2 ^ nS s ∧ depS s (extS s u) = u := by
  have hle : u ≤ s := by rw [← hu]; exact Nat.and_le_right
  have h := ext_all s hs u (by omega) hu
  unfold extB at h
  simpa using h
/-- A book of the pieces of a set alone. -/
def partB (b : PBook) (l : List Int) : PBook := ⟨l.map (pieceAt b), b.kinds, b.grams, b.free, b.unit, b.fee, b.stamps⟩
theorem part_len (b : PBook) (s : Nat) : (partB b (ofS s 7)).pieces.length = nS s := by unfold partB nS; simp
theorem part_get {b : PBook} {s i : Nat} (hi : i < nS s) : (partB b (ofS s 7)).pieces.getD i default = b.pieces.getD (fS s i) default := by
  unfold nS at hi
  unfold partB fS pieceAt
  simp [List.getD_eq_getElem?_getD, hi]
theorem mem_dep {s t : Nat} {i : Int} (ht : t < 2 ^ nS s) (hi : i ∈ ofS t 7) : 0 ≤ i ∧ i.toNat < nS s := by
  have := ofS_lt (m := nS s) ht hi
  omega
theorem part_allF {b : PBook} {s t : Nat} (hs : s < 128) (ht : t < 2 ^ nS s) (w : What) : allF (partB b (ofS s 7)) w t = allF b w (depS s t) := by
  unfold allF piecesOf
  rw [(dep_ok hs ht).1, List.map_map, List.map_map, List.map_map]
  congr 1
  refine List.map_congr_left fun i hi => ?_
  have := mem_dep ht hi
  simp only [Function.comp]
  rw [part_get this.2]
  rfl
theorem part_fits {b : PBook} {s t k : Nat} (hs : s < 128) (ht : t < 2 ^ nS s) : fitsB (partB b (ofS s 7)) k t = fitsB b k (depS s t) := by
  have hd := dep_ok hs ht
  unfold fitsB
  rw [part_allF hs ht, part_allF hs ht, hd.1, List.any_map]
  have e : (ofS t 7).any (aloneB (partB b (ofS s 7)) t) = (ofS t 7).any (aloneB b (depS s t) ∘ fun i => (ofS s 7).getD i.toNat 0) := by
    have key : ∀ l : List Int, (∀ i ∈ l, i ∈ ofS t 7) → l.any (aloneB (partB b (ofS s 7)) t) = l.any (aloneB b (depS s t) ∘ fun i => (ofS s 7).getD i.toNat 0) := by
      intro l
      induction l with
      | nil => intro _; rfl
      | cons a l ih =>
        intro h
        rw [List.any_cons, List.any_cons, ih fun i hi => h i (by simp [hi])]
        congr 1
        have ha := h a (by simp)
        unfold aloneB
        simp only [Function.comp]
        rw [part_get (mem_dep ht ha).2, hd.2.2.2.1 a ha]
        rfl
    exact key _ fun i hi => hi
  rw [e]
  rfl
theorem part_post {b : PBook} {s t k : Nat} (hs : s < 2 ^ b.pieces.length) (hp : b.pieces.length ≤ 7) (hk : k < b.kinds.length) (h0 : 0 < t) (ht : t < 2 ^ nS s) (z : Int) : postG (partB b (ofS s 7)) z k t = postG b z k (depS s t) := by
  have h128 := Nat.lt_of_lt_of_le hs (two7 hp)
  have hd := dep_ok h128 ht
  have hd0 : 0 < depS s t := Nat.pos_of_ne_zero (hd.2.2.2.2.1 (by omega))
  have hdl : depS s t < 2 ^ b.pieces.length := by
    have : depS s t ≤ s := by rw [← hd.2.1]; exact Nat.and_le_right
    omega
  unfold postG
  rw [part_fits h128 ht, part_len]
  have e1 : priceB (partB b (ofS s 7)) z k = priceB b z k := rfl
  have e2 : stepsB (partB b (ofS s 7)) k t = stepsB b k (depS s t) := by unfold stepsB; rw [part_allF h128 ht]; rfl
  have e3 : insB (partB b (ofS s 7)) t = insB b (depS s t) := by unfold insB; rw [part_allF h128 ht]; rfl
  rw [e1, e2, e3]
  by_cases hf : fitsB b k (depS s t) = true
  · rw [if_pos ⟨⟨hk, h0, ht⟩, hf⟩, if_pos ⟨⟨hk, hd0, hdl⟩, hf⟩]
  · rw [if_neg fun h => hf h.2, if_neg fun h => hf h.2]
theorem map_filter_len (g : Nat → Nat) (j i : Nat) : ∀ L : List (Nat × Nat), (∀ x ∈ L, (g x.2).testBit j = x.2.testBit i) → ((L.map fun x => (x.1, g x.2)).filter fun x => x.2.testBit j).length = (L.filter fun x => x.2.testBit i).length
  | [], _ => rfl
  | x :: L, h => by
    rw [List.map_cons, List.filter_cons, List.filter_cons, h x (by simp)]
    have ih := map_filter_len g j i L fun y hy => h y (by simp [hy])
    split
    · rw [List.length_cons, List.length_cons, ih]
    · exact ih
theorem map_filter_none (g : Nat → Nat) (j : Nat) : ∀ L : List (Nat × Nat), (∀ x ∈ L, (g x.2).testBit j = false) → ((L.map fun x => (x.1, g x.2)).filter fun x => x.2.testBit j).length = 0
  | [], _ => rfl
  | x :: L, h => by
    rw [List.map_cons, List.filter_cons, h x (by simp)]
    simpa using map_filter_none g j L fun y hy => h y (by simp [hy])
theorem map_sumW (w w' : Nat → Nat → Int) (g : Nat → Nat) : ∀ L : List (Nat × Nat), (∀ x ∈ L, w x.1 (g x.2) = w' x.1 x.2) → sumW w (L.map fun x => (x.1, g x.2)) = sumW w' L
  | [], _ => rfl
  | x :: L, h => by
    rw [List.map_cons, sumW, sumW, h x (by simp), map_sumW w w' g L fun y hy => h y (by simp [hy])]
end Wb
/- What a book of some pieces alone costs (no program in sight). -/
namespace Wb
open Go Go.Proofs Enc Row
set_option linter.unusedSimpArgs false
set_option linter.unusedVariables false
set_option maxRecDepth 20000
set_option maxHeartbeats 4000000
theorem fS_mem {s i : Nat} (hi : i < nS s) : s.testBit (fS s i) = true ∧ fS s i < 7 := by
  unfold nS at hi
  have hm : (ofS s 7).getD i 0 ∈ ofS s 7 := by simp [List.getD_eq_getElem?_getD, hi]
  obtain ⟨j, h1, h2, h3⟩ := mem_ofS.1 hm
  unfold fS
  rw [h3, Int.toNat_natCast]
  exact ⟨h2, h1⟩
theorem fS_all {s j : Nat} (hs : s < 128) (hj : s.testBit j = true) : ∃ i, i < nS s ∧ fS s i = j := by
  have h7 : j < 7 := bit_lt (n := 7) hs hj
  have hm : (j : Int) ∈ ofS s 7 := mem_ofS.2 ⟨j, h7, hj, rfl⟩
  obtain ⟨i, hi, e⟩ := List.getElem_of_mem hm
  refine ⟨i, hi, ?_⟩
  unfold fS
  rw [List.getD_eq_getElem?_getD, List.getElem?_eq_getElem hi, Option.getD_some, e, Int.toNat_natCast]
theorem full_lt (m : Nat) : 2 ^ m - 1 < 2 ^ m := by have := Nat.two_pow_pos m; omega
theorem div_fwd {b : PBook} (hp : b.pieces.length ≤ 7) {s : Nat} (hs : s < 2 ^ b.pieces.length) {z : Int} {L : List (Nat × Nat)} (h : IsDiv b.kinds.length (postG (partB b (ofS s 7)) z) (2 ^ nS s - 1) L) :
    IsDiv b.kinds.length (postG b z) s (L.map fun x => (x.1, depS s x.2)) ∧ sumW (postG b z) (L.map fun x => (x.1, depS s x.2)) = sumW (postG (partB b (ofS s 7)) z) L := by
  have h128 := Nat.lt_of_lt_of_le hs (two7 hp)
  have hlt : ∀ x ∈ L, 0 < x.2 ∧ x.2 < 2 ^ nS s := fun x hx => by
    have h1 := h.ok x hx
    have h2 := div_mem h hx
    have h3 : x.2 ≤ 2 ^ nS s - 1 := by rw [← h2]; exact Nat.and_le_right
    have := full_lt (nS s)
    omega
  refine ⟨⟨fun y hy => ?_, fun j => ?_⟩, ?_⟩
  · obtain ⟨x, hx, rfl⟩ := List.mem_map.1 hy
    obtain ⟨o1, o2, o3, o4⟩ := h.ok x hx
    obtain ⟨l1, l2⟩ := hlt x hx
    have hd := dep_ok h128 l2
    refine ⟨o1, hd.2.2.1, hd.2.2.2.2.1 o3, ?_⟩
    simp only
    rw [← part_post hs hp o1 l1 l2 z]; exact o4
  · cases hj : s.testBit j with
    | true =>
      obtain ⟨i, hi, rfl⟩ := fS_all h128 hj
      rw [map_filter_len (depS s) (fS s i) i L fun x hx => (dep_ok h128 (hlt x hx).2).2.2.2.2.2 i hi, h.once i, Nat.testBit_two_pow_sub_one]
      simp [hi]
    | false =>
      rw [map_filter_none (depS s) j L fun x hx => by
        have hd := (dep_ok h128 (hlt x hx).2).2.1
        rw [← hd, Nat.testBit_and, hj, Bool.and_false]]
      simp
  · exact map_sumW _ _ _ L fun x hx => by
      obtain ⟨l1, l2⟩ := hlt x hx
      rw [part_post hs hp (h.ok x hx).1 l1 l2 z]
theorem dep_zero (s : Nat) : depS s 0 = 0 := by unfold depS; rfl
theorem div_bwd {b : PBook} (hp : b.pieces.length ≤ 7) {s : Nat} (hs : s < 2 ^ b.pieces.length) {z : Int} {L : List (Nat × Nat)} (h : IsDiv b.kinds.length (postG b z) s L) :
    IsDiv b.kinds.length (postG (partB b (ofS s 7)) z) (2 ^ nS s - 1) (L.map fun x => (x.1, extS s x.2)) ∧ sumW (postG (partB b (ofS s 7)) z) (L.map fun x => (x.1, extS s x.2)) = sumW (postG b z) L := by
  have h128 := Nat.lt_of_lt_of_le hs (two7 hp)
  have h7 : nS s ≤ 7 := ofS_len s 7
  have hext : ∀ x ∈ L, 0 < extS s x.2 ∧ extS s x.2 < 2 ^ nS s ∧ depS s (extS s x.2) = x.2 := fun x hx => by
    obtain ⟨e1, e2⟩ := ext_ok h128 (div_mem h hx)
    refine ⟨Nat.pos_of_ne_zero fun e => ?_, e1, e2⟩
    rw [e, dep_zero] at e2
    exact (h.ok x hx).2.2.1 e2.symm
  have hpo : ∀ x ∈ L, postG (partB b (ofS s 7)) z x.1 (extS s x.2) = postG b z x.1 x.2 := fun x hx => by
    obtain ⟨l1, l2, l3⟩ := hext x hx
    rw [part_post hs hp (h.ok x hx).1 l1 l2 z, l3]
  refine ⟨⟨fun y hy => ?_, fun i => ?_⟩, ?_⟩
  · obtain ⟨x, hx, rfl⟩ := List.mem_map.1 hy
    obtain ⟨o1, o2, o3, o4⟩ := h.ok x hx
    obtain ⟨l1, l2, l3⟩ := hext x hx
    refine ⟨o1, Nat.lt_of_lt_of_le l2 (two7 h7), by simp only; omega, ?_⟩
    simp only
    rw [hpo x hx]; exact o4
  · rw [Nat.testBit_two_pow_sub_one]
    by_cases hi : i < nS s
    · rw [map_filter_len (extS s) i (fS s i) L fun x hx => by
        obtain ⟨l1, l2, l3⟩ := hext x hx
        rw [← (dep_ok h128 l2).2.2.2.2.2 i hi, l3], h.once (fS s i), (fS_mem hi).1]
      simp [hi]
    · rw [map_filter_none (extS s) i L fun x hx => by
        obtain ⟨l1, l2, l3⟩ := hext x hx
        exact Nat.testBit_lt_two_pow (Nat.lt_of_lt_of_le l2 (Nat.pow_le_pow_right (by decide) (by omega)))]
      simp [hi]
  · exact map_sumW _ _ _ L hpo
/-- The best is that of some division. -/
theorem best_some {b : PBook} (hG : GBook b) {z : Int} (hz : 0 ≤ z ∧ z ≤ 4) {s : Nat} (hs : s < 128) {m : Int × Int} (h : bestK b.kinds.length (postG b z) (postG b z) s = some m) : ∃ L, IsDiv b.kinds.length (postG b z) s L ∧ m = (sumW (postG b z) L, (L.length : Int)) := by
  have hd := best_dv true hG hz hs
  rw [wOf_true, h] at hd
  rcases hd with ⟨_, h2⟩ | ⟨h1, h2, h3, h4⟩
  · cases h2
  · refine ⟨_, h2, ?_⟩
    cases h4
    unfold keyD
    rw [if_pos rfl, ← h3]
theorem best_same {b b' : PBook} (hG : GBook b) (hG' : GBook b') {z z' : Int} (hz : 0 ≤ z ∧ z ≤ 4) (hz' : 0 ≤ z' ∧ z' ≤ 4) {s s' : Nat} (hs : s < 128) (hs' : s' < 128)
    (h1 : ∀ L, IsDiv b.kinds.length (postG b z) s L → ∃ L', IsDiv b'.kinds.length (postG b' z') s' L' ∧ sumW (postG b' z') L' = sumW (postG b z) L ∧ L'.length = L.length)
    (h2 : ∀ L, IsDiv b'.kinds.length (postG b' z') s' L → ∃ L', IsDiv b.kinds.length (postG b z) s L' ∧ sumW (postG b z) L' = sumW (postG b' z') L ∧ L'.length = L.length) : priceT b z s = priceT b' z' s' := by
  have key : ∀ {b b' : PBook} (hG : GBook b) (hG' : GBook b') {z z' : Int} (hz : 0 ≤ z ∧ z ≤ 4) (hz' : 0 ≤ z' ∧ z' ≤ 4) {s s' : Nat} (hs : s < 128) (hs' : s' < 128)
      (h1 : ∀ L, IsDiv b.kinds.length (postG b z) s L → ∃ L', IsDiv b'.kinds.length (postG b' z') s' L' ∧ sumW (postG b' z') L' = sumW (postG b z) L ∧ L'.length = L.length) (m : Int × Int),
      bestK b.kinds.length (postG b z) (postG b z) s = some m → ∃ m', bestK b'.kinds.length (postG b' z') (postG b' z') s' = some m' ∧ lt2 m m' = false := by
    intro b b' hG hG' z z' hz hz' s s' hs hs' h1 m hm
    obtain ⟨L, hL, rfl⟩ := best_some hG hz hs hm
    obtain ⟨L', hL', e1, e2⟩ := h1 L hL
    obtain ⟨m', hm', hlt⟩ := bestK_min (w := postG b' z') 128 s' hs' hs' L' hL'
    rw [e1, e2] at hlt
    exact ⟨m', hm', hlt⟩
  unfold priceT
  congr 1
  cases ha : bestK b.kinds.length (postG b z) (postG b z) s with
  | none =>
    cases hb : bestK b'.kinds.length (postG b' z') (postG b' z') s' with
    | none => rfl
    | some m => obtain ⟨m', h, _⟩ := key hG' hG hz' hz hs' hs h2 m hb; rw [ha] at h; cases h
  | some m =>
    obtain ⟨m', hb, hlt⟩ := key hG hG' hz hz' hs hs' h1 m ha
    obtain ⟨m2, ha2, hlt2⟩ := key hG' hG hz' hz hs' hs h2 m' hb
    rw [ha] at ha2
    cases ha2
    rw [hb]
    congr 1
    rw [lt2_not] at hlt hlt2
    apply Prod.ext <;> omega
theorem part_book {b : PBook} (hb : bookOk b = true) {s : Nat} (h0 : s ≠ 0) (hs : s < 2 ^ b.pieces.length) : bookOk (partB b (ofS s 7)) = true := by
  have hG := book_good hb
  have h1 := ofS_ne (Nat.pos_of_ne_zero h0) hs hG.p7
  have h2 := List.length_pos_iff.2 h1
  have h3 := ofS_len s 7
  unfold bookOk at hb ⊢
  simp only [Bool.and_eq_true] at hb ⊢
  obtain ⟨⟨⟨⟨⟨⟨⟨⟨⟨b1, b2⟩, b3⟩, b4⟩, b5⟩, b6⟩, b7⟩, b8⟩, b9⟩, b10⟩ := hb
  refine ⟨⟨⟨⟨⟨⟨⟨⟨⟨?_, b2⟩, b3⟩, b4⟩, b5⟩, b6⟩, b7⟩, ?_⟩, b9⟩, b10⟩
  · unfold partB btw
    rw [List.length_map]
    simp; omega
  · rw [List.all_eq_true] at b8 ⊢
    intro p hp
    unfold partB at hp
    obtain ⟨k, hk, rfl⟩ := List.mem_map.1 hp
    have := ofS_lt hs hk
    refine b8 _ ?_
    unfold pieceAt
    have h5 : k.toNat < b.pieces.length := by omega
    simp [List.getD_eq_getElem?_getD, h5]
theorem part_price {b : PBook} (hb : bookOk b = true) {s : Nat} (h0 : s ≠ 0) (hs : s < 2 ^ b.pieces.length) {z : Int} (hz : 0 ≤ z ∧ z ≤ 4) : priceT (partB b (ofS s 7)) z (2 ^ nS s - 1) = priceT b z s := by
  have hG := book_good hb
  have hG' := book_good (part_book hb h0 hs)
  have hp := hG.p7
  have h7 : nS s ≤ 7 := ofS_len s 7
  have h128 := Nat.lt_of_lt_of_le hs (two7 hp)
  have hf : 2 ^ nS s - 1 < 128 := Nat.lt_of_lt_of_le (full_lt _) (two7 h7)
  refine best_same hG' hG hz hz hf h128 (fun L hL => ?_) fun L hL => ?_
  · obtain ⟨h1, h2⟩ := div_fwd hp hs hL
    exact ⟨_, h1, h2, by simp⟩
  · obtain ⟨h1, h2⟩ := div_bwd hp hs hL
    exact ⟨_, h1, h2, by simp⟩
theorem costM_pr {b : PBook} (hb : bookOk b = true) {z : Int} (hz : 0 ≤ z ∧ z ≤ 4) : costM b z = if (priceT b z (2 ^ b.pieces.length - 1)).2 < 0 then (0, 4) else ((priceT b z (2 ^ b.pieces.length - 1)).1, 0) := by
  have hG := book_good hb
  unfold costM
  rw [whole_eq hb hz, priceT_dv hG hz (pow7 hG).1]
  by_cases h : (dvOf true b z (2 ^ b.pieces.length - 1)).2 < 0
  · rw [if_pos h, if_pos h, if_pos (by decide)]
  · rw [if_neg h, if_neg h, if_neg (by simp only; omega)]
theorem part_cost {b : PBook} (hb : bookOk b = true) {s : Nat} (h0 : s ≠ 0) (hs : s < 2 ^ b.pieces.length) {z : Int} (hz : 0 ≤ z ∧ z ≤ 4) : costM (partB b (ofS s 7)) z = if (dvOf true b z s).2 < 0 then (0, 4) else ((dvOf true b z s).2, 0) := by
  have hG := book_good hb
  have h128 := Nat.lt_of_lt_of_le hs (two7 hG.p7)
  rw [costM_pr (part_book hb h0 hs) hz, part_len, part_price hb h0 hs hz, priceT_dv hG hz h128]
  by_cases h : (dvOf true b z s).2 < 0
  · rw [if_pos h, if_pos (by decide), if_pos h]
  · rw [if_neg h, if_neg (by simp only; omega), if_neg h]
end Wb
/- What is sent is best (no program in sight). -/
namespace Wb
open Go Go.Proofs Enc Row
set_option linter.unusedSimpArgs false
set_option linter.unusedVariables false
set_option maxRecDepth 20000
set_option maxHeartbeats 4000000
theorem cmpL_irr : ∀ a : List Int, cmpL a a = 0
  | [] => rfl
  | a :: l => by unfold cmpL; rw [cmpL_irr l]; unfold cmpI; simp
theorem cmpI_lt {a b : Int} : cmpI a b < 0 ↔ a < b := by unfold cmpI; (repeat' split) <;> omega
theorem cmpI_eq {a b : Int} : cmpI a b = 0 ↔ a = b := by unfold cmpI; (repeat' split) <;> omega
theorem cmpL_trans : ∀ a b c : List Int, cmpL a b < 0 → cmpL b c < 0 → cmpL a c < 0
  | [], [], _, h, _ => by simp [cmpL] at h
  | _ :: _, [], _, h, _ => by simp [cmpL] at h
  | [], _ :: _, [], _, h => by simp [cmpL] at h
  | _ :: _, _ :: _, [], _, h => by simp [cmpL] at h
  | [], _ :: _, _ :: _, _, _ => by simp [cmpL]
  | a :: l, b :: m, c :: n, h1, h2 => by
    unfold cmpL at h1 h2 ⊢
    by_cases e1 : cmpI a b = 0
    · rw [if_pos e1] at h1
      have e1' := cmpI_eq.1 e1
      subst e1'
      by_cases e2 : cmpI a c = 0
      · rw [if_pos e2] at h2 ⊢
        exact cmpL_trans l m n h1 h2
      · rw [if_neg e2] at h2 ⊢
        exact h2
    · rw [if_neg e1] at h1
      have l1 := cmpI_lt.1 h1
      by_cases e2 : cmpI b c = 0
      · have e2' := cmpI_eq.1 e2
        subst e2'
        rw [if_neg e1]; exact h1
      · rw [if_neg e2] at h2
        have l2 := cmpI_lt.1 h2
        rw [if_neg (fun e => by have := cmpI_eq.1 e; omega)]
        exact cmpI_lt.2 (by omega)
theorem more_iff {b : PBook} {s t : Nat} : moreB b s t = true ↔ sumP b .worth (ofS t 7) < sumP b .worth (ofS s 7) ∨ (sumP b .worth (ofS s 7) = sumP b .worth (ofS t 7) ∧ ((ofS t 7).length < (ofS s 7).length ∨ ((ofS s 7).length = (ofS t 7).length ∧ cmpL (ofS s 7) (ofS t 7) < 0))) := by
  rw [← moreR_eq]
  unfold moreR
  simp only [Bool.or_eq_true, Bool.and_eq_true, decide_eq_true_eq, beq_iff_eq]
  omega
theorem more_irr (b : PBook) (s : Nat) : moreB b s s = false := by
  rw [← Bool.not_eq_true, more_iff, cmpL_irr]; omega
theorem more_trans {b : PBook} {s t u : Nat} (h1 : moreB b s t = true) (h2 : moreB b t u = true) : moreB b s u = true := by
  rw [more_iff] at *
  have := cmpL_trans (ofS s 7) (ofS t 7) (ofS u 7)
  omega
def okS (b : PBook) (z c : Int) (s : Nat) : Prop := 0 ≤ (dvOf true b z s).2 ∧ (dvOf true b z s).2 ≤ c
theorem dv_zero (b : PBook) (z : Int) : dvOf true b z 0 = ([], 0) := divD_zero
theorem send_ok {b : PBook} {z c : Int} (hc : 0 ≤ c) : ∀ n, okS b z c ((List.range n).foldl (sendStep b z c) 0) ∧ ∀ s, s < n → okS b z c s → moreB b s ((List.range n).foldl (sendStep b z c) 0) = false
  | 0 => ⟨by unfold okS; rw [List.range_zero, List.foldl_nil, dv_zero]; simp only; omega, fun s h => by omega⟩
  | n + 1 => by
    obtain ⟨h1, h2⟩ := send_ok (b := b) (z := z) hc n
    rw [List.range_succ, List.foldl_append, List.foldl_cons, List.foldl_nil]
    generalize (List.range n).foldl (sendStep b z c) 0 = m at *
    unfold sendStep
    by_cases hk : (dvOf true b z n).2 < 0 ∨ (dvOf true b z n).2 > c
    · rw [if_pos hk]
      refine ⟨h1, fun s hs ho => ?_⟩
      by_cases e : s = n
      · subst e; unfold okS at ho; omega
      · exact h2 s (by omega) ho
    · rw [if_neg hk]
      cases hm : moreB b n m with
      | true =>
        rw [if_pos rfl]
        refine ⟨by unfold okS; omega, fun s hs ho => ?_⟩
        by_cases e : s = n
        · subst e; exact more_irr b s
        · rw [← Bool.not_eq_true]
          intro h
          have := h2 s (by omega) ho
          rw [more_trans h hm] at this; cases this
      | false =>
        rw [if_neg (by simp)]
        refine ⟨h1, fun s hs ho => ?_⟩
        by_cases e : s = n
        · subst e; exact hm
        · exact h2 s (by omega) ho
/-- What is known of what is sent. -/
theorem sendM_ok {b : PBook} (hb : bookOk b = true) {z c : Int} (hz : 0 ≤ z ∧ z ≤ 4) (hc : 0 ≤ c ∧ c ≤ 20000) : ∃ B, sendM b z c = (ofS B 7, 0) ∧ B < 2 ^ b.pieces.length ∧ okS b z c B ∧ ∀ s, s < 2 ^ b.pieces.length → okS b z c s → moreB b s B = false := by
  refine ⟨sendB b z c, ?_, send_lt b z c _ (Nat.le_refl _), (send_ok hc.1 _).1, (send_ok hc.1 _).2⟩
  unfold sendM
  rw [hb, if_pos rfl, if_pos (by simp; omega)]
theorem nS_full {n : Nat} (hn : n ≤ 7) : nS (2 ^ n - 1) = n := by
  have h : ∀ n, n < 8 → nS (2 ^ n - 1) = n := by decide
  exact h n (by omega)
/-- If all can be sent, all is. -/
theorem send_all {b : PBook} (hG : GBook b) {B : Nat} (hB : B < 2 ^ b.pieces.length) (h : moreB b (2 ^ b.pieces.length - 1) B = false) : (ofS B 7).length = b.pieces.length := by
  have hf := nS_full hG.p7
  unfold nS at hf
  have hle := nS_le hG.p7 hB
  unfold nS at hle
  have hw : sumP b .worth (ofS B 7) ≤ sumP b .worth (ofS (2 ^ b.pieces.length - 1) 7) := by
    rw [sumP_allF, sumP_allF]
    exact allF_mono hG .worth (full_lt _) fun i hi => by rw [Nat.testBit_two_pow_sub_one]; simpa using bit_lt hB hi
  rw [← Bool.not_eq_true, more_iff, hf] at h
  omega
end Wb
