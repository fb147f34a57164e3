import Derived.Test.YtjdljckgphbkmaaDoorY
set_option linter.unusedVariables false
set_option linter.unusedSimpArgs false
/- What makes it easier (no program in sight). -/
namespace Wb
open Go Go.Proofs Enc Row
set_option linter.unusedSimpArgs false
set_option linter.unusedVariables false
set_option maxRecDepth 20000
set_option maxHeartbeats 4000000
/-- Each division has one that costs no more, of no more parcels. -/
def Easier (b x : PBook) (z : Int) : Prop := ∀ L, IsDiv b.kinds.length (postG b z) (2 ^ b.pieces.length - 1) L →
  ∃ L', IsDiv x.kinds.length (postG x z) (2 ^ x.pieces.length - 1) L' ∧ sumW (postG x z) L' ≤ sumW (postG b z) L ∧ L'.length ≤ L.length
theorem Easier.refl (b : PBook) (z : Int) : Easier b b z := fun L h => ⟨L, h, Int.le_refl _, Nat.le_refl _⟩
theorem div_zone {b : PBook} (hG : GBook b) {z z' : Int} (hz : 0 ≤ z ∧ z ≤ 4) (hz' : 0 ≤ z' ∧ z' ≤ 4) {s : Nat} (hs : s < 2 ^ b.pieces.length) {L : List (Nat × Nat)} (h : IsDiv b.kinds.length (postG b z) s L) : IsDiv b.kinds.length (postG b z') s L :=
  ⟨fun x hx => (by
    obtain ⟨h1, h2, h3, h4⟩ := h.ok x hx
    obtain ⟨g1, g2, g3, g4⟩ := isDiv_good hG hz hs h x hx
    refine ⟨h1, h2, h3, fun e => ?_⟩
    rw [(postG_zero hG hz' h1 g2 g3).1 e] at g4; exact absurd g4 (by simp)), h.once⟩
theorem sumW_one (post : Nat → Nat → Int) : ∀ L : List (Nat × Nat), sumW (wOf false post) L = L.length
  | [] => rfl
  | x :: L => by
    rw [sumW, sumW_one post L]
    unfold wOf
    simp; omega
theorem easier_law {b x : PBook} (hb : bookOk b = true) (hx : bookOk x = true) (hE : ∀ z, 0 ≤ z ∧ z ≤ 4 → Easier b x z) {z : Int} (hz : 0 ≤ z ∧ z ≤ 4) :
    ∃ was e is f few now, costM b z = (was, e) ∧ costM x z = (is, f) ∧ fewM b = (few, e) ∧ fewM x = (now, f) ∧ ((e = 4 ∧ was = 0 ∧ (f = 0 ∨ f = 4)) ∨ (e = 0 ∧ f = 0 ∧ is ≤ was ∧ now ≤ few)) := by
  have hG := book_good hb
  have hX := book_good hx
  have h0 : (0 : Int) ≤ 0 ∧ (0 : Int) ≤ 4 := by decide
  have ex : ∀ {b : PBook} (hG : GBook b), 0 ≤ (dvOf true b z (2 ^ b.pieces.length - 1)).2 ↔ 0 ≤ (dvOf false b 0 (2 ^ b.pieces.length - 1)).2 := fun {b} hG => by
    rw [dv_some hG hz (pow7 hG).1, dv_some hG h0 (pow7 hG).1]
    exact ⟨fun ⟨L, h⟩ => ⟨L, div_zone hG hz h0 (pow7 hG).2 h⟩, fun ⟨L, h⟩ => ⟨L, div_zone hG h0 hz (pow7 hG).2 h⟩⟩
  have exb := ex hG
  have exx := ex hX
  have up : 0 ≤ (dvOf true b z (2 ^ b.pieces.length - 1)).2 → 0 ≤ (dvOf true x z (2 ^ x.pieces.length - 1)).2 := fun h => by
    rw [dv_some hG hz (pow7 hG).1] at h
    rw [dv_some hX hz (pow7 hX).1]
    obtain ⟨L, hL⟩ := h
    obtain ⟨L', h', _⟩ := hE z hz L hL
    exact ⟨L', h'⟩
  unfold costM fewM
  rw [whole_eq hb hz, whole_eq hx hz, whole_eq hb h0, whole_eq hx h0]
  by_cases hb1 : (dvOf true b z (2 ^ b.pieces.length - 1)).2 < 0
  · have hb2 : (dvOf false b 0 (2 ^ b.pieces.length - 1)).2 < 0 := by omega
    rw [if_pos hb1, if_pos hb2]
    by_cases hx1 : (dvOf true x z (2 ^ x.pieces.length - 1)).2 < 0
    · have hx2 : (dvOf false x 0 (2 ^ x.pieces.length - 1)).2 < 0 := by omega
      rw [if_pos hx1, if_pos hx2]
      exact ⟨_, _, _, _, _, _, rfl, rfl, rfl, rfl, .inl ⟨rfl, rfl, .inr rfl⟩⟩
    · have hx2 : ¬ (dvOf false x 0 (2 ^ x.pieces.length - 1)).2 < 0 := by omega
      rw [if_neg hx1, if_neg hx2]
      exact ⟨_, _, _, _, _, _, rfl, rfl, rfl, rfl, .inl ⟨rfl, rfl, .inl rfl⟩⟩
  · have hb2 : ¬ (dvOf false b 0 (2 ^ b.pieces.length - 1)).2 < 0 := by omega
    have hx1 : ¬ (dvOf true x z (2 ^ x.pieces.length - 1)).2 < 0 := by omega
    have hx2 : ¬ (dvOf false x 0 (2 ^ x.pieces.length - 1)).2 < 0 := by omega
    rw [if_neg hb1, if_neg hb2, if_neg hx1, if_neg hx2]
    refine ⟨_, _, _, _, _, _, rfl, rfl, rfl, rfl, .inr ⟨rfl, rfl, ?_, ?_⟩⟩
    · rcases best_dv true hG hz (pow7 hG).1 with ⟨e, _⟩ | ⟨_, d2, d3, _⟩
      · rw [e] at hb1; simp at hb1
      · obtain ⟨L', l1, l2, l3⟩ := hE z hz _ d2
        obtain ⟨m, m1, m2⟩ := bestK_min (w := wOf true (postG x z)) 128 _ (pow7 hX).1 (pow7 hX).1 L' l1
        rcases best_dv true hX hz (pow7 hX).1 with ⟨e, _⟩ | ⟨_, _, _, k4⟩
        · rw [e] at hx1; simp at hx1
        · rw [m1] at k4
          cases k4
          rw [lt2_not, wOf_true] at m2
          unfold keyD at m2
          rw [if_pos rfl] at m2
          simp only at m2
          rw [← d3] at l2
          show (dvOf true x z (2 ^ x.pieces.length - 1)).2 ≤ (dvOf true b z (2 ^ b.pieces.length - 1)).2
          omega
    · rcases best_dv false hG h0 (pow7 hG).1 with ⟨e, _⟩ | ⟨_, d2, d3, _⟩
      · rw [e] at hb2; simp at hb2
      · obtain ⟨L', l1, l2, l3⟩ := hE 0 h0 _ d2
        obtain ⟨m, m1, m2⟩ := bestK_min (w := wOf false (postG x 0)) 128 _ (pow7 hX).1 (pow7 hX).1 L' l1
        rcases best_dv false hX h0 (pow7 hX).1 with ⟨e, _⟩ | ⟨_, _, _, k4⟩
        · rw [e] at hx2; simp at hx2
        · rw [m1] at k4
          cases k4
          rw [lt2_not, sumW_one] at m2
          unfold keyD at m2
          rw [if_neg (by simp)] at m2
          simp only at m2
          show ((dvOf false x 0 (2 ^ x.pieces.length - 1)).1.length : Int) ≤ ((dvOf false b 0 (2 ^ b.pieces.length - 1)).1.length : Int)
          omega
theorem sumW_le2 {w w' : Nat → Nat → Int} : ∀ L : List (Nat × Nat), (∀ x ∈ L, w' x.1 x.2 ≤ w x.1 x.2) → sumW w' L ≤ sumW w L
  | [], _ => Int.le_refl _
  | x :: L, h => by
    have h1 := h x (by simp)
    have h2 := sumW_le2 L fun y hy => h y (by simp [hy])
    rw [sumW, sumW]; omega
/-- Kinds that take as much, for no more. -/
theorem easier_kinds {b x : PBook} (hG : GBook b) (hX : GBook x) (hp : x.pieces = b.pieces) (hk : b.kinds.length ≤ x.kinds.length) {z : Int} (hz : 0 ≤ z ∧ z ≤ 4)
    (h : ∀ k p, k < b.kinds.length → 0 < p → p < 2 ^ b.pieces.length → fitsB b k p = true → fitsB x k p = true ∧ postG x z k p ≤ postG b z k p) : Easier b x z := fun L hL => by
  have hgood := isDiv_good hG hz (pow7 hG).2 hL
  refine ⟨L, ⟨fun y hy => ?_, ?_⟩, sumW_le2 L fun y hy => ?_, Nat.le_refl _⟩
  · obtain ⟨o1, o2, o3, o4⟩ := hL.ok y hy
    obtain ⟨g1, g2, g3, g4⟩ := hgood y hy
    refine ⟨by omega, o2, o3, fun e => ?_⟩
    have := (h y.1 y.2 g1 g2 g3 g4).1
    rw [(postG_zero hX hz (by omega) g2 (by rw [hp]; exact g3)).1 e] at this; cases this
  · rw [hp]; exact hL.once
  · obtain ⟨g1, g2, g3, g4⟩ := hgood y hy
    exact (h y.1 y.2 g1 g2 g3 g4).2
def withK (b : PBook) (ks : List Kind) : PBook := ⟨b.pieces, ks, b.grams, b.free, b.unit, b.fee, b.stamps⟩
theorem withK_ok {b : PBook} (hb : bookOk b = true) {ks : List Kind} (h1 : 1 ≤ ks.length ∧ ks.length ≤ 4) (h : ∀ k ∈ ks, kindOk k = true) : bookOk (withK b ks) = true := by
  unfold bookOk withK at *
  simp only [Bool.and_eq_true] at hb ⊢
  obtain ⟨⟨⟨⟨⟨⟨⟨⟨⟨b1, b2⟩, b3⟩, b4⟩, b5⟩, b6⟩, b7⟩, b8⟩, b9⟩, b10⟩ := hb
  exact ⟨⟨⟨⟨⟨⟨⟨⟨⟨b1, by unfold btw; simp; omega⟩, b3⟩, b4⟩, b5⟩, b6⟩, b7⟩, b8⟩, List.all_eq_true.2 h⟩, b10⟩
theorem kinds_ok {b : PBook} (hb : bookOk b = true) : ∀ k ∈ b.kinds, kindOk k = true := by
  unfold bookOk at hb
  simp only [Bool.and_eq_true] at hb
  exact fun k hk => List.all_eq_true.1 hb.1.2 k hk
/-- A kind that takes as much, for no more. -/
def BetterK (y y' : Kind) : Prop := y.room ≤ y'.room ∧ y.most ≤ y'.most ∧ y'.step ≤ y.step ∧ ∀ z : Nat, z ≤ 4 → y'.zones.getD z 0 ≤ y.zones.getD z 0
theorem BetterK.refl (y : Kind) : BetterK y y := ⟨Int.le_refl _, Int.le_refl _, Int.le_refl _, fun _ _ => Int.le_refl _⟩
theorem withK_better {b : PBook} (hb : bookOk b = true) {ks : List Kind} (h1 : b.kinds.length ≤ ks.length ∧ ks.length ≤ 4) (hk : ∀ k ∈ ks, kindOk k = true)
    (h : ∀ k, k < b.kinds.length → BetterK (b.kinds.getD k default) (ks.getD k default)) : bookOk (withK b ks) = true ∧ ∀ z, 0 ≤ z ∧ z ≤ 4 → Easier b (withK b ks) z := by
  have hG := book_good hb
  have hx := withK_ok hb (ks := ks) (by have := hG.k1; omega) hk
  have hX := book_good hx
  refine ⟨hx, fun z hz => easier_kinds hG hX rfl h1.1 hz fun k p g1 g2 g3 g4 => ?_⟩
  obtain ⟨q1, q2, q3, q4⟩ := h k g1
  have hf : fitsB (withK b ks) k p = true := by
    unfold fitsB at g4 ⊢
    simp only [Bool.and_eq_true, decide_eq_true_eq] at g4 ⊢
    refine ⟨g4.1, Int.le_trans g4.2.1 ?_, Int.le_trans g4.2.2 ?_⟩
    · exact q1
    · exact q2
  refine ⟨hf, ?_⟩
  have hkk : k < ks.length := by omega
  unfold postG
  rw [if_pos ⟨⟨hkk, g2, g3⟩, hf⟩, if_pos ⟨⟨g1, g2, g3⟩, g4⟩]
  have e1 : priceB (withK b ks) z k ≤ priceB b z k := q4 z.toNat (by omega)
  have e3 : insB (withK b ks) p = insB b p := rfl
  have e2 : stepsB (withK b ks) k p ≤ stepsB b k p := by
    show (ks.getD k default).step * ((allF b .weight p + b.grams - 1) / b.grams - 1) ≤ (b.kinds.getD k default).step * ((allF b .weight p + b.grams - 1) / b.grams - 1)
    have hw := weight_pos hG g2 g3
    have hgr := hG.grams
    have : 1 ≤ (allF b .weight p + b.grams - 1) / b.grams := by
      rw [Int.le_ediv_iff_mul_le (by omega)]; omega
    exact Int.mul_le_mul_of_nonneg_right q3 (by omega)
  omega
end Wb
/- A piece less (no program in sight). -/
namespace Wb
open Go Go.Proofs Enc Row
set_option linter.unusedSimpArgs false
set_option linter.unusedVariables false
set_option maxRecDepth 20000
set_option maxHeartbeats 4000000
def lessS (n i : Nat) : Nat := 2 ^ n - 1 - 2 ^ i
theorem less_list : ∀ n : Nat, n < 8 → ∀ i : Nat, i < n → ofS (lessS n i) 7 = (List.range' 0 i ++ List.range' (i + 1) (n - i - 1)).map fun (k : Nat) => (k : Int) := by decide
theorem less_lt : ∀ n : Nat, n < 8 → ∀ i : Nat, i < n → lessS n i < 2 ^ n ∧ (2 ≤ n → lessS n i ≠ 0) := by decide
theorem less_bits : ∀ n : Nat, n < 8 → ∀ i : Nat, i < n → ∀ j : Nat, j < 8 → (lessS n i).testBit j = (decide (j < n) && decide (j ≠ i)) := by decide
theorem map_range (l : List Piece) : ∀ (m a : Nat), a + m ≤ l.length → (List.range' a m).map (fun k => l.getD k default) = (l.drop a).take m
  | 0, a, _ => by simp
  | m + 1, a, h => by
    rw [List.range'_succ, List.map_cons, map_range l m (a + 1) (by omega), List.drop_eq_getElem_cons (show a < l.length by omega), List.take_succ_cons]
    congr 1
    simp [List.getD_eq_getElem?_getD, show a < l.length by omega]
theorem less_pieces {b : PBook} (hp : b.pieces.length ≤ 7) {i : Nat} (hi : i < b.pieces.length) : (partB b (ofS (lessS b.pieces.length i) 7)).pieces = b.pieces.take i ++ b.pieces.drop (i + 1) := by
  unfold partB
  simp only
  rw [less_list _ (by omega) i hi, List.map_map, List.map_append]
  have e : (pieceAt b ∘ fun (k : Nat) => (k : Int)) = fun k => b.pieces.getD k default := by
    funext k; rfl
  rw [e, map_range _ i 0 (by omega), map_range _ _ (i + 1) (by omega), List.drop_zero]
  congr 1
  rw [List.take_of_length_le]
  rw [List.length_drop]; omega
def cutL (s : Nat) (L : List (Nat × Nat)) : List (Nat × Nat) := (L.map fun x => (x.1, x.2 &&& s)).filter fun x => decide (x.2 ≠ 0)
theorem cut_cons (s : Nat) (x : Nat × Nat) (L : List (Nat × Nat)) : cutL s (x :: L) = if x.2 &&& s ≠ 0 then (x.1, x.2 &&& s) :: cutL s L else cutL s L := by
  unfold cutL
  rw [List.map_cons, List.filter_cons]
  by_cases h : x.2 &&& s = 0
  · simp [h]
  · simp [h]
theorem cut_count (s j : Nat) : ∀ L : List (Nat × Nat), ((cutL s L).filter fun x => x.2.testBit j).length = if s.testBit j then (L.filter fun x => x.2.testBit j).length else 0
  | [] => by simp [cutL]
  | x :: L => by
    have ih := cut_count s j L
    rw [cut_cons, List.filter_cons (xs := L)]
    by_cases h : x.2 &&& s = 0
    · rw [if_neg (by simp [h]), ih]
      cases hs : s.testBit j with
      | false => simp
      | true =>
        have : (x.2 &&& s).testBit j = false := by rw [h]; simp
        rw [Nat.testBit_and, hs, Bool.and_true] at this
        simp [this]
    · rw [if_pos h, List.filter_cons, Nat.testBit_and]
      cases hs : s.testBit j with
      | false => rw [hs] at ih; simp at ih ⊢; exact ih
      | true =>
        rw [hs] at ih
        simp only [Bool.and_true, if_true] at ih ⊢
        split
        · rw [List.length_cons, List.length_cons, ih]
        · exact ih
theorem cut_sum {w : Nat → Nat → Int} {s : Nat} (h0 : ∀ k p, 0 ≤ w k p) : ∀ L : List (Nat × Nat), (∀ x ∈ L, x.2 &&& s ≠ 0 → w x.1 (x.2 &&& s) ≤ w x.1 x.2) → sumW w (cutL s L) ≤ sumW w L
  | [], _ => Int.le_refl _
  | x :: L, h => by
    have ih := cut_sum h0 L fun y hy => h y (by simp [hy])
    have hx := h x (by simp)
    have hw := h0 x.1 x.2
    rw [cut_cons, sumW]
    by_cases e : x.2 &&& s = 0
    · rw [if_neg (by simp [e])]; omega
    · rw [if_pos e, sumW]
      have := hx e
      simp only; omega
theorem cut_len (s : Nat) (L : List (Nat × Nat)) : (cutL s L).length ≤ L.length := by
  unfold cutL
  exact Nat.le_trans (List.length_filter_le _ _) (by simp)
theorem easier_less {b : PBook} (hb : bookOk b = true) {i : Nat} (h2 : 2 ≤ b.pieces.length) (hi : i < b.pieces.length) :
    bookOk (partB b (ofS (lessS b.pieces.length i) 7)) = true ∧ ∀ z, 0 ≤ z ∧ z ≤ 4 → Easier b (partB b (ofS (lessS b.pieces.length i) 7)) z := by
  have hG := book_good hb
  have hp := hG.p7
  obtain ⟨l1, l2⟩ := less_lt b.pieces.length (by omega) i hi
  have l2 := l2 h2
  have l3 := less_bits b.pieces.length (by omega) i hi
  refine ⟨part_book hb l2 l1, fun z hz L hL => ?_⟩
  generalize hs : lessS b.pieces.length i = s at *
  have hgood := isDiv_good hG hz (pow7 hG).2 hL
  have h128 := Nat.lt_of_lt_of_le l1 (two7 hp)
  have hsub : ∀ p i, (p &&& s).testBit i = true → p.testBit i = true := fun p i h => by
    rw [Nat.testBit_and] at h; simp at h; exact h.1
  have hcut : IsDiv b.kinds.length (postG b z) s (cutL s L) := by
    refine ⟨fun y hy => ?_, fun j => ?_⟩
    · unfold cutL at hy
      obtain ⟨h3, h4⟩ := List.mem_filter.1 hy
      obtain ⟨x, hx, rfl⟩ := List.mem_map.1 h3
      simp only [decide_eq_true_eq] at h4 ⊢
      obtain ⟨o1, o2, o3, o4⟩ := hL.ok x hx
      obtain ⟨g1, g2, g3, g4⟩ := hgood x hx
      have hle : x.2 &&& s ≤ s := Nat.and_le_right
      refine ⟨o1, by omega, h4, fun e => ?_⟩
      have := fits_less hG (Nat.pos_of_ne_zero h4) g3 (hsub x.2) g4
      rw [(postG_zero hG hz g1 (Nat.pos_of_ne_zero h4) (by omega)).1 e] at this; cases this
    · rw [cut_count, hL.once j, Nat.testBit_two_pow_sub_one]
      cases hj : s.testBit j with
      | false => simp
      | true => simp [bit_lt l1 hj]
  obtain ⟨d1, d2⟩ := div_bwd hp l1 hcut
  refine ⟨_, by rw [part_len]; exact d1, ?_, ?_⟩
  · rw [d2]
    refine cut_sum (fun k p => (postG_nonneg hG hz k p).1) L fun x hx h0 => ?_
    obtain ⟨g1, g2, g3, g4⟩ := hgood x hx
    have hle : x.2 &&& s ≤ s := Nat.and_le_right
    exact post_mono hG g1 (Nat.pos_of_ne_zero h0) (by omega) g3 (hsub x.2) g4
  · rw [List.length_map]; exact cut_len s L
end Wb
