import Derived.Test.YtjdljckgphbkmaaDoorU
set_option linter.unusedVariables false
set_option linter.unusedSimpArgs false
/- The reference's prices: the best division of each set, part by part, kind by kind (no program in sight). -/
namespace Wb
open Go Go.Proofs Enc Row
set_option linter.unusedSimpArgs false
set_option linter.unusedVariables false
set_option maxRecDepth 20000
set_option maxHeartbeats 4000000
def toPr : Option (Int × Int) → Int × Int
  | none => (0, -1)
  | some m => m
def betterP (a c : Int × Int) : Bool := decide (a.2 ≥ 0) && ((decide (c.2 < 0) || decide (a.1 < c.1)) || ((a.1 == c.1) && decide (a.2 < c.2)))
def updP (best x : Int × Int) : Int × Int := if betterP x best then x else best
theorem upd_best {m : Option (Int × Int)} (hm : ∀ y, m = some y → 0 ≤ y.2) {x : Int × Int} (hx : 0 ≤ x.2) : updP (toPr m) x = toPr (best2 m x) ∧ ∀ y, best2 m x = some y → 0 ≤ y.2 := by
  cases m with
  | none =>
    refine ⟨?_, fun y hy => by cases hy; exact hx⟩
    unfold updP betterP best2 toPr
    simp [hx]
  | some y =>
    have hy := hm y rfl
    unfold updP betterP best2 toPr
    have e : (decide (x.2 ≥ 0) && ((decide (y.2 < 0) || decide (x.1 < y.1)) || ((x.1 == y.1) && decide (x.2 < y.2)))) = lt2 x y := by
      unfold lt2
      have h1 : decide (x.2 ≥ 0) = true := decide_eq_true hx
      have h2 : decide (y.2 < 0) = false := decide_eq_false (by omega)
      rw [h1, h2]
      rfl
    simp only [e]
    cases lt2 x y
    · exact ⟨rfl, fun z hz => by cases hz; exact hy⟩
    · exact ⟨rfl, fun z hz => by cases hz; exact hx⟩
theorem fold_upd : ∀ (l : List (Int × Int)) (m : Option (Int × Int)), (∀ y, m = some y → 0 ≤ y.2) → (∀ x ∈ l, 0 ≤ x.2) → l.foldl updP (toPr m) = toPr (l.foldl best2 m)
  | [], _, _, _ => rfl
  | x :: l, m, hm, hl => by
    obtain ⟨h1, h2⟩ := upd_best hm (hl x (by simp))
    rw [List.foldl_cons, List.foldl_cons, h1]
    exact fold_upd l _ h2 fun y hy => hl y (by simp [hy])
/-- The best price of a set of pieces. -/
def priceT (b : PBook) (z : Int) (s : Nat) : Int × Int := toPr (bestK b.kinds.length (postG b z) (postG b z) s)
theorem sumW_bound {post : Nat → Nat → Int} {B : Int} (h : ∀ k p, 0 ≤ post k p ∧ post k p ≤ B) : ∀ L : List (Nat × Nat), 0 ≤ sumW post L ∧ sumW post L ≤ B * L.length
  | [] => by simp [sumW]
  | x :: L => by
    have h1 := h x.1 x.2
    have h2 := sumW_bound h L
    simp only [sumW, List.length_cons, Int.natCast_add, Int.mul_add]
    omega
theorem best_dv (c : Bool) {b : PBook} (hG : GBook b) {z : Int} (hz : 0 ≤ z ∧ z ≤ 4) {s : Nat} (hs : s < 128) : DvOk c b.kinds.length (postG b z) s (dvOf c b z s) (bestK b.kinds.length (postG b z) (wOf c (postG b z)) s) :=
  divD_ok (c := c) (nk := b.kinds.length) (post := postG b z) (fun k p => (postG_nonneg hG hz k p).1) 128 s hs hs
theorem wOf_true (post : Nat → Nat → Int) : wOf true post = post := rfl
/-- The best price, by the division that is told. -/
theorem priceT_dv {b : PBook} (hG : GBook b) {z : Int} (hz : 0 ≤ z ∧ z ≤ 4) {s : Nat} (hs : s < 128) :
    priceT b z s = if (dvOf true b z s).2 < 0 then (0, -1) else ((dvOf true b z s).2, ((dvOf true b z s).1.length : Int)) := by
  have h := best_dv true hG hz hs
  rw [wOf_true] at h
  unfold priceT
  rcases h with ⟨h1, h2⟩ | ⟨h1, h2, h3, h4⟩
  · rw [h1, h2]; rfl
  · rw [h4, if_neg (by omega)]; rfl
theorem priceT_bound {b : PBook} (hG : GBook b) {z : Int} (hz : 0 ≤ z ∧ z ≤ 4) {s : Nat} (hs : s < 128) : (0 ≤ (priceT b z s).1 ∧ (priceT b z s).1 ≤ 200001000 * 127) ∧ -1 ≤ (priceT b z s).2 ∧ (priceT b z s).2 ≤ 127 := by
  have h := best_dv true hG hz hs
  have hl := h.len hs
  rw [priceT_dv hG hz hs]
  rcases h with ⟨h1, h2⟩ | ⟨h1, h2, h3, h4⟩
  · rw [h1]; decide
  · rw [if_neg (by omega)]
    have h5 := sumW_bound (fun k p => postG_nonneg hG hz k p) (dvOf true b z s).1
    rw [← h3] at h5
    simp only
    omega
def firstN (s : Nat) : Nat := ((ofS s 7).getD 0 0).toNat
theorem first_all : ∀ s, s < 128 → s ≠ 0 → lowB s = 2 ^ firstN s ∧ firstN s < 7 ∧ (ofS s 7).getD 0 0 = (firstN s : Int) := by decide +kernel
theorem and_two (p i : Nat) : (p &&& 2 ^ i ≠ 0) ↔ p.testBit i = true := by
  constructor
  · intro h
    rw [← Bool.not_eq_false]
    refine fun e => h (eq_zero_of_bits fun j => ?_)
    rw [Nat.testBit_and, Nat.testBit_two_pow]
    by_cases hij : i = j
    · subst hij; rw [e]; rfl
    · simp [hij]
  · intro h e
    have : (p &&& 2 ^ i).testBit i = false := by rw [e]; simp
    rw [Nat.testBit_and, h, Nat.testBit_two_pow_self] at this
    cases this
/-- A part of a set that is looked at. -/
def condP (b : PBook) (z : Int) (s p : Nat) : Bool := !(((p &&& s != p) || !p.testBit (firstN s)) || decide ((priceT b z (s - p)).2 < 0))
def stepK (b : PBook) (z : Int) (s p : Nat) (best : Int × Int) (k : Nat) : Int × Int :=
  if fitsB b k p then updP best ((priceT b z (s - p)).1 + postG b z k p, (priceT b z (s - p)).2 + 1) else best
def stepP (b : PBook) (z : Int) (s : Nat) (best : Int × Int) (p : Nat) : Int × Int :=
  if condP b z s p then (List.range b.kinds.length).foldl (stepK b z s p) best else best
def candP (b : PBook) (z : Int) (s p : Nat) : List (Int × Int) :=
  if condP b z s p then ((List.range b.kinds.length).filter fun k => fitsB b k p).map fun k => ((priceT b z (s - p)).1 + postG b z k p, (priceT b z (s - p)).2 + 1) else []
theorem foldK (b : PBook) (z : Int) (s p : Nat) : ∀ (l : List Nat) (best : Int × Int), l.foldl (stepK b z s p) best = ((l.filter fun k => fitsB b k p).map fun k => ((priceT b z (s - p)).1 + postG b z k p, (priceT b z (s - p)).2 + 1)).foldl updP best
  | [], _ => rfl
  | k :: l, best => by
    rw [List.foldl_cons, List.filter_cons, foldK b z s p l]
    unfold stepK
    cases fitsB b k p <;> simp
theorem foldP (b : PBook) (z : Int) (s : Nat) : ∀ (l : List Nat) (best : Int × Int), l.foldl (stepP b z s) best = (l.flatMap (candP b z s)).foldl updP best
  | [], _ => rfl
  | p :: l, best => by
    rw [List.foldl_cons, List.flatMap_cons, List.foldl_append, foldP b z s l]
    congr 1
    unfold stepP candP
    split
    · rw [foldK]
    · rfl
theorem condP_iff {b : PBook} {z : Int} {s p : Nat} : condP b z s p = true ↔ p &&& s = p ∧ p.testBit (firstN s) = true ∧ 0 ≤ (priceT b z (s - p)).2 := by
  unfold condP
  simp only [Bool.not_eq_true', Bool.or_eq_false_iff, bne_eq_false_iff_eq, Bool.not_eq_false', decide_eq_false_iff_not, Int.not_lt, and_assoc]
theorem prices_step {b : PBook} (hG : GBook b) {z : Int} (hz : 0 ≤ z ∧ z ≤ 4) {s : Nat} (h0 : s ≠ 0) (hs : s < 2 ^ b.pieces.length) : (List.range (s + 1)).foldl (stepP b z s) (0, -1) = priceT b z s := by
  have h7 := Nat.lt_of_lt_of_le hs (two7 hG.p7)
  obtain ⟨f1, f2, f3⟩ := first_all s h7 h0
  rw [foldP]
  have hpos : ∀ x ∈ (List.range (s + 1)).flatMap (candP b z s), 0 ≤ x.2 := by
    intro x hx
    obtain ⟨p, _, hx⟩ := List.mem_flatMap.1 hx
    unfold candP at hx
    split at hx
    · rename_i hc
      obtain ⟨k, _, rfl⟩ := List.mem_map.1 hx
      have := (condP_iff.1 hc).2.2
      simp only; omega
    · cases hx
  rw [show ((0, -1) : Int × Int) = toPr none from rfl, fold_upd _ none (fun y h => by cases h) hpos]
  unfold priceT
  rw [bestK_step h7 h0]
  congr 1
  refine minK_eq fun x => ?_
  rw [List.mem_flatMap, List.mem_filterMap]
  constructor
  · rintro ⟨p, hp, hx⟩
    unfold candP at hx
    split at hx
    · rename_i hc
      obtain ⟨c1, c2, c3⟩ := condP_iff.1 hc
      obtain ⟨k, hk, rfl⟩ := List.mem_map.1 hx
      obtain ⟨hk, hf⟩ := List.mem_filter.1 hk
      have hk := List.mem_range.1 hk
      have hps : p ≤ s := by rw [← c1]; exact Nat.and_le_right
      have hp0 : 0 < p := Nat.pos_of_ne_zero fun e => by rw [e] at c2; simp at c2
      refine ⟨(k, p), mem_loadsL.2 ⟨(mem_partsL h7 h0).2 ⟨by omega, c1, by rw [f1, and_two]; exact c2⟩, hk, fun e => ?_⟩, ?_⟩
      · rw [(postG_zero hG hz hk hp0 (by omega)).1 e] at hf; cases hf
      · unfold priceT at c3 ⊢
        simp only
        cases hb : bestK b.kinds.length (postG b z) (postG b z) (s - p) with
        | none => rw [hb] at c3; exact absurd c3 (by decide)
        | some m => rfl
    · cases hx
  · rintro ⟨⟨k, p⟩, hy, hx⟩
    obtain ⟨y1, y2, y3⟩ := mem_loadsL.1 hy
    simp only at y1 y2 y3 hx
    obtain ⟨p1, p2, p3⟩ := (mem_partsL h7 h0).1 y1
    rw [f1, and_two] at p3
    have hps : p ≤ s := by rw [← p2]; exact Nat.and_le_right
    have hp0 : 0 < p := Nat.pos_of_ne_zero fun e => by rw [e] at p3; simp at p3
    have hpr : priceT b z (s - p) = toPr (bestK b.kinds.length (postG b z) (postG b z) (s - p)) := rfl
    cases hb : bestK b.kinds.length (postG b z) (postG b z) (s - p) with
    | none => rw [hb] at hx; cases hx
    | some m =>
      rw [hb] at hx hpr
      have hm : 0 ≤ m.2 := by
        have h := best_dv true hG hz (s := s - p) (by omega)
        rw [wOf_true, hb] at h
        rcases h with ⟨_, h2⟩ | ⟨_, _, _, h4⟩
        · cases h2
        · cases h4; unfold keyD; simp
      refine ⟨p, List.mem_range.2 (by omega), ?_⟩
      unfold candP
      rw [if_pos (condP_iff.2 ⟨p2, p3, by rw [hpr]; exact hm⟩)]
      refine List.mem_map.2 ⟨k, List.mem_filter.2 ⟨List.mem_range.2 y2, ?_⟩, ?_⟩
      · rw [← Bool.not_eq_false]
        exact fun e => y3 ((postG_zero hG hz y2 hp0 (by omega)).2 e)
      · rw [hpr]
        simpa [toPr] using hx
theorem priceT_zero (b : PBook) (z : Int) : priceT b z 0 = (0, 0) := by unfold priceT; rw [bestK_zero]; rfl
/-! Few: the cheapest division, if a parcel costs the same whatever it has -/
def flatK (k : Kind) : Kind := ⟨k.room, k.most, [1, 1, 1, 1, 1], 0⟩
def flatB (b : PBook) : PBook := ⟨b.pieces, b.kinds.map flatK, b.grams, b.free, b.unit, 0, b.stamps⟩
theorem flat_ok {b : PBook} (hb : bookOk b = true) : bookOk (flatB b) = true := by
  unfold bookOk flatB at *
  simp only [Bool.and_eq_true, List.length_map] at hb ⊢
  obtain ⟨⟨⟨⟨⟨⟨⟨⟨⟨h1, h2⟩, h3⟩, h4⟩, h5⟩, h6⟩, h7⟩, h8⟩, h9⟩, h10⟩ := hb
  refine ⟨⟨⟨⟨⟨⟨⟨⟨⟨h1, h2⟩, h3⟩, h4⟩, h5⟩, by decide⟩, h7⟩, h8⟩, ?_⟩, h10⟩
  rw [List.all_eq_true] at h9 ⊢
  intro k hk
  obtain ⟨j, hj, rfl⟩ := List.mem_map.1 hk
  have := h9 j hj
  unfold kindOk flatK at *
  simp only [Bool.and_eq_true] at this ⊢
  exact ⟨⟨⟨⟨this.1.1.1.1, this.1.1.1.2⟩, rfl⟩, rfl⟩, rfl⟩
theorem flat_kind (b : PBook) {k : Nat} (hk : k < b.kinds.length) : (flatB b).kinds.getD k default = flatK (b.kinds.getD k default) := by
  unfold flatB; simp [List.getD_eq_getElem?_getD, hk]
theorem flat_fits (b : PBook) {k : Nat} (hk : k < b.kinds.length) (s : Nat) : fitsB (flatB b) k s = fitsB b k s := by
  unfold fitsB
  rw [flat_kind b hk]
  rfl
theorem flat_post (b : PBook) {k : Nat} (hk : k < b.kinds.length) (s : Nat) : postG (flatB b) 0 k s = if (0 < s ∧ s < 2 ^ b.pieces.length) ∧ fitsB b k s = true then 1 else 0 := by
  unfold postG
  rw [flat_fits b hk]
  have e : ((k < (flatB b).kinds.length ∧ 0 < s ∧ s < 2 ^ (flatB b).pieces.length) ∧ fitsB b k s = true) ↔ ((0 < s ∧ s < 2 ^ b.pieces.length) ∧ fitsB b k s = true) := by
    unfold flatB; simp [hk]
  by_cases h : (0 < s ∧ s < 2 ^ b.pieces.length) ∧ fitsB b k s = true
  · rw [if_pos (e.2 h), if_pos h]
    unfold priceB stepsB insB
    rw [flat_kind b hk]
    unfold flatK
    simp [flatB]
  · rw [if_neg (fun x => h (e.1 x)), if_neg h]
theorem bestF_congr {nk : Nat} {post post' w w' : Nat → Nat → Int} (h : ∀ k p, k < nk → (post k p ≠ 0 ↔ post' k p ≠ 0) ∧ (post k p ≠ 0 → w k p = w' k p)) : ∀ f s, bestF nk post w f s = bestF nk post' w' f s
  | 0, _ => rfl
  | f + 1, s => by
    unfold bestF
    split
    · rfl
    · refine minK_eq fun x => ?_
      rw [List.mem_filterMap, List.mem_filterMap]
      constructor
      · rintro ⟨y, hy, hx⟩
        obtain ⟨y1, y2, y3⟩ := mem_loadsL.1 hy
        obtain ⟨e1, e2⟩ := h y.1 y.2 y2
        refine ⟨y, mem_loadsL.2 ⟨y1, y2, e1.1 y3⟩, ?_⟩
        rw [← bestF_congr h f, ← e2 y3]; exact hx
      · rintro ⟨y, hy, hx⟩
        obtain ⟨y1, y2, y3⟩ := mem_loadsL.1 hy
        obtain ⟨e1, e2⟩ := h y.1 y.2 y2
        refine ⟨y, mem_loadsL.2 ⟨y1, y2, e1.2 y3⟩, ?_⟩
        rw [bestF_congr h f, e2 (e1.2 y3)]; exact hx
theorem flat_price {b : PBook} (hb : bookOk b = true) {s : Nat} (hs : s < 128) : priceT (flatB b) 0 s = if (dvOf false b 0 s).2 < 0 then (0, -1) else (((dvOf false b 0 s).1.length : Int), ((dvOf false b 0 s).1.length : Int)) := by
  have hG := book_good hb
  have h := best_dv false hG (z := 0) (by decide) hs
  have e : bestK (flatB b).kinds.length (postG (flatB b) 0) (postG (flatB b) 0) s = bestK b.kinds.length (postG b 0) (wOf false (postG b 0)) s := by
    rw [show (flatB b).kinds.length = b.kinds.length by unfold flatB; simp]
    unfold bestK
    refine bestF_congr (fun k p hk => ?_) _ _
    rw [flat_post b hk]
    by_cases hp : 0 < p ∧ p < 2 ^ b.pieces.length
    · have := postG_zero hG (z := 0) (by decide) hk hp.1 hp.2
      cases hf : fitsB b k p with
      | true =>
        rw [hf] at this
        rw [if_pos ⟨hp, rfl⟩]
        have h0 : postG b 0 k p ≠ 0 := fun h => by have := this.1 h; cases this
        exact ⟨⟨fun _ => h0, fun _ => by decide⟩, fun _ => rfl⟩
      | false =>
        rw [hf] at this
        have h0 : postG b 0 k p = 0 := this.2 rfl
        rw [if_neg (by simp), h0]
        exact ⟨Iff.rfl, fun h => absurd rfl h⟩
    · rw [if_neg fun h => hp h.1]
      have : postG b 0 k p = 0 := by unfold postG; rw [if_neg fun h => hp h.1.2]
      rw [this]
      exact ⟨Iff.rfl, fun h => absurd rfl h⟩
  unfold priceT
  rw [e]
  rcases h with ⟨h1, h2⟩ | ⟨h1, h2, h3, h4⟩
  · rw [h1, h2]; rfl
  · rw [h4, if_neg (by omega)]; rfl
end Wb
/- The reference's prices. -/
namespace Wb
open Go Go.Proofs Enc Row
set_option linter.unusedSimpArgs false
set_option linter.unusedVariables false
set_option maxRecDepth 20000
set_option maxHeartbeats 4000000
theorem better_fn (a c : Int × Int) : Fn E18 0 90 Tryd.f90 (Tryd.f90.body.getD .skip) [.agg (encS a), .agg (encS c)] (.bool (betterP a c)) := by
  obtain ⟨a1, a2⟩ := a
  obtain ⟨c1, c2⟩ := c
  unfold Fn Tryd.f90 betterP
  simp only [go_sem, Nat.reduceAdd, Nat.reduceSub, Nat.reduceMul, Nat.reduceEqDiff, Nat.reduceLT, Nat.reduceLeDiff, Nat.reduceBEq, Nat.reduceBNe, Int.reduceToNat, Int.reduceLE, Int.reduceLT, Int.reduceNe, Int.reduceNeg, reduceCtorEq, Int.reduceBEq, Int.reduceBNe, encS]
  exact ⟨fun a b => ⟨a, b⟩, fun a b => ⟨a, b⟩, fun a b => ⟨a, b⟩⟩
def s90 : Spec := spec2 (fun (_ _ : Int × Int) => True) (fun a c => .bool (betterP a c))
theorem s90_ok : SpecOK Tryd.prog glB 90 s90 := spec2_ok E18_ok Tryd.func90 rfl (by kernel_rfl) fun a c _ => better_fn a c
noncomputable def E20t : List (Nat × Spec) := [(90, s90), (15, s15), (19, s19), (21, s21)] ++ E18t
theorem E20t_ok : AllOK E20t := ⟨⟨s90_ok, Tryd.call90⟩, ⟨s15_ok, Tryd.call15⟩, ⟨s19_ok, Tryd.call19⟩, ⟨s21_ok, Tryd.call21⟩, E18t_ok⟩
noncomputable def E20 : Env := mkE E20t []
theorem E20_ok : EnvOK Tryd.prog E20 := envOK E20t_ok trivial
theorem E20_ti {t : Nat} : E20.ti t = ti t := rfl
theorem E20_q0 : (E20).eqt 130 = true := rfl
theorem E20_q1 : (E20).keyt 3 = true := rfl
theorem E20_q2 : (E20).keyt 85 = true := rfl
attribute [go_sem] E20_ti E20_q0 E20_q1 E20_q2
def tabT (b : PBook) (z : Int) (m : Nat) : List (Int × Int) := (List.range m).map (priceT b z)
theorem tabT_succ (b : PBook) (z : Int) (m : Nat) : tabT b z (m + 1) = tabT b z m ++ [priceT b z m] := by unfold tabT; rw [List.range_succ, List.map_append]; rfl
theorem tabT_len (b : PBook) (z : Int) (m : Nat) : (tabT b z m).length = m := by unfold tabT; simp
theorem tabT_get (b : PBook) (z : Int) {m i : Nat} (h : i < m) (d : List PV) : ((tabT b z m).map encS).getD i d = encS (priceT b z i) := by unfold tabT; simp [List.getD_eq_getElem?_getD, h]
theorem ofS_first {n s : Nat} (hn : n ≤ 7) (hs : s < 2 ^ n) (h0 : s ≠ 0) : (ofS s n).getD 0 0 = (firstN s : Int) ∧ 0 < (ofS s n).length := by
  rw [of_trunc hn hs]
  have h7 := Nat.lt_of_lt_of_le hs (two7 hn)
  exact ⟨(first_all s h7 h0).2.2, List.length_pos_iff.2 (ofS_ne (Nat.pos_of_ne_zero h0) hs hn)⟩
theorem fold_bound {b : PBook} (hG : GBook b) {z : Int} (hz : 0 ≤ z ∧ z ≤ 4) : True := trivial
theorem prices_fn (b : PBook) (hG : GBook b) (z : Int) (hz : 0 ≤ z ∧ z ≤ 4) : Fn E20 0 70 Tryd.f70 (Tryd.f70.body.getD .skip) [.agg (encB b), .int .i64 z] (.sl ((tabT b z (2 ^ b.pieces.length)).map encS) false) := by
  have hdb : (dec (.agg (encB b)) : Option PBook) = some b := dec_book b
  have p1 := hG.p1
  have p7 := hG.p7
  have k4 := hG.k4
  have hn7 := two7 p7
  have hpn := Nat.two_pow_pos b.pieces.length
  have hsh := shl_one (k := b.pieces.length) (by omega)
  have hstep := @prices_step b hG z hz
  have hbnd := @priceT_bound b hG z hz
  have htake : ∀ k s : Nat, s < 2 ^ b.pieces.length → takesM b (k : Int) (ofS s 7) = fitsB b k s := fun k s hs => takes_fits hG hs
  have okR : ∀ k s : Nat, k < b.kinds.length → 0 < s → s < 2 ^ b.pieces.length → okRef b ⟨(k : Int), ofS s 7⟩ = True := fun k s hk h0 hs => eq_true (okRef_of hG hk h0 hs)
  have okW : ∀ s : Nat, 0 < s → s < 2 ^ b.pieces.length → (1 ≤ sumP b .weight (ofS s 7)) = True := fun s h0 hs => eq_true (by rw [sumP_allF]; exact weight_pos hG h0 hs)
  have hcost : ∀ k s : Nat, k < b.kinds.length → 0 < s → s < 2 ^ b.pieces.length → fitsB b k s = true → costsM b (k : Int) (ofS s 7) z = postG b z k s := fun k s hk h0 hs hf => (postG_fit hk h0 hs hf).symm
  have hpb := fun k s => postG_nonneg hG hz k s
  have hofs : ∀ s : Nat, s < 2 ^ b.pieces.length → ofS s b.pieces.length = ofS s 7 := fun s hs => of_trunc p7 hs
  have hfirst : ∀ s : Nat, s < 2 ^ b.pieces.length → s ≠ 0 → (ofS s 7).getD 0 0 = (firstN s : Int) ∧ (0 : Int) < ((ofS s 7).length : Int) := fun s hs h0 => by
    have := ofS_first p7 hs h0
    rw [hofs s hs] at this
    exact ⟨this.1, by omega⟩
  unfold Fn Tryd.f70
  have h0c : ∀ s, condP b z s 0 = false := fun s => by unfold condP; simp
  obtain ⟨ps, ks, gr, fr, un, fe, st⟩ := b
  simp only [encB] at hdb
  simp only at p1 p7 k4 hn7 hpn hsh hstep htake okR okW hcost hofs hfirst
  simp only [go_sem, Nat.reduceAdd, Nat.reduceSub, Nat.reduceMul, Nat.reduceEqDiff, Nat.reduceLT, Nat.reduceLeDiff, Nat.reduceBEq, Nat.reduceBNe, Int.reduceToNat, Int.reduceLE, Int.reduceLT, Int.reduceNe, Int.reduceNeg, reduceCtorEq, Int.reduceBEq, Int.reduceBNe, encB, List.length_map]
  have hz01 : tabT ⟨ps, ks, gr, fr, un, fe, st⟩ z 1 = [(0, 0)] := by rw [tabT_succ, priceT_zero]; rfl
  refine ev_loopS [1, 2, 5] (fun x : Nat × PV => [(6, x.2), (7, .int .i64 x.1)])
    (fun x H => (1 ≤ x.1 ∧ x.1 ≤ 2 ^ ps.length) ∧ H (([], 70000000) : Key) = some (.cells (encB ⟨ps, ks, gr, fr, un, fe, st⟩) 1 false) ∧ Own2 H (fun K => K = ([], 70002001) ∨ K = ([], 70020003)) x.2 2 ((tabT ⟨ps, ks, gr, fr, un, fe, st⟩ z x.1).map encS))
    (fun x => 2 ^ ps.length - x.1) (1, .sref ([], 70002001) 1 2 1 true) ?_ ⟨⟨Nat.le_refl _, by simp only; omega⟩, ?_, ([], 70002001), 1, true, .inl rfl, rfl, ?_⟩ ?_
  · simp only [go_sem, Nat.reduceAdd, Nat.reduceSub, Nat.reduceMul, Nat.reduceEqDiff, Nat.reduceLT, Nat.reduceLeDiff, Nat.reduceBEq, Nat.reduceBNe, Int.reduceToNat, Int.reduceLE, Int.reduceLT, Int.reduceNe, Int.reduceNeg, reduceCtorEq, Int.reduceBEq, Int.reduceBNe, Int.natCast_one]
  · simp only [go_sem, Nat.reduceAdd, Nat.reduceSub, Nat.reduceMul, Nat.reduceEqDiff, Nat.reduceLT, Nat.reduceLeDiff, Nat.reduceBEq, Nat.reduceBNe, Int.reduceToNat, Int.reduceLE, Int.reduceLT, Int.reduceNe, Int.reduceNeg, reduceCtorEq, Int.reduceBEq, Int.reduceBNe, encB]
  · rw [hz01]
    simp only [go_sem, Nat.reduceAdd, Nat.reduceSub, Nat.reduceMul, Nat.reduceEqDiff, Nat.reduceLT, Nat.reduceLeDiff, Nat.reduceBEq, Nat.reduceBNe, Int.reduceToNat, Int.reduceLE, Int.reduceLT, Int.reduceNe, Int.reduceNeg, reduceCtorEq, Int.reduceBEq, Int.reduceBNe, List.map_cons, List.map_nil, encS]
  · simp only [go_sem, Nat.reduceAdd, Nat.reduceSub, Nat.reduceMul, Nat.reduceEqDiff, Nat.reduceLT, Nat.reduceLeDiff, Nat.reduceBEq, Nat.reduceBNe, Int.reduceToNat, Int.reduceLE, Int.reduceLT, Int.reduceNe, Int.reduceNeg, reduceCtorEq, Int.reduceBEq, Int.reduceBNe]
    intro K x H ⟨⟨hi0, hi⟩, h1, k2⟩ hK hE
    obtain ⟨s, p⟩ := x
    simp only at hi0 hi k2
    obtain ⟨t1, t2, t3, t4, t5⟩ := Own2Taint k2
    simp only [go_sem, Nat.reduceAdd, Nat.reduceSub, Nat.reduceMul, Nat.reduceEqDiff, Nat.reduceLT, Nat.reduceLeDiff, Nat.reduceBEq, Nat.reduceBNe, Int.reduceToNat, Int.reduceLE, Int.reduceLT, Int.reduceNe, Int.reduceNeg, reduceCtorEq, Int.reduceBEq, Int.reduceBNe, binInt, hsh]
    rw [condK_bool]
    refine ⟨fun h => ?_, fun h => ?_⟩
    · have hs : s < 2 ^ ps.length := by simp only [decide_eq_true_eq] at h; omega
      have hs0 : s ≠ 0 := by omega
      have ws : IntKind.i64.wrap ((s : Int) + 1) = ((s + 1 : Nat) : Int) := by rw [Int.natCast_add, Int.natCast_one]; exact wrap_id (by omega)
      have h62 : ((s : Int) < 2 ^ 62) = True := eq_true (by omega)
      have hp62 : ((ps.length : Int) ≤ 62) = True := eq_true (by omega)
      obtain ⟨f1, f2⟩ := hfirst s hs hs0
      have f3 := first_all s (by omega) hs0
      have hofi := hofs s hs
      have hst := hstep hs0 hs
      have hts := tabT_succ ⟨ps, ks, gr, fr, un, fe, st⟩ z s
      have htl := tabT_len ⟨ps, ks, gr, fr, un, fe, st⟩ z s
      obtain ⟨K0, v0, ex0, hK0, hp0, hH0⟩ := k2
      rw [List.length_map, htl] at hp0
      subst hp0
      simp only [go_sem, Nat.reduceAdd, Nat.reduceSub, Nat.reduceMul, Nat.reduceEqDiff, Nat.reduceLT, Nat.reduceLeDiff, Nat.reduceBEq, Nat.reduceBNe, Int.reduceToNat, Int.reduceLE, Int.reduceLT, Int.reduceNe, Int.reduceNeg, reduceCtorEq, Int.reduceBEq, Int.reduceBNe, @callV_spec E20 46 s46 rfl, @callV_specT E20 46 s46 rfl, @stepV_spec E20 46 s46 rfl, @effV_spec E20 46 s46 rfl, s46, callSpec, h1, h62, hp62, hofi, f1, f2, il_getD, il_length, Int.natCast_nonneg, Int.toNat_natCast]
      generalize hv : verOf H ([], 70006001) + 1 = v
      have hf62 : ((firstN s : Nat) : Int) ≤ 62 := by omega
      refine ev_loopS [1, 2, 5, 6, 7, 8, 9] (fun j : Nat => [(10, .int .i64 j)])
        (fun j H => (1 ≤ j ∧ j ≤ s + 1) ∧ H (([], 70000000) : Key) = some (.cells (encB ⟨ps, ks, gr, fr, un, fe, st⟩) 1 false) ∧ H K0 = some (.rows 2 ((tabT ⟨ps, ks, gr, fr, un, fe, st⟩ z s).map encS) v0 false) ∧
          H (([], 70006001) : Key) = some (.cells (encS ((List.range j).foldl (stepP ⟨ps, ks, gr, fr, un, fe, st⟩ z s) (0, -1))) v false))
        (fun j => s + 1 - j) 1 ?_ ⟨⟨Nat.le_refl _, by omega⟩, ?_, ?_, ?_⟩ ?_
      · simp only [go_sem, Nat.reduceAdd, Nat.reduceSub, Nat.reduceMul, Nat.reduceEqDiff, Nat.reduceLT, Nat.reduceLeDiff, Nat.reduceBEq, Nat.reduceBNe, Int.reduceToNat, Int.reduceLE, Int.reduceLT, Int.reduceNe, Int.reduceNeg, reduceCtorEq, Int.reduceBEq, Int.reduceBNe, Int.natCast_one]
        trace_state
      · simp only [go_sem, Nat.reduceAdd, Nat.reduceSub, Nat.reduceMul, Nat.reduceEqDiff, Nat.reduceLT, Nat.reduceLeDiff, Nat.reduceBEq, Nat.reduceBNe, Int.reduceToNat, Int.reduceLE, Int.reduceLT, Int.reduceNe, Int.reduceNeg, reduceCtorEq, Int.reduceBEq, Int.reduceBNe, h1]
      · rcases hK0 with rfl | rfl <;> simp only [go_sem, Nat.reduceAdd, Nat.reduceSub, Nat.reduceMul, Nat.reduceEqDiff, Nat.reduceLT, Nat.reduceLeDiff, Nat.reduceBEq, Nat.reduceBNe, Int.reduceToNat, Int.reduceLE, Int.reduceLT, Int.reduceNe, Int.reduceNeg, reduceCtorEq, Int.reduceBEq, Int.reduceBNe, hH0]
      · simp only [go_sem, Nat.reduceAdd, Nat.reduceSub, Nat.reduceMul, Nat.reduceEqDiff, Nat.reduceLT, Nat.reduceLeDiff, Nat.reduceBEq, Nat.reduceBNe, Int.reduceToNat, Int.reduceLE, Int.reduceLT, Int.reduceNe, Int.reduceNeg, reduceCtorEq, Int.reduceBEq, Int.reduceBNe]
        simp [List.range_succ, stepP, h0c, encS]
      · simp only [go_sem, Nat.reduceAdd, Nat.reduceSub, Nat.reduceMul, Nat.reduceEqDiff, Nat.reduceLT, Nat.reduceLeDiff, Nat.reduceBEq, Nat.reduceBNe, Int.reduceToNat, Int.reduceLE, Int.reduceLT, Int.reduceNe, Int.reduceNeg, reduceCtorEq, Int.reduceBEq, Int.reduceBNe]
        intro K2 j H2 ⟨⟨hj0, hj⟩, g1, g2, g3⟩ hK2 hE2
        have g1' := g1
        simp only [encB] at g1'
        rw [condK_bool]
        refine ⟨fun hc => ?_, fun hc => ?_⟩
        · have hjs : j ≤ s := by simp only [decide_eq_true_eq] at hc; omega
          have w8 : IntKind.i64.wrap ((j : Int) + 1) = ((j + 1 : Nat) : Int) := by rw [Int.natCast_add, Int.natCast_one]; exact wrap_id (by omega)
          have hand := bits_and (a := j) (b := s) (by omega) (by omega)
          have hne : (((j &&& s : Nat) : Int) != (j : Int)) = (j &&& s != j) := by rw [Bool.eq_iff_iff]; simp; omega
          have wsub : IntKind.i64.wrap ((s : Int) - (j : Int)) = ((s - j : Nat) : Int) := by
            rw [show ((s - j : Nat) : Int) = (s : Int) - (j : Int) by omega]; exact wrap_id (by omega)
          have hlt1 : s - j < s := by omega
          have hlt2 : ((s - j : Nat) : Int) < (s : Int) := by omega
          have hgt := tabT_get ⟨ps, ks, gr, fr, un, fe, st⟩ z hlt1
          have hj62 : ((j : Int) < 2 ^ 62) = True := eq_true (by omega)
          have hpb2 := hbnd (s := s - j) (by omega)
          have hfold : (List.range (j + 1)).foldl (stepP ⟨ps, ks, gr, fr, un, fe, st⟩ z s) (0, -1) = if condP ⟨ps, ks, gr, fr, un, fe, st⟩ z s j then (List.range ks.length).foldl (stepK ⟨ps, ks, gr, fr, un, fe, st⟩ z s j) ((List.range j).foldl (stepP ⟨ps, ks, gr, fr, un, fe, st⟩ z s) (0, -1)) else ((List.range j).foldl (stepP ⟨ps, ks, gr, fr, un, fe, st⟩ z s) (0, -1)) := by rw [List.range_succ, List.foldl_append]; rfl
          have hfold2 := hfold
          rw [List.range_succ] at hfold2
          generalize (List.range j).foldl (stepP ⟨ps, ks, gr, fr, un, fe, st⟩ z s) (0, -1) = best at *
          have hcp : condP ⟨ps, ks, gr, fr, un, fe, st⟩ z s j = !(((j &&& s != j) || !j.testBit (firstN s)) || decide ((priceT ⟨ps, ks, gr, fr, un, fe, st⟩ z (s - j)).2 < 0)) := rfl
          simp only [go_sem, Nat.reduceAdd, Nat.reduceSub, Nat.reduceMul, Nat.reduceEqDiff, Nat.reduceLT, Nat.reduceLeDiff, Nat.reduceBEq, Nat.reduceBNe, Int.reduceToNat, Int.reduceLE, Int.reduceLT, Int.reduceNe, Int.reduceNeg, reduceCtorEq, Int.reduceBEq, Int.reduceBNe, @callV_spec E20 80 s80 rfl, @callV_specT E20 80 s80 rfl, @stepV_spec E20 80 s80 rfl, @effV_spec E20 80 s80 rfl, s80, callSpec, binInt, hand, hne, wsub, hlt1, hlt2, hgt, g2, hj62, encS, il_getD, List.length_map, htl, Int.natCast_nonneg, Int.toNat_natCast]
          rw [condK_bool]
          refine ⟨fun hc2 => ?_, fun hc2 => ?_⟩
          · rw [hcp, hc2] at hfold hfold2
            simp only [Bool.not_true, Bool.false_eq_true, if_false] at hfold hfold2
            simp only [go_sem, Nat.reduceAdd, Nat.reduceSub, Nat.reduceMul, Nat.reduceEqDiff, Nat.reduceLT, Nat.reduceLeDiff, Nat.reduceBEq, Nat.reduceBNe, Int.reduceToNat, Int.reduceLE, Int.reduceLT, Int.reduceNe, Int.reduceNeg, reduceCtorEq, Int.reduceBEq, Int.reduceBNe]
            refine hK2 (j + 1) _ _ ?_ ⟨⟨by omega, by omega⟩, ?_, ?_, ?_⟩ (by omega)
            · simp only [go_sem, Nat.reduceAdd, Nat.reduceSub, Nat.reduceMul, Nat.reduceEqDiff, Nat.reduceLT, Nat.reduceLeDiff, Nat.reduceBEq, Nat.reduceBNe, Int.reduceToNat, Int.reduceLE, Int.reduceLT, Int.reduceNe, Int.reduceNeg, reduceCtorEq, Int.reduceBEq, Int.reduceBNe, w8]
            · simp only [go_sem, Nat.reduceAdd, Nat.reduceSub, Nat.reduceMul, Nat.reduceEqDiff, Nat.reduceLT, Nat.reduceLeDiff, Nat.reduceBEq, Nat.reduceBNe, Int.reduceToNat, Int.reduceLE, Int.reduceLT, Int.reduceNe, Int.reduceNeg, reduceCtorEq, Int.reduceBEq, Int.reduceBNe, g1]
            · simp only [go_sem, Nat.reduceAdd, Nat.reduceSub, Nat.reduceMul, Nat.reduceEqDiff, Nat.reduceLT, Nat.reduceLeDiff, Nat.reduceBEq, Nat.reduceBNe, Int.reduceToNat, Int.reduceLE, Int.reduceLT, Int.reduceNe, Int.reduceNeg, reduceCtorEq, Int.reduceBEq, Int.reduceBNe, g2]
            · simp only [go_sem, Nat.reduceAdd, Nat.reduceSub, Nat.reduceMul, Nat.reduceEqDiff, Nat.reduceLT, Nat.reduceLeDiff, Nat.reduceBEq, Nat.reduceBNe, Int.reduceToNat, Int.reduceLE, Int.reduceLT, Int.reduceNe, Int.reduceNeg, reduceCtorEq, Int.reduceBEq, Int.reduceBNe, g3, hfold, hfold2]
          · rw [hcp, hc2] at hfold hfold2
            simp only [Bool.not_false, if_true] at hfold hfold2
            have hjn : j < 2 ^ ps.length := by omega
            have hofj := hofs j hjn
            have okWj := okW j (by omega) hjn
            have hpz := hpb
            generalize hPP : priceT ⟨ps, ks, gr, fr, un, fe, st⟩ z (s - j) = P at *
            simp only [go_sem, Nat.reduceAdd, Nat.reduceSub, Nat.reduceMul, Nat.reduceEqDiff, Nat.reduceLT, Nat.reduceLeDiff, Nat.reduceBEq, Nat.reduceBNe, Int.reduceToNat, Int.reduceLE, Int.reduceLT, Int.reduceNe, Int.reduceNeg, reduceCtorEq, Int.reduceBEq, Int.reduceBNe]
            refine ev_loopS [1, 2, 5, 6, 7, 8, 9, 10] (fun k : Nat => [(11, .int .i64 k)])
              (fun k H => k ≤ ks.length ∧ H (([], 70000000) : Key) = some (.cells (encB ⟨ps, ks, gr, fr, un, fe, st⟩) 1 false) ∧ H K0 = some (.rows 2 ((tabT ⟨ps, ks, gr, fr, un, fe, st⟩ z s).map encS) v0 false) ∧
                H (([], 70006001) : Key) = some (.cells (encS ((List.range k).foldl (stepK ⟨ps, ks, gr, fr, un, fe, st⟩ z s j) best)) v false))
              (fun k => ks.length - k) 0 ?_ ⟨Nat.zero_le _, ?_, ?_, ?_⟩ ?_
            · simp only [go_sem, Nat.reduceAdd, Nat.reduceSub, Nat.reduceMul, Nat.reduceEqDiff, Nat.reduceLT, Nat.reduceLeDiff, Nat.reduceBEq, Nat.reduceBNe, Int.reduceToNat, Int.reduceLE, Int.reduceLT, Int.reduceNe, Int.reduceNeg, reduceCtorEq, Int.reduceBEq, Int.reduceBNe, Int.natCast_zero]
            · simp only [go_sem, Nat.reduceAdd, Nat.reduceSub, Nat.reduceMul, Nat.reduceEqDiff, Nat.reduceLT, Nat.reduceLeDiff, Nat.reduceBEq, Nat.reduceBNe, Int.reduceToNat, Int.reduceLE, Int.reduceLT, Int.reduceNe, Int.reduceNeg, reduceCtorEq, Int.reduceBEq, Int.reduceBNe, g1]
            · simp only [go_sem, Nat.reduceAdd, Nat.reduceSub, Nat.reduceMul, Nat.reduceEqDiff, Nat.reduceLT, Nat.reduceLeDiff, Nat.reduceBEq, Nat.reduceBNe, Int.reduceToNat, Int.reduceLE, Int.reduceLT, Int.reduceNe, Int.reduceNeg, reduceCtorEq, Int.reduceBEq, Int.reduceBNe, g2]
            · simp only [go_sem, Nat.reduceAdd, Nat.reduceSub, Nat.reduceMul, Nat.reduceEqDiff, Nat.reduceLT, Nat.reduceLeDiff, Nat.reduceBEq, Nat.reduceBNe, Int.reduceToNat, Int.reduceLE, Int.reduceLT, Int.reduceNe, Int.reduceNeg, reduceCtorEq, Int.reduceBEq, Int.reduceBNe, g3, List.range_zero, List.foldl_nil]
            · simp only [go_sem, Nat.reduceAdd, Nat.reduceSub, Nat.reduceMul, Nat.reduceEqDiff, Nat.reduceLT, Nat.reduceLeDiff, Nat.reduceBEq, Nat.reduceBNe, Int.reduceToNat, Int.reduceLE, Int.reduceLT, Int.reduceNe, Int.reduceNeg, reduceCtorEq, Int.reduceBEq, Int.reduceBNe]
              intro K3 k H3 ⟨hk, r1, r2, r3⟩ hK3 hE3
              have r1' := r1
              simp only [encB] at r1'
              simp only [go_sem, Nat.reduceAdd, Nat.reduceSub, Nat.reduceMul, Nat.reduceEqDiff, Nat.reduceLT, Nat.reduceLeDiff, Nat.reduceBEq, Nat.reduceBNe, Int.reduceToNat, Int.reduceLE, Int.reduceLT, Int.reduceNe, Int.reduceNeg, reduceCtorEq, Int.reduceBEq, Int.reduceBNe, r1', List.length_map]
              rw [condK_bool]
              refine ⟨fun hc3 => ?_, fun hc3 => ?_⟩
              · have hk' : k < ks.length := by simp only [decide_eq_true_eq] at hc3; omega
                have w9 : IntKind.i64.wrap ((k : Int) + 1) = ((k + 1 : Nat) : Int) := by rw [Int.natCast_add, Int.natCast_one]; exact wrap_id (by omega)
                have okRk := okR k j hk' (by omega) hjn
                have htk := htake k j hjn
                have hck := hcost k j hk' (by omega) hjn
                have hpk := hpb k j
                have hfk : (List.range (k + 1)).foldl (stepK ⟨ps, ks, gr, fr, un, fe, st⟩ z s j) best = if fitsB ⟨ps, ks, gr, fr, un, fe, st⟩ k j then updP ((List.range k).foldl (stepK ⟨ps, ks, gr, fr, un, fe, st⟩ z s j) best) ((priceT ⟨ps, ks, gr, fr, un, fe, st⟩ z (s - j)).1 + postG ⟨ps, ks, gr, fr, un, fe, st⟩ z k j, (priceT ⟨ps, ks, gr, fr, un, fe, st⟩ z (s - j)).2 + 1) else (List.range k).foldl (stepK ⟨ps, ks, gr, fr, un, fe, st⟩ z s j) best := by rw [List.range_succ, List.foldl_append]; rfl
                have hfk2 := hfk
                rw [List.range_succ] at hfk2
                generalize (List.range k).foldl (stepK ⟨ps, ks, gr, fr, un, fe, st⟩ z s j) best = b1 at *
                obtain ⟨b1a, b1b⟩ := b1
                obtain ⟨P1, P2⟩ := P
                rw [hPP] at hfk hfk2
                simp only [encS] at r3
                simp only at hpb2
                generalize hpo : postG ⟨ps, ks, gr, fr, un, fe, st⟩ z k j = po at *
                have w10 : IntKind.i64.wrap (P1 + po) = P1 + po := wrap_id (by omega)
                have w11 : IntKind.i64.wrap (P2 + 1) = P2 + 1 := wrap_id (by omega)
                cases hf : fitsB ⟨ps, ks, gr, fr, un, fe, st⟩ k j with
                | false =>
                  rw [hf] at htk hfk hfk2
                  simp only [Bool.false_eq_true, if_false] at hfk hfk2
                  simp only [go_sem, Nat.reduceAdd, Nat.reduceSub, Nat.reduceMul, Nat.reduceEqDiff, Nat.reduceLT, Nat.reduceLeDiff, Nat.reduceBEq, Nat.reduceBNe, Int.reduceToNat, Int.reduceLE, Int.reduceLT, Int.reduceNe, Int.reduceNeg, reduceCtorEq, Int.reduceBEq, Int.reduceBNe, @callV_spec E20 46 s46 rfl, @callV_specT E20 46 s46 rfl, @stepV_spec E20 46 s46 rfl, @effV_spec E20 46 s46 rfl, s46, @callV_spec E20 59 s59 rfl, @callV_specT E20 59 s59 rfl, @stepV_spec E20 59 s59 rfl, @effV_spec E20 59 s59 rfl, s59, callSpec, r1', hdb, hj62, hp62, hofj, okRk, htk, Int.natCast_nonneg, Int.toNat_natCast]
                  refine hK3 (k + 1) _ _ ?_ ⟨hk', ?_, ?_, ?_⟩ (by omega)
                  · simp only [go_sem, Nat.reduceAdd, Nat.reduceSub, Nat.reduceMul, Nat.reduceEqDiff, Nat.reduceLT, Nat.reduceLeDiff, Nat.reduceBEq, Nat.reduceBNe, Int.reduceToNat, Int.reduceLE, Int.reduceLT, Int.reduceNe, Int.reduceNeg, reduceCtorEq, Int.reduceBEq, Int.reduceBNe, w9]
                  · simp only [go_sem, Nat.reduceAdd, Nat.reduceSub, Nat.reduceMul, Nat.reduceEqDiff, Nat.reduceLT, Nat.reduceLeDiff, Nat.reduceBEq, Nat.reduceBNe, Int.reduceToNat, Int.reduceLE, Int.reduceLT, Int.reduceNe, Int.reduceNeg, reduceCtorEq, Int.reduceBEq, Int.reduceBNe, r1]
                  · rcases hK0 with rfl | rfl <;> simp only [go_sem, Nat.reduceAdd, Nat.reduceSub, Nat.reduceMul, Nat.reduceEqDiff, Nat.reduceLT, Nat.reduceLeDiff, Nat.reduceBEq, Nat.reduceBNe, Int.reduceToNat, Int.reduceLE, Int.reduceLT, Int.reduceNe, Int.reduceNeg, reduceCtorEq, Int.reduceBEq, Int.reduceBNe, r2]
                  · simp only [go_sem, Nat.reduceAdd, Nat.reduceSub, Nat.reduceMul, Nat.reduceEqDiff, Nat.reduceLT, Nat.reduceLeDiff, Nat.reduceBEq, Nat.reduceBNe, Int.reduceToNat, Int.reduceLE, Int.reduceLT, Int.reduceNe, Int.reduceNeg, reduceCtorEq, Int.reduceBEq, Int.reduceBNe, r3, hfk, hfk2, encS]
                | true =>
                  rw [hf] at htk hfk hfk2
                  simp only [if_true] at hfk hfk2
                  have hck := hck hf
                  have hup : updP (b1a, b1b) (P1 + po, P2 + 1) = if betterP (P1 + po, P2 + 1) (b1a, b1b) then (P1 + po, P2 + 1) else (b1a, b1b) := rfl
                  rcases hK0 with rfl | rfl
                  · simp only [go_sem, Nat.reduceAdd, Nat.reduceSub, Nat.reduceMul, Nat.reduceEqDiff, Nat.reduceLT, Nat.reduceLeDiff, Nat.reduceBEq, Nat.reduceBNe, Int.reduceToNat, Int.reduceLE, Int.reduceLT, Int.reduceNe, Int.reduceNeg, reduceCtorEq, Int.reduceBEq, Int.reduceBNe, @callV_spec E20 46 s46 rfl, @callV_specT E20 46 s46 rfl, @stepV_spec E20 46 s46 rfl, @effV_spec E20 46 s46 rfl, s46, @callV_spec E20 59 s59 rfl, @callV_specT E20 59 s59 rfl, @stepV_spec E20 59 s59 rfl, @effV_spec E20 59 s59 rfl, s59, @callV_spec E20 63 s63 rfl, @callV_specT E20 63 s63 rfl, @stepV_spec E20 63 s63 rfl, @effV_spec E20 63 s63 rfl, s63, @callV_spec E20 90 s90 rfl, @callV_specT E20 90 s90 rfl, @stepV_spec E20 90 s90 rfl, @effV_spec E20 90 s90 rfl, s90, callSpec, r1', r2, r3, hdb, hj62, hp62, hofj, okRk, okWj, htk, hck, hz, wsub, hlt1, hlt2, hgt, encS, w10, w11, List.length_map, htl, Int.natCast_nonneg, Int.toNat_natCast]
                    rw [condK_bool]
                    refine ⟨fun hc4 => ?_, fun hc4 => ?_⟩
                    · rw [hup, hc4] at hfk hfk2
                      simp only [if_true] at hfk hfk2
                      simp only [go_sem, Nat.reduceAdd, Nat.reduceSub, Nat.reduceMul, Nat.reduceEqDiff, Nat.reduceLT, Nat.reduceLeDiff, Nat.reduceBEq, Nat.reduceBNe, Int.reduceToNat, Int.reduceLE, Int.reduceLT, Int.reduceNe, Int.reduceNeg, reduceCtorEq, Int.reduceBEq, Int.reduceBNe, r3]
                      refine hK3 (k + 1) _ _ ?_ ⟨hk', ?_, ?_, ?_⟩ (by omega)
                      · simp only [go_sem, Nat.reduceAdd, Nat.reduceSub, Nat.reduceMul, Nat.reduceEqDiff, Nat.reduceLT, Nat.reduceLeDiff, Nat.reduceBEq, Nat.reduceBNe, Int.reduceToNat, Int.reduceLE, Int.reduceLT, Int.reduceNe, Int.reduceNeg, reduceCtorEq, Int.reduceBEq, Int.reduceBNe, w9]
                      · simp only [go_sem, Nat.reduceAdd, Nat.reduceSub, Nat.reduceMul, Nat.reduceEqDiff, Nat.reduceLT, Nat.reduceLeDiff, Nat.reduceBEq, Nat.reduceBNe, Int.reduceToNat, Int.reduceLE, Int.reduceLT, Int.reduceNe, Int.reduceNeg, reduceCtorEq, Int.reduceBEq, Int.reduceBNe, r1]
                      · simp only [go_sem, Nat.reduceAdd, Nat.reduceSub, Nat.reduceMul, Nat.reduceEqDiff, Nat.reduceLT, Nat.reduceLeDiff, Nat.reduceBEq, Nat.reduceBNe, Int.reduceToNat, Int.reduceLE, Int.reduceLT, Int.reduceNe, Int.reduceNeg, reduceCtorEq, Int.reduceBEq, Int.reduceBNe, r2]
                      · simp only [go_sem, Nat.reduceAdd, Nat.reduceSub, Nat.reduceMul, Nat.reduceEqDiff, Nat.reduceLT, Nat.reduceLeDiff, Nat.reduceBEq, Nat.reduceBNe, Int.reduceToNat, Int.reduceLE, Int.reduceLT, Int.reduceNe, Int.reduceNeg, reduceCtorEq, Int.reduceBEq, Int.reduceBNe, r3, hfk, hfk2, encS]
                    · rw [hup, hc4] at hfk hfk2
                      simp only [Bool.false_eq_true, if_false] at hfk hfk2
                      simp only [go_sem, Nat.reduceAdd, Nat.reduceSub, Nat.reduceMul, Nat.reduceEqDiff, Nat.reduceLT, Nat.reduceLeDiff, Nat.reduceBEq, Nat.reduceBNe, Int.reduceToNat, Int.reduceLE, Int.reduceLT, Int.reduceNe, Int.reduceNeg, reduceCtorEq, Int.reduceBEq, Int.reduceBNe]
                      refine hK3 (k + 1) _ _ ?_ ⟨hk', ?_, ?_, ?_⟩ (by omega)
                      · simp only [go_sem, Nat.reduceAdd, Nat.reduceSub, Nat.reduceMul, Nat.reduceEqDiff, Nat.reduceLT, Nat.reduceLeDiff, Nat.reduceBEq, Nat.reduceBNe, Int.reduceToNat, Int.reduceLE, Int.reduceLT, Int.reduceNe, Int.reduceNeg, reduceCtorEq, Int.reduceBEq, Int.reduceBNe, w9]
                      · simp only [go_sem, Nat.reduceAdd, Nat.reduceSub, Nat.reduceMul, Nat.reduceEqDiff, Nat.reduceLT, Nat.reduceLeDiff, Nat.reduceBEq, Nat.reduceBNe, Int.reduceToNat, Int.reduceLE, Int.reduceLT, Int.reduceNe, Int.reduceNeg, reduceCtorEq, Int.reduceBEq, Int.reduceBNe, r1]
                      · simp only [go_sem, Nat.reduceAdd, Nat.reduceSub, Nat.reduceMul, Nat.reduceEqDiff, Nat.reduceLT, Nat.reduceLeDiff, Nat.reduceBEq, Nat.reduceBNe, Int.reduceToNat, Int.reduceLE, Int.reduceLT, Int.reduceNe, Int.reduceNeg, reduceCtorEq, Int.reduceBEq, Int.reduceBNe, r2]
                      · simp only [go_sem, Nat.reduceAdd, Nat.reduceSub, Nat.reduceMul, Nat.reduceEqDiff, Nat.reduceLT, Nat.reduceLeDiff, Nat.reduceBEq, Nat.reduceBNe, Int.reduceToNat, Int.reduceLE, Int.reduceLT, Int.reduceNe, Int.reduceNeg, reduceCtorEq, Int.reduceBEq, Int.reduceBNe, r3, hfk, hfk2, encS]
                  · simp only [go_sem, Nat.reduceAdd, Nat.reduceSub, Nat.reduceMul, Nat.reduceEqDiff, Nat.reduceLT, Nat.reduceLeDiff, Nat.reduceBEq, Nat.reduceBNe, Int.reduceToNat, Int.reduceLE, Int.reduceLT, Int.reduceNe, Int.reduceNeg, reduceCtorEq, Int.reduceBEq, Int.reduceBNe, @callV_spec E20 46 s46 rfl, @callV_specT E20 46 s46 rfl, @stepV_spec E20 46 s46 rfl, @effV_spec E20 46 s46 rfl, s46, @callV_spec E20 59 s59 rfl, @callV_specT E20 59 s59 rfl, @stepV_spec E20 59 s59 rfl, @effV_spec E20 59 s59 rfl, s59, @callV_spec E20 63 s63 rfl, @callV_specT E20 63 s63 rfl, @stepV_spec E20 63 s63 rfl, @effV_spec E20 63 s63 rfl, s63, @callV_spec E20 90 s90 rfl, @callV_specT E20 90 s90 rfl, @stepV_spec E20 90 s90 rfl, @effV_spec E20 90 s90 rfl, s90, callSpec, r1', r2, r3, hdb, hj62, hp62, hofj, okRk, okWj, htk, hck, hz, wsub, hlt1, hlt2, hgt, encS, w10, w11, List.length_map, htl, Int.natCast_nonneg, Int.toNat_natCast]
                    rw [condK_bool]
                    refine ⟨fun hc4 => ?_, fun hc4 => ?_⟩
                    · rw [hup, hc4] at hfk hfk2
                      simp only [if_true] at hfk hfk2
                      simp only [go_sem, Nat.reduceAdd, Nat.reduceSub, Nat.reduceMul, Nat.reduceEqDiff, Nat.reduceLT, Nat.reduceLeDiff, Nat.reduceBEq, Nat.reduceBNe, Int.reduceToNat, Int.reduceLE, Int.reduceLT, Int.reduceNe, Int.reduceNeg, reduceCtorEq, Int.reduceBEq, Int.reduceBNe, r3]
                      refine hK3 (k + 1) _ _ ?_ ⟨hk', ?_, ?_, ?_⟩ (by omega)
                      · simp only [go_sem, Nat.reduceAdd, Nat.reduceSub, Nat.reduceMul, Nat.reduceEqDiff, Nat.reduceLT, Nat.reduceLeDiff, Nat.reduceBEq, Nat.reduceBNe, Int.reduceToNat, Int.reduceLE, Int.reduceLT, Int.reduceNe, Int.reduceNeg, reduceCtorEq, Int.reduceBEq, Int.reduceBNe, w9]
                      · simp only [go_sem, Nat.reduceAdd, Nat.reduceSub, Nat.reduceMul, Nat.reduceEqDiff, Nat.reduceLT, Nat.reduceLeDiff, Nat.reduceBEq, Nat.reduceBNe, Int.reduceToNat, Int.reduceLE, Int.reduceLT, Int.reduceNe, Int.reduceNeg, reduceCtorEq, Int.reduceBEq, Int.reduceBNe, r1]
                      · simp only [go_sem, Nat.reduceAdd, Nat.reduceSub, Nat.reduceMul, Nat.reduceEqDiff, Nat.reduceLT, Nat.reduceLeDiff, Nat.reduceBEq, Nat.reduceBNe, Int.reduceToNat, Int.reduceLE, Int.reduceLT, Int.reduceNe, Int.reduceNeg, reduceCtorEq, Int.reduceBEq, Int.reduceBNe, r2]
                      · simp only [go_sem, Nat.reduceAdd, Nat.reduceSub, Nat.reduceMul, Nat.reduceEqDiff, Nat.reduceLT, Nat.reduceLeDiff, Nat.reduceBEq, Nat.reduceBNe, Int.reduceToNat, Int.reduceLE, Int.reduceLT, Int.reduceNe, Int.reduceNeg, reduceCtorEq, Int.reduceBEq, Int.reduceBNe, r3, hfk, hfk2, encS]
                    · rw [hup, hc4] at hfk hfk2
                      simp only [Bool.false_eq_true, if_false] at hfk hfk2
                      simp only [go_sem, Nat.reduceAdd, Nat.reduceSub, Nat.reduceMul, Nat.reduceEqDiff, Nat.reduceLT, Nat.reduceLeDiff, Nat.reduceBEq, Nat.reduceBNe, Int.reduceToNat, Int.reduceLE, Int.reduceLT, Int.reduceNe, Int.reduceNeg, reduceCtorEq, Int.reduceBEq, Int.reduceBNe]
                      refine hK3 (k + 1) _ _ ?_ ⟨hk', ?_, ?_, ?_⟩ (by omega)
                      · simp only [go_sem, Nat.reduceAdd, Nat.reduceSub, Nat.reduceMul, Nat.reduceEqDiff, Nat.reduceLT, Nat.reduceLeDiff, Nat.reduceBEq, Nat.reduceBNe, Int.reduceToNat, Int.reduceLE, Int.reduceLT, Int.reduceNe, Int.reduceNeg, reduceCtorEq, Int.reduceBEq, Int.reduceBNe, w9]
                      · simp only [go_sem, Nat.reduceAdd, Nat.reduceSub, Nat.reduceMul, Nat.reduceEqDiff, Nat.reduceLT, Nat.reduceLeDiff, Nat.reduceBEq, Nat.reduceBNe, Int.reduceToNat, Int.reduceLE, Int.reduceLT, Int.reduceNe, Int.reduceNeg, reduceCtorEq, Int.reduceBEq, Int.reduceBNe, r1]
                      · simp only [go_sem, Nat.reduceAdd, Nat.reduceSub, Nat.reduceMul, Nat.reduceEqDiff, Nat.reduceLT, Nat.reduceLeDiff, Nat.reduceBEq, Nat.reduceBNe, Int.reduceToNat, Int.reduceLE, Int.reduceLT, Int.reduceNe, Int.reduceNeg, reduceCtorEq, Int.reduceBEq, Int.reduceBNe, r2]
                      · simp only [go_sem, Nat.reduceAdd, Nat.reduceSub, Nat.reduceMul, Nat.reduceEqDiff, Nat.reduceLT, Nat.reduceLeDiff, Nat.reduceBEq, Nat.reduceBNe, Int.reduceToNat, Int.reduceLE, Int.reduceLT, Int.reduceNe, Int.reduceNeg, reduceCtorEq, Int.reduceBEq, Int.reduceBNe, r3, hfk, hfk2, encS]
              · have hkl : k = ks.length := by simp only [decide_eq_false_iff_not] at hc3; omega
                subst hkl
                refine hE3 _ _ _ (by simp) ?_
                rw [← hfold] at r3
                simp only [go_sem, Nat.reduceAdd, Nat.reduceSub, Nat.reduceMul, Nat.reduceEqDiff, Nat.reduceLT, Nat.reduceLeDiff, Nat.reduceBEq, Nat.reduceBNe, Int.reduceToNat, Int.reduceLE, Int.reduceLT, Int.reduceNe, Int.reduceNeg, reduceCtorEq, Int.reduceBEq, Int.reduceBNe]
                refine hK2 (j + 1) _ _ ?_ ⟨⟨by omega, by omega⟩, ?_, ?_, ?_⟩ (by omega)
                · simp only [go_sem, Nat.reduceAdd, Nat.reduceSub, Nat.reduceMul, Nat.reduceEqDiff, Nat.reduceLT, Nat.reduceLeDiff, Nat.reduceBEq, Nat.reduceBNe, Int.reduceToNat, Int.reduceLE, Int.reduceLT, Int.reduceNe, Int.reduceNeg, reduceCtorEq, Int.reduceBEq, Int.reduceBNe, w8]
                · simp only [go_sem, Nat.reduceAdd, Nat.reduceSub, Nat.reduceMul, Nat.reduceEqDiff, Nat.reduceLT, Nat.reduceLeDiff, Nat.reduceBEq, Nat.reduceBNe, Int.reduceToNat, Int.reduceLE, Int.reduceLT, Int.reduceNe, Int.reduceNeg, reduceCtorEq, Int.reduceBEq, Int.reduceBNe, r1]
                · simp only [go_sem, Nat.reduceAdd, Nat.reduceSub, Nat.reduceMul, Nat.reduceEqDiff, Nat.reduceLT, Nat.reduceLeDiff, Nat.reduceBEq, Nat.reduceBNe, Int.reduceToNat, Int.reduceLE, Int.reduceLT, Int.reduceNe, Int.reduceNeg, reduceCtorEq, Int.reduceBEq, Int.reduceBNe, r2]
                · simp only [go_sem, Nat.reduceAdd, Nat.reduceSub, Nat.reduceMul, Nat.reduceEqDiff, Nat.reduceLT, Nat.reduceLeDiff, Nat.reduceBEq, Nat.reduceBNe, Int.reduceToNat, Int.reduceLE, Int.reduceLT, Int.reduceNe, Int.reduceNeg, reduceCtorEq, Int.reduceBEq, Int.reduceBNe, r3]
        · have hjl : j = s + 1 := by simp only [decide_eq_false_iff_not] at hc; omega
          subst hjl
          rw [hst] at g3
          refine hE2 _ _ _ (by simp) ?_
          generalize hPs : priceT ⟨ps, ks, gr, fr, un, fe, st⟩ z s = Ps at *
          obtain ⟨Ps1, Ps2⟩ := Ps
          simp only [encS] at g3
          simp only [go_sem, Nat.reduceAdd, Nat.reduceSub, Nat.reduceMul, Nat.reduceEqDiff, Nat.reduceLT, Nat.reduceLeDiff, Nat.reduceBEq, Nat.reduceBNe, Int.reduceToNat, Int.reduceLE, Int.reduceLT, Int.reduceNe, Int.reduceNeg, reduceCtorEq, Int.reduceBEq, Int.reduceBNe, g3]
          refine app_own2 (ro := false) (E := E20) (t := 109) (e := 108) (sz := 2) (S := fun K => K = ([], 70002001) ∨ K = ([], 70020003)) (rs := (tabT ⟨ps, ks, gr, fr, un, fe, st⟩ z s).map encS) (row := [.int .i64 Ps1, .int .i64 Ps2]) trivial rfl rfl (by decide) (by decide) ?_ ⟨K0, v0, ex0, hK0, by rw [List.length_map, tabT_len], ?_⟩ (.inr rfl) ?_ ⟨rfl, rfl⟩ ?_
          · simp only [go_sem, Nat.reduceAdd, Nat.reduceSub, Nat.reduceMul, Nat.reduceEqDiff, Nat.reduceLT, Nat.reduceLeDiff, Nat.reduceBEq, Nat.reduceBNe, Int.reduceToNat, Int.reduceLE, Int.reduceLT, Int.reduceNe, Int.reduceNeg, reduceCtorEq, Int.reduceBEq, Int.reduceBNe]
          · rcases hK0 with rfl | rfl <;> simp only [go_sem, Nat.reduceAdd, Nat.reduceSub, Nat.reduceMul, Nat.reduceEqDiff, Nat.reduceLT, Nat.reduceLeDiff, Nat.reduceBEq, Nat.reduceBNe, Int.reduceToNat, Int.reduceLE, Int.reduceLT, Int.reduceNe, Int.reduceNeg, reduceCtorEq, Int.reduceBEq, Int.reduceBNe, g2]
          · rw [List.length_map, tabT_len]; show (s + 1) * 16 ≤ _; omega
          intro p' H3 hO hF
          rw [show (tabT ⟨ps, ks, gr, fr, un, fe, st⟩ z s).map encS ++ [[PV.int .i64 Ps1, PV.int .i64 Ps2]] = (tabT ⟨ps, ks, gr, fr, un, fe, st⟩ z (s + 1)).map encS by rw [hts, List.map_append]; rfl] at hO
          obtain ⟨y1, y2, y3, y4, y5⟩ := Own2Taint hO
          simp only [go_sem, Nat.reduceAdd, Nat.reduceSub, Nat.reduceMul, Nat.reduceEqDiff, Nat.reduceLT, Nat.reduceLeDiff, Nat.reduceBEq, Nat.reduceBNe, Int.reduceToNat, Int.reduceLE, Int.reduceLT, Int.reduceNe, Int.reduceNeg, reduceCtorEq, Int.reduceBEq, Int.reduceBNe, y1, y2, y3, y4, y5]
          refine hK (s + 1, p') _ _ ?_ ⟨⟨by simp only; omega, hs⟩, ?_, hO⟩ (by simp only; omega)
          · simp only [go_sem, Nat.reduceAdd, Nat.reduceSub, Nat.reduceMul, Nat.reduceEqDiff, Nat.reduceLT, Nat.reduceLeDiff, Nat.reduceBEq, Nat.reduceBNe, Int.reduceToNat, Int.reduceLE, Int.reduceLT, Int.reduceNe, Int.reduceNeg, reduceCtorEq, Int.reduceBEq, Int.reduceBNe, ws]
          · rw [hF _ (by simp)]; simp only [go_sem, Nat.reduceAdd, Nat.reduceSub, Nat.reduceMul, Nat.reduceEqDiff, Nat.reduceLT, Nat.reduceLeDiff, Nat.reduceBEq, Nat.reduceBNe, Int.reduceToNat, Int.reduceLE, Int.reduceLT, Int.reduceNe, Int.reduceNeg, reduceCtorEq, Int.reduceBEq, Int.reduceBNe, g1]
    · have hil : s = 2 ^ ps.length := by simp only [decide_eq_false_iff_not] at h; omega
      refine hE _ _ _ (by simp) ?_
      rw [hil] at k2
      simp only [go_sem, Nat.reduceAdd, Nat.reduceSub, Nat.reduceMul, Nat.reduceEqDiff, Nat.reduceLT, Nat.reduceLeDiff, Nat.reduceBEq, Nat.reduceBNe, Int.reduceToNat, Int.reduceLE, Int.reduceLT, Int.reduceNe, Int.reduceNeg, reduceCtorEq, Int.reduceBEq, Int.reduceBNe, t1, t2, t3, t4, t5]
      exact k2.fin
def s70 : Spec := spec2 (fun (b : PBook) (z : Int) => GBook b ∧ 0 ≤ z ∧ z ≤ 4) (fun b z => .sl ((tabT b z (2 ^ b.pieces.length)).map encS) false)
theorem s70_ok : SpecOK Tryd.prog glB 70 s70 := spec2_ok E20_ok Tryd.func70 rfl (by kernel_rfl) fun b z h => prices_fn b h.1 z h.2
end Wb
