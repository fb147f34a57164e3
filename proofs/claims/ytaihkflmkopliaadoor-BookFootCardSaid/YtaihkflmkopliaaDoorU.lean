import Derived.Test.YtaihkflmkopliaaDoorT
set_option linter.unusedVariables false
set_option linter.unusedSimpArgs false
/- BookCheapest. -/
namespace Wb
open Go Go.Proofs Enc Row
set_option linter.unusedSimpArgs false
set_option linter.unusedVariables false
set_option maxRecDepth 20000
set_option maxHeartbeats 4000000
/-- What is known of the cheapest day of some that climb. -/
def CheapOk (f : Int → Option Int) (ds : List Int) (a : Int × Int) : Prop :=
  (a.1 = -1 ∧ ∀ d ∈ ds, f d = none) ∨ (a.1 ∈ ds ∧ f a.1 = some a.2 ∧ ∀ d ∈ ds, ∀ n, f d = some n → a.2 < n ∨ a.2 = n ∧ a.1 ≤ d)
theorem cheapF_ok (r : Rack) (ls : List Line) : ∀ (ds done : List Int) (a : Int × Int), (done ++ ds).Pairwise (· < ·) → (∀ d ∈ done ++ ds, 0 ≤ d) → CheapOk (fun d => sumF r d 0 ls) done a → CheapOk (fun d => sumF r d 0 ls) (done ++ ds) (cheapF r ls a ds)
  | [], done, a, _, _, h => by rw [List.append_nil]; exact h
  | d :: ds, done, a, hp, h0, h => by
    have hd0 := h0 d (by simp)
    have hlt : ∀ c ∈ done, c < d := fun c hc => (List.pairwise_append.1 hp).2.2 c hc d (by simp)
    rw [cheapF, show done ++ d :: ds = (done ++ [d]) ++ ds by simp]
    refine cheapF_ok r ls ds (done ++ [d]) _ (by simpa using hp) (by simpa using h0) ?_
    cases hs : sumF r d 0 ls with
    | none =>
      simp only
      rcases h with ⟨e, h⟩ | ⟨h1, h2, h3⟩
      · refine .inl ⟨e, fun c hc => ?_⟩
        rcases List.mem_append.1 hc with hc | hc
        · exact h c hc
        · rw [List.mem_singleton.1 hc]; exact hs
      · refine .inr ⟨List.mem_append.2 (.inl h1), h2, fun c hc n hn => ?_⟩
        rcases List.mem_append.1 hc with hc | hc
        · exact h3 c hc n hn
        · have hn : sumF r c 0 ls = some n := hn
          rw [List.mem_singleton.1 hc, hs] at hn; cases hn
    | some n =>
      simp only
      by_cases hc : a.1 < 0 ∨ n < a.2
      · rw [if_pos hc]
        refine .inr ⟨by simp, hs, fun c hc' m hm => ?_⟩
        rcases List.mem_append.1 hc' with hc' | hc'
        · rcases h with ⟨e, h⟩ | ⟨h1, h2, h3⟩
          · rw [h c hc'] at hm; cases hm
          · have := h3 c hc' m hm
            have := h0 a.1 (by simp [h1])
            simp only; omega
        · have hm : sumF r c 0 ls = some m := hm
          rw [List.mem_singleton.1 hc', hs] at hm
          cases hm
          exact .inr ⟨rfl, by rw [List.mem_singleton.1 hc']; exact Int.le_refl _⟩
      · rw [if_neg hc]
        rcases h with ⟨e, h⟩ | ⟨h1, h2, h3⟩
        · omega
        · refine .inr ⟨List.mem_append.2 (.inl h1), h2, fun c hc' m hm => ?_⟩
          rcases List.mem_append.1 hc' with hc' | hc'
          · exact h3 c hc' m hm
          · have hm : sumF r c 0 ls = some m := hm
            rw [List.mem_singleton.1 hc', hs] at hm
            cases hm
            have := hlt a.1 h1
            rw [List.mem_singleton.1 hc']; omega
theorem sumF_same {g : Int} {l : List Issue} {a b : Int} (h : ∀ y ∈ l, ovl 1 a a y = ovl 1 b b y) : ∀ (ls : List Line) (c : Int), sumF ⟨g, l⟩ a c ls = sumF ⟨g, l⟩ b c ls
  | [], _ => rfl
  | x :: ls, c => by
    rw [sumF, sumF, price_same h]
    cases priceP ⟨g, l⟩ b x.item with
    | none => rfl
    | some p => simp only; exact sumF_same h ls _
theorem cuts_ok {r : Rack} {d : Int × Int} (ls : List Line) (h : d.1 ≤ d.2) (h0 : 0 ≤ d.1) : CheapOk (fun d => sumF r d 0 ls) (cutsM r d) (cheapF r ls (-1, 0) (cutsM r d)) := by
  have := cheapF_ok r ls (cutsM r d) [] (-1, 0) (by rw [List.nil_append]; exact (compact_sort (rawCuts d r.issues)).1) (fun x hx => by
    have := rawCuts_in h (mem_cuts.1 (by simpa using hx)); omega) (.inl ⟨rfl, fun d h => by cases h⟩)
  simpa using this
theorem sumM_F {r : Rack} (hk : rackOk r = true) {on : Int} (ho : 0 ≤ on ∧ on ≤ 20000) {l : List Line} (hl : areLinesB r.goods l = true) : sumM r on l = match sumF r on 0 l with | some n => (n, 0) | none => (0, 4) := by
  unfold sumM asked3
  rw [if_pos hk, if_pos (by unfold qSum isDayB; rw [hl]; simp; omega)]
  cases sumF r on 0 l <;> rfl
/-- The cheapest day, and any other one. -/
theorem cheapM_day {g : Int} {l : List Issue} (hk : rackOk ⟨g, l⟩ = true) {lo hi o : Int} (h1 : 0 ≤ lo) (h2 : lo ≤ o) (h3 : o ≤ hi) (h4 : hi ≤ 20000) {ls : List Line} (hl : areLinesB g ls = true) :
    (cheapM ⟨g, l⟩ (lo, hi) ls = (0, 0, 4) ∧ sumM ⟨g, l⟩ o ls = (0, 4)) ∨
    ∃ d n, cheapM ⟨g, l⟩ (lo, hi) ls = (d, n, 0) ∧ (lo ≤ d ∧ d ≤ hi) ∧ sumM ⟨g, l⟩ d ls = (n, 0) ∧ (sumM ⟨g, l⟩ o ls = (0, 4) ∨ ∃ m, sumM ⟨g, l⟩ o ls = (m, 0) ∧ (n < m ∨ n = m ∧ d ≤ o)) := by
  have hc := cuts_ok (r := ⟨g, l⟩) (d := (lo, hi)) ls (by simp only; omega) h1
  obtain ⟨c, c1, c2, c3, c4⟩ := cut_of (d := (lo, hi)) (l := l) (day := o) ⟨h2, h3⟩
  have e := sumF_same (g := g) c4 ls 0
  have ho := sumM_F hk (on := o) (by omega) hl
  have hq : qCheap (lo, hi) ls ⟨g, l⟩ = true := by unfold qCheap isDaysB; rw [hl]; simp; omega
  unfold cheapM
  rw [if_pos hk, if_pos hq]
  generalize cheapF ⟨g, l⟩ ls (-1, 0) (cutsM ⟨g, l⟩ (lo, hi)) = a at *
  obtain ⟨d, n⟩ := a
  rcases hc with ⟨e1, hn⟩ | ⟨m1, m2, m3⟩
  · simp only at e1
    subst e1
    refine .inl ⟨rfl, ?_⟩
    have := hn c (mem_cuts.2 c1)
    simp only at this
    rw [ho, ← e, this]
  · simp only at m1 m2 m3
    have hdin := rawCuts_in (d := (lo, hi)) (show lo ≤ hi by omega) (mem_cuts.1 m1)
    simp only at hdin
    refine .inr ⟨d, n, by rw [if_neg (by simp only; omega)], hdin, ?_, ?_⟩
    · rw [sumM_F hk (by omega) hl, m2]
    · rw [ho, ← e]
      cases hs : sumF ⟨g, l⟩ c 0 ls with
      | none => exact .inl rfl
      | some m =>
        refine .inr ⟨m, rfl, ?_⟩
        have := m3 c (mem_cuts.2 c1) m hs
        omega
theorem cheapest_law (r : Rack) (hr : okRack r) (bits : List Int) (hbl : big bits.length) (k0 k1 k2 : Int) : Fn E41 0 14 Tryd.f14 (Tryd.f14.body.getD .skip) [.agg (encR r), .sl (il bits) false, .agg [.int .i64 k0, .int .i64 k1, .int .i64 k2]] (.bool true) := by
  obtain ⟨g, l⟩ := r
  cases hk : rackOk ⟨g, l⟩ with
  | false => unfold Fn Tryd.f14; simp only [go_sem, Nat.reduceAdd, Nat.reduceSub, Nat.reduceMul, Nat.reduceEqDiff, Nat.reduceLT, Nat.reduceLeDiff, Nat.reduceBEq, Nat.reduceBNe, Int.reduceToNat, Int.reduceLE, Int.reduceLT, Int.reduceNe, Int.reduceNeg, reduceCtorEq, Int.reduceBEq, Int.reduceBNe, @callV_spec E41 42 s42 rfl, @callV_specT E41 42 s42 rfl, @stepV_spec E41 42 s42 rfl, @effV_spec E41 42 s42 rfl, s42, @callV_spec E41 27 s27 rfl, @callV_specT E41 27 s27 rfl, @stepV_spec E41 27 s27 rfl, @effV_spec E41 27 s27 rfl, s27, encR, callSpec, hr, hk]
  | true =>
    have hG := rack_good hk
    obtain ⟨p1, p2⟩ := spin_range (n := k0) (m := 600) (by omega)
    obtain ⟨q1, q2⟩ := spin_range (n := k1) (m := 400) (by omega)
    generalize hlo : spinF k0 600 = lo at *
    have w1 : IntKind.i64.wrap (lo + spinF k1 400) = lo + spinF k1 400 := wrap_id (by omega)
    generalize hhi : lo + spinF k1 400 = hi at *
    have hlh : lo ≤ hi := by omega
    obtain ⟨f1, f2⟩ := lot_range (a := lo) (b := hi) k2 hlh
    generalize hday : lotF lo hi k2 = o at *
    have c1 : 0 ≤ lo := p1
    have c2 : lo ≤ 1000000000 := by omega
    have c3 : 0 ≤ hi := by omega
    have c4 : hi ≤ 1000000000 := by omega
    obtain ⟨l1, l2⟩ := linesM_ok hG bits
    generalize hL : linesM ⟨g, l⟩ bits = L at *
    have hLa : areLinesB g L = true := areLines_of l1 fun x hx => ⟨(l2 x hx).1, by have := (l2 x hx).2; omega⟩
    have hLb : big L.length = True := eq_true (by unfold big; omega)
    have hch := cheapM_day hk (o := o) c1 f1 f2 (by omega) hLa
    unfold Fn Tryd.f14
    rcases hch with ⟨e1, e2⟩ | ⟨d, n, e1, ⟨d1, d2⟩, e2, e3⟩
    · simp only [go_sem, Nat.reduceAdd, Nat.reduceSub, Nat.reduceMul, Nat.reduceEqDiff, Nat.reduceLT, Nat.reduceLeDiff, Nat.reduceBEq, Nat.reduceBNe, Int.reduceToNat, Int.reduceLE, Int.reduceLT, Int.reduceNe, Int.reduceNeg, reduceCtorEq, Int.reduceBEq, Int.reduceBNe, @callV_spec E41 42 s42 rfl, @callV_specT E41 42 s42 rfl, @stepV_spec E41 42 s42 rfl, @effV_spec E41 42 s42 rfl, s42, @callV_spec E41 51 s51L rfl, @callV_specT E41 51 s51L rfl, @stepV_spec E41 51 s51L rfl, @effV_spec E41 51 s51L rfl, s51L, @callV_spec E41 43 sSpin rfl, @callV_specT E41 43 sSpin rfl, @stepV_spec E41 43 sSpin rfl, @effV_spec E41 43 sSpin rfl, sSpin, @callV_spec E41 44 sTo rfl, @callV_specT E41 44 sTo rfl, @stepV_spec E41 44 sTo rfl, @effV_spec E41 44 sTo rfl, sTo, @callV_spec E41 36 s36 rfl, @callV_specT E41 36 s36 rfl, @stepV_spec E41 36 s36 rfl, @effV_spec E41 36 s36 rfl, s36, @callV_spec E41 45 s45 rfl, @callV_specT E41 45 s45 rfl, @stepV_spec E41 45 s45 rfl, @effV_spec E41 45 s45 rfl, s45, @callV_spec E41 34 s34 rfl, @callV_specT E41 34 s34 rfl, @stepV_spec E41 34 s34 rfl, @effV_spec E41 34 s34 rfl, s34, @callV_spec E41 27 s27 rfl, @callV_specT E41 27 s27 rfl, @stepV_spec E41 27 s27 rfl, @effV_spec E41 27 s27 rfl, s27, encR, callSpec, hr, hk, hG, hbl, hlo, hhi, w1, hL, hLb, dec_lines, c1, c2, c3, c4, lot_eq, hday, e1, e2]
    · rcases e3 with e3 | ⟨m, e3, e4⟩
      · simp only [go_sem, Nat.reduceAdd, Nat.reduceSub, Nat.reduceMul, Nat.reduceEqDiff, Nat.reduceLT, Nat.reduceLeDiff, Nat.reduceBEq, Nat.reduceBNe, Int.reduceToNat, Int.reduceLE, Int.reduceLT, Int.reduceNe, Int.reduceNeg, reduceCtorEq, Int.reduceBEq, Int.reduceBNe, @callV_spec E41 42 s42 rfl, @callV_specT E41 42 s42 rfl, @stepV_spec E41 42 s42 rfl, @effV_spec E41 42 s42 rfl, s42, @callV_spec E41 51 s51L rfl, @callV_specT E41 51 s51L rfl, @stepV_spec E41 51 s51L rfl, @effV_spec E41 51 s51L rfl, s51L, @callV_spec E41 43 sSpin rfl, @callV_specT E41 43 sSpin rfl, @stepV_spec E41 43 sSpin rfl, @effV_spec E41 43 sSpin rfl, sSpin, @callV_spec E41 44 sTo rfl, @callV_specT E41 44 sTo rfl, @stepV_spec E41 44 sTo rfl, @effV_spec E41 44 sTo rfl, sTo, @callV_spec E41 36 s36 rfl, @callV_specT E41 36 s36 rfl, @stepV_spec E41 36 s36 rfl, @effV_spec E41 36 s36 rfl, s36, @callV_spec E41 45 s45 rfl, @callV_specT E41 45 s45 rfl, @stepV_spec E41 45 s45 rfl, @effV_spec E41 45 s45 rfl, s45, @callV_spec E41 34 s34 rfl, @callV_specT E41 34 s34 rfl, @stepV_spec E41 34 s34 rfl, @effV_spec E41 34 s34 rfl, s34, @callV_spec E41 52 sHas rfl, @callV_specT E41 52 sHas rfl, @stepV_spec E41 52 sHas rfl, @effV_spec E41 52 sHas rfl, sHas, @callV_spec E41 27 s27 rfl, @callV_specT E41 27 s27 rfl, @stepV_spec E41 27 s27 rfl, @effV_spec E41 27 s27 rfl, s27, encR, callSpec, hr, hk, hG, hbl, hlo, hhi, w1, hL, hLb, dec_lines, c1, c2, c3, c4, lot_eq, hday, e1, e2, e3, d1, d2, bne_self_eq_false]
      · simp only [go_sem, Nat.reduceAdd, Nat.reduceSub, Nat.reduceMul, Nat.reduceEqDiff, Nat.reduceLT, Nat.reduceLeDiff, Nat.reduceBEq, Nat.reduceBNe, Int.reduceToNat, Int.reduceLE, Int.reduceLT, Int.reduceNe, Int.reduceNeg, reduceCtorEq, Int.reduceBEq, Int.reduceBNe, @callV_spec E41 42 s42 rfl, @callV_specT E41 42 s42 rfl, @stepV_spec E41 42 s42 rfl, @effV_spec E41 42 s42 rfl, s42, @callV_spec E41 51 s51L rfl, @callV_specT E41 51 s51L rfl, @stepV_spec E41 51 s51L rfl, @effV_spec E41 51 s51L rfl, s51L, @callV_spec E41 43 sSpin rfl, @callV_specT E41 43 sSpin rfl, @stepV_spec E41 43 sSpin rfl, @effV_spec E41 43 sSpin rfl, sSpin, @callV_spec E41 44 sTo rfl, @callV_specT E41 44 sTo rfl, @stepV_spec E41 44 sTo rfl, @effV_spec E41 44 sTo rfl, sTo, @callV_spec E41 36 s36 rfl, @callV_specT E41 36 s36 rfl, @stepV_spec E41 36 s36 rfl, @effV_spec E41 36 s36 rfl, s36, @callV_spec E41 45 s45 rfl, @callV_specT E41 45 s45 rfl, @stepV_spec E41 45 s45 rfl, @effV_spec E41 45 s45 rfl, s45, @callV_spec E41 34 s34 rfl, @callV_specT E41 34 s34 rfl, @stepV_spec E41 34 s34 rfl, @effV_spec E41 34 s34 rfl, s34, @callV_spec E41 52 sHas rfl, @callV_specT E41 52 sHas rfl, @stepV_spec E41 52 sHas rfl, @effV_spec E41 52 sHas rfl, sHas, @callV_spec E41 27 s27 rfl, @callV_specT E41 27 s27 rfl, @stepV_spec E41 27 s27 rfl, @effV_spec E41 27 s27 rfl, s27, encR, callSpec, hr, hk, hG, hbl, hlo, hhi, w1, hL, hLb, dec_lines, c1, c2, c3, c4, lot_eq, hday, e1, e2, e3, d1, d2, bne_self_eq_false]
        refine ⟨fun a b => ⟨a, b⟩, ?_⟩
        rcases e4 with h | ⟨rfl, h⟩
        · simp [h]
        · simp [h]
end Wb
