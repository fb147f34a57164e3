import Derived.Test.YtaihkflmkopliaaDoorQ
set_option linter.unusedVariables false
set_option linter.unusedSimpArgs false
/- BookDays: prices on days. -/
namespace Wb
open Go Go.Proofs Enc Row
set_option linter.unusedSimpArgs false
set_option linter.unusedVariables false
set_option maxRecDepth 20000
set_option maxHeartbeats 4000000
theorem max_below (c : Int) : ∀ (l : List Int), (∃ x ∈ l, x ≤ c) → ∃ m ∈ l, m ≤ c ∧ ∀ x ∈ l, x ≤ c → x ≤ m
  | [], h => by obtain ⟨x, h, _⟩ := h; cases h
  | a :: l, h => by
    by_cases hl : ∃ x ∈ l, x ≤ c
    · obtain ⟨m, h1, h2, h3⟩ := max_below c l hl
      by_cases ha : a ≤ c ∧ m < a
      · refine ⟨a, by simp, ha.1, fun x hx hc => ?_⟩
        rcases List.mem_cons.1 hx with rfl | hx
        · omega
        · have := h3 x hx hc; omega
      · refine ⟨m, by simp [h1], h2, fun x hx hc => ?_⟩
        rcases List.mem_cons.1 hx with rfl | hx
        · omega
        · exact h3 x hx hc
    · obtain ⟨x, hx, hc⟩ := h
      rcases List.mem_cons.1 hx with rfl | hx
      · refine ⟨x, by simp, hc, fun y hy hyc => ?_⟩
        rcases List.mem_cons.1 hy with rfl | hy
        · omega
        · exact absurd ⟨y, hy, hyc⟩ hl
      · exact absurd ⟨x, hx, hc⟩ hl
theorem mem_rawCuts {d : Int × Int} {l : List Issue} {x : Int} : x ∈ rawCuts d l ↔ x = d.1 ∨ (d.1 ≤ x ∧ x ≤ d.2) ∧ ∃ y ∈ l, x = y.lo ∨ x = y.held + 1 := by
  unfold rawCuts inDays ends2
  simp only [List.mem_cons, List.mem_flatMap, List.mem_filter, List.not_mem_nil, or_false, Bool.and_eq_true, decide_eq_true_eq]
  constructor
  · rintro (h | ⟨y, hy, h, h2⟩)
    · exact .inl h
    · exact .inr ⟨h2, y, hy, h⟩
  · rintro (h | ⟨h2, y, hy, h⟩)
    · exact .inl h
    · exact .inr ⟨y, hy, h, h2⟩
/-- The turn from which a day's prices are. -/
theorem cut_of {d : Int × Int} {l : List Issue} {day : Int} (h : d.1 ≤ day ∧ day ≤ d.2) : ∃ c ∈ rawCuts d l, d.1 ≤ c ∧ c ≤ day ∧ ∀ y ∈ l, ovl 1 c c y = ovl 1 day day y := by
  obtain ⟨c, h1, h2, h3⟩ := max_below day (rawCuts d l) ⟨d.1, mem_rawCuts.2 (.inl rfl), h.1⟩
  have hc : d.1 ≤ c := h3 _ (mem_rawCuts.2 (.inl rfl)) h.1
  refine ⟨c, h1, hc, h2, fun y hy => ?_⟩
  have e1 := fun a b => h3 y.lo (mem_rawCuts.2 (.inr ⟨⟨a, b⟩, y, hy, .inl rfl⟩))
  have e2 := fun a b => h3 (y.held + 1) (mem_rawCuts.2 (.inr ⟨⟨a, b⟩, y, hy, .inr rfl⟩))
  unfold ovl hiK
  simp only [Nat.succ_ne_zero, if_false]
  rw [Bool.eq_iff_iff]
  simp only [Bool.and_eq_true, decide_eq_true_eq]
  constructor
  · rintro ⟨a, b⟩
    refine ⟨by omega, ?_⟩
    by_cases q : day ≤ y.held
    · exact q
    · have := e2 (by omega) (by omega) (by omega); omega
  · rintro ⟨a, b⟩
    refine ⟨?_, by omega⟩
    by_cases q : y.lo ≤ c
    · exact q
    · have := e1 (by omega) (by omega) (by omega); omega
theorem offers_same {l : List Issue} {a b : Int} (h : ∀ y ∈ l, ovl 1 a a y = ovl 1 b b y) (t : Item) : offers a t l = offers b t l := by
  unfold offers
  congr 1
  exact List.filter_congr h
theorem price_same {g : Int} {l : List Issue} {a b : Int} (h : ∀ y ∈ l, ovl 1 a a y = ovl 1 b b y) (t : Item) : priceP ⟨g, l⟩ a t = priceP ⟨g, l⟩ b t := by
  unfold priceP
  rw [show (⟨g, l⟩ : Rack).issues = l from rfl, offers_same h t]
theorem mem_cuts {r : Rack} {d : Int × Int} {x : Int} : x ∈ cutsM r d ↔ x ∈ rawCuts d r.issues := (compact_sort _).2 x
theorem mem_prices {r : Rack} {d : Int × Int} {t : Item} {p : Int} : p ∈ pricesL r d t ↔ ∃ c ∈ rawCuts d r.issues, priceP r c t = some p := by
  unfold pricesL
  rw [(compact_sort _).2 p, List.mem_filterMap]
  constructor
  · rintro ⟨c, h1, h2⟩; exact ⟨c, mem_cuts.1 h1, h2⟩
  · rintro ⟨c, h1, h2⟩; exact ⟨c, mem_cuts.2 h1, h2⟩
theorem rawCuts_in {d : Int × Int} {l : List Issue} (hd : d.1 ≤ d.2) {c : Int} (h : c ∈ rawCuts d l) : d.1 ≤ c ∧ c ≤ d.2 := by
  rcases mem_rawCuts.1 h with rfl | ⟨h, _⟩
  · exact ⟨Int.le_refl _, hd⟩
  · exact h
theorem price_pos {r : Rack} (hG : GRack r) {on : Int} {t : Item} {p : Int} (h : priceP r on t = some p) : 1 ≤ p ∧ p ≤ 100000 := by
  obtain ⟨y, hy, _, hm⟩ := mem_offers.1 (price_some h).1
  exact inP_posR hG hy hm
theorem prices_climb {r : Rack} (hG : GRack r) (d : Int × Int) (t : Item) : climbsF 100001 (-1) (pricesL r d t) = true := climbs_of _ _ (compact_sort _).1 fun x hx => by
  obtain ⟨c, _, h⟩ := mem_prices.1 hx
  have := price_pos hG h; omega
theorem prices_len {r : Rack} (hG : GRack r) (d : Int × Int) (t : Item) : (pricesL r d t).length ≤ 100001 := by
  have hs := (compact_sort ((cutsM r d).filterMap fun on => priceP r on t)).1
  have key : ∀ (l : List Int) (b : Int), l.Pairwise (· < ·) → (∀ x ∈ l, b ≤ x ∧ x ≤ 100000) → b ≤ 100001 → (l.length : Int) ≤ 100001 - b := by
    intro l
    induction l with
    | nil => intro b _ _ h; simp; omega
    | cons a l ih =>
      intro b h1 h2 _
      have h3 := h2 a (by simp)
      have := ih (a + 1) h1.tail (fun x hx => by have := List.rel_of_pairwise_cons h1 hx; have := h2 x (by simp [hx]); omega) (by omega)
      simp; omega
  have := key (pricesL r d t) 0 hs (fun x hx => by
    obtain ⟨c, _, h⟩ := mem_prices.1 hx
    have := price_pos hG h; omega) (by omega)
  omega
theorem lastF_spec (t : Item) : ∀ (l : List Issue) (a : Int), a ≤ lastF t a l ∧ (lastF t a l = a ∨ ∃ y ∈ l, (inP t y.entries).isSome = true ∧ lastF t a l = y.held) ∧ ∀ y ∈ l, (inP t y.entries).isSome = true → y.held ≤ lastF t a l
  | [], a => ⟨Int.le_refl _, .inl rfl, fun y h => by cases h⟩
  | y :: l, a => by
    rw [lastF]
    by_cases hs : (inP t y.entries).isSome = true
    · rw [if_pos hs]
      by_cases hh : y.held > a
      · rw [if_pos hh]
        obtain ⟨h1, h2, h3⟩ := lastF_spec t l y.held
        refine ⟨by omega, .inr ?_, fun z hz hzs => ?_⟩
        · rcases h2 with h2 | ⟨z, hz, h4, h5⟩
          · exact ⟨y, by simp, hs, h2⟩
          · exact ⟨z, by simp [hz], h4, h5⟩
        · rcases List.mem_cons.1 hz with rfl | hz
          · exact h1
          · exact h3 z hz hzs
      · rw [if_neg hh]
        obtain ⟨h1, h2, h3⟩ := lastF_spec t l a
        refine ⟨h1, ?_, fun z hz hzs => ?_⟩
        · rcases h2 with h2 | ⟨z, hz, h4, h5⟩
          · exact .inl h2
          · exact .inr ⟨z, by simp [hz], h4, h5⟩
        · rcases List.mem_cons.1 hz with rfl | hz
          · omega
          · exact h3 z hz hzs
    · rw [if_neg hs]
      obtain ⟨h1, h2, h3⟩ := lastF_spec t l a
      refine ⟨h1, ?_, fun z hz hzs => ?_⟩
      · rcases h2 with h2 | ⟨z, hz, h4, h5⟩
        · exact .inl h2
        · exact .inr ⟨z, by simp [hz], h4, h5⟩
      · rcases List.mem_cons.1 hz with rfl | hz
        · exact absurd hzs hs
        · exact h3 z hz hzs
theorem last_none {r : Rack} (hG : GRack r) {t : Item} (h : lastO r t = none) (on : Int) : priceP r on t = none := by
  cases hp : priceP r on t with
  | none => rfl
  | some p =>
    exfalso
    obtain ⟨y, hy, _, hm⟩ := mem_offers.1 (price_some hp).1
    have := (lastF_spec t r.issues (-1)).2.2 y hy (by rw [hm]; rfl)
    have h1 := (hG.issues y hy).held
    have h2 := (hG.issues y hy).days
    unfold lastO at h
    split at h
    · omega
    · cases h
theorem last_some {r : Rack} (hG : GRack r) {t : Item} {v : Int} (h : lastO r t = some v) : (0 ≤ v ∧ v ≤ 20000) ∧ (∃ p, priceP r v t = some p) ∧ ∀ on, v < on → priceP r on t = none := by
  obtain ⟨h1, h2, h3⟩ := lastF_spec t r.issues (-1)
  unfold lastO at h
  split at h
  · cases h
  · rename_i h0
    cases h
    obtain ⟨y, hy, hs, e⟩ := h2.resolve_left (by omega)
    have g1 := (hG.issues y hy).held
    have g2 := (hG.issues y hy).days
    refine ⟨by omega, ?_, fun on hon => ?_⟩
    · obtain ⟨m, hm⟩ := Option.isSome_iff_exists.1 hs
      have : m ∈ offers (lastF t (-1) r.issues) t r.issues := mem_offers.2 ⟨y, hy, by rw [e]; unfold ovl hiK; simp; omega, hm⟩
      cases hp : priceP r (lastF t (-1) r.issues) t with
      | none => rw [price_none hp] at this; cases this
      | some p => exact ⟨p, rfl⟩
    · cases hp : priceP r on t with
      | none => rfl
      | some p =>
        exfalso
        obtain ⟨z, hz, ho, hm⟩ := mem_offers.1 (price_some hp).1
        have := h3 z hz (by rw [hm]; rfl)
        unfold ovl hiK at ho
        simp at ho
        omega
theorem lastM_of {r : Rack} (hk : rackOk r = true) {t : Item} (ht : itemOk r.goods t.good t.size t.colour = true) : lastM r t = match lastO r t with | some n => (n, 0) | none => (0, 4) := by
  unfold lastM asked3
  rw [if_pos hk, if_pos (by unfold isItemB; exact ht)]
  cases lastO r t <;> rfl
theorem pricesM_of {r : Rack} (hk : rackOk r = true) {d : Int × Int} (h1 : 0 ≤ d.1 ∧ d.1 ≤ d.2 ∧ d.2 ≤ 20000) {t : Item} (ht : itemOk r.goods t.good t.size t.colour = true) : pricesM r d t = (pricesL r d t, 0) := by
  unfold pricesM
  rw [if_pos hk, if_pos (by unfold qPrices isDaysB isItemB; rw [ht]; simp; omega)]
theorem days_law (r : Rack) (hr : okRack r) (a b c d k0 k1 k2 : Int) : Fn E38 0 12 Tryd.f12 (Tryd.f12.body.getD .skip) [.agg (encR r), .agg [.int .i64 a, .int .i64 b, .int .i64 c, .int .i64 d], .agg [.int .i64 k0, .int .i64 k1, .int .i64 k2]] (.bool true) := by
  obtain ⟨g, l⟩ := r
  cases hk : rackOk ⟨g, l⟩ with
  | false => unfold Fn Tryd.f12; simp only [go_sem, Nat.reduceAdd, Nat.reduceSub, Nat.reduceMul, Nat.reduceEqDiff, Nat.reduceLT, Nat.reduceLeDiff, Nat.reduceBEq, Nat.reduceBNe, Int.reduceToNat, Int.reduceLE, Int.reduceLT, Int.reduceNe, Int.reduceNeg, reduceCtorEq, Int.reduceBEq, Int.reduceBNe, @callV_spec E38 42 s42 rfl, @callV_specT E38 42 s42 rfl, @stepV_spec E38 42 s42 rfl, @effV_spec E38 42 s42 rfl, s42, @callV_spec E38 27 s27 rfl, @callV_specT E38 27 s27 rfl, @stepV_spec E38 27 s27 rfl, @effV_spec E38 27 s27 rfl, s27, encR, callSpec, hr, hk]
  | true =>
    have hG := rack_good hk
    obtain ⟨tok, _⟩ := someT_ok hG a b c d
    simp only at tok
    generalize hT : someT ⟨g, l⟩ a b c d = T at *
    obtain ⟨p1, p2⟩ := spin_range (n := k0) (m := 600) (by omega)
    obtain ⟨q1, q2⟩ := spin_range (n := k1) (m := 400) (by omega)
    generalize hlo : spinF k0 600 = lo at *
    have w1 : IntKind.i64.wrap (lo + spinF k1 400) = lo + spinF k1 400 := wrap_id (by omega)
    generalize hhi : lo + spinF k1 400 = hi at *
    have hlh : lo ≤ hi := by omega
    obtain ⟨f1, f2⟩ := lot_range (a := lo) (b := hi) k2 hlh
    generalize hday : lotF lo hi k2 = day at *
    have c1 : 0 ≤ lo := p1
    have c2 : lo ≤ 1000000000 := by omega
    have c3 : 0 ≤ hi := by omega
    have c4 : hi ≤ 1000000000 := by omega
    have hη : (⟨T.good, T.size, T.colour⟩ : Item) = T := rfl
    have hL := pricesM_of hk (d := (lo, hi)) ⟨by simp only; omega, by simp only; omega, by simp only; omega⟩ tok
    have hcl := prices_climb hG (lo, hi) T
    have hln := prices_len hG (lo, hi) T
    have hpm := fun on h1 h2 => priceM_of hk (on := on) ⟨h1, h2⟩ tok
    have hlm := lastM_of hk tok
    have hpd := hpm day (by omega) (by omega)
    have hmem : ∀ x ∈ pricesL ⟨g, l⟩ (lo, hi) T, ∃ on, lo ≤ on ∧ on ≤ hi ∧ priceP ⟨g, l⟩ on T = some x := fun x hx => by
      obtain ⟨c, h1, h2⟩ := mem_prices.1 hx
      obtain ⟨h3, h4⟩ := rawCuts_in (d := (lo, hi)) hlh h1
      exact ⟨c, h3, h4, h2⟩
    have hin : ∀ p, priceP ⟨g, l⟩ day T = some p → p ∈ pricesL ⟨g, l⟩ (lo, hi) T := fun p hp => by
      obtain ⟨c, h1, h2, h3, h4⟩ := cut_of (d := (lo, hi)) (l := l) (day := day) ⟨f1, f2⟩
      exact mem_prices.2 ⟨c, h1, by rw [price_same h4]; exact hp⟩
    generalize hLL : pricesL ⟨g, l⟩ (lo, hi) T = L at *
    have hlb : L.length < 4611686018427387904 := by omega
    obtain ⟨p, f, hpf, hpc⟩ : ∃ p f, priceM ⟨g, l⟩ day T = (p, f) ∧ ((f = 0 ∧ priceP ⟨g, l⟩ day T = some p ∧ p ∈ L) ∨ (f = 4 ∧ p = 0 ∧ priceP ⟨g, l⟩ day T = none)) := by
      rw [hpd]
      cases hp : priceP ⟨g, l⟩ day T with
      | none => exact ⟨0, 4, rfl, .inr ⟨rfl, rfl, rfl⟩⟩
      | some p => exact ⟨p, 0, rfl, .inl ⟨rfl, rfl, hin p hp⟩⟩
    have hg1 : (((f != 0) && (f != 4)) || ((f == 0) && decide (findI (fun a => a == p) L 0 < 0))) = false := by
      rcases hpc with ⟨rfl, _, h⟩ | ⟨rfl, rfl, _⟩
      · rw [findI_neg]; simp [h]
      · rfl
    unfold Fn Tryd.f12
    simp only [go_sem, Nat.reduceAdd, Nat.reduceSub, Nat.reduceMul, Nat.reduceEqDiff, Nat.reduceLT, Nat.reduceLeDiff, Nat.reduceBEq, Nat.reduceBNe, Int.reduceToNat, Int.reduceLE, Int.reduceLT, Int.reduceNe, Int.reduceNeg, reduceCtorEq, Int.reduceBEq, Int.reduceBNe, @callV_spec E38 42 s42 rfl, @callV_specT E38 42 s42 rfl, @stepV_spec E38 42 s42 rfl, @effV_spec E38 42 s42 rfl, s42, @callV_spec E38 48 s48 rfl, @callV_specT E38 48 s48 rfl, @stepV_spec E38 48 s48 rfl, @effV_spec E38 48 s48 rfl, s48, @callV_spec E38 43 sSpin rfl, @callV_specT E38 43 sSpin rfl, @stepV_spec E38 43 sSpin rfl, @effV_spec E38 43 sSpin rfl, sSpin, @callV_spec E38 44 sTo rfl, @callV_specT E38 44 sTo rfl, @stepV_spec E38 44 sTo rfl, @effV_spec E38 44 sTo rfl, sTo, @callV_spec E38 30 s30 rfl, @callV_specT E38 30 s30 rfl, @stepV_spec E38 30 s30 rfl, @effV_spec E38 30 s30 rfl, s30, @callV_spec E38 45 s45 rfl, @callV_specT E38 45 s45 rfl, @stepV_spec E38 45 s45 rfl, @effV_spec E38 45 s45 rfl, s45, @callV_spec E38 28 s28 rfl, @callV_specT E38 28 s28 rfl, @stepV_spec E38 28 s28 rfl, @effV_spec E38 28 s28 rfl, s28, @callV_spec E38 47 sPlace rfl, @callV_specT E38 47 sPlace rfl, @stepV_spec E38 47 sPlace rfl, @effV_spec E38 47 sPlace rfl, sPlace, @callV_spec E38 46 s46 rfl, @callV_specT E38 46 s46 rfl, @stepV_spec E38 46 s46 rfl, @effV_spec E38 46 s46 rfl, s46, encR, encT, callSpec, hr, hk, hG, hT, hlo, hhi, w1, hL, hη, hpf, big, hlb, c1, c2, c3, c4, lot_eq, hday, hcl]
    refine ⟨fun a b => ⟨a, b⟩, ?_⟩
    rw [hg1]
    simp only [go_sem, Nat.reduceAdd, Nat.reduceSub, Nat.reduceMul, Nat.reduceEqDiff, Nat.reduceLT, Nat.reduceLeDiff, Nat.reduceBEq, Nat.reduceBNe, Int.reduceToNat, Int.reduceLE, Int.reduceLT, Int.reduceNe, Int.reduceNeg, reduceCtorEq, Int.reduceBEq, Int.reduceBNe]
    refine ev_loopS [3, 5, 7, 10, 11, 13, 15] (fun i : Nat => [(16, .int .i64 i)])
      (fun i H => i ≤ L.length ∧ H (([], 12000000) : Key) = some (.cells (encR ⟨g, l⟩) 1 false) ∧ H (([], 12000002) : Key) = some (.cells [.int .i64 k0, .int .i64 k1, .int .i64 k2] 1 false) ∧
        H (([], 12003006) : Key) = some (.cells [.int .i64 T.good, .int .i64 T.size, .int .i64 T.colour] 1 false) ∧ H (([], 12005007) : Key) = some (.cells [.int .i64 lo, .int .i64 hi] 1 false))
      (fun i => L.length - i) 0 ?_ ⟨Nat.zero_le _, ?_, ?_, ?_, ?_⟩ ?_
    · simp only [go_sem, Nat.reduceAdd, Nat.reduceSub, Nat.reduceMul, Nat.reduceEqDiff, Nat.reduceLT, Nat.reduceLeDiff, Nat.reduceBEq, Nat.reduceBNe, Int.reduceToNat, Int.reduceLE, Int.reduceLT, Int.reduceNe, Int.reduceNeg, reduceCtorEq, Int.reduceBEq, Int.reduceBNe, Int.natCast_zero]
    · simp only [go_sem, Nat.reduceAdd, Nat.reduceSub, Nat.reduceMul, Nat.reduceEqDiff, Nat.reduceLT, Nat.reduceLeDiff, Nat.reduceBEq, Nat.reduceBNe, Int.reduceToNat, Int.reduceLE, Int.reduceLT, Int.reduceNe, Int.reduceNeg, reduceCtorEq, Int.reduceBEq, Int.reduceBNe, encR]
    · simp only [go_sem, Nat.reduceAdd, Nat.reduceSub, Nat.reduceMul, Nat.reduceEqDiff, Nat.reduceLT, Nat.reduceLeDiff, Nat.reduceBEq, Nat.reduceBNe, Int.reduceToNat, Int.reduceLE, Int.reduceLT, Int.reduceNe, Int.reduceNeg, reduceCtorEq, Int.reduceBEq, Int.reduceBNe]
    · simp only [go_sem, Nat.reduceAdd, Nat.reduceSub, Nat.reduceMul, Nat.reduceEqDiff, Nat.reduceLT, Nat.reduceLeDiff, Nat.reduceBEq, Nat.reduceBNe, Int.reduceToNat, Int.reduceLE, Int.reduceLT, Int.reduceNe, Int.reduceNeg, reduceCtorEq, Int.reduceBEq, Int.reduceBNe]
    · simp only [go_sem, Nat.reduceAdd, Nat.reduceSub, Nat.reduceMul, Nat.reduceEqDiff, Nat.reduceLT, Nat.reduceLeDiff, Nat.reduceBEq, Nat.reduceBNe, Int.reduceToNat, Int.reduceLE, Int.reduceLT, Int.reduceNe, Int.reduceNeg, reduceCtorEq, Int.reduceBEq, Int.reduceBNe]
    · simp only [go_sem, Nat.reduceAdd, Nat.reduceSub, Nat.reduceMul, Nat.reduceEqDiff, Nat.reduceLT, Nat.reduceLeDiff, Nat.reduceBEq, Nat.reduceBNe, Int.reduceToNat, Int.reduceLE, Int.reduceLT, Int.reduceNe, Int.reduceNeg, reduceCtorEq, Int.reduceBEq, Int.reduceBNe]
      intro K i H ⟨hi0, h1, h2, h3, h4⟩ hK hE
      have h1' := h1
      simp only [encR] at h1'
      simp only [go_sem, Nat.reduceAdd, Nat.reduceSub, Nat.reduceMul, Nat.reduceEqDiff, Nat.reduceLT, Nat.reduceLeDiff, Nat.reduceBEq, Nat.reduceBNe, Int.reduceToNat, Int.reduceLE, Int.reduceLT, Int.reduceNe, Int.reduceNeg, reduceCtorEq, Int.reduceBEq, Int.reduceBNe, il_length]
      rw [condK_bool]
      refine ⟨fun h => ?_, fun h => ?_⟩
      · have h' : i < L.length := by simpa using h
        have hii : (i : Int) < (L.length : Int) := by omega
        have w2 : IntKind.i64.wrap ((i : Int) + 1) = ((i + 1 : Nat) : Int) := by rw [Int.natCast_add, Int.natCast_one]; exact wrap_id (by omega)
        have hxm : L.getD i 0 ∈ L := by simp [List.getD_eq_getElem?_getD, h']
        obtain ⟨on, o1, o2, o3⟩ := hmem _ hxm
        generalize hx : L.getD i 0 = x at *
        simp only [go_sem, Nat.reduceAdd, Nat.reduceSub, Nat.reduceMul, Nat.reduceEqDiff, Nat.reduceLT, Nat.reduceLeDiff, Nat.reduceBEq, Nat.reduceBNe, Int.reduceToNat, Int.reduceLE, Int.reduceLT, Int.reduceNe, Int.reduceNeg, reduceCtorEq, Int.reduceBEq, Int.reduceBNe, h4]
        refine ev_loopS [3, 5, 7, 10, 11, 13, 15, 16] (fun j : Nat => [(17, .bool ((List.range j).any fun m => priceP ⟨g, l⟩ (lo + (m : Int)) T == some x)), (18, .int .i64 (lo + (j : Int)))])
          (fun j H => lo + (j : Int) ≤ hi + 1 ∧ H (([], 12000000) : Key) = some (.cells (encR ⟨g, l⟩) 1 false) ∧ H (([], 12000002) : Key) = some (.cells [.int .i64 k0, .int .i64 k1, .int .i64 k2] 1 false) ∧
            H (([], 12003006) : Key) = some (.cells [.int .i64 T.good, .int .i64 T.size, .int .i64 T.colour] 1 false) ∧ H (([], 12005007) : Key) = some (.cells [.int .i64 lo, .int .i64 hi] 1 false))
          (fun j => (hi + 1 - lo).toNat - j) 0 ?_ ⟨by omega, h1, h2, h3, h4⟩ ?_
        · simp only [go_sem, Nat.reduceAdd, Nat.reduceSub, Nat.reduceMul, Nat.reduceEqDiff, Nat.reduceLT, Nat.reduceLeDiff, Nat.reduceBEq, Nat.reduceBNe, Int.reduceToNat, Int.reduceLE, Int.reduceLT, Int.reduceNe, Int.reduceNeg, reduceCtorEq, Int.reduceBEq, Int.reduceBNe, List.range_zero, List.any_nil, Int.natCast_zero, Int.add_zero]
        · simp only [go_sem, Nat.reduceAdd, Nat.reduceSub, Nat.reduceMul, Nat.reduceEqDiff, Nat.reduceLT, Nat.reduceLeDiff, Nat.reduceBEq, Nat.reduceBNe, Int.reduceToNat, Int.reduceLE, Int.reduceLT, Int.reduceNe, Int.reduceNeg, reduceCtorEq, Int.reduceBEq, Int.reduceBNe]
          intro K2 j H2 ⟨hj, g1, g2, g3, g4⟩ hK2 hE2
          have g1' := g1
          simp only [encR] at g1'
          obtain ⟨F, hF⟩ : ∃ F, ((List.range j).any fun m => priceP ⟨g, l⟩ (lo + (m : Int)) T == some x) = F := ⟨_, rfl⟩
          have hF1 : ((List.range (j + 1)).any fun m => priceP ⟨g, l⟩ (lo + (m : Int)) T == some x) = (F || (priceP ⟨g, l⟩ (lo + (j : Int)) T == some x)) := by
            rw [List.range_succ, List.any_append, hF]; simp
          have hF2 := hF1
          rw [List.range_succ] at hF2
          simp only [go_sem, Nat.reduceAdd, Nat.reduceSub, Nat.reduceMul, Nat.reduceEqDiff, Nat.reduceLT, Nat.reduceLeDiff, Nat.reduceBEq, Nat.reduceBNe, Int.reduceToNat, Int.reduceLE, Int.reduceLT, Int.reduceNe, Int.reduceNeg, reduceCtorEq, Int.reduceBEq, Int.reduceBNe, g4, hF]
          rw [condK_bool]
          refine ⟨fun hc => ?_, fun hc => ?_⟩
          · simp only [Bool.and_eq_true, Bool.not_eq_true', decide_eq_true_eq] at hc
            obtain ⟨hc1, hc2⟩ := hc
            subst hc1
            rw [Bool.false_or] at hF1 hF2
            have w3 : IntKind.i64.wrap (lo + (j : Int) + 1) = lo + ((j + 1 : Nat) : Int) := by rw [Int.natCast_add, Int.natCast_one, ← Int.add_assoc]; exact wrap_id (by omega)
            have hpj := hpm (lo + (j : Int)) (by omega) (by omega)
            cases hq : priceP ⟨g, l⟩ (lo + (j : Int)) T with
            | none =>
              rw [hq] at hpj hF1 hF2
              simp only at hpj
              have e : ((none : Option Int) == some x) = false := rfl
              rw [e] at hF1 hF2
              simp only [go_sem, Nat.reduceAdd, Nat.reduceSub, Nat.reduceMul, Nat.reduceEqDiff, Nat.reduceLT, Nat.reduceLeDiff, Nat.reduceBEq, Nat.reduceBNe, Int.reduceToNat, Int.reduceLE, Int.reduceLT, Int.reduceNe, Int.reduceNeg, reduceCtorEq, Int.reduceBEq, Int.reduceBNe, @callV_spec E38 28 s28 rfl, @callV_specT E38 28 s28 rfl, @stepV_spec E38 28 s28 rfl, @effV_spec E38 28 s28 rfl, s28, callSpec, g1', g3, hη, hr, hpj, hii, h', il_get, hx, il_length]
              refine hK2 (j + 1) _ _ ?_ ⟨by omega, ?_, ?_, ?_, ?_⟩ (by omega)
              · simp only [go_sem, Nat.reduceAdd, Nat.reduceSub, Nat.reduceMul, Nat.reduceEqDiff, Nat.reduceLT, Nat.reduceLeDiff, Nat.reduceBEq, Nat.reduceBNe, Int.reduceToNat, Int.reduceLE, Int.reduceLT, Int.reduceNe, Int.reduceNeg, reduceCtorEq, Int.reduceBEq, Int.reduceBNe, w3, hF1, hF2]
              · simp only [go_sem, Nat.reduceAdd, Nat.reduceSub, Nat.reduceMul, Nat.reduceEqDiff, Nat.reduceLT, Nat.reduceLeDiff, Nat.reduceBEq, Nat.reduceBNe, Int.reduceToNat, Int.reduceLE, Int.reduceLT, Int.reduceNe, Int.reduceNeg, reduceCtorEq, Int.reduceBEq, Int.reduceBNe, g1]
              · simp only [go_sem, Nat.reduceAdd, Nat.reduceSub, Nat.reduceMul, Nat.reduceEqDiff, Nat.reduceLT, Nat.reduceLeDiff, Nat.reduceBEq, Nat.reduceBNe, Int.reduceToNat, Int.reduceLE, Int.reduceLT, Int.reduceNe, Int.reduceNeg, reduceCtorEq, Int.reduceBEq, Int.reduceBNe, g2]
              · simp only [go_sem, Nat.reduceAdd, Nat.reduceSub, Nat.reduceMul, Nat.reduceEqDiff, Nat.reduceLT, Nat.reduceLeDiff, Nat.reduceBEq, Nat.reduceBNe, Int.reduceToNat, Int.reduceLE, Int.reduceLT, Int.reduceNe, Int.reduceNeg, reduceCtorEq, Int.reduceBEq, Int.reduceBNe, g3]
              · simp only [go_sem, Nat.reduceAdd, Nat.reduceSub, Nat.reduceMul, Nat.reduceEqDiff, Nat.reduceLT, Nat.reduceLeDiff, Nat.reduceBEq, Nat.reduceBNe, Int.reduceToNat, Int.reduceLE, Int.reduceLT, Int.reduceNe, Int.reduceNeg, reduceCtorEq, Int.reduceBEq, Int.reduceBNe, g4]
            | some v =>
              rw [hq] at hpj hF1 hF2
              simp only at hpj
              have e : ((some v : Option Int) == some x) = (v == x) := rfl
              rw [e] at hF1 hF2
              simp only [go_sem, Nat.reduceAdd, Nat.reduceSub, Nat.reduceMul, Nat.reduceEqDiff, Nat.reduceLT, Nat.reduceLeDiff, Nat.reduceBEq, Nat.reduceBNe, Int.reduceToNat, Int.reduceLE, Int.reduceLT, Int.reduceNe, Int.reduceNeg, reduceCtorEq, Int.reduceBEq, Int.reduceBNe, @callV_spec E38 28 s28 rfl, @callV_specT E38 28 s28 rfl, @stepV_spec E38 28 s28 rfl, @effV_spec E38 28 s28 rfl, s28, callSpec, g1', g3, hη, hr, hpj, hii, h', il_get, hx, il_length]
              refine hK2 (j + 1) _ _ ?_ ⟨by omega, ?_, ?_, ?_, ?_⟩ (by omega)
              · simp only [go_sem, Nat.reduceAdd, Nat.reduceSub, Nat.reduceMul, Nat.reduceEqDiff, Nat.reduceLT, Nat.reduceLeDiff, Nat.reduceBEq, Nat.reduceBNe, Int.reduceToNat, Int.reduceLE, Int.reduceLT, Int.reduceNe, Int.reduceNeg, reduceCtorEq, Int.reduceBEq, Int.reduceBNe, w3, hF1, hF2]
              · simp only [go_sem, Nat.reduceAdd, Nat.reduceSub, Nat.reduceMul, Nat.reduceEqDiff, Nat.reduceLT, Nat.reduceLeDiff, Nat.reduceBEq, Nat.reduceBNe, Int.reduceToNat, Int.reduceLE, Int.reduceLT, Int.reduceNe, Int.reduceNeg, reduceCtorEq, Int.reduceBEq, Int.reduceBNe, g1]
              · simp only [go_sem, Nat.reduceAdd, Nat.reduceSub, Nat.reduceMul, Nat.reduceEqDiff, Nat.reduceLT, Nat.reduceLeDiff, Nat.reduceBEq, Nat.reduceBNe, Int.reduceToNat, Int.reduceLE, Int.reduceLT, Int.reduceNe, Int.reduceNeg, reduceCtorEq, Int.reduceBEq, Int.reduceBNe, g2]
              · simp only [go_sem, Nat.reduceAdd, Nat.reduceSub, Nat.reduceMul, Nat.reduceEqDiff, Nat.reduceLT, Nat.reduceLeDiff, Nat.reduceBEq, Nat.reduceBNe, Int.reduceToNat, Int.reduceLE, Int.reduceLT, Int.reduceNe, Int.reduceNeg, reduceCtorEq, Int.reduceBEq, Int.reduceBNe, g3]
              · simp only [go_sem, Nat.reduceAdd, Nat.reduceSub, Nat.reduceMul, Nat.reduceEqDiff, Nat.reduceLT, Nat.reduceLeDiff, Nat.reduceBEq, Nat.reduceBNe, Int.reduceToNat, Int.reduceLE, Int.reduceLT, Int.reduceNe, Int.reduceNeg, reduceCtorEq, Int.reduceBEq, Int.reduceBNe, g4]
          · have hFt : F = true := by
              cases hFv : F with
              | true => rfl
              | false =>
                exfalso
                rw [hFv] at hc hF
                simp at hc
                rw [← Bool.not_eq_true] at hF
                refine hF (List.any_eq_true.2 ⟨(on - lo).toNat, List.mem_range.2 (by omega), ?_⟩)
                rw [show lo + (((on - lo).toNat : Nat) : Int) = on by omega, o3]
                simp
            subst hFt
            refine hE2 _ _ _ (by simp) ?_
            simp only [go_sem, Nat.reduceAdd, Nat.reduceSub, Nat.reduceMul, Nat.reduceEqDiff, Nat.reduceLT, Nat.reduceLeDiff, Nat.reduceBEq, Nat.reduceBNe, Int.reduceToNat, Int.reduceLE, Int.reduceLT, Int.reduceNe, Int.reduceNeg, reduceCtorEq, Int.reduceBEq, Int.reduceBNe, hF]
            refine hK (i + 1) _ _ ?_ ⟨h', ?_, ?_, ?_, ?_⟩ (by omega)
            · simp only [go_sem, Nat.reduceAdd, Nat.reduceSub, Nat.reduceMul, Nat.reduceEqDiff, Nat.reduceLT, Nat.reduceLeDiff, Nat.reduceBEq, Nat.reduceBNe, Int.reduceToNat, Int.reduceLE, Int.reduceLT, Int.reduceNe, Int.reduceNeg, reduceCtorEq, Int.reduceBEq, Int.reduceBNe, w2]
            · simp only [go_sem, Nat.reduceAdd, Nat.reduceSub, Nat.reduceMul, Nat.reduceEqDiff, Nat.reduceLT, Nat.reduceLeDiff, Nat.reduceBEq, Nat.reduceBNe, Int.reduceToNat, Int.reduceLE, Int.reduceLT, Int.reduceNe, Int.reduceNeg, reduceCtorEq, Int.reduceBEq, Int.reduceBNe, g1]
            · simp only [go_sem, Nat.reduceAdd, Nat.reduceSub, Nat.reduceMul, Nat.reduceEqDiff, Nat.reduceLT, Nat.reduceLeDiff, Nat.reduceBEq, Nat.reduceBNe, Int.reduceToNat, Int.reduceLE, Int.reduceLT, Int.reduceNe, Int.reduceNeg, reduceCtorEq, Int.reduceBEq, Int.reduceBNe, g2]
            · simp only [go_sem, Nat.reduceAdd, Nat.reduceSub, Nat.reduceMul, Nat.reduceEqDiff, Nat.reduceLT, Nat.reduceLeDiff, Nat.reduceBEq, Nat.reduceBNe, Int.reduceToNat, Int.reduceLE, Int.reduceLT, Int.reduceNe, Int.reduceNeg, reduceCtorEq, Int.reduceBEq, Int.reduceBNe, g3]
            · simp only [go_sem, Nat.reduceAdd, Nat.reduceSub, Nat.reduceMul, Nat.reduceEqDiff, Nat.reduceLT, Nat.reduceLeDiff, Nat.reduceBEq, Nat.reduceBNe, Int.reduceToNat, Int.reduceLE, Int.reduceLT, Int.reduceNe, Int.reduceNeg, reduceCtorEq, Int.reduceBEq, Int.reduceBNe, g4]
      · have hil : i = L.length := by simp only [decide_eq_false_iff_not] at h; omega
        subst hil
        refine hE _ _ _ (by simp) ?_
        cases hlo2 : lastO ⟨g, l⟩ T with
        | none =>
          rw [hlo2] at hlm
          simp only at hlm
          have hno := last_none hG hlo2
          have hf : f = 4 := by
            rcases hpc with ⟨_, h, _⟩ | ⟨h, _⟩
            · rw [hno] at h; cases h
            · exact h
          have hL0 : L = [] := by
            cases hLc : L with
            | nil => rfl
            | cons x L' =>
              obtain ⟨on, _, _, o3⟩ := hmem x (by rw [hLc]; simp)
              rw [hno] at o3; cases o3
          subst hf; subst hL0
          simp only [go_sem, Nat.reduceAdd, Nat.reduceSub, Nat.reduceMul, Nat.reduceEqDiff, Nat.reduceLT, Nat.reduceLeDiff, Nat.reduceBEq, Nat.reduceBNe, Int.reduceToNat, Int.reduceLE, Int.reduceLT, Int.reduceNe, Int.reduceNeg, reduceCtorEq, Int.reduceBEq, Int.reduceBNe, @callV_spec E38 32 s32 rfl, @callV_specT E38 32 s32 rfl, @stepV_spec E38 32 s32 rfl, @effV_spec E38 32 s32 rfl, s32, @callV_spec E38 27 s27 rfl, @callV_specT E38 27 s27 rfl, @stepV_spec E38 27 s27 rfl, @effV_spec E38 27 s27 rfl, s27, callSpec, h1', h3, hη, hr, hlm, il_length, List.length_nil]
        | some v =>
          rw [hlo2] at hlm
          simp only at hlm
          obtain ⟨⟨v1, v2⟩, ⟨p', hp'⟩, v4⟩ := last_some hG hlo2
          have hpv := hpm v v1 v2
          rw [hp'] at hpv
          simp only at hpv
          have hfd : ((f == 0) && decide (day > v)) = false := by
            rcases hpc with ⟨rfl, h, _⟩ | ⟨rfl, _⟩
            · have : ¬ day > v := fun hd => by rw [v4 day hd] at h; cases h
              simp [this]
            · rfl
          have c5 : 0 ≤ v + 1 := by omega
          have c6 : v + 1 ≤ 1000000000 := by omega
          have wv : IntKind.i64.wrap (v + 1) = v + 1 := wrap_id (by omega)
          simp only [go_sem, Nat.reduceAdd, Nat.reduceSub, Nat.reduceMul, Nat.reduceEqDiff, Nat.reduceLT, Nat.reduceLeDiff, Nat.reduceBEq, Nat.reduceBNe, Int.reduceToNat, Int.reduceLE, Int.reduceLT, Int.reduceNe, Int.reduceNeg, reduceCtorEq, Int.reduceBEq, Int.reduceBNe, @callV_spec E38 32 s32 rfl, @callV_specT E38 32 s32 rfl, @stepV_spec E38 32 s32 rfl, @effV_spec E38 32 s32 rfl, s32, @callV_spec E38 28 s28 rfl, @callV_specT E38 28 s28 rfl, @stepV_spec E38 28 s28 rfl, @effV_spec E38 28 s28 rfl, s28, @callV_spec E38 50 sTween rfl, @callV_specT E38 50 sTween rfl, @stepV_spec E38 50 sTween rfl, @effV_spec E38 50 sTween rfl, sTween, callSpec, h1', h3, hη, hr, hlm, hpv, hfd, v1, v2]
          rw [condK_bool]
          refine ⟨fun hc => ?_, fun hc => ?_⟩
          · simp only [go_sem, Nat.reduceAdd, Nat.reduceSub, Nat.reduceMul, Nat.reduceEqDiff, Nat.reduceLT, Nat.reduceLeDiff, Nat.reduceBEq, Nat.reduceBNe, Int.reduceToNat, Int.reduceLE, Int.reduceLT, Int.reduceNe, Int.reduceNeg, reduceCtorEq, Int.reduceBEq, Int.reduceBNe, @callV_spec E38 27 s27 rfl, @callV_specT E38 27 s27 rfl, @stepV_spec E38 27 s27 rfl, @effV_spec E38 27 s27 rfl, s27, callSpec]
          · have hv3 : v ≠ 20000 := by simpa using hc
            obtain ⟨z1, z2⟩ := lot_range (a := v + 1) (b := 20000) k2 (by omega)
            generalize hlot : lotF (v + 1) 20000 k2 = q at *
            have hpq := hpm q (by omega) (by omega)
            rw [v4 q (by omega)] at hpq
            simp only at hpq
            simp only [go_sem, Nat.reduceAdd, Nat.reduceSub, Nat.reduceMul, Nat.reduceEqDiff, Nat.reduceLT, Nat.reduceLeDiff, Nat.reduceBEq, Nat.reduceBNe, Int.reduceToNat, Int.reduceLE, Int.reduceLT, Int.reduceNe, Int.reduceNeg, reduceCtorEq, Int.reduceBEq, Int.reduceBNe, @callV_spec E38 44 sTo rfl, @callV_specT E38 44 sTo rfl, @stepV_spec E38 44 sTo rfl, @effV_spec E38 44 sTo rfl, sTo, @callV_spec E38 45 s45 rfl, @callV_specT E38 45 s45 rfl, @stepV_spec E38 45 s45 rfl, @effV_spec E38 45 s45 rfl, s45, @callV_spec E38 28 s28 rfl, @callV_specT E38 28 s28 rfl, @stepV_spec E38 28 s28 rfl, @effV_spec E38 28 s28 rfl, s28, @callV_spec E38 27 s27 rfl, @callV_specT E38 27 s27 rfl, @stepV_spec E38 27 s27 rfl, @effV_spec E38 27 s27 rfl, s27, callSpec, h1', h2, h3, hη, hr, wv, c5, c6, lot_eq, hlot, hpq]
            trace_state
end Wb
