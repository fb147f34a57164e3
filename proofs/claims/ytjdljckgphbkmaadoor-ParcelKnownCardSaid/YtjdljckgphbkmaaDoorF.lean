import Derived.Test.YtjdljckgphbkmaaDoorT
set_option linter.unusedVariables false
set_option linter.unusedSimpArgs false
/- What a postage turns; all parcels of a set's first piece. -/
namespace Wb
open Go Go.Proofs Enc Row
set_option linter.unusedSimpArgs false
set_option linter.unusedVariables false
set_option maxRecDepth 20000
set_option maxHeartbeats 4000000
theorem dB7_eq (b : PBook) : dB7 (b.pieces.map encP) (b.kinds.map encK) b.grams b.free b.unit b.fee (il b.stamps) = some b := dB7_enc b
/-- Where a book in the calculation keeps what it knows. -/
def KnowsAt (b : PBook) (z : Int) (Km : Key) (vm : Nat) (H : Heap) : Prop := ∃ es, H Km = some (.map true 2 es vm false) ∧ OkM b z es
structure OkP (b : PBook) (z : Int) (k s : Nat) : Prop where
  g : GBook b
  z : 0 ≤ z ∧ z ≤ 4
  k : k < b.kinds.length
  pos : 0 < s
  s : s < 2 ^ b.pieces.length
def e62 : ESpec := fun path args => match args with
  | [.agg [.sl ps _, .sl ks _, .int .i64 a, .int .i64 c, .int .i64 d, .int .i64 e, .sl st _, .int .i64 z, .mref Km vm], .agg [.int .i64 k, .int .i64 s]] =>
    match dB7 ps ks a c d e st with
    | some b => some {
        pre := fun H => (0 ≤ k ∧ 0 ≤ s ∧ OkP b z k.toNat s.toNat) ∧ ¬ path <:+ Km.1 ∧ KnowsAt b z Km vm H
        D := fun K => K = Km
        S := fun K => K = Km ∨ path <:+ K.1
        post := fun _ v H' => v = .int .i64 (postG b z k.toNat s.toNat) ∧ KnowsAt b z Km vm H' }
    | none => none
  | _ => none
theorem e62_dep : ∀ path args e, e62 path args = some e → EffDep e := fun path args e h => by
  unfold e62 at h
  split at h
  · split at h
    · cases h
      rename_i b hb
      refine ⟨?_, ?_, ?_, ?_⟩
      · rintro H H' hD ⟨h1, h2, es, h3, h4⟩
        exact ⟨h1, h2, es, (hD _ rfl).trans h3, h4⟩
      · rintro H H1 v H' hD h; exact h
      · rintro H v H1 H2 hS ⟨h1, es, h2, h3⟩
        exact ⟨h1, es, (hS _ (.inl rfl)).trans h2, h3⟩
      · rintro H ⟨h1, h2, h3⟩
        exact ⟨_, H, fun _ _ => rfl, rfl, h3⟩
    · cases h
  · cases h
theorem e62_ok : EffOK Tryd.prog glB 62 e62 := effOK_of (n := 1) E6_ok e62_dep fun path args e h => by
  unfold e62 at h
  split at h
  · split at h
    · rename_i ps _ ks _ ga fr un fe st _ z Km vm k s _ b hb
      cases h
      obtain ⟨w1, w2, rfl, rfl, rfl, rfl, w3⟩ := dB7_wk hb
      refine ⟨[.agg (encB b ++ [.int .i64 z, .mref Km vm]), .agg [.int .i64 k, .int .i64 s]], ⟨?_, wk_refl _, trivial⟩, fun H Q hp hQ => ?_⟩
      · show wk.wkL [_, _, _, _, _, _, _, _, _] [.sl (b.pieces.map encP) false, .sl (b.kinds.map encK) false, .int .i64 b.grams, .int .i64 b.free, .int .i64 b.unit, .int .i64 b.fee, .sl (il b.stamps) false, .int .i64 z, .mref Km vm]
        exact ⟨⟨w1, fun h => by cases h⟩, ⟨w2, fun h => by cases h⟩, rfl, rfl, rfl, rfl, ⟨w3, fun h => by cases h⟩, rfl, rfl, trivial⟩
      obtain ⟨⟨k0, s0, g1, g2, g3, g4, g5⟩, hK, es, hM, hes⟩ := hp
      obtain ⟨k, rfl⟩ := Int.eq_ofNat_of_zero_le k0
      obtain ⟨s, rfl⟩ := Int.eq_ofNat_of_zero_le s0
      exact postage_in (fun _ => E6_ti) rfl rfl rfl rfl rfl rfl rfl g1 g2 g3 g4 g5 0 path H Q Km vm es hM hes hK fun H' es' q1 q2 q3 => hQ _ _ (fun K hK => q3 K (fun a => hK (.inr a)) fun a => hK (.inl a)) ⟨rfl, es', q1, q2⟩
    · cases h
  · cases h
/-! ### All parcels of the first piece -/
theorem low_bits : ∀ s : Nat, s < 128 → bits .and .i64 (s : Int) (IntKind.i64.wrap (0 - (s : Int))) = (lowB s : Int) := by decide +kernel
theorem rest_bits : ∀ s : Nat, s < 128 → bits .andNot .i64 (s : Int) (lowB s : Int) = ((s - lowB s : Nat) : Int) := by decide +kernel
def orB (s c : Nat) : Bool := decide (c &&& (s - lowB s) ≠ c) || (decide ((c ||| lowB s) &&& s = (c ||| lowB s)) && decide (c ||| lowB s ≠ 0))
theorem orB_all : ∀ s, s < 128 → s ≠ 0 → ∀ c, c < 128 → orB s c = true := by decide +kernel
theorem or_part {s c : Nat} (hs : s < 128) (h0 : s ≠ 0) (hc : c < 128) (h : c &&& (s - lowB s) = c) : (c ||| lowB s) &&& s = (c ||| lowB s) ∧ c ||| lowB s ≠ 0 := by
  have := orB_all s hs h0 c hc
  unfold orB at this
  simp only [h, ne_eq, not_true_eq_false, decide_false, Bool.false_or, Bool.and_eq_true, decide_eq_true_eq] at this
  exact this
/-- The kinds in which pieces fit, from one on. -/
def fromK (nk : Nat) (post : Nat → Nat → Int) (p k : Nat) : List (Nat × Nat) := (((List.range nk).drop k).filter fun k => post k p ≠ 0).map fun k => (k, p)
theorem fromK_step {nk k : Nat} (h : k < nk) (post : Nat → Nat → Int) (p : Nat) : fromK nk post p k = (if post k p ≠ 0 then [(k, p)] else []) ++ fromK nk post p (k + 1) := by
  unfold fromK
  rw [List.drop_eq_getElem_cons (by simpa using h), List.getElem_range, List.filter_cons]
  by_cases e : post k p = 0 <;> simp [e]
theorem fromK_end (nk : Nat) (post : Nat → Nat → Int) (p : Nat) : fromK nk post p nk = [] := by
  unfold fromK; rw [List.drop_eq_nil_of_le (by simp)]; rfl
def fromC (nk : Nat) (post : Nat → Nat → Int) (s f c : Nat) : List (Nat × Nat) := (subsF (s - lowB s) f c).flatMap fun c => fromK nk post (c ||| lowB s) 0
theorem loads_fromC (nk : Nat) (post : Nat → Nat → Int) (s : Nat) : loadsL nk post s = fromC nk post s 128 (s - lowB s) := by
  unfold loadsL partsL fromC
  rw [List.flatMap_map]
  congr 1
theorem fromC_step (nk : Nat) (post : Nat → Nat → Int) (s f c : Nat) : fromC nk post s (f + 1) c = fromK nk post (c ||| lowB s) 0 ++ (if c = 0 then [] else fromC nk post s f ((c - 1) &&& (s - lowB s))) := by
  unfold fromC
  rw [subsF, List.flatMap_cons]
  split <;> simp
theorem bits_pred {c m : Nat} (hc : c ≠ 0) (h : c < 128) (hm : m < 128) : bits .and .i64 ((c : Int) - 1) (m : Int) = (((c - 1) &&& m : Nat) : Int) := by
  rw [show (c : Int) - 1 = ((c - 1 : Nat) : Int) by omega]
  exact bits_and (by omega) (by omega)
theorem not_longer (a : Nat) (l : List Nat) : ¬ (a :: l) <:+ l := fun h => by have := h.length_le; simp at this; omega
theorem suf_cons {a : Nat} {l : List Nat} {K : Key} (h : ¬ l <:+ K.1) : ¬ (a :: l) <:+ K.1 := fun q => h ((List.suffix_cons a l).trans q)
theorem loads_loop {E : Env} (hti : ∀ t, E.ti t = ti t) (h56 : E.spec 56 = some s56) (h113 : E.spec 113 = some s113) (h114 : E.spec 114 = some s114) (h115 : E.spec 115 = some s115) (hg0 : E.glob 0 = some [.fn 113 [] [], .fn 114 [] [], .fn 115 [] []]) (hkt : E.keyt 85 = true)
    (h62 : E.inl 62 = some Tryd.f62) (hs62 : E.spec 62 = none) (h96 : E.inl 96 = some Tryd.f96) {b : PBook} (hG : GBook b) {z : Int} (hz : 0 ≤ z ∧ z ≤ 4) {s : Nat} (h0 : s ≠ 0) (hs : s < 2 ^ b.pieces.length)
    (K : Key) (v n : Nat) (path : List Nat) (H : Heap) (Q : PV → Heap → Prop) (Ks : Key) (vs : Nat) (ros : Bool) (Kb : Key) (vb : Nat) (rob : Bool) (Km : Key) (vm : Nat)
    (ns : ¬ path <:+ Ks.1) (nb : ¬ path <:+ Kb.1) (nm : ¬ path <:+ Km.1) (nsm : Ks ≠ Km) (nbm : Kb ≠ Km)
    (J : Nat → Heap → Prop) (hJ : ∀ i H H', J i H → (∀ K : Key, ¬ path <:+ K.1 → K ≠ Km → H' K = H K) → J i H') (j0 : J 0 H)
    (hHs : H Ks = some (.cells [.int .i64 s] vs ros)) (hHb : H Kb = some (.cells (encB b ++ [.int .i64 z, .mref Km vm]) vb rob)) (hHm : KnowsAt b z Km vm H)
    (hr : ∀ i H Q', i < (loadsL b.kinds.length (postG b z) s).length → J i H → H Ks = some (.cells [.int .i64 s] vs ros) → H Kb = some (.cells (encB b ++ [.int .i64 z, .mref Km vm]) vb rob) → KnowsAt b z Km vm H →
      (∀ H' H2, ThawH H2 H' → J (i + 1) H2 → H2 Ks = some (.cells [.int .i64 s] vs ros) → H2 Kb = some (.cells (encB b ++ [.int .i64 z, .mref Km vm]) vb rob) → KnowsAt b z Km vm H2 → Q' (.bool true) H') →
      callN E (n + 1) (96008002 :: path) (.yld K v) [.agg [.int .i64 ((loadsL b.kinds.length (postG b z) s).getD i default).1, .int .i64 ((loadsL b.kinds.length (postG b z) s).getD i default).2]] H Q')
    (hQ : ∀ H, J (loadsL b.kinds.length (postG b z) s).length H → H Ks = some (.cells [.int .i64 s] vs ros) → H Kb = some (.cells (encB b ++ [.int .i64 z, .mref Km vm]) vb rob) → KnowsAt b z Km vm H → Q (.tup []) H) :
    callN E (n + 2) path (.fn 96 [] []) [.yld K v, .ref Ks vs 0, .ref Kb vb 0] H Q := by
  have h7 := hG.p7
  have h128 : s < 128 := Nat.lt_of_lt_of_le hs (Nat.pow_le_pow_right (n := 2) (by decide) h7)
  obtain ⟨ps, ks, gr, fr, un, fe, st⟩ := b
  simp only at hs h7 hr hQ
  have hk4 := hG.k4
  simp only at hk4
  generalize hL : loadsL ks.length (postG ⟨ps, ks, gr, fr, un, fe, st⟩ z) s = L at *
  generalize hb : (⟨ps, ks, gr, fr, un, fe, st⟩ : PBook) = b at *
  have hbk : b.kinds = ks := by rw [← hb]
  have hbp : b.pieces = ps := by rw [← hb]
  have hHb' : ∀ H : Heap, H Kb = some (.cells (encB b ++ [.int .i64 z, .mref Km vm]) vb rob) → H Kb = some (.cells [.sl (ps.map encP) false, .sl (ks.map encK) false, .int .i64 gr, .int .i64 fr, .int .i64 un, .int .i64 fe, .sl (il st) false, .int .i64 z, .mref Km vm] vb rob) := fun H h => by rw [← hb] at h; exact h
  have hm128 : s - lowB s < 128 := by omega
  have hbe : encB b ++ [.int .i64 z, .mref Km vm] = [.sl (ps.map encP) false, .sl (ks.map encK) false, .int .i64 gr, .int .i64 fr, .int .i64 un, .int .i64 fe, .sl (il st) false, .int .i64 z, .mref Km vm] := by rw [← hb]; rfl
  have hnb : ∀ s, (Kb = (path, s)) = False := fun s => key_ns nb
  have hns : ∀ s, (Ks = (path, s)) = False := fun s => key_ns ns
  have hnm : ∀ s, (Km = (path, s)) = False := fun s => key_ns nm
  simp only [callN, h96, Tryd.f96]
  have hlow := low_bits s h128
  have hrst := rest_bits s h128
  simp only [go_sem, Nat.reduceAdd, Nat.reduceSub, Nat.reduceMul, Nat.reduceEqDiff, Nat.reduceLT, Nat.reduceLeDiff, Nat.reduceBEq, Nat.reduceBNe, Int.reduceToNat, Int.reduceLE, Int.reduceLT, Int.reduceNe, Int.reduceNeg, reduceCtorEq, Int.reduceBEq, Int.reduceBNe, hti, hHs, binInt, hlow, hrst]
  generalize hm : s - lowB s = m at *
  refine ev_loopS [0, 1, 2, 4] (fun c : Nat => [(5, .int .i64 c)])
    (fun c H => c &&& m = c ∧ (∃ f D, c < f ∧ L = D ++ fromC ks.length (postG b z) s f c ∧ J D.length H) ∧ H Ks = some (.cells [.int .i64 s] vs ros) ∧ H Kb = some (.cells (encB b ++ [.int .i64 z, .mref Km vm]) vb rob) ∧ KnowsAt b z Km vm H)
    (fun c => c) m ?_ ⟨Nat.and_self _, ⟨128, [], by omega, by rw [List.nil_append, ← hL, loads_fromC, hm], j0⟩, hHs, hHb, hHm⟩ ?_
  · simp only [go_sem, Nat.reduceAdd, Nat.reduceSub, Nat.reduceMul, Nat.reduceEqDiff, Nat.reduceLT, Nat.reduceLeDiff, Nat.reduceBEq, Nat.reduceBNe, Int.reduceToNat, Int.reduceLE, Int.reduceLT, Int.reduceNe, Int.reduceNeg, reduceCtorEq, Int.reduceBEq, Int.reduceBNe, hti]
  · simp only [go_sem, Nat.reduceAdd, Nat.reduceSub, Nat.reduceMul, Nat.reduceEqDiff, Nat.reduceLT, Nat.reduceLeDiff, Nat.reduceBEq, Nat.reduceBNe, Int.reduceToNat, Int.reduceLE, Int.reduceLT, Int.reduceNe, Int.reduceNeg, reduceCtorEq, Int.reduceBEq, Int.reduceBNe, hti]
    intro K1 c H1 ⟨hcm, ⟨f, D, hcf, hD, hJ1⟩, hs1, hb1, hm1⟩ hK1 hE1
    have hc128 : c < 128 := by
      have : c ≤ m := by rw [← hcm]; exact Nat.and_le_right
      omega
    obtain ⟨f, rfl⟩ : ∃ f', f = f' + 1 := ⟨f - 1, by omega⟩
    rw [fromC_step, hm] at hD
    obtain ⟨o1, o2⟩ := or_part h128 h0 hc128 (by rw [hm]; exact hcm)
    have hp1 : c ||| lowB s ≤ s := by rw [← o1]; exact Nat.and_le_right
    have hlb : lowB s < 2 ^ 62 := by
      have : lowB s ≤ c ||| lowB s := Nat.right_le_or
      omega
    have hor := bits_or (a := c) (b := lowB s) (by omega) hlb
    simp only [go_sem, Nat.reduceAdd, Nat.reduceSub, Nat.reduceMul, Nat.reduceEqDiff, Nat.reduceLT, Nat.reduceLeDiff, Nat.reduceBEq, Nat.reduceBNe, Int.reduceToNat, Int.reduceLE, Int.reduceLT, Int.reduceNe, Int.reduceNeg, reduceCtorEq, Int.reduceBEq, Int.reduceBNe, hti, hHb' H1 hb1, List.length_map]
    generalize hp : c ||| lowB s = p at *
    refine ev_loopST [0, 1, 2, 4, 5, 24] (fun k : Nat => [(25, .int .i64 k)])
      (fun k H => k ≤ ks.length ∧ (∃ D', D' ++ (fromK ks.length (postG b z) p k ++ (if c = 0 then [] else fromC ks.length (postG b z) s f ((c - 1) &&& m))) = L ∧ J D'.length H) ∧ H Ks = some (.cells [.int .i64 s] vs ros) ∧ H Kb = some (.cells (encB b ++ [.int .i64 z, .mref Km vm]) vb rob) ∧ KnowsAt b z Km vm H)
      (fun k => ks.length - k) 0 ?_ ⟨by omega, ⟨D, hD.symm, hJ1⟩, hs1, hb1, hm1⟩ ?_
    · simp only [go_sem, Nat.reduceAdd, Nat.reduceSub, Nat.reduceMul, Nat.reduceEqDiff, Nat.reduceLT, Nat.reduceLeDiff, Nat.reduceBEq, Nat.reduceBNe, Int.reduceToNat, Int.reduceLE, Int.reduceLT, Int.reduceNe, Int.reduceNeg, reduceCtorEq, Int.reduceBEq, Int.reduceBNe, hti]
    · simp only [go_sem, Nat.reduceAdd, Nat.reduceSub, Nat.reduceMul, Nat.reduceEqDiff, Nat.reduceLT, Nat.reduceLeDiff, Nat.reduceBEq, Nat.reduceBNe, Int.reduceToNat, Int.reduceLE, Int.reduceLT, Int.reduceNe, Int.reduceNeg, reduceCtorEq, Int.reduceBEq, Int.reduceBNe, hti]
      intro K2 k H2 ⟨hk, ⟨D2, hD2, hJ2⟩, hs2, hb2, hm2⟩ hK2 hE2
      rw [condK_bool]
      refine ⟨fun h => ?_, fun h => ?_⟩
      · have h' : k < ks.length := by simpa using h
        have w2 : IntKind.i64.wrap ((k : Int) + 1) = (k : Int) + 1 := wrap_id (by omega)
        rw [fromK_step h'] at hD2
        simp only [go_sem, Nat.reduceAdd, Nat.reduceSub, Nat.reduceMul, Nat.reduceEqDiff, Nat.reduceLT, Nat.reduceLeDiff, Nat.reduceBEq, Nat.reduceBNe, Int.reduceToNat, Int.reduceLE, Int.reduceLT, Int.reduceNe, Int.reduceNeg, reduceCtorEq, Int.reduceBEq, Int.reduceBNe, hti, binInt, hor, hHb' H2 hb2]
        simp only [go_sem, Nat.reduceAdd, Nat.reduceSub, Nat.reduceMul, Nat.reduceEqDiff, Nat.reduceLT, Nat.reduceLeDiff, Nat.reduceBEq, Nat.reduceBNe, Int.reduceToNat, Int.reduceLE, Int.reduceLT, Int.reduceNe, Int.reduceNeg, reduceCtorEq, Int.reduceBEq, Int.reduceBNe, hti, hnb, hHb' H2 hb2, @callV_in E 62 hs62, heavy_none]
        rw [← hbe]
        generalize hvk : verOf H2 (path, 96006005) + 1 = vk
        obtain ⟨es, q1, q2⟩ := hm2
        have hkb : k < b.kinds.length := by rw [hbk]; exact h'
        have hpb : p < 2 ^ b.pieces.length := by rw [hbp]; exact Nat.lt_of_le_of_lt hp1 hs
        refine postage_in hti h56 h113 h114 h115 hg0 hkt h62 hG hz hkb (Nat.pos_of_ne_zero o2) hpb n _ _ _ Km vm es ?_ q2 (suf_cons nm) fun H3 es3 q3 q4 q5 => ?_
        · simp only [set_at, hnm, if_false, q1]
        · have f1 : ∀ K : Key, ¬ path <:+ K.1 → K ≠ Km → H3 K = H2 K := fun K a1 a2 => by rw [q5 K (suf_cons a1) a2]; simp only [set_at, key_ns a1, if_false]
          have f2 : H3 ((path, 96006005) : Key) = some (.cells [.int .i64 k, .int .i64 p] vk false) := by
            rw [q5 _ (not_longer _ _) (fun e => by have := hnm 96006005; rw [e] at this; simp at this)]
            simp only [set_at, if_true]
          have g1 := (f1 Ks ns nsm).trans hs2
          have g2 := (f1 Kb nb nbm).trans hb2
          have g3 : KnowsAt b z Km vm H3 := ⟨es3, q3, q4⟩
          have g4 : J D2.length H3 := hJ _ _ _ hJ2 f1
          simp only [go_sem, Nat.reduceAdd, Nat.reduceSub, Nat.reduceMul, Nat.reduceEqDiff, Nat.reduceLT, Nat.reduceLeDiff, Nat.reduceBEq, Nat.reduceBNe, Int.reduceToNat, Int.reduceLE, Int.reduceLT, Int.reduceNe, Int.reduceNeg, reduceCtorEq, Int.reduceBEq, Int.reduceBNe, hti, binInt]
          rw [condK_bool]
          refine ⟨fun hc => ?_, fun hc => ?_⟩
          · have hc : postG b z k p = 0 := by simpa using hc
            simp only [go_sem, Nat.reduceAdd, Nat.reduceSub, Nat.reduceMul, Nat.reduceEqDiff, Nat.reduceLT, Nat.reduceLeDiff, Nat.reduceBEq, Nat.reduceBNe, Int.reduceToNat, Int.reduceLE, Int.reduceLT, Int.reduceNe, Int.reduceNeg, reduceCtorEq, Int.reduceBEq, Int.reduceBNe, hti]
            refine hK2 (k + 1) _ _ _ ?_ (.refl _) ⟨h', ⟨D2, by rw [← hD2, if_neg (show ¬ (postG b z k p ≠ 0) from fun q => q hc)]; rfl, g4⟩, g1, g2, g3⟩ (by omega)
            simp only [go_sem, Nat.reduceAdd, Nat.reduceSub, Nat.reduceMul, Nat.reduceEqDiff, Nat.reduceLT, Nat.reduceLeDiff, Nat.reduceBEq, Nat.reduceBNe, Int.reduceToNat, Int.reduceLE, Int.reduceLT, Int.reduceNe, Int.reduceNeg, reduceCtorEq, Int.reduceBEq, Int.reduceBNe, hti, w2, Int.natCast_add, Int.natCast_one]
          · have hc : postG b z k p ≠ 0 := by simpa using hc
            rw [if_pos hc] at hD2
            have hlen : D2.length < L.length := by rw [← hD2]; simp
            have hget : L.getD D2.length default = (k, p) := by rw [← hD2]; simp [List.getD_eq_getElem?_getD]
            simp only [go_sem, Nat.reduceAdd, Nat.reduceSub, Nat.reduceMul, Nat.reduceEqDiff, Nat.reduceLT, Nat.reduceLeDiff, Nat.reduceBEq, Nat.reduceBNe, Int.reduceToNat, Int.reduceLE, Int.reduceLT, Int.reduceNe, Int.reduceNeg, reduceCtorEq, Int.reduceBEq, Int.reduceBNe, hti, f2, callV_yld, heavy_none]
            have hr' := hr D2.length H3
            rw [hget] at hr'
            refine hr' _ hlen g4 g1 g2 g3 fun H4 H5 t1 t2 t3 t4 t5 => ?_
            simp only [go_sem, Nat.reduceAdd, Nat.reduceSub, Nat.reduceMul, Nat.reduceEqDiff, Nat.reduceLT, Nat.reduceLeDiff, Nat.reduceBEq, Nat.reduceBNe, Int.reduceToNat, Int.reduceLE, Int.reduceLT, Int.reduceNe, Int.reduceNeg, reduceCtorEq, Int.reduceBEq, Int.reduceBNe, hti]
            refine hK2 (k + 1) _ _ H5 ?_ t1 ⟨h', ⟨D2 ++ [(k, p)], by rw [← hD2]; simp, by rw [List.length_append]; exact t2⟩, t3, t4, t5⟩ (by omega)
            simp only [go_sem, Nat.reduceAdd, Nat.reduceSub, Nat.reduceMul, Nat.reduceEqDiff, Nat.reduceLT, Nat.reduceLeDiff, Nat.reduceBEq, Nat.reduceBNe, Int.reduceToNat, Int.reduceLE, Int.reduceLT, Int.reduceNe, Int.reduceNeg, reduceCtorEq, Int.reduceBEq, Int.reduceBNe, hti, w2, Int.natCast_add, Int.natCast_one]
      · have h' : k = ks.length := by have : ¬ ((k : Int) < (ks.length : Int)) := by simpa using h
                                      omega
        subst h'
        refine hE2 _ _ _ (by simp) ?_
        rw [fromK_end, List.nil_append] at hD2
        simp only [go_sem, Nat.reduceAdd, Nat.reduceSub, Nat.reduceMul, Nat.reduceEqDiff, Nat.reduceLT, Nat.reduceLeDiff, Nat.reduceBEq, Nat.reduceBNe, Int.reduceToNat, Int.reduceLE, Int.reduceLT, Int.reduceNe, Int.reduceNeg, reduceCtorEq, Int.reduceBEq, Int.reduceBNe, hti]
        rw [condK_bool]
        refine ⟨fun hc => ?_, fun hc => ?_⟩
        · have hc : c = 0 := by have : (c : Int) = 0 := by simpa using hc
                                omega
          rw [if_pos hc, List.append_nil] at hD2
          subst hD2
          simp only [go_sem, Nat.reduceAdd, Nat.reduceSub, Nat.reduceMul, Nat.reduceEqDiff, Nat.reduceLT, Nat.reduceLeDiff, Nat.reduceBEq, Nat.reduceBNe, Int.reduceToNat, Int.reduceLE, Int.reduceLT, Int.reduceNe, Int.reduceNeg, reduceCtorEq, Int.reduceBEq, Int.reduceBNe, hti]
          refine hE1 _ _ _ (by simp) ?_
          simp only [go_sem, Nat.reduceAdd, Nat.reduceSub, Nat.reduceMul, Nat.reduceEqDiff, Nat.reduceLT, Nat.reduceLeDiff, Nat.reduceBEq, Nat.reduceBNe, Int.reduceToNat, Int.reduceLE, Int.reduceLT, Int.reduceNe, Int.reduceNeg, reduceCtorEq, Int.reduceBEq, Int.reduceBNe, hti]
          exact hQ _ hJ2 hs2 hb2 hm2
        · have hc : c ≠ 0 := by have : ¬ (c : Int) = 0 := by simpa using hc
                                omega
          rw [if_neg hc] at hD2
          have w1 : IntKind.i64.wrap ((c : Int) - 1) = (c : Int) - 1 := wrap_id (by omega)
          have hbp' := bits_pred hc hc128 hm128
          have hle : (c - 1) &&& m ≤ c - 1 := Nat.and_le_left
          simp only [go_sem, Nat.reduceAdd, Nat.reduceSub, Nat.reduceMul, Nat.reduceEqDiff, Nat.reduceLT, Nat.reduceLeDiff, Nat.reduceBEq, Nat.reduceBNe, Int.reduceToNat, Int.reduceLE, Int.reduceLT, Int.reduceNe, Int.reduceNeg, reduceCtorEq, Int.reduceBEq, Int.reduceBNe, hti, hs2, binInt, w1, hrst, hbp']
          refine hK1 ((c - 1) &&& m) _ _ ?_ ⟨by rw [Nat.and_assoc, Nat.and_self], ⟨f, D2, by omega, hD2.symm, hJ2⟩, hs2, hb2, hm2⟩ (by omega)
          simp only [go_sem, Nat.reduceAdd, Nat.reduceSub, Nat.reduceMul, Nat.reduceEqDiff, Nat.reduceLT, Nat.reduceLeDiff, Nat.reduceBEq, Nat.reduceBNe, Int.reduceToNat, Int.reduceLE, Int.reduceLT, Int.reduceNe, Int.reduceNeg, reduceCtorEq, Int.reduceBEq, Int.reduceBNe, hti]
end Wb
/- Which division is the better one. -/
namespace Wb
open Go Go.Proofs Enc Row
set_option linter.unusedSimpArgs false
set_option linter.unusedVariables false
set_option maxRecDepth 20000
set_option maxHeartbeats 4000000
def thanV (c : Bool) (a b : Divn) : Bool := if c then decide (a.cost < b.cost) || (decide (a.cost = b.cost) && decide (a.loads.length < b.loads.length)) else decide (a.loads.length < b.loads.length)
theorem cmp_or (a b c d : Int) : decide (orF [cmpI a b, cmpI c d] < 0) = (decide (a < b) || (decide (a = b) && decide (c < d))) := by
  unfold orF orF orF cmpI
  rw [Bool.eq_iff_iff]
  simp only [Bool.or_eq_true, Bool.and_eq_true, decide_eq_true_eq]
  by_cases h1 : a < b <;> by_cases h2 : b < a <;> by_cases h3 : c < d <;> by_cases h4 : d < c <;> simp [h1, h2, h3, h4] <;> omega
theorem fewer_fn (a b : Divn) : Fn E6 0 88 Tryd.f88 (Tryd.f88.body.getD .skip) [.agg (encD a), .agg (encD b)] (.bool (thanV false a b)) := by
  unfold Fn Tryd.f88 thanV
  simp only [go_sem, Nat.reduceAdd, Nat.reduceSub, Nat.reduceMul, Nat.reduceEqDiff, Nat.reduceLT, Nat.reduceLeDiff, Nat.reduceBEq, Nat.reduceBNe, Int.reduceToNat, Int.reduceLE, Int.reduceLT, Int.reduceNe, Int.reduceNeg, reduceCtorEq, Int.reduceBEq, Int.reduceBNe, encD, List.length_map, Int.ofNat_lt]
theorem dec_two (a b : Int) (ex : Bool) : (dec (.sl [[.int .i64 a], [.int .i64 b]] ex) : Option (List Int)) = some [a, b] := rfl
theorem big_two : big 2 = True := eq_true (by unfold big; decide)
attribute [go_sem] dec_two big_two
theorem cheaper_fn (a b : Divn) : Fn E6 0 89 Tryd.f89 (Tryd.f89.body.getD .skip) [.agg (encD a), .agg (encD b)] (.bool (thanV true a b)) := by
  unfold Fn Tryd.f89 thanV
  simp only [go_sem, Nat.reduceAdd, Nat.reduceSub, Nat.reduceMul, Nat.reduceEqDiff, Nat.reduceLT, Nat.reduceLeDiff, Nat.reduceBEq, Nat.reduceBNe, Int.reduceToNat, Int.reduceLE, Int.reduceLT, Int.reduceNe, Int.reduceNeg, reduceCtorEq, Int.reduceBEq, Int.reduceBNe, @callV_spec E6 74 s74 rfl, @callV_specT E6 74 s74 rfl, @stepV_spec E6 74 s74 rfl, @effV_spec E6 74 s74 rfl, s74, @callV_spec E6 75 s75 rfl, @callV_specT E6 75 s75 rfl, @stepV_spec E6 75 s75 rfl, @effV_spec E6 75 s75 rfl, s75, callSpec, encD, List.length_map]
  rw [cmp_or]
  simp only [go_sem, Nat.reduceAdd, Nat.reduceSub, Nat.reduceMul, Nat.reduceEqDiff, Nat.reduceLT, Nat.reduceLeDiff, Nat.reduceBEq, Nat.reduceBNe, Int.reduceToNat, Int.reduceLE, Int.reduceLT, Int.reduceNe, Int.reduceNeg, reduceCtorEq, Int.reduceBEq, Int.reduceBNe, @callV_spec E6 74 s74 rfl, @callV_specT E6 74 s74 rfl, @stepV_spec E6 74 s74 rfl, @effV_spec E6 74 s74 rfl, s74, @callV_spec E6 75 s75 rfl, @callV_specT E6 75 s75 rfl, @stepV_spec E6 75 s75 rfl, @effV_spec E6 75 s75 rfl, s75, Int.ofNat_lt]
def s88 : Spec := spec2 (fun (_ _ : Divn) => True) (fun a b => .bool (thanV false a b))
theorem s88_ok : SpecOK Tryd.prog glB 88 s88 := spec2_ok E6_ok Tryd.func88 rfl (by kernel_rfl) fun a b _ => fewer_fn a b
def s89 : Spec := spec2 (fun (_ _ : Divn) => True) (fun a b => .bool (thanV true a b))
theorem s89_ok : SpecOK Tryd.prog glB 89 s89 := spec2_ok E6_ok Tryd.func89 rfl (by kernel_rfl) fun a b _ => cheaper_fn a b
/-! ### The environment of the divisions -/
def fnum (c : Bool) : Nat := if c then 89 else 88
def E7t : List (Nat × Spec) := [(88, s88), (89, s89)] ++ E6t
theorem E7t_ok : AllOK E7t := ⟨⟨s88_ok, Tryd.call88⟩, ⟨s89_ok, Tryd.call89⟩, E6t_ok⟩
noncomputable def E7l : List (Nat × Func) := [(62, Tryd.f62), (87, Tryd.f87), (96, Tryd.f96), (86, Tryd.f86), (64, Tryd.f64), (54, Tryd.f54)]
theorem E7l_ok : InlOK E7l := ⟨⟨Tryd.func62, Tryd.call62, by kernel_rfl⟩, ⟨Tryd.func87, Tryd.call87, by kernel_rfl⟩, ⟨Tryd.func96, Tryd.call96, by kernel_rfl⟩, ⟨Tryd.func86, Tryd.call86, by kernel_rfl⟩, ⟨Tryd.func64, Tryd.call64, by kernel_rfl⟩, ⟨Tryd.func54, Tryd.call54, by kernel_rfl⟩, trivial⟩
noncomputable def E7 : Env := mkF E7t E7l [] [(62, e62)]
theorem E7_ok : EnvOK Tryd.prog E7 := envFOK E7t_ok E7l_ok trivial ⟨⟨e62_ok, Tryd.call62⟩, trivial⟩
theorem E7_ti {t : Nat} : E7.ti t = ti t := rfl
theorem E7_q0 : (E7).eqt 130 = true := rfl
theorem E7_q1 : (E7).keyt 3 = true := rfl
theorem E7_q2 : (E7).keyt 85 = true := rfl
attribute [go_sem] E7_ti E7_q0 E7_q1 E7_q2
theorem E7_i86 : E7.inl 86 = some Tryd.f86 := rfl
theorem E7_i87 : E7.inl 87 = some Tryd.f87 := rfl
/-- A division's loads, as whole numbers; as rows. -/
def castL (l : List (Nat × Nat)) : List (Int × Int) := l.map fun x => ((x.1 : Int), (x.2 : Int))
theorem castL_len (l : List (Nat × Nat)) : (castL l).length = l.length := List.length_map ..
theorem castL_app (l : List (Nat × Nat)) (k p : Nat) : (castL l).map encS ++ [[.int .i64 k, .int .i64 p]] = (castL (l ++ [(k, p)])).map encS := by simp [castL, encS]
theorem than_cast (c : Bool) (a b : Dv) : thanV c ⟨castL a.1, a.2⟩ ⟨castL b.1, b.2⟩ = thanD c a b := by unfold thanV thanD; simp only [castL_len]
def dvPV (d : Dv) (ex : Bool) : PV := .agg [.sl ((castL d.1).map encS) ex, .int .i64 d.2]
abbrev dvOf (c : Bool) (b : PBook) (z : Int) (s : Nat) : Dv := divD c b.kinds.length (postG b z) s
structure OkD (c : Bool) (b : PBook) (z : Int) (es : List (List Int × PV)) : Prop where
  says : ∀ (s : Nat) v, s < 2 ^ b.pieces.length → mget es [(s : Int)] = some v → ∃ ex, v = dvPV (dvOf c b z s) ex
  nil : ∃ v, mget es [0] = some v
theorem OkD.put {c : Bool} {b : PBook} {z : Int} {es : List (List Int × PV)} (h : OkD c b z es) (s : Nat) (ex : Bool) : OkD c b z (mset es [(s : Int)] (dvPV (dvOf c b z s) ex)) where
  says := fun s' v h1 h2 => by
    rw [mget_mset] at h2
    split at h2
    · rename_i e
      simp only [List.cons.injEq, and_true] at e
      have e1 : s = s' := by omega
      subst e1; cases h2; exact ⟨ex, rfl⟩
    · exact h.says s' v h1 h2
  nil := by
    rw [mget_mset]
    split
    · exact ⟨_, rfl⟩
    · exact h.nil
theorem OkD.start (c : Bool) (b : PBook) (z : Int) : OkD c b z (mset [] [0] (.agg [.sl [] true, .int .i64 0])) where
  says := fun s v _ h2 => by
    simp only [mset, mget] at h2
    split at h2
    · rename_i e
      simp only [List.cons.injEq, and_true] at e
      have e1 : s = 0 := by omega
      subst e1; cases h2
      exact ⟨true, by unfold dvPV; rw [show dvOf c b z 0 = ([], 0) from divD_zero]; rfl⟩
    · cases h2
  nil := ⟨_, by simp only [mset, mget]; rfl⟩
def anB (s p : Nat) : Bool := decide (p &&& s ≠ p) || decide (bits .andNot .i64 (s : Int) (p : Int) = ((s - p : Nat) : Int))
theorem anB_all : ∀ s, s < 128 → ∀ p, p < 128 → anB s p = true := by decide +kernel
theorem andNot_sub {s p : Nat} (hs : s < 128) (hp : p < 128) (h : p &&& s = p) : bits .andNot .i64 (s : Int) (p : Int) = ((s - p : Nat) : Int) := by
  have := anB_all s hs p hp
  unfold anB at this
  simp only [h, ne_eq, not_true_eq_false, decide_false, Bool.false_or, decide_eq_true_eq] at this
  exact this
theorem suf_head {a b : Nat} {l : List Nat} (h : a ≠ b) : ¬ (a :: l) <:+ (b :: l) := fun q => by
  have := q.eq_of_length (by simp)
  simp at this; exact h this
end Wb
/- The recursion of divide. -/
namespace Wb
open Go Go.Proofs Enc Row
set_option linter.unusedSimpArgs false
set_option linter.unusedVariables false
set_option maxRecDepth 20000
set_option maxHeartbeats 4000000
theorem asgK_normal {K : List PV → Heap → Prop} {τ : List PV} {H : Heap} : asgK K .normal τ H = K τ H := rfl
theorem rndK_normal {K : Key} {v : Nat} {r : Rec} {Q : PV → Heap → Prop} {τ : List PV} {H : Heap} : rndK K v r Q .normal τ H = (H K = some (.loop { r with st := .busy } v) ∧ Q (.bool true) (H.set K (.loop { r with st := .ready, pending := none } v))) := rfl
@[congr] theorem asgK_congr {K : List PV → Heap → Prop} {e : Exit} {τ τ' : List PV} {H H' : Heap} (h1 : τ = τ') (h2 : H = H') : asgK K e τ H = asgK K e τ' H' := by rw [h1, h2]
attribute [go_sem] asgK_normal
theorem callN_in {E : Env} {n g : Nat} {fn : Func} {c : Code} (h : E.inl g = some fn) (hb : fn.body = some c) (path : List Nat) (a b args : List PV) (H : Heap) (Q : PV → Heap → Prop) :
    callN E (n + 1) path (.fn g a b) args H Q = (args.length ≤ fn.ntmps ∧ ev E (callN E n) path false g c (retK E fn.results.toList Q) (args ++ List.replicate (fn.ntmps - args.length) .undef) H) := by
  simp only [callN, h, hb]
theorem callN_yl {E : Env} {n : Nat} {K : Key} {v : Nat} {r : Rec} {H : Heap} (h : H K = some (.loop r v)) (path : List Nat) (args : List PV) (Q : PV → Heap → Prop) :
    callN E (n + 1) path (.yld K v) args H Q = (r.st = .ready ∧ args.length = r.params.length ∧
        ev E (callN E n) path true r.fn r.assign (asgK fun τ H => H K = some (.loop r v) ∧
          ev E (callN E n) path true r.fn r.body (rndK K v r Q) τ (H.set K (.loop { r with st := .busy } v))) (setAll r.tmps (r.params.zip args)) H) := by
  simp only [callN, h, true_and]
def sT (c : Bool) : Spec := spec2 (fun (_ _ : Divn) => True) (fun a b => .bool (thanV c a b))
theorem spec_fnum (c : Bool) : E7.spec (fnum c) = some (sT c) := by cases c <;> rfl
theorem sumW_le {w : Nat → Nat → Int} {M : Int} (h : ∀ k p, w k p ≤ M) : ∀ l : List (Nat × Nat), sumW w l ≤ M * l.length
  | [] => by simp [sumW]
  | x :: l => by
    have h1 := sumW_le h l
    have h2 := h x.1 x.2
    simp only [sumW, List.length_cons, Int.natCast_add, Int.natCast_one, Int.mul_add, Int.mul_one]; omega
/-- Where divide keeps its things. -/
structure Plc where
  K8 : Key
  v8 : Nat
  K3 : Key
  v3 : Nat
  K9 : Key
  v9 : Nat
  K5 : Key
  v5 : Nat
  Kd : Key
  vd : Nat
  Km : Key
  vm : Nat
def Plc.fn (P : Plc) : PV := .fn 86 [] [.ref P.K8 P.v8 0, .ref P.K3 P.v3 0, .ref P.K9 P.v9 0, .ref P.K5 P.v5 0]
structure Plc.Off (P : Plc) (path : List Nat) : Prop where
  k8 : ¬ path <:+ P.K8.1
  k3 : ¬ path <:+ P.K3.1
  k9 : ¬ path <:+ P.K9.1
  k5 : ¬ path <:+ P.K5.1
  kd : ¬ path <:+ P.Kd.1
  km : ¬ path <:+ P.Km.1
structure Plc.Has (P : Plc) (c : Bool) (b : PBook) (z : Int) (H : Heap) : Prop where
  h8 : H P.K8 = some (.cells [.mref P.Kd P.vd] P.v8 false)
  h3 : H P.K3 = some (.cells (encB b ++ [.int .i64 z, .mref P.Km P.vm]) P.v3 false)
  h9 : H P.K9 = some (.cells [P.fn] P.v9 false)
  h5 : H P.K5 = some (.cells [.fn (fnum c) [] []] P.v5 false)
  hd : ∃ es, H P.Kd = some (.map false 1 es P.vd false) ∧ OkD c b z es
theorem Plc.Off.cons {P : Plc} {path : List Nat} (h : P.Off path) (a : Nat) : P.Off (a :: path) := ⟨suf_cons h.k8, suf_cons h.k3, suf_cons h.k9, suf_cons h.k5, suf_cons h.kd, suf_cons h.km⟩
/-- What holds behind a step that turns nothing of these. -/
theorem Plc.Has.frame {P : Plc} {c : Bool} {b : PBook} {z : Int} {H H' : Heap} (h : P.Has c b z H) (e : ∀ K, K = P.K8 ∨ K = P.K3 ∨ K = P.K9 ∨ K = P.K5 ∨ K = P.Kd → H' K = H K) : P.Has c b z H' := by
  obtain ⟨h8, h3, h9, h5, ⟨es, hd, ho⟩⟩ := h
  exact ⟨(e _ (.inl rfl)).trans h8, (e _ (.inr (.inl rfl))).trans h3, (e _ (.inr (.inr (.inl rfl)))).trans h9, (e _ (.inr (.inr (.inr (.inl rfl))))).trans h5,
    ⟨es, (e _ (.inr (.inr (.inr (.inr rfl))))).trans hd, ho⟩⟩
theorem KnowsAt.frame {b : PBook} {z : Int} {Km : Key} {vm : Nat} {H H' : Heap} (h : KnowsAt b z Km vm H) (e : H' Km = H Km) : KnowsAt b z Km vm H' := by
  obtain ⟨es, h1, h2⟩ := h
  exact ⟨es, e.trans h1, h2⟩
structure Plc.Ne (P : Plc) : Prop where
  e8d : P.K8 ≠ P.Kd
  e8m : P.K8 ≠ P.Km
  e3d : P.K3 ≠ P.Kd
  e3m : P.K3 ≠ P.Km
  e9d : P.K9 ≠ P.Kd
  e9m : P.K9 ≠ P.Km
  e5d : P.K5 ≠ P.Kd
  e5m : P.K5 ≠ P.Km
  edm : P.Kd ≠ P.Km
theorem Plc.Has.ne {P : Plc} {c : Bool} {b : PBook} {z : Int} {H : Heap} (h : P.Has c b z H) (k : KnowsAt b z P.Km P.vm H) : P.Ne := by
  obtain ⟨h8, h3, h9, h5, ⟨es, hd, ho⟩⟩ := h
  obtain ⟨em, hm, hmo⟩ := k
  constructor <;> intro e <;> first | (rw [e, hd] at h8; cases h8; done) | (rw [e, hm] at h8; cases h8; done) | (rw [e, hd] at h3; cases h3; done) | (rw [e, hm] at h3; cases h3; done) | (rw [e, hd] at h9; cases h9; done) | (rw [e, hm] at h9; cases h9; done) | (rw [e, hd] at h5; cases h5; done) | (rw [e, hm] at h5; cases h5; done) | (rw [e, hm] at hd; cases hd; done)
theorem ev_rangeFn {E : Env} {h : Handler} {path : List Nat} {fid : Nat} {f : Operand} {ps : Array Nat} {asg body : Code} {Q : Exit → List PV → Heap → Prop} {τ : List PV} {H : Heap} {g : Nat} {first cap : List PV} (p0 site : Nat) (hps : ps.toList = [p0]) (hsite : fid * 1000000 + 900000 + p0 = site) (hf : opd τ f = .fn g first cap) :
    ev E h path false fid (.rangeFunc f ps asg body) Q τ H = h (site :: path) (.fn g [] []) (first ++ [.yld (path, site) (verOf H (path, site) + 1)] ++ cap)
      (H.set (path, site) (.loop { st := .ready, pending := none, fn := fid, params := [p0], assign := asg, body := body, tmps := τ } (verOf H (path, site) + 1))) (fun _ H' => rangeK (path, site) (verOf H (path, site) + 1) τ Q H') := by
  simp only [ev, hf, hps, true_and]
  rw [show fid * 1000000 + 900000 + [p0].getD 0 0 = site from hsite]
/-- A range over all parcels of a set's first piece. -/
theorem ev_range_loads {E : Env} (hti : ∀ t, E.ti t = ti t) (h56 : E.spec 56 = some s56) (h113 : E.spec 113 = some s113) (h114 : E.spec 114 = some s114) (h115 : E.spec 115 = some s115) (hg0 : E.glob 0 = some [.fn 113 [] [], .fn 114 [] [], .fn 115 [] []]) (hkt : E.keyt 85 = true)
    (h62 : E.inl 62 = some Tryd.f62) (hs62 : E.spec 62 = none) (h96 : E.inl 96 = some Tryd.f96) {b : PBook} (hG : GBook b) {z : Int} (hz : 0 ≤ z ∧ z ≤ 4) {s : Nat} (h0 : s ≠ 0) (hs : s < 2 ^ b.pieces.length)
    {path : List Nat} {fid n : Nat} {f : Operand} {ps : Array Nat} {asg body : Code} {Q : Exit → List PV → Heap → Prop} {τ : List PV} {H : Heap} (p0 site : Nat) (hps : ps.toList = [p0]) (hsite : fid * 1000000 + 900000 + p0 = site)
    {Ks : Key} {vs : Nat} {ros : Bool} {Kb : Key} {vb : Nat} {rob : Bool} {Km : Key} {vm : Nat}
    (ns : ¬ (site :: path) <:+ Ks.1) (nb : ¬ (site :: path) <:+ Kb.1) (nm : ¬ (site :: path) <:+ Km.1) (nsm : Ks ≠ Km) (nbm : Kb ≠ Km) (xs : Ks ≠ (path, site)) (xb : Kb ≠ (path, site)) (xm : Km ≠ (path, site))
    (hf : opd τ f = .fn 96 [] [.ref Ks vs 0, .ref Kb vb 0])
    (J : Nat → Heap → Prop) (hJ : ∀ i H H', J i H → (∀ K : Key, ¬ (site :: path) <:+ K.1 → K ≠ (path, site) → K ≠ Km → H' K = H K) → J i H') (j0 : J 0 H)
    (hHs : H Ks = some (.cells [.int .i64 s] vs ros)) (hHb : H Kb = some (.cells (encB b ++ [.int .i64 z, .mref Km vm]) vb rob)) (hHm : KnowsAt b z Km vm H)
    (hr : ∀ i H1 (Kc : Exit → List PV → Heap → Prop) (bz rdy : PB), i < (loadsL b.kinds.length (postG b z) s).length → J i H1 → H1 Ks = some (.cells [.int .i64 s] vs ros) → H1 Kb = some (.cells (encB b ++ [.int .i64 z, .mref Km vm]) vb rob) → KnowsAt b z Km vm H1 → H1 (path, site) = some rdy →
      (∀ τ' H' H2, H' (path, site) = some bz → ThawH H2 (H'.set (path, site) rdy) → H2 (path, site) = some rdy → J (i + 1) H2 → H2 Ks = some (.cells [.int .i64 s] vs ros) → H2 Kb = some (.cells (encB b ++ [.int .i64 z, .mref Km vm]) vb rob) → KnowsAt b z Km vm H2 → Kc .normal τ' H') →
      ev E (callN E n) (96008002 :: site :: path) true fid asg (asgK fun τ' H' => H' (path, site) = some rdy ∧ ev E (callN E n) (96008002 :: site :: path) true fid body Kc τ' (H'.set (path, site) bz))
        (τ.set p0 (.agg [.int .i64 ((loadsL b.kinds.length (postG b z) s).getD i default).1, .int .i64 ((loadsL b.kinds.length (postG b z) s).getD i default).2])) H1)
    (hQ : ∀ H, J (loadsL b.kinds.length (postG b z) s).length H → KnowsAt b z Km vm H → Q .normal τ H) : ev E (callN E (n + 2)) path false fid (.rangeFunc f ps asg body) Q τ H := by
  have hset : ∀ i H b, J i H → J i (H.set (path, site) b) := fun i H b h => hJ _ _ _ h fun K h1 h2 h3 => set_at_ne _ _ h2
  have hkn : ∀ H b', KnowsAt b z Km vm H → KnowsAt b z Km vm (H.set (path, site) b') := fun H b' h => h.frame (set_at_ne _ _ xm)
  rw [ev_rangeFn p0 site hps hsite hf]
  generalize hv : verOf H (path, site) + 1 = v
  have hpk : ¬ (site :: path) <:+ ((path, site) : Key).1 := not_longer _ _
  refine loads_loop hti h56 h113 h114 h115 hg0 hkt h62 hs62 h96 hG hz h0 hs (path, site) v n (site :: path) _ _ Ks vs ros Kb vb rob Km vm ns nb nm nsm nbm
    (fun i H => J i H ∧ H (path, site) = some (.loop { st := .ready, pending := none, fn := fid, params := [p0], assign := asg, body := body, tmps := τ } v)) ?_ ⟨hset _ _ _ j0, set_at_eq _ _ _⟩ ?_ ?_ (hkn _ _ hHm) ?_ ?_
  · rintro i H H' ⟨h1, h2⟩ h3
    exact ⟨hJ _ _ _ h1 fun K e1 e2 e3 => h3 K e1 e3, (h3 _ hpk xm.symm).trans h2⟩
  · rw [set_at_ne _ _ xs]; exact hHs
  · rw [set_at_ne _ _ xb]; exact hHb
  · rintro i H1 Q' hi ⟨j1, j2⟩ g1 g2 g3 hQ'
    rw [callN_yl j2]
    refine ⟨rfl, rfl, hr i H1 _ (.loop { st := .busy, pending := none, fn := fid, params := [p0], assign := asg, body := body, tmps := τ } v) (.loop { st := .ready, pending := none, fn := fid, params := [p0], assign := asg, body := body, tmps := τ } v) hi j1 g1 g2 g3 j2 fun τ' H' H2 e1 e2 e3 e4 e5 e6 e7 => ?_⟩
    exact ⟨e1, hQ' _ H2 e2 ⟨e4, e3⟩ e5 e6 e7⟩
  · rintro H1 ⟨j1, j2⟩ g1 g2 g3
    show rangeK (path, site) v τ Q H1
    unfold rangeK
    rw [j2]
    exact ⟨rfl, by simp, hQ _ (hset _ _ _ j1) (hkn _ _ g3)⟩
abbrev pLoop (path : List Nat) : List Nat := 96008002 :: 86900030 :: path
theorem rec86 (c : Bool) {b : PBook} (hG : GBook b) {z : Int} (hz : 0 ≤ z ∧ z ≤ 4) (P : Plc) : ∀ (N s fuel : Nat) (path : List Nat) (H : Heap) (Q : PV → Heap → Prop), s < N → s < 2 ^ b.pieces.length → 3 * s + 5 ≤ fuel → P.Off path → P.Has c b z H → KnowsAt b z P.Km P.vm H →
    (∀ H' ex, P.Has c b z H' → KnowsAt b z P.Km P.vm H' → (∀ K : Key, ¬ path <:+ K.1 → K ≠ P.Km → K ≠ P.Kd → H' K = H K) → Q (.tup [dvPV (dvOf c b z s) ex, .bool (decide (0 ≤ (dvOf c b z s).2))]) H') →
    callN E7 fuel path (.fn 86 [] []) [.int .i64 s, .ref P.K8 P.v8 0, .ref P.K3 P.v3 0, .ref P.K9 P.v9 0, .ref P.K5 P.v5 0] H Q := by
  intro N
  induction N with
  | zero => intro s fuel path H Q h; omega
  | succ N ih =>
    intro s fuel path H Q hN hs hf hoff hH hm hQ
    obtain ⟨n, rfl⟩ : ∃ n, fuel = n + 4 := ⟨fuel - 4, by omega⟩
    have hne := hH.ne hm
    have hH0 := hH
    obtain ⟨h8, h3, h9, h5, ⟨es, hd, ho⟩⟩ := hH
    have n8 : ∀ s, (P.K8 = (path, s)) = False := fun s => key_ns hoff.k8
    have n3 : ∀ s, (P.K3 = (path, s)) = False := fun s => key_ns hoff.k3
    have n9 : ∀ s, (P.K9 = (path, s)) = False := fun s => key_ns hoff.k9
    have n5 : ∀ s, (P.K5 = (path, s)) = False := fun s => key_ns hoff.k5
    have nd : ∀ s, (P.Kd = (path, s)) = False := fun s => key_ns hoff.kd
    have nm : ∀ s, (P.Km = (path, s)) = False := fun s => key_ns hoff.km
    obtain ⟨ps, ks, gr, fr, un, fe, st⟩ := b
    generalize hb : (⟨ps, ks, gr, fr, un, fe, st⟩ : PBook) = b at *
    have hbk : b.kinds = ks := by rw [← hb]
    have hbp : b.pieces = ps := by rw [← hb]
    have hbe : encB b ++ [.int .i64 z, .mref P.Km P.vm] = [.sl (ps.map encP) false, .sl (ks.map encK) false, .int .i64 gr, .int .i64 fr, .int .i64 un, .int .i64 fe, .sl (il st) false, .int .i64 z, .mref P.Km P.vm] := by rw [← hb]; rfl
    rw [callN_in E7_i86 (show Tryd.f86.body = some (Tryd.f86.body.getD .skip) from rfl)]
    simp only [Tryd.f86]
    simp only [go_sem, Nat.reduceAdd, Nat.reduceSub, Nat.reduceMul, Nat.reduceEqDiff, Nat.reduceLT, Nat.reduceLeDiff, Nat.reduceBEq, Nat.reduceBNe, Int.reduceToNat, Int.reduceLE, Int.reduceLT, Int.reduceNe, Int.reduceNeg, reduceCtorEq, Int.reduceBEq, Int.reduceBNe, n8, h8, nd, hd, look, keyOf]
    cases hg : mget es [(s : Int)] with
    | some v =>
      obtain ⟨ex, rfl⟩ := ho.says s v hs hg
      have hge : decide ((dvOf c b z s).2 ≥ 0) = decide (0 ≤ (dvOf c b z s).2) := rfl
      unfold dvPV at *
      simp only [go_sem, Nat.reduceAdd, Nat.reduceSub, Nat.reduceMul, Nat.reduceEqDiff, Nat.reduceLT, Nat.reduceLeDiff, Nat.reduceBEq, Nat.reduceBNe, Int.reduceToNat, Int.reduceLE, Int.reduceLT, Int.reduceNe, Int.reduceNeg, reduceCtorEq, Int.reduceBEq, Int.reduceBNe, found, hge]
      refine hQ _ ex (hH0.frame fun K hK => ?_) (hm.frame ?_) fun K h1 h2 h3 => ?_
      · rcases hK with rfl | rfl | rfl | rfl | rfl <;> simp only [set_at, n8, n3, n9, n5, nd, if_false]
      · simp only [set_at, nm, if_false]
      · simp only [set_at, key_ns h1, if_false]
    | none =>
      have h0 : s ≠ 0 := by
        rintro rfl
        obtain ⟨v, hv⟩ := ho.nil
        rw [show [((0 : Nat) : Int)] = [0] from rfl, hv] at hg; cases hg
      rw [hbe] at h3
      simp only [go_sem, Nat.reduceAdd, Nat.reduceSub, Nat.reduceMul, Nat.reduceEqDiff, Nat.reduceLT, Nat.reduceLeDiff, Nat.reduceBEq, Nat.reduceBNe, Int.reduceToNat, Int.reduceLE, Int.reduceLT, Int.reduceNe, Int.reduceNeg, reduceCtorEq, Int.reduceBEq, Int.reduceBNe, found, n3, h3, @callV_in E7 87 rfl, heavy_none, callN_in E7_i87 (show Tryd.f87.body = some (Tryd.f87.body.getD .skip) from rfl), Tryd.f87]
      generalize hv0 : verOf H (path, 86000000) + 1 = v0
      generalize hv1 : verOf H (path, 86000001) + 1 = v1
      generalize hv4 : verOf H (path, 86004001) + 1 = v4
      generalize hw0 : verOf H (86005002 :: path, 87000000) + 1 = w0
      generalize hw1 : verOf H (86005002 :: path, 87000001) + 1 = w1
      rw [← hbe]
      generalize hH1 : Heap.set (Heap.set (Heap.set (Heap.set (Heap.set (Heap.set (Heap.set (Heap.set H _ _) _ _) _ _) _ _) _ _) _ _) _ _) _ _ = H1
      have h87 : ∀ s, ((86005002 :: path, s) : Key) ≠ P.Km := fun s e => suf_cons (a := 86005002) hoff.km (by rw [← e]; exact List.suffix_refl _)
      have hp7 : ∀ s s', (((86005002 :: path, s) : Key) = (path, s')) = False := fun s s' => eq_false fun e => by have := congrArg (fun K : Key => K.1.length) e; simp at this
      have hp7' : ∀ s s', (((path, s') : Key) = (86005002 :: path, s)) = False := fun s s' => eq_false fun e => by have := congrArg (fun K : Key => K.1.length) e; simp at this
      have m8 : ∀ s, (P.K8 = (86005002 :: path, s)) = False := fun s => key_ns (suf_cons hoff.k8)
      have m3 : ∀ s, (P.K3 = (86005002 :: path, s)) = False := fun s => key_ns (suf_cons hoff.k3)
      have m9 : ∀ s, (P.K9 = (86005002 :: path, s)) = False := fun s => key_ns (suf_cons hoff.k9)
      have m5 : ∀ s, (P.K5 = (86005002 :: path, s)) = False := fun s => key_ns (suf_cons hoff.k5)
      have md : ∀ s, (P.Kd = (86005002 :: path, s)) = False := fun s => key_ns (suf_cons hoff.kd)
      have mm : ∀ s, (P.Km = (86005002 :: path, s)) = False := fun s => key_ns (suf_cons hoff.km)
      refine ev_range_loads (fun _ => E7_ti) rfl rfl rfl rfl rfl rfl rfl rfl rfl hG hz h0 hs 30 86900030 rfl rfl (Ks := (86005002 :: path, 87000001)) (vs := w1) (ros := false) (Kb := (86005002 :: path, 87000000)) (vb := w0) (rob := false) (Km := P.Km) (vm := P.vm)
        (suf_head (by decide)) (suf_head (by decide)) (suf_cons hoff.km) (h87 _) (h87 _) (by simp [hp7]) (by simp [hp7]) (fun e => ns_ne hoff.km e) rfl
        (fun i H' => P.Has c b z H' ∧ H' (path, 86000000) = some (.cells [.int .i64 s] v0 false) ∧ H' (path, 86000001) = some (.cells [.sl [] true, .int .i64 0] v1 false) ∧
          (∃ ex, H' (path, 86004001) = some (.cells [.sl ((castL (((loadsL b.kinds.length (postG b z) s).take i).foldl (pickD c (postG b z) (dvOf c b z) s) ([], -1)).1).map encS) ex, .int .i64 (((loadsL b.kinds.length (postG b z) s).take i).foldl (pickD c (postG b z) (dvOf c b z) s) ([], -1)).2] v4 false)) ∧
          ∀ K : Key, ¬ path <:+ K.1 → K ≠ P.Km → K ≠ P.Kd → H' K = H K) ?_ ⟨?_, ?_, ?_, ⟨true, ?_⟩, fun K q1 q2 q3 => ?_⟩ ?_ ?_ (hm.frame ?_) ?_ ?_
      · rintro i H2 H3 ⟨a1, a2, a3, ⟨ex, a4⟩, a5⟩ e
        have e' : ∀ s', s' ≠ 86900030 → H3 (path, s') = H2 (path, s') := fun s' hs' => e _ (not_longer _ _) (fun q => hs' (by cases q; rfl)) fun q => ns_ne hoff.km q.symm
        refine ⟨a1.frame fun K hK => ?_, (e' _ (by decide)).trans a2, (e' _ (by decide)).trans a3, ⟨ex, (e' _ (by decide)).trans a4⟩, fun K q1 q2 q3 => (e K (suf_cons q1) (ns_ne q1) q2).trans (a5 K q1 q2 q3)⟩
        rcases hK with rfl | rfl | rfl | rfl | rfl
        · exact e _ (suf_cons hoff.k8) (ns_ne hoff.k8) hne.e8m
        · exact e _ (suf_cons hoff.k3) (ns_ne hoff.k3) hne.e3m
        · exact e _ (suf_cons hoff.k9) (ns_ne hoff.k9) hne.e9m
        · exact e _ (suf_cons hoff.k5) (ns_ne hoff.k5) hne.e5m
        · exact e _ (suf_cons hoff.kd) (ns_ne hoff.kd) hne.edm
      · refine hH0.frame fun K hK => ?_
        rw [← hH1]
        rcases hK with rfl | rfl | rfl | rfl | rfl <;> simp only [set_at, n8, n3, n9, n5, nd, m8, m3, m9, m5, md, if_false]
      · rw [← hH1]; simp only [go_sem, Nat.reduceAdd, Nat.reduceSub, Nat.reduceMul, Nat.reduceEqDiff, Nat.reduceLT, Nat.reduceLeDiff, Nat.reduceBEq, Nat.reduceBNe, Int.reduceToNat, Int.reduceLE, Int.reduceLT, Int.reduceNe, Int.reduceNeg, reduceCtorEq, Int.reduceBEq, Int.reduceBNe, hp7']
      · rw [← hH1]; simp only [go_sem, Nat.reduceAdd, Nat.reduceSub, Nat.reduceMul, Nat.reduceEqDiff, Nat.reduceLT, Nat.reduceLeDiff, Nat.reduceBEq, Nat.reduceBNe, Int.reduceToNat, Int.reduceLE, Int.reduceLT, Int.reduceNe, Int.reduceNeg, reduceCtorEq, Int.reduceBEq, Int.reduceBNe, hp7']
      · rw [← hH1]; simp only [go_sem, Nat.reduceAdd, Nat.reduceSub, Nat.reduceMul, Nat.reduceEqDiff, Nat.reduceLT, Nat.reduceLeDiff, Nat.reduceBEq, Nat.reduceBNe, Int.reduceToNat, Int.reduceLE, Int.reduceLT, Int.reduceNe, Int.reduceNeg, reduceCtorEq, Int.reduceBEq, Int.reduceBNe, hp7', List.foldl_nil, castL]
      · rw [← hH1]; simp only [set_at, key_ns q1, key_ns (suf_cons q1), if_false]
      · rw [← hH1]; simp only [go_sem, Nat.reduceAdd, Nat.reduceSub, Nat.reduceMul, Nat.reduceEqDiff, Nat.reduceLT, Nat.reduceLeDiff, Nat.reduceBEq, Nat.reduceBNe, Int.reduceToNat, Int.reduceLE, Int.reduceLT, Int.reduceNe, Int.reduceNeg, reduceCtorEq, Int.reduceBEq, Int.reduceBNe]
      · rw [← hH1]; simp only [go_sem, Nat.reduceAdd, Nat.reduceSub, Nat.reduceMul, Nat.reduceEqDiff, Nat.reduceLT, Nat.reduceLeDiff, Nat.reduceBEq, Nat.reduceBNe, Int.reduceToNat, Int.reduceLE, Int.reduceLT, Int.reduceNe, Int.reduceNeg, reduceCtorEq, Int.reduceBEq, Int.reduceBNe]
      · rw [← hH1]; simp only [set_at, nm, mm, if_false]
      · rintro i H2 Kc bz rdy hi ⟨a1, a2, a3, ⟨ex, a4⟩, a5⟩ gs gb gm hrd hK
        clear hH1 h8 h9 h5 hd h3 hg hH0 ho m8 m3 m9 m5 md mm
        have ha1 := a1
        obtain ⟨h8, h3, h9, h5, ⟨ed, hd, ho⟩⟩ := a1
        obtain ⟨⟨k, p⟩, hkp⟩ : ∃ x, (loadsL b.kinds.length (postG b z) s).getD i default = x := ⟨_, rfl⟩
        have hmem : (k, p) ∈ loadsL b.kinds.length (postG b z) s := by
          rw [← hkp, List.getD_eq_getElem?_getD, List.getElem?_eq_getElem hi]; exact List.getElem_mem _
        obtain ⟨hpart, hk, hpo⟩ := mem_loadsL.1 hmem
        simp only at hpart hk hpo
        have h128 : s < 128 := Nat.lt_of_lt_of_le hs (Nat.pow_le_pow_right (n := 2) (by decide) hG.p7)
        obtain ⟨p1, p2, p3⟩ := (mem_partsL h128 h0).1 hpart
        have hlt := part_lt h128 h0 hpart
        have hp0 : p ≠ 0 := by rintro rfl; simp at p3
        have hps : p ≤ s := by rw [← p2]; exact Nat.and_le_right
        have han := andNot_sub h128 p1 p2
        rw [hkp]
        have hpl : ∀ s' s'', (((path, s') : Key) = (96008002 :: 86900030 :: path, s'')) = False := fun s' s'' => eq_false fun e => by have := congrArg (fun K : Key => K.1.length) e; simp only [List.length_cons] at this; omega
        have l9 : ∀ s', (P.K9 = (96008002 :: 86900030 :: path, s')) = False := fun s' => key_ns (suf_cons (suf_cons hoff.k9))
        have l3 : ∀ s', (P.K3 = (96008002 :: 86900030 :: path, s')) = False := fun s' => key_ns (suf_cons (suf_cons hoff.k3))
        have l8 : ∀ s', (P.K8 = (96008002 :: 86900030 :: path, s')) = False := fun s' => key_ns (suf_cons (suf_cons hoff.k8))
        have ld : ∀ s', (P.Kd = (96008002 :: 86900030 :: path, s')) = False := fun s' => key_ns (suf_cons (suf_cons hoff.kd))
        have lm : ∀ s', (P.Km = (96008002 :: 86900030 :: path, s')) = False := fun s' => key_ns (suf_cons (suf_cons hoff.km))
        have l5 : ∀ s', (P.K5 = (96008002 :: 86900030 :: path, s')) = False := fun s' => key_ns (suf_cons (suf_cons hoff.k5))
        simp only [go_sem, Nat.reduceAdd, Nat.reduceSub, Nat.reduceMul, Nat.reduceEqDiff, Nat.reduceLT, Nat.reduceLeDiff, Nat.reduceBEq, Nat.reduceBNe, Int.reduceToNat, Int.reduceLE, Int.reduceLT, Int.reduceNe, Int.reduceNeg, reduceCtorEq, Int.reduceBEq, Int.reduceBNe, hpl, hrd, n9, l9, h9, a2, Plc.fn, binInt, han, @callV_in E7 86 rfl, heavy_none]
        generalize hvl : verOf H2 (96008002 :: 86900030 :: path, 86006000) + 1 = vl
        have h3' := h3
        rw [hbe] at h3'
        refine ih (s - p) (n + 1) (86007005 :: 96008002 :: 86900030 :: path) _ _ (by omega) (by omega) (by omega) (((hoff.cons _).cons _).cons _) ?_ ?_ fun H3 ex3 r1 r2 r3 => ?_
        · refine ha1.frame fun K hK => ?_
          rcases hK with rfl | rfl | rfl | rfl | rfl <;> simp only [set_at, n8, n3, n9, n5, nd, l8, l3, l9, l5, ld, if_false]
        · exact gm.frame (by simp only [set_at, nm, lm, if_false])
        · unfold dvPV
          generalize hrr : dvOf c b z (s - p) = r at *
          have f1 : ∀ K : Key, ¬ (86007005 :: 96008002 :: 86900030 :: path) <:+ K.1 → K ≠ P.Km → K ≠ P.Kd → K ≠ (path, 86900030) → K ≠ (96008002 :: 86900030 :: path, 86006000) → H3 K = H2 K := fun K q1 q2 q3 q4 q5 => by
            rw [r3 K q1 q2 q3]; simp only [set_at, q4, q5, if_false]
          have t11 : H3 (96008002 :: 86900030 :: path, 86006000) = some (.cells [.int .i64 k, .int .i64 p] vl false) := by
            rw [r3 _ (not_longer _ _) (fun q => ns_ne (suf_cons (suf_cons hoff.km)) q.symm) (fun q => ns_ne (suf_cons (suf_cons hoff.kd)) q.symm)]
            simp only [go_sem, Nat.reduceAdd, Nat.reduceSub, Nat.reduceMul, Nat.reduceEqDiff, Nat.reduceLT, Nat.reduceLeDiff, Nat.reduceBEq, Nat.reduceBNe, Int.reduceToNat, Int.reduceLE, Int.reduceLT, Int.reduceNe, Int.reduceNeg, reduceCtorEq, Int.reduceBEq, Int.reduceBNe, hpl]
          have tlp : H3 (path, 86900030) = some bz := by
            rw [r3 _ (fun q => by have := q.length_le; simp at this; omega) (fun q => ns_ne hoff.km q.symm) (fun q => ns_ne hoff.kd q.symm)]
            simp only [go_sem, Nat.reduceAdd, Nat.reduceSub, Nat.reduceMul, Nat.reduceEqDiff, Nat.reduceLT, Nat.reduceLeDiff, Nat.reduceBEq, Nat.reduceBNe, Int.reduceToNat, Int.reduceLE, Int.reduceLT, Int.reduceNe, Int.reduceNeg, reduceCtorEq, Int.reduceBEq, Int.reduceBNe]
          have hlong : ∀ (a : Nat) (K : Key), K.1.length ≤ path.length + 1 → ¬ (96008002 :: 86900030 :: path) <:+ K.1 := fun _ K hK q => by have := q.length_le; simp at this; omega
          have mkJ : ∀ (H5 : Heap) (ex5 : Bool), (∀ K : Key, ¬ (96008002 :: 86900030 :: path) <:+ K.1 → K ≠ P.Km → K ≠ (path, 86900030) → K ≠ (path, 86004001) → H5 K = H3 K) → KnowsAt b z P.Km P.vm H5 →
              H5 (path, 86004001) = some (.cells [.sl ((castL (((loadsL b.kinds.length (postG b z) s).take (i + 1)).foldl (pickD c (postG b z) (dvOf c b z) s) ([], -1)).1).map encS) ex5, .int .i64 (((loadsL b.kinds.length (postG b z) s).take (i + 1)).foldl (pickD c (postG b z) (dvOf c b z) s) ([], -1)).2] v4 false) →
              (P.Has c b z H5 ∧ H5 (path, 86000000) = some (.cells [.int .i64 s] v0 false) ∧ H5 (path, 86000001) = some (.cells [.sl [] true, .int .i64 0] v1 false) ∧
                (∃ ex, H5 (path, 86004001) = some (.cells [.sl ((castL (((loadsL b.kinds.length (postG b z) s).take (i + 1)).foldl (pickD c (postG b z) (dvOf c b z) s) ([], -1)).1).map encS) ex, .int .i64 (((loadsL b.kinds.length (postG b z) s).take (i + 1)).foldl (pickD c (postG b z) (dvOf c b z) s) ([], -1)).2] v4 false)) ∧
                ∀ K : Key, ¬ path <:+ K.1 → K ≠ P.Km → K ≠ P.Kd → H5 K = H K) ∧ H5 (86005002 :: path, 87000001) = some (.cells [.int .i64 s] w1 false) ∧ H5 (86005002 :: path, 87000000) = some (.cells (encB b ++ [.int .i64 z, .mref P.Km P.vm]) w0 false) := by
            intro H5 ex5 e1 e2 e3
            have g1 : ∀ s', s' ≠ 86900030 → s' ≠ 86004001 → H5 (path, s') = H2 (path, s') := fun s' q1 q2 => by
              rw [e1 _ (hlong 0 _ (by simp)) (fun q => ns_ne hoff.km q.symm) (fun q => q1 (by cases q; rfl)) (fun q => q2 (by cases q; rfl))]
              exact f1 _ (fun q => by have := q.length_le; simp at this; omega) (fun q => ns_ne hoff.km q.symm) (fun q => ns_ne hoff.kd q.symm) (fun q => q1 (by cases q; rfl)) (fun q => by have := hpl s' 86006000; rw [q] at this; simp at this)
            have g2 : ∀ s', H5 (86005002 :: path, s') = H2 (86005002 :: path, s') := fun s' => by
              have q0 : ((86005002 :: path, s') : Key) ≠ P.Km := fun q => ns_ne (suf_cons (a := 86005002) hoff.km) q.symm
              have q1 : ((86005002 :: path, s') : Key) ≠ P.Kd := fun q => ns_ne (suf_cons (a := 86005002) hoff.kd) q.symm
              have q2 : ∀ s2, ((86005002 :: path, s') : Key) ≠ (path, s2) := fun s2 q => by have := hp7 s' s2; rw [q] at this; simp at this
              have q3 : ((86005002 :: path, s') : Key) ≠ (96008002 :: 86900030 :: path, 86006000) := fun q => by have := congrArg (fun K : Key => K.1.length) q; simp only [List.length_cons] at this; omega
              rw [e1 _ (hlong 0 _ (by simp)) q0 (q2 _) (q2 _)]
              exact f1 _ (fun q => by have := q.length_le; simp at this; omega) q0 q1 (q2 _) q3
            refine ⟨⟨r1.frame fun K hK => ?_, (g1 _ (by decide) (by decide)).trans a2, (g1 _ (by decide) (by decide)).trans a3, ⟨ex5, e3⟩, fun K q1 q2 q3 => ?_⟩, (g2 _).trans gs, (g2 _).trans gb⟩
            · rcases hK with rfl | rfl | rfl | rfl | rfl
              · exact e1 _ (suf_cons (suf_cons hoff.k8)) hne.e8m (ns_ne hoff.k8) (ns_ne hoff.k8)
              · exact e1 _ (suf_cons (suf_cons hoff.k3)) hne.e3m (ns_ne hoff.k3) (ns_ne hoff.k3)
              · exact e1 _ (suf_cons (suf_cons hoff.k9)) hne.e9m (ns_ne hoff.k9) (ns_ne hoff.k9)
              · exact e1 _ (suf_cons (suf_cons hoff.k5)) hne.e5m (ns_ne hoff.k5) (ns_ne hoff.k5)
              · exact e1 _ (suf_cons (suf_cons hoff.kd)) hne.edm (ns_ne hoff.kd) (ns_ne hoff.kd)
            · rw [e1 K (suf_cons (suf_cons q1)) q2 (ns_ne q1) (ns_ne q1), f1 K (suf_cons (suf_cons (suf_cons q1))) q2 q3 (ns_ne q1) (ns_ne (suf_cons (suf_cons q1)))]
              exact a5 K q1 q2 q3
          have hfold := fold_take (pickD c (postG b z) (dvOf c b z) s) (([], -1) : Dv) hi
          rw [hkp] at hfold
          have a4' : H3 (path, 86004001) = _ := (f1 _ (fun q => by have := q.length_le; simp at this; omega) (fun q => ns_ne hoff.km q.symm) (fun q => ns_ne hoff.kd q.symm) (by simp) (fun q => by have := hpl 86004001 86006000; rw [q] at this; simp at this)).trans a4
          generalize hB : ((loadsL b.kinds.length (postG b z) s).take i).foldl (pickD c (postG b z) (dvOf c b z) s) ([], -1) = B at *
          generalize hB' : ((loadsL b.kinds.length (postG b z) s).take (i + 1)).foldl (pickD c (postG b z) (dvOf c b z) s) ([], -1) = B' at *
          simp only [go_sem, Nat.reduceAdd, Nat.reduceSub, Nat.reduceMul, Nat.reduceEqDiff, Nat.reduceLT, Nat.reduceLeDiff, Nat.reduceBEq, Nat.reduceBNe, Int.reduceToNat, Int.reduceLE, Int.reduceLT, Int.reduceNe, Int.reduceNeg, reduceCtorEq, Int.reduceBEq, Int.reduceBNe]
          generalize hv9 : verOf H3 (96008002 :: 86900030 :: path, 86007009) + 1 = v9
          rw [condK_bool]
          refine ⟨fun hc => ?_, fun hc => ?_⟩
          · have hr0 : r.2 < 0 := by simp at hc; omega
            have hBB : B' = B := by rw [hfold]; unfold pickD; rw [hrr, if_pos hr0]
            simp only [go_sem, Nat.reduceAdd, Nat.reduceSub, Nat.reduceMul, Nat.reduceEqDiff, Nat.reduceLT, Nat.reduceLeDiff, Nat.reduceBEq, Nat.reduceBNe, Int.reduceToNat, Int.reduceLE, Int.reduceLT, Int.reduceNe, Int.reduceNeg, reduceCtorEq, Int.reduceBEq, Int.reduceBNe]
            obtain ⟨j1, j2, j3⟩ := mkJ (((H3.set (96008002 :: 86900030 :: path, 86007009) (.cells [.sl [] true, .int .i64 0] v9 false)).set (96008002 :: 86900030 :: path, 86007009) (.cells [.sl ((castL r.1).map encS) ex3, .int .i64 r.2] v9 false)).set (path, 86900030) rdy) ex
              (fun K q1 q2 q3 q4 => by simp only [set_at, q3, key_ns q1, if_false]) (r2.frame (by simp only [set_at, nm, lm, if_false])) (by rw [hBB]; simp only [set_at, hpl, if_false, a4']; simp)
            refine hK _ _ _ ?_ (.refl _) (set_at_eq _ _ _) j1 j2 j3 (r2.frame (by simp only [set_at, nm, lm, if_false]))
            simp only [set_at, hpl, if_false, tlp]
          · have hr0 : 0 ≤ r.2 := by simp at hc; omega
            have r3b := r1.h3
            rw [hbe] at r3b
            have hbf : dB7 (ps.map encP) (ks.map encK) gr fr un fe (il st) = some b := by rw [← hb]; exact dB7_enc ⟨ps, ks, gr, fr, un, fe, st⟩
            have hrows : ∀ row ∈ (castL r.1).map encS, row.length = 2 := fun row h => by
              obtain ⟨x, _, rfl⟩ := List.mem_map.1 h; rfl
            have hdok := divD_ok (c := c) (nk := b.kinds.length) (post := postG b z) (fun k p => (postG_nonneg hG hz k p).1) 128 (s - p) (by omega) (by omega)
            have hlen := hdok.len (by omega)
            rw [show divD c b.kinds.length (postG b z) (s - p) = r from hrr] at hlen
            have htk : List.take (castL r.1).length ((castL r.1).map encS) = (castL r.1).map encS := List.take_of_length_le (by rw [List.length_map]; exact Nat.le_refl _)
            have hcap : ((castL r.1).length + 1) * 16 ≤ 35184372088832 := by rw [castL_len]; omega
            have lmK : ∀ s', (((96008002 :: 86900030 :: path, s') : Key) = P.Km) = False := fun s' => eq_false fun q => ns_ne (suf_cons (suf_cons hoff.km)) q.symm
            have hsf : (86009016 :: 96008002 :: 86900030 :: path <:+ 96008002 :: 86900030 :: path) = False := eq_false (not_longer _ _)
            have hkp : OkP b z k p := ⟨hG, hz, hk, Nat.pos_of_ne_zero hp0, Nat.lt_of_le_of_lt hps hs⟩
            have hkm : ¬ 86009016 :: 96008002 :: 86900030 :: path <:+ P.Km.1 := suf_cons (suf_cons (suf_cons hoff.km))
            simp only [go_sem, Nat.reduceAdd, Nat.reduceSub, Nat.reduceMul, Nat.reduceEqDiff, Nat.reduceLT, Nat.reduceLeDiff, Nat.reduceBEq, Nat.reduceBNe, Int.reduceToNat, Int.reduceLE, Int.reduceLT, Int.reduceNe, Int.reduceNeg, reduceCtorEq, Int.reduceBEq, Int.reduceBNe, @effV_eff E7 62 e62 rfl rfl, e62, lmK, hsf, hkp, hkm, htk, hcap, hbf, t11, r3b, n3, l3, hpl, app, rowsOf, Int.le_refl, List.length_map, forall_eq, hrows]
            refine ⟨hrows, r2.frame (by simp only [set_at, lm, if_false]), fun v H4 hF ⟨hv, hkm4⟩ => ?_⟩
            subst hv
            generalize hva : verOf H3 (96008002 :: 86900030 :: path, 86009011) + 1 = va at hF ⊢
            have hpg := postG_nonneg hG hz k p
            have hcost : r.2 ≤ 200001000 * 127 := by
              rcases hdok with ⟨q, _⟩ | ⟨_, _, q, _⟩
              · rw [show divD c b.kinds.length (postG b z) (s - p) = r from hrr] at q; rw [q]; decide
              · rw [show divD c b.kinds.length (postG b z) (s - p) = r from hrr] at q
                have := sumW_le (w := postG b z) (fun k p => (postG_nonneg hG hz k p).2) r.1
                omega
            have w5 : IntKind.i64.wrap (r.2 + postG b z k p) = r.2 + postG b z k p := wrap_id (by omega)
            simp only [castL_app] at hF
            have hln : (castL r.1).length + 1 = ((castL (r.1 ++ [(k, p)])).map encS).length := by rw [List.length_map, castL_len, castL_len]; simp
            have lK : ∀ (K : Key), ¬ path <:+ K.1 → ∀ s', (((96008002 :: 86900030 :: path, s') : Key) = K) = False := fun K q s' => eq_false fun e => ns_ne (suf_cons (suf_cons q)) e.symm
            have b4 : H4 (path, 86004001) = H3 (path, 86004001) := by
              rw [hF _ (fun q => by rcases q with q | q
                                    · exact ns_ne hoff.km q.symm
                                    · have := q.length_le; simp at this; omega)]
              simp only [hpl, if_false]
            rw [a4'] at b4
            have rows4 : H4 (96008002 :: 86900030 :: path, 86009011) = some (.rows 2 ((castL (r.1 ++ [(k, p)])).map encS) va false) := by
              rw [hF _ (fun q => by rcases q with q | q
                                    · exact ns_ne (suf_cons (suf_cons hoff.km)) q.symm
                                    · exact not_longer _ _ q)]
              simp only [if_true]
            have g5 : H4 P.K5 = some (.cells [.fn (fnum c) [] []] P.v5 false) := by
              rw [hF _ (fun q => by rcases q with q | q
                                    · exact hne.e5m q
                                    · exact (suf_cons (suf_cons (suf_cons hoff.k5))) q)]
              simp only [l5, if_false, r1.h5]
            have f4 : ∀ K : Key, ¬ (96008002 :: 86900030 :: path) <:+ K.1 → K ≠ P.Km → H4 K = H3 K := fun K q1 q2 => by
              rw [hF K (fun q => by rcases q with q | q
                                    · exact q2 q
                                    · exact suf_cons q1 q)]
              simp only [key_ns q1, if_false]
            have tl4 : H4 (path, 86900030) = some bz := by rw [f4 _ (hlong 0 _ (by simp)) (fun q => ns_ne hoff.km q.symm)]; exact tlp
            have hth := than_cast c (r.1 ++ [(k, p)], r.2 + postG b z k p) B
            simp only at hth
            simp only [go_sem, Nat.reduceAdd, Nat.reduceSub, Nat.reduceMul, Nat.reduceEqDiff, Nat.reduceLT, Nat.reduceLeDiff, Nat.reduceBEq, Nat.reduceBNe, Int.reduceToNat, Int.reduceLE, Int.reduceLT, Int.reduceNe, Int.reduceNeg, reduceCtorEq, Int.reduceBEq, Int.reduceBNe, lmK, hsf, binInt, lK _ hoff.k3, lK _ hoff.k5, hpl, b4, g5, l5, n5, w5, rows4, hln, List.length_map, @callV_specT E7 (fnum c) (sT c) (spec_fnum c), sT, callSpec, hth]
            rw [condK_bool]
            have hpick : pickD c (postG b z) (dvOf c b z) s B (k, p) = if (decide (B.2 < 0) || thanD c (r.1 ++ [(k, p)], r.2 + postG b z k p) B) then (r.1 ++ [(k, p)], r.2 + postG b z k p) else B := by
              unfold pickD
              rw [hrr, if_neg (by omega)]
            generalize hv14 : verOf H4 (96008002 :: 86900030 :: path, 86009019) + 1 = v14
            refine ⟨fun hc2 => ?_, fun hc2 => ?_⟩
            · have hBB : B' = (r.1 ++ [(k, p)], r.2 + postG b z k p) := by rw [hfold, hpick, if_pos hc2]
              simp only [go_sem, Nat.reduceAdd, Nat.reduceSub, Nat.reduceMul, Nat.reduceEqDiff, Nat.reduceLT, Nat.reduceLeDiff, Nat.reduceBEq, Nat.reduceBNe, Int.reduceToNat, Int.reduceLE, Int.reduceLT, Int.reduceNe, Int.reduceNeg, reduceCtorEq, Int.reduceBEq, Int.reduceBNe, hpl, b4]
              generalize hH6 : Heap.set (Heap.set (Heap.set H4 _ _) _ _) _ _ = H6
              have q6 : ∀ K : Key, ¬ (96008002 :: 86900030 :: path) <:+ K.1 → K ≠ (path, 86004001) → H6 K = H4 K := fun K q1 q2 => by rw [← hH6]; simp only [set_at, key_ns q1, q2, if_false]
              have ql : H6 (path, 86900030) = some bz := by rw [q6 _ (hlong 0 _ (by simp)) (by simp)]; exact tl4
              have qa : (H6.set (path, 86900030) rdy) (96008002 :: 86900030 :: path, 86009011) = some (.rows 2 ((castL (r.1 ++ [(k, p)])).map encS) va false) := by
                rw [← hH6]; simp only [go_sem, Nat.reduceAdd, Nat.reduceSub, Nat.reduceMul, Nat.reduceEqDiff, Nat.reduceLT, Nat.reduceLeDiff, Nat.reduceBEq, Nat.reduceBNe, Int.reduceToNat, Int.reduceLE, Int.reduceLT, Int.reduceNe, Int.reduceNeg, reduceCtorEq, Int.reduceBEq, Int.reduceBNe, rows4]
              have qb : (H6.set (path, 86900030) rdy) (path, 86004001) = some (.cells [.sref (96008002 :: 86900030 :: path, 86009011) va 2 (castL (r.1 ++ [(k, p)])).length false, .int .i64 (r.2 + postG b z k p)] v4 false) := by
                rw [← hH6]; simp only [go_sem, Nat.reduceAdd, Nat.reduceSub, Nat.reduceMul, Nat.reduceEqDiff, Nat.reduceLT, Nat.reduceLeDiff, Nat.reduceBEq, Nat.reduceBNe, Int.reduceToNat, Int.reduceLE, Int.reduceLT, Int.reduceNe, Int.reduceNeg, reduceCtorEq, Int.reduceBEq, Int.reduceBNe]
              have hth1 := ThawH.one (Ka := (96008002 :: 86900030 :: path, 86009011)) (Kc := (path, 86004001)) (cs' := [.sl ((castL (r.1 ++ [(k, p)])).map encS) false, .int .i64 (r.2 + postG b z k p)]) qa qb (fun q => by have := hpl 86004001 86009011; rw [q] at this; simp at this)
                ⟨thaw1_sref (set_at_eq _ _ _) (by rw [List.length_map]), thaw1_refl _ _, trivial⟩
              have hkn7 : KnowsAt b z P.Km P.vm (((H6.set (path, 86900030) rdy).set (96008002 :: 86900030 :: path, 86009011) (PB.mark (.rows 2 ((castL (r.1 ++ [(k, p)])).map encS) va false))).set (path, 86004001) (.cells [.sl ((castL (r.1 ++ [(k, p)])).map encS) false, .int .i64 (r.2 + postG b z k p)] v4 false)) :=
                hkm4.frame (by rw [← hH6]; simp only [set_at, lm, nm, if_false])
              obtain ⟨j1, j2, j3⟩ := mkJ _ false (fun K q1 q2 q3 q4 => by
                rw [set_at_ne _ _ q4, set_at_ne _ _ (ns_ne q1), set_at_ne _ _ q3, q6 K q1 q4, f4 K q1 q2]) hkn7 (by rw [hBB]; exact set_at_eq _ _ _)
              refine hK _ _ _ ql hth1 ?_ j1 j2 j3 hkn7
              rw [set_at_ne _ _ (by simp), set_at_ne _ _ (fun q => by have := hpl 86900030 86009011; rw [q] at this; simp at this), set_at_eq]
            · have hBB : B' = B := by rw [hfold, hpick, if_neg (by rw [hc2]; simp)]
              simp only [go_sem, Nat.reduceAdd, Nat.reduceSub, Nat.reduceMul, Nat.reduceEqDiff, Nat.reduceLT, Nat.reduceLeDiff, Nat.reduceBEq, Nat.reduceBNe, Int.reduceToNat, Int.reduceLE, Int.reduceLT, Int.reduceNe, Int.reduceNeg, reduceCtorEq, Int.reduceBEq, Int.reduceBNe, hpl, b4]
              generalize hH6 : Heap.set (Heap.set H4 _ _) _ _ = H6
              have q6 : ∀ K : Key, ¬ (96008002 :: 86900030 :: path) <:+ K.1 → H6 K = H4 K := fun K q1 => by rw [← hH6]; simp only [set_at, key_ns q1, if_false]
              have ql : H6 (path, 86900030) = some bz := by rw [q6 _ (hlong 0 _ (by simp))]; exact tl4
              have hkn7 : KnowsAt b z P.Km P.vm (H6.set (path, 86900030) rdy) := hkm4.frame (by rw [← hH6]; simp only [set_at, lm, nm, if_false])
              obtain ⟨j1, j2, j3⟩ := mkJ (H6.set (path, 86900030) rdy) ex (fun K q1 q2 q3 q4 => by rw [set_at_ne _ _ q3, q6 K q1, f4 K q1 q2]) hkn7 (by
                rw [hBB, set_at_ne _ _ (by simp), q6 _ (hlong 0 _ (by simp))]; exact b4)
              exact hK _ _ _ ql (.refl _) (set_at_eq _ _ _) j1 j2 j3 hkn7
      · rintro H2 ⟨a1, a2, a3, ⟨ex, a4⟩, a5⟩ km
        obtain ⟨g8, g3, g9, g5, ⟨ed, gd, go⟩⟩ := a1
        have h128 : s < 128 := Nat.lt_of_lt_of_le hs (Nat.pow_le_pow_right (n := 2) (by decide) hG.p7)
        rw [List.take_length, ← divD_step h128 h0] at a4
        have nd' : ∀ s, (((path, s) : Key) = P.Kd) = False := fun s => eq_false fun e => ns_ne hoff.kd e.symm
        have hge : decide ((dvOf c b z s).2 ≥ 0) = decide (0 ≤ (dvOf c b z s).2) := rfl
        have a4' : H2 (path, 86004001) = some (.cells [.sl ((castL (dvOf c b z s).1).map encS) ex, .int .i64 (dvOf c b z s).2] v4 false) := a4
        have hput := go.put s ex
        unfold dvPV at *
        simp only [go_sem, Nat.reduceAdd, Nat.reduceSub, Nat.reduceMul, Nat.reduceEqDiff, Nat.reduceLT, Nat.reduceLeDiff, Nat.reduceBEq, Nat.reduceBNe, Int.reduceToNat, Int.reduceLE, Int.reduceLT, Int.reduceNe, Int.reduceNeg, reduceCtorEq, Int.reduceBEq, Int.reduceBNe, g8, gd, a2, a3, a4', mapPut, keyOf, nd', hge]
        have e1 : ∀ K : Key, K ≠ P.Kd → (∀ s', K ≠ (path, s')) → ((H2.set P.Kd (.map false 1 (mset ed [(s : Int)] (.agg [.sl ((castL (dvOf c b z s).1).map encS) ex, .int .i64 (dvOf c b z s).2])) P.vd false)).set (path, 86000001) (.cells [.sl ((castL (dvOf c b z s).1).map encS) ex, .int .i64 (dvOf c b z s).2] v1 false)) K = H2 K := fun K q1 q2 => by
          rw [set_at_ne _ _ (q2 _), set_at_ne _ _ q1]
        refine hQ _ ex ⟨(e1 _ hne.e8d fun _ => ns_ne hoff.k8).trans g8, (e1 _ hne.e3d fun _ => ns_ne hoff.k3).trans g3, (e1 _ hne.e9d fun _ => ns_ne hoff.k9).trans g9, (e1 _ hne.e5d fun _ => ns_ne hoff.k5).trans g5, _, ?_, hput⟩ (km.frame (e1 _ hne.edm.symm fun _ => ns_ne hoff.km)) fun K q1 q2 q3 => (e1 K q3 fun _ => ns_ne q1).trans (a5 K q1 q2 q3)
        rw [set_at_ne _ _ (ns_ne hoff.kd), set_at_eq]
end Wb
/- Divide and opened: what they turn. -/
namespace Wb
open Go Go.Proofs Enc Row
set_option linter.unusedSimpArgs false
set_option linter.unusedVariables false
set_option maxRecDepth 20000
set_option maxHeartbeats 4000000
theorem opened_in (b : PBook) (z : Int) (n : Nat) (path : List Nat) (H : Heap) (Q : PV → Heap → Prop)
    (hQ : ∀ v H', H' (path, 54001002) = some (.map true 2 [] v false) → (∀ K : Key, ¬ path <:+ K.1 → H' K = H K) → Q (.agg (encB b ++ [.int .i64 z, .mref (path, 54001002) v])) H') :
    callN E7 (n + 1) path (.fn 54 [] []) [.agg (encB b), .int .i64 z] H Q := by
  rw [callN_in (show E7.inl 54 = some Tryd.f54 from rfl) (show Tryd.f54.body = some (Tryd.f54.body.getD .skip) from rfl)]
  simp only [Tryd.f54]
  simp only [go_sem, Nat.reduceAdd, Nat.reduceSub, Nat.reduceMul, Nat.reduceEqDiff, Nat.reduceLT, Nat.reduceLeDiff, Nat.reduceBEq, Nat.reduceBNe, Int.reduceToNat, Int.reduceLE, Int.reduceLT, Int.reduceNe, Int.reduceNeg, reduceCtorEq, Int.reduceBEq, Int.reduceBNe, encB]
  refine hQ _ _ ?_ fun K hK => ?_
  · simp only [go_sem, Nat.reduceAdd, Nat.reduceSub, Nat.reduceMul, Nat.reduceEqDiff, Nat.reduceLT, Nat.reduceLeDiff, Nat.reduceBEq, Nat.reduceBNe, Int.reduceToNat, Int.reduceLE, Int.reduceLT, Int.reduceNe, Int.reduceNeg, reduceCtorEq, Int.reduceBEq, Int.reduceBNe]
  · simp only [set_at, key_ns hK, if_false]
def e54 : ESpec := fun path args => match args with
  | [.agg [.sl ps _, .sl ks _, .int .i64 a, .int .i64 c, .int .i64 d, .int .i64 e, .sl st _], .int .i64 z] =>
    match dB7 ps ks a c d e st with
    | some b => some {
        pre := fun _ => True
        D := fun _ => False
        S := fun K => path <:+ K.1
        post := fun _ v H' => ∃ vm, v = .agg (encB b ++ [.int .i64 z, .mref (path, 54001002) vm]) ∧ H' (path, 54001002) = some (.map true 2 [] vm false) }
    | none => none
  | _ => none
theorem e54_ok : EffOK Tryd.prog glB 54 e54 := effOK_of (n := 1) E7_ok (fun path args e h => by
  unfold e54 at h
  split at h
  · split at h
    · cases h
      refine ⟨fun _ _ _ _ => trivial, fun _ _ _ _ _ h => h, ?_, ?_⟩
      · rintro H v H1 H2 hS ⟨vm, h1, h2⟩
        exact ⟨vm, h1, (hS _ (List.suffix_refl _)).trans h2⟩
      · rintro H _
        exact ⟨_, H.set (path, 54001002) (.map true 2 [] 0 false), fun K hK => set_at_ne _ _ (ns_ne hK), 0, rfl, set_at_eq _ _ _⟩
    · cases h
  · cases h) fun path args e h => by
  unfold e54 at h
  split at h
  · split at h
    · rename_i ps _ ks _ ga fr un fe st _ z _ b hb
      cases h
      obtain ⟨w1, w2, rfl, rfl, rfl, rfl, w3⟩ := dB7_wk hb
      refine ⟨[.agg (encB b), .int .i64 z], ⟨?_, wk_refl _, trivial⟩, fun H Q hp hQ => ?_⟩
      · show wk.wkL [_, _, _, _, _, _, _] [.sl (b.pieces.map encP) false, .sl (b.kinds.map encK) false, .int .i64 b.grams, .int .i64 b.free, .int .i64 b.unit, .int .i64 b.fee, .sl (il b.stamps) false]
        exact ⟨⟨w1, fun h => by cases h⟩, ⟨w2, fun h => by cases h⟩, rfl, rfl, rfl, rfl, ⟨w3, fun h => by cases h⟩, trivial⟩
      · exact opened_in b z 0 path H Q fun v H' h1 h2 => hQ _ _ (fun K hK => h2 K hK) ⟨v, rfl, h1⟩
    · cases h
  · cases h
theorem divide_in (c : Bool) {b : PBook} (hG : GBook b) {z : Int} (hz : 0 ≤ z ∧ z ≤ 4) {s : Nat} (hs : s < 2 ^ b.pieces.length) (n : Nat) (hn : 400 ≤ n) (path : List Nat) (H : Heap) (Q : PV → Heap → Prop) (Km : Key) (vm : Nat) (hKm : ¬ path <:+ Km.1) (hM : KnowsAt b z Km vm H)
    (hQ : ∀ H' ex, KnowsAt b z Km vm H' → (∀ K : Key, ¬ path <:+ K.1 → K ≠ Km → H' K = H K) → Q (.tup [dvPV (dvOf c b z s) ex, .bool (decide (0 ≤ (dvOf c b z s).2))]) H') :
    callN E7 (n + 1) path (.fn 64 [] []) [.agg (encB b ++ [.int .i64 z, .mref Km vm]), .int .i64 s, .agg [.fn (fnum c) [] []]] H Q := by
  have hKm' : ∀ s', (Km = (path, s')) = False := fun s' => key_ns hKm
  obtain ⟨ps, ks, gr, fr, un, fe, st⟩ := b
  generalize hb : (⟨ps, ks, gr, fr, un, fe, st⟩ : PBook) = b at *
  have hbe : encB b ++ [.int .i64 z, .mref Km vm] = [.sl (ps.map encP) false, .sl (ks.map encK) false, .int .i64 gr, .int .i64 fr, .int .i64 un, .int .i64 fe, .sl (il st) false, .int .i64 z, .mref Km vm] := by rw [← hb]; rfl
  have h128 : s < 128 := Nat.lt_of_lt_of_le hs (Nat.pow_le_pow_right (n := 2) (by decide) hG.p7)
  rw [callN_in (show E7.inl 64 = some Tryd.f64 from rfl) (show Tryd.f64.body = some (Tryd.f64.body.getD .skip) from rfl)]
  rw [hbe]
  simp only [Tryd.f64]
  simp only [go_sem, Nat.reduceAdd, Nat.reduceSub, Nat.reduceMul, Nat.reduceEqDiff, Nat.reduceLT, Nat.reduceLeDiff, Nat.reduceBEq, Nat.reduceBNe, Int.reduceToNat, Int.reduceLE, Int.reduceLT, Int.reduceNe, Int.reduceNeg, reduceCtorEq, Int.reduceBEq, Int.reduceBNe, mapPut, keyOf, @callV_in E7 86 rfl, heavy_none]
  rw [← hbe]
  generalize hv0 : verOf H (path, 64000000) + 1 = v0
  generalize hv1 : verOf H (path, 64000001) + 1 = v1
  generalize hv2 : verOf H (path, 64000002) + 1 = v2
  generalize hv3 : verOf H (path, 64001000) + 1 = v3
  generalize hv4 : verOf H (path, 64001004) + 1 = v4
  generalize hv5 : verOf H (path, 64002000) + 1 = v5
  refine rec86 c hG hz ⟨(path, 64001004), v4, (path, 64000000), v0, (path, 64002000), v5, (path, 64000001), v1, (path, 64001000), v3, Km, vm⟩ 128 s n (64004002 :: path) _ _ h128 hs (by omega)
    ⟨not_longer _ _, not_longer _ _, not_longer _ _, not_longer _ _, not_longer _ _, suf_cons hKm⟩ ⟨?_, ?_, ?_, ?_, _, ?_, OkD.start c b z⟩ (hM.frame ?_) fun H' ex r1 r2 r3 => ?_
  · simp only [go_sem, Nat.reduceAdd, Nat.reduceSub, Nat.reduceMul, Nat.reduceEqDiff, Nat.reduceLT, Nat.reduceLeDiff, Nat.reduceBEq, Nat.reduceBNe, Int.reduceToNat, Int.reduceLE, Int.reduceLT, Int.reduceNe, Int.reduceNeg, reduceCtorEq, Int.reduceBEq, Int.reduceBNe]
  · simp only [go_sem, Nat.reduceAdd, Nat.reduceSub, Nat.reduceMul, Nat.reduceEqDiff, Nat.reduceLT, Nat.reduceLeDiff, Nat.reduceBEq, Nat.reduceBNe, Int.reduceToNat, Int.reduceLE, Int.reduceLT, Int.reduceNe, Int.reduceNeg, reduceCtorEq, Int.reduceBEq, Int.reduceBNe]
  · simp only [go_sem, Nat.reduceAdd, Nat.reduceSub, Nat.reduceMul, Nat.reduceEqDiff, Nat.reduceLT, Nat.reduceLeDiff, Nat.reduceBEq, Nat.reduceBNe, Int.reduceToNat, Int.reduceLE, Int.reduceLT, Int.reduceNe, Int.reduceNeg, reduceCtorEq, Int.reduceBEq, Int.reduceBNe, Plc.fn]
  · simp only [go_sem, Nat.reduceAdd, Nat.reduceSub, Nat.reduceMul, Nat.reduceEqDiff, Nat.reduceLT, Nat.reduceLeDiff, Nat.reduceBEq, Nat.reduceBNe, Int.reduceToNat, Int.reduceLE, Int.reduceLT, Int.reduceNe, Int.reduceNeg, reduceCtorEq, Int.reduceBEq, Int.reduceBNe]
  · simp only [go_sem, Nat.reduceAdd, Nat.reduceSub, Nat.reduceMul, Nat.reduceEqDiff, Nat.reduceLT, Nat.reduceLeDiff, Nat.reduceBEq, Nat.reduceBNe, Int.reduceToNat, Int.reduceLE, Int.reduceLT, Int.reduceNe, Int.reduceNeg, reduceCtorEq, Int.reduceBEq, Int.reduceBNe]
  · simp only [set_at, hKm', if_false]
  · have e1 : H' (path, 64000002) = some (.cells [.sl [] true, .int .i64 0] v2 false) := by
      rw [r3 _ (not_longer _ _) (fun q => ns_ne hKm q.symm) (by simp)]
      simp only [go_sem, Nat.reduceAdd, Nat.reduceSub, Nat.reduceMul, Nat.reduceEqDiff, Nat.reduceLT, Nat.reduceLeDiff, Nat.reduceBEq, Nat.reduceBNe, Int.reduceToNat, Int.reduceLE, Int.reduceLT, Int.reduceNe, Int.reduceNeg, reduceCtorEq, Int.reduceBEq, Int.reduceBNe]
    unfold dvPV at *
    simp only [go_sem, Nat.reduceAdd, Nat.reduceSub, Nat.reduceMul, Nat.reduceEqDiff, Nat.reduceLT, Nat.reduceLeDiff, Nat.reduceBEq, Nat.reduceBNe, Int.reduceToNat, Int.reduceLE, Int.reduceLT, Int.reduceNe, Int.reduceNeg, reduceCtorEq, Int.reduceBEq, Int.reduceBNe, e1]
    refine hQ _ ex (r2.frame (by simp only [set_at, hKm', if_false])) fun K q1 q2 => ?_
    rw [set_at_ne _ _ (ns_ne q1), r3 K (suf_cons q1) q2 (ns_ne q1)]
    simp only [set_at, key_ns q1, if_false]
def dFn : Nat → Option Bool
  | 88 => some false
  | 89 => some true
  | _ => none
theorem dFn_some {f : Nat} {c : Bool} (h : dFn f = some c) : f = fnum c := by
  unfold dFn at h
  split at h <;> cases h <;> rfl
def e64 : ESpec := fun path args => match args with
  | [.agg [.sl ps _, .sl ks _, .int .i64 a, .int .i64 c, .int .i64 d, .int .i64 e, .sl st _, .int .i64 z, .mref Km vm], .int .i64 s, .agg [.fn f [] []]] =>
    match dB7 ps ks a c d e st, dFn f with
    | some b, some c => some {
        pre := fun H => (0 ≤ s ∧ GBook b ∧ (0 ≤ z ∧ z ≤ 4) ∧ s.toNat < 2 ^ b.pieces.length) ∧ ¬ path <:+ Km.1 ∧ KnowsAt b z Km vm H
        D := fun K => K = Km
        S := fun K => K = Km ∨ path <:+ K.1
        post := fun _ v H' => (∃ ex, v = .tup [dvPV (dvOf c b z s.toNat) ex, .bool (decide (0 ≤ (dvOf c b z s.toNat).2))]) ∧ KnowsAt b z Km vm H' }
    | _, _ => none
  | _ => none
theorem e64_ok : EffOK Tryd.prog glB 64 e64 := effOK_of (n := 401) E7_ok (fun path args e h => by
  unfold e64 at h
  split at h
  · split at h
    · cases h
      refine ⟨?_, ?_, ?_, ?_⟩
      · rintro H H' hD ⟨h1, h2, es, h3, h4⟩
        exact ⟨h1, h2, es, (hD _ rfl).trans h3, h4⟩
      · rintro H H1 v H' hD h; exact h
      · rintro H v H1 H2 hS ⟨h1, es, h2, h3⟩
        exact ⟨h1, es, (hS _ (.inl rfl)).trans h2, h3⟩
      · rintro H ⟨h1, h2, h3⟩
        exact ⟨_, H, fun _ _ => rfl, ⟨true, rfl⟩, h3⟩
    · cases h
  · cases h) fun path args e h => by
  unfold e64 at h
  split at h
  · split at h
    · rename_i ps _ ks _ ga fr un fe st _ z Km vm s f _ _ b c hb hc
      cases h
      obtain rfl := dFn_some hc
      obtain ⟨w1, w2, rfl, rfl, rfl, rfl, w3⟩ := dB7_wk hb
      refine ⟨[.agg (encB b ++ [.int .i64 z, .mref Km vm]), .int .i64 s, .agg [.fn (fnum c) [] []]], ⟨?_, wk_refl _, wk_refl _, trivial⟩, fun H Q hp hQ => ?_⟩
      · show wk.wkL [_, _, _, _, _, _, _, _, _] [.sl (b.pieces.map encP) false, .sl (b.kinds.map encK) false, .int .i64 b.grams, .int .i64 b.free, .int .i64 b.unit, .int .i64 b.fee, .sl (il b.stamps) false, .int .i64 z, .mref Km vm]
        exact ⟨⟨w1, fun h => by cases h⟩, ⟨w2, fun h => by cases h⟩, rfl, rfl, rfl, rfl, ⟨w3, fun h => by cases h⟩, rfl, rfl, trivial⟩
      · obtain ⟨⟨s0, g1, g2, g3⟩, hK, hM⟩ := hp
        obtain ⟨s, rfl⟩ := Int.eq_ofNat_of_zero_le s0
        exact divide_in c g1 g2 g3 400 (Nat.le_refl _) path H Q Km vm hK hM fun H' ex q1 q2 => hQ _ _ (fun K hK => q2 K (fun a => hK (.inr a)) fun a => hK (.inl a)) ⟨⟨ex, rfl⟩, q1⟩
    · cases h
  · cases h
end Wb
