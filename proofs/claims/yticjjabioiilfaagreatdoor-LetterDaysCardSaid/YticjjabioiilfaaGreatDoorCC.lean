import Derived.Test.YticjjabioiilfaaGreatDoorBB
import Derived.Test.YticjjabioiilfaaGreatDoorV
set_option linter.unusedVariables false
set_option linter.unusedSimpArgs false
namespace Wb
open Go Go.Proofs Enc Row
set_option linter.unusedSimpArgs false
set_option linter.unusedVariables false
set_option maxRecDepth 20000
set_option maxHeartbeats 8000000
theorem inF_and {a b : Int} (ha : 0 ≤ a ∧ a ≤ 15) (hb : 0 ≤ b ∧ b ≤ 15) {c : Nat} (hc : c < 4) : inF (bits BinOp.and .i64 a b) c = (inF a c && inF b c) := by
 have key : ∀ a ∈ List.range 16, ∀ b ∈ List.range 16, ∀ c ∈ List.range 4, inF (bits BinOp.and .i64 (a : Int) (b : Int)) (c : Int) = (inF (a : Int) (c : Int) && inF (b : Int) (c : Int)) := by decide +kernel
 obtain ⟨m, rfl⟩ := Int.eq_ofNat_of_zero_le ha.1
 obtain ⟨n, rfl⟩ := Int.eq_ofNat_of_zero_le hb.1
 exact key m (List.mem_range.2 (by omega)) n (List.mem_range.2 (by omega)) c (List.mem_range.2 hc)
theorem sizeR_eq {y : LLine} (hy : GLine y) {f : Fit} (hf : GFit f) : sizeR y f = sizeB y f := by
 unfold sizeR sizeB
 by_cases h : y.sizes.length = 0
 ·have h0 : y.sizes = [] := List.eq_nil_of_length_eq_zero h
  have h1 := hy.foot.1 h0
  have h2 := hf.foot
  rw [if_pos h, if_neg (show ¬ 0 < (y.sizes.length : Int) by omega), Bool.eq_iff_iff, decide_eq_true_iff, Bool.and_eq_true, decide_eq_true_iff, decide_eq_true_iff]
  by_cases c1 : y.flo > f.lo <;> by_cases c2 : y.fhi < f.hi
  ·rw [if_pos c1, if_pos c2]; omega
  ·rw [if_pos c1, if_neg c2]; omega
  ·rw [if_neg c1, if_pos c2]; omega
  ·rw [if_neg c1, if_neg c2]; omega
 ·rw [if_neg h, if_pos (show 0 < (y.sizes.length : Int) by omega)]
  congr 1; funext a
  by_cases e : a = f.size
  ·subst e; rfl
  ·rw [beq_eq_false_iff_ne.2 e, beq_eq_false_iff_ne.2 fun q => e q.symm]
theorem mem_manyR {g s c lo hi : Int} {l : Line} : l ∈ manyR g s c lo hi ↔ l.item = ⟨g, s, c⟩ ∧ lo ≤ l.many ∧ l.many ≤ hi := by
 unfold manyR
 simp only [List.mem_map, List.mem_range]
 constructor
 ·rintro ⟨q, hq, rfl⟩
  exact ⟨rfl, by simp only; omega, by simp only; omega⟩
 ·rintro ⟨h1, h2, h3⟩
  refine ⟨(l.many - lo).toNat, by omega, ?_⟩
  obtain ⟨it, mn⟩ := l
  simp only at h1 h2 h3
  subst h1
  congr 1
  simp only
  omega
theorem mem_meantR {y : LLine} {is : Issue} {g : Int} (hy : GLine y) (hi : GIssue g is) {l : Line} : l ∈ meantR y is ↔ Means y is l := by
 unfold meantR candR Means
 rw [putAll_mem]
 simp only [List.not_mem_nil, false_or, List.mem_flatMap]
 refine exists_congr fun e => and_congr_right fun he => ?_
 have ge := hi.entries e he
 have hr : ((numR false y.digits [0]).any fun a => a == e.number) = true ↔ readsP y.digits true 0 e.number := by
  rw [List.any_eq_true]
  constructor
  ·rintro ⟨a, ha, h⟩
   obtain rfl : a = e.number := by simpa using h
   obtain ⟨n, hn, h2⟩ := mem_numR.1 ha
   rw [List.mem_singleton.1 hn] at h2
   exact h2
  ·intro h
   exact ⟨_, mem_numR.2 ⟨0, List.mem_singleton.2 rfl, h⟩, by simp⟩
 unfold candE
 by_cases hn : readsP y.digits true 0 e.number
 ·rw [if_pos (hr.2 hn)]
  simp only [List.mem_flatMap]
  constructor
  ·rintro ⟨f, hf, h⟩
   refine ⟨hn, f, hf, ?_⟩
   unfold candF at h
   rw [sizeR_eq hy (ge.fits f hf)] at h
   by_cases hs : sizeB y f = true
   ·rw [if_pos hs] at h
    obtain ⟨c, hc, hl⟩ := List.mem_flatMap.1 h
    obtain ⟨k, hk, hk2, rfl⟩ := ofI_mem.1 hc
    rw [inF_and ⟨by have := ge.colours; omega, ge.colours.2⟩ ⟨by have := hy.colours; omega, hy.colours.2⟩ hk, Bool.and_eq_true] at hk2
    obtain ⟨h1, h2, h3⟩ := mem_manyR.1 hl
    exact ⟨hs, ⟨k, hk, hk2.2, hk2.1, h1⟩, h2, h3⟩
   ·rw [if_neg hs] at h; cases h
  ·rintro ⟨_, f, hf, hs, ⟨k, hk, hk1, hk2, hl⟩, h2, h3⟩
   refine ⟨f, hf, ?_⟩
   unfold candF
   rw [sizeR_eq hy (ge.fits f hf), if_pos hs]
   refine List.mem_flatMap.2 ⟨(k : Int), ofI_mem.2 ⟨k, hk, ?_, rfl⟩, mem_manyR.2 ⟨hl, h2, h3⟩⟩
   rw [inF_and ⟨by have := ge.colours; omega, ge.colours.2⟩ ⟨by have := hy.colours; omega, hy.colours.2⟩ hk, hk1, hk2]; rfl
 ·rw [if_neg fun q => hn (hr.1 q)]
  constructor
  ·intro h; cases h
  ·rintro ⟨h, _⟩; exact absurd h hn
theorem mem_mR {X : Lett} (hX : GL X) {t i : Nat} (ht : t < X.lines.length) (hi : i < X.rack.issues.length) {l : Line} : l ∈ mR X t i ↔ l ∈ candL X i t := by
 have g1 := hX.rack.issues _ (getD_mem default hi)
 have g2 := hX.line _ (getD_mem default ht)
 unfold mR candL
 rw [mem_meantR g2 g1, mem_meanL g2 g1]
theorem full_bits (X : Lett) (h : X.rack.issues.length ≤ 4) : ∃ m : Nat, fullR X = (m : Int) ∧ m < 2 ^ 62 ∧ ∀ d : Nat, inF (m : Int) (d : Int) = decide (d < X.rack.issues.length) := by
 generalize hL : X.rack.issues.length = L at h
 have h1 : 2 ^ L < 2 ^ 62 := Nat.pow_lt_pow_right (by decide) (by omega)
 have h0 : 0 < 2 ^ L := Nat.two_pow_pos L
 refine ⟨2 ^ L - 1, ?_, by omega, fun d => ?_⟩
 ·unfold fullR
  rw [hL, shl_one (by omega)]
  have h2 : ((2 ^ L : Nat) : Int) ≤ ((2 ^ 62 : Nat) : Int) := Int.ofNat_le.2 (by omega)
  have h3 : ((2 ^ 62 : Nat) : Int) = 4611686018427387904 := by decide
  rw [wrap_id (by omega)]
  omega
 ·rw [inF_nat (by omega), Nat.testBit_two_pow_sub_one]
theorem and_bits {a b : Nat} (ha : a < 2 ^ 62) (hb : b < 2 ^ 62) : bits .and .i64 (a : Int) (b : Int) = ((a &&& b : Nat) : Int) ∧ a &&& b < 2 ^ 62 ∧ ∀ d : Nat, inF ((a &&& b : Nat) : Int) (d : Int) = (inF (a : Int) d && inF (b : Int) d) := by
 have h : a &&& b < 2 ^ 62 := Nat.lt_of_le_of_lt Nat.and_le_left ha
 refine ⟨bits_and ha hb, h, fun d => ?_⟩
 rw [inF_nat h, inF_nat ha, inF_nat hb, Nat.testBit_and]
theorem issL_bits {X : Lett} (hX : GL X) : ∀ (opts : List OptR), (∀ o ∈ opts, ∃ t, o.iss = issF X t o.line X.rack.issues.length) → ∀ m : Nat, m < 2 ^ 62 → ∃ k : Nat, issL (m : Int) opts = (k : Int) ∧ k < 2 ^ 62 ∧ ∀ d : Nat, inF (k : Int) (d : Int) = (inF (m : Int) d && opts.all fun o => inF o.iss d)
 | [], _, m, hm => ⟨m, rfl, hm, fun d => by simp⟩
 | o :: opts, h, m, hm => by
  obtain ⟨t, ht⟩ := h o (List.mem_cons_self ..)
  obtain ⟨s, h1, h2, h3⟩ := issF_bits X t o.line X.rack.issues.length (by have := hX.rack.len; omega)
  have hs : s < 2 ^ 62 := Nat.lt_of_lt_of_le h2 (Nat.pow_le_pow_right (by decide) (by have := hX.rack.len; omega))
  obtain ⟨e1, e2, e3⟩ := and_bits hm hs
  obtain ⟨k, k1, k2, k3⟩ := issL_bits hX opts (fun o' ho => h o' (List.mem_cons_of_mem _ ho)) (m &&& s) e2
  refine ⟨k, ?_, k2, fun d => ?_⟩
  ·rw [← k1, ← e1]
   unfold issL
   rw [List.foldl_cons, ht, h1]
  ·rw [k3, e3, List.all_cons, ht, h1, Bool.and_assoc]
def ordOf (X : Lett) (r : List OptR) : Ord2 := ⟨(r.getD 0 default).line, if 1 < X.lines.length then (r.getD 1 default).line else zLine⟩
def mnB (X : Lett) (d : Int) (o : Ord2) : Bool := ((List.range X.rack.issues.length).any fun i => useR X d i && (decide (o.a ∈ candL X i 0) && decide (o.b ∈ secL X i))) && (decide (0 ≤ costM X.rack d o.a) && decide (0 ≤ cB X d o.b)) && inSpan X.clo X.chi (co X d o)
theorem mnB_iff {X : Lett} {d : Int} {o : Ord2} : mnB X d o = true ↔ Mn X d o := by
 unfold mnB Mn
 simp only [Bool.and_eq_true, decide_eq_true_eq, List.any_eq_true, List.mem_range]
 constructor
 ·rintro ⟨⟨⟨i, h1, h2, h3, h4⟩, h5, h6⟩, h7⟩
  exact ⟨i, h1, h2, h3, h4, h5, h6, h7⟩
 ·rintro ⟨i, h1, h2, h3, h4, h5, h6, h7⟩
  exact ⟨⟨⟨i, h1, h2, h3, h4⟩, h5, h6⟩, h7⟩
def partsO (X : Lett) (o : Ord2) : List Nat := (List.range (turnsM X).length).filter fun p => mnB X ((turnsM X).getD p 0) o
def fndO (X : Lett) (o : Ord2) : FndR := ⟨linesO X o, (partsO X o).map fun (p : Nat) => (p : Int), (partsO X o).map fun p => co X ((turnsM X).getD p 0) o⟩
theorem parts_get {X : Lett} {p : Nat} (hp : p < (turnsM X).length) : (partsR X).getD p default = ((turnsM X).getD p 0, lastT X (turnsM X) p) := by
 unfold partsR
 rw [List.getD_eq_getElem?_getD, List.getElem?_map, List.getElem?_range hp]; rfl
theorem partsR_length (X : Lett) : (partsR X).length = (turnsM X).length := by simp [partsR]
theorem opts_at {X : Lett} {t : Nat} {o : OptR} (h : o ∈ optsX X t) : o.iss = issF X t o.line X.rack.issues.length ∧ ∀ p, p < (turnsM X).length → o.costs.getD p 0 = costM X.rack ((turnsM X).getD p 0) o.line := by
 obtain ⟨l, _, rfl⟩ := List.mem_map.1 h
 refine ⟨rfl, fun p hp => ?_⟩
 have hp' : p < (partsR X).length := by rw [partsR_length]; exact hp
 have e := parts_get hp
 rw [show (partsR X).getD p default = (partsR X)[p] by simp [hp']] at e
 simp only
 rw [List.getD_eq_getElem?_getD, List.getElem?_map, List.getElem?_eq_getElem hp', e]; rfl
theorem okI_iff {X : Lett} (hX : GL X) {r : List OptR} (hr : ∀ o ∈ r, ∃ t, t < X.lines.length ∧ o ∈ optsX X t) {d : Int} : okI X (issL (fullR X) r) d X.rack.issues.length = true ↔ ∃ i, i < X.rack.issues.length ∧ useR X d i = true ∧ ∀ o ∈ r, inF o.iss i = true := by
 obtain ⟨m, h1, h2, h3⟩ := full_bits X hX.rack.len.2
 obtain ⟨k, k1, k2, k3⟩ := issL_bits hX r (fun o ho => by obtain ⟨t, _, h⟩ := hr o ho; exact ⟨t, (opts_at h).1⟩) m h2
 unfold okI
 rw [h1, k1, List.any_eq_true]
 simp only [List.mem_range, Bool.and_eq_true, k3, h3, decide_eq_true_eq, List.all_eq_true]
 constructor
 ·rintro ⟨i, hi, ⟨_, ha⟩, hu⟩; exact ⟨i, hi, hu, ha⟩
 ·rintro ⟨i, hi, hu, ha⟩; exact ⟨i, hi, ⟨hi, ha⟩, hu⟩
theorem iss_in {X : Lett} (hX : GL X) {t : Nat} (ht : t < X.lines.length) {o : OptR} (h : o ∈ optsX X t) {i : Nat} (hi : i < X.rack.issues.length) : inF o.iss i = true ↔ o.line ∈ candL X i t := by
 obtain ⟨s, h1, h2, h3⟩ := issF_bits X t o.line X.rack.issues.length (by have := hX.rack.len; omega)
 rw [(opts_at h).1, h1, h3, Bool.and_eq_true, decide_eq_true_eq, decide_eq_true_eq, mem_mR hX ht hi]
 exact ⟨fun q => q.2, fun q => ⟨hi, q⟩⟩
theorem rows_one {X : Lett} (hX : GL X) (h : X.lines.length = 1) {r : List OptR} (hr : r ∈ rowsR X X.lines.length) : ∃ a, r = [a] ∧ a ∈ optsX X 0 := by
 rw [h] at hr
 unfold rowsR nextR at hr
 obtain ⟨q, hq, h2⟩ := List.mem_flatMap.1 hr
 obtain ⟨a, ha, rfl⟩ := List.mem_map.1 h2
 rw [show q = [] from List.mem_singleton.1 hq]
 exact ⟨a, rfl, ha⟩
theorem rows_two {X : Lett} (hX : GL X) (h : X.lines.length = 2) {r : List OptR} (hr : r ∈ rowsR X X.lines.length) : ∃ a b, r = [a, b] ∧ a ∈ optsX X 0 ∧ b ∈ optsX X 1 := by
 rw [h] at hr
 unfold rowsR nextR at hr
 obtain ⟨q, hq, h2⟩ := List.mem_flatMap.1 hr
 obtain ⟨b, hb, rfl⟩ := List.mem_map.1 h2
 unfold rowsR nextR at hq
 obtain ⟨q', hq', h3⟩ := List.mem_flatMap.1 hq
 obtain ⟨a, ha, rfl⟩ := List.mem_map.1 h3
 rw [show q' = [] from List.mem_singleton.1 hq']
 exact ⟨a, b, rfl, ha, hb⟩
theorem okP_mn {X : Lett} (hX : GL X) {r : List OptR} (hr : r ∈ rowsR X X.lines.length) {p : Nat} (hp : p < (turnsM X).length) : okP X (partsR X) r p = mnB X ((turnsM X).getD p 0) (ordOf X r) ∧ (mnB X ((turnsM X).getD p 0) (ordOf X r) = true → cst r p = co X ((turnsM X).getD p 0) (ordOf X r)) := by
 have hN := hX.n
 have hmem := fun o ho => (rowsR_mem hr).2 o ho
 generalize hd : (turnsM X).getD p 0 = d
 have hpg : ((partsR X).getD p default).1 = d := by rw [parts_get hp, hd]
 have hok := okI_iff hX hmem (d := d)
 rw [Bool.eq_iff_iff, mnB_iff]
 unfold okP
 rw [Bool.and_eq_true, Bool.and_eq_true, Bool.and_eq_true, hpg, hok]
 by_cases h1 : X.lines.length = 1
 ·obtain ⟨a, rfl, ha⟩ := rows_one hX h1 hr
  have hc := (opts_at ha).2 p hp
  rw [hd] at hc
  have hcl := cost_le X.rack d a.line
  have e1 : ordOf X [a] = ⟨a.line, zLine⟩ := by unfold ordOf; rw [if_neg (by omega)]; rfl
  have e2 : cst [a] p = costM X.rack d a.line := by unfold cst cstF; simp only [List.foldl_cons, List.foldl_nil, hc]; omega
  have e3 : costOk [a] p = true ↔ 0 ≤ costM X.rack d a.line := by unfold costOk; simp only [List.all_cons, List.all_nil, hc, Bool.and_true, decide_eq_true_eq]
  have e4 : cB X d zLine = 0 := by unfold cB; rw [if_neg (by omega)]
  have e5 : co X d ⟨a.line, zLine⟩ = costM X.rack d a.line := by unfold co; simp only [e4, Int.add_zero]; exact wrap_id (by omega)
  rw [e1, e2, e3, e5]
  refine ⟨?_, fun _ => rfl⟩
  unfold Mn inSpan
  simp only [e4, e5, Bool.and_eq_true, decide_eq_true_eq]
  have hz : ∀ i, zLine ∈ secL X i := fun i => by unfold secL; rw [if_neg (by omega)]; exact List.mem_singleton.2 rfl
  constructor
  ·rintro ⟨⟨⟨i, hi, hu, ho⟩, h3⟩, h4⟩
   refine ⟨i, hi, ?_, (iss_in hX (by omega) ha hi).1 (ho a (by simp)), hz i, h3, Int.le_refl _, h4⟩
   unfold useR at hu
   simpa only [Bool.and_eq_true, decide_eq_true_eq] using hu
  ·rintro ⟨i, hi, hu, h5, _, h3, _, h4⟩
   refine ⟨⟨⟨i, hi, ?_, fun o ho => ?_⟩, h3⟩, h4⟩
   ·unfold useR
    simpa only [Bool.and_eq_true, decide_eq_true_eq] using hu
   ·rw [List.mem_singleton.1 ho]; exact (iss_in hX (by omega) ha hi).2 h5
 ·have h2 : X.lines.length = 2 := by omega
  obtain ⟨a, b, rfl, ha, hb⟩ := rows_two hX h2 hr
  have hc := (opts_at ha).2 p hp
  have hc' := (opts_at hb).2 p hp
  rw [hd] at hc hc'
  have hcl := cost_le X.rack d a.line
  have hcl' := cost_le X.rack d b.line
  have e1 : ordOf X [a, b] = ⟨a.line, b.line⟩ := by unfold ordOf; rw [if_pos (by omega)]; rfl
  have e2 : cst [a, b] p = costM X.rack d a.line + costM X.rack d b.line := by unfold cst cstF; simp only [List.foldl_cons, List.foldl_nil, hc, hc']; omega
  have e3 : costOk [a, b] p = true ↔ 0 ≤ costM X.rack d a.line ∧ 0 ≤ costM X.rack d b.line := by unfold costOk; simp only [List.all_cons, List.all_nil, hc, hc', Bool.and_true, Bool.and_eq_true, decide_eq_true_eq]
  have e4 : cB X d b.line = costM X.rack d b.line := by unfold cB; rw [if_pos (by omega)]
  have e5 : co X d ⟨a.line, b.line⟩ = costM X.rack d a.line + costM X.rack d b.line := by unfold co; simp only [e4]; exact wrap_id (by omega)
  rw [e1, e2, e3, e5]
  refine ⟨?_, fun _ => rfl⟩
  unfold Mn inSpan
  simp only [e4, e5, Bool.and_eq_true, decide_eq_true_eq]
  have hz : ∀ i, secL X i = candL X i 1 := fun i => by unfold secL; rw [if_pos (by omega)]
  constructor
  ·rintro ⟨⟨⟨i, hi, hu, ho⟩, h3⟩, h4⟩
   refine ⟨i, hi, ?_, (iss_in hX (by omega) ha hi).1 (ho a (by simp)), by rw [hz]; exact (iss_in hX (by omega) hb hi).1 (ho b (by simp)), h3.1, h3.2, h4⟩
   unfold useR at hu
   simpa only [Bool.and_eq_true, decide_eq_true_eq] using hu
  ·rintro ⟨i, hi, hu, h5, h6, h3, h3', h4⟩
   rw [hz] at h6
   refine ⟨⟨⟨i, hi, ?_, fun o ho => ?_⟩, h3, h3'⟩, h4⟩
   ·unfold useR
    simpa only [Bool.and_eq_true, decide_eq_true_eq] using hu
   ·rcases List.mem_cons.1 ho with rfl | ho
    ·exact (iss_in hX (by omega) ha hi).2 h5
    ·rw [List.mem_singleton.1 ho]; exact (iss_in hX (by omega) hb hi).2 h6
theorem trR_eq {X : Lett} (hX : GL X) {r : List OptR} (hr : r ∈ rowsR X X.lines.length) : trR X (partsR X) r = fndO X (ordOf X r) := by
 have hN := hX.n
 have hf : (List.range (partsR X).length).filter (okP X (partsR X) r) = partsO X (ordOf X r) := by
  unfold partsO
  rw [partsR_length]
  exact List.filter_congr fun p hp => (okP_mn hX hr (List.mem_range.1 hp)).1
 unfold trR fndO
 rw [hf]
 congr 1
 ·unfold linesO
  by_cases h1 : X.lines.length = 1
  ·obtain ⟨a, rfl, _⟩ := rows_one hX h1 hr
   rw [if_pos h1]; rfl
  ·obtain ⟨a, b, rfl, _, _⟩ := rows_two hX (by omega) hr
   rw [if_neg h1]
   unfold ordOf
   rw [if_pos (by omega)]; rfl
 ·refine List.map_congr_left fun p hp => ?_
  unfold partsO at hp
  rw [List.mem_filter, List.mem_range] at hp
  exact (okP_mn hX hr hp.1).2 hp.2
theorem cmpK_app : ∀ {k1 k2 l m : List Int}, k1.length = k2.length → cmpK (k1 ++ l) (k2 ++ m) = if cmpK k1 k2 = 0 then cmpK l m else cmpK k1 k2
 | [], [], l, m, _ => by simp [cmpK]
 | [], _ :: _, _, _, h => by simp at h
 | _ :: _, [], _, _, h => by simp at h
 | a :: k1, b :: k2, l, m, h => by
  rw [List.cons_append, List.cons_append, cmpK_cons, cmpK_cons, cmpK_app (by simpa using h)]
  by_cases e : cmpI a b = 0
  ·rw [if_pos e, if_pos e]
  ·rw [if_neg e, if_neg e, if_neg e]
def ordLt (a b : Ord2) : Prop := cmpO a b < 0
theorem ordLt_a {a b c d : Line} (h : lineLt a b) : ordLt ⟨a, c⟩ ⟨b, d⟩ := by
 unfold ordLt
 rw [show cmpO ⟨a, c⟩ ⟨b, d⟩ = cmpK (keyL a ++ keyL c) (keyL b ++ keyL d) from rfl, cmpK_app (k1 := keyL a) (k2 := keyL b) rfl]
 unfold lineLt at h
 rw [if_neg (by omega)]
 exact h
theorem ordLt_b {a c d : Line} (h : lineLt c d) : ordLt ⟨a, c⟩ ⟨a, d⟩ := by
 unfold ordLt
 rw [show cmpO ⟨a, c⟩ ⟨a, d⟩ = cmpK (keyL a ++ keyL c) (keyL a ++ keyL d) from rfl, cmpK_app (k1 := keyL a) (k2 := keyL a) rfl, if_pos (cmpK_self _)]
 exact h
theorem ordLt_irrefl (a : Ord2) : ¬ ordLt a a := fun h => by unfold ordLt cmpO at h; rw [cmpK_self] at h; omega
theorem ordLt_trans {a b c : Ord2} (h1 : ordLt a b) (h2 : ordLt b c) : ordLt a c := cmpK_trans (l := keyO a) (m := keyO b) (n := keyO c) rfl rfl h1 h2
def ordL (X : Lett) : List Ord2 := (rowsR X X.lines.length).map (ordOf X)
theorem opts_line (X : Lett) (t : Nat) : (optsX X t).map (·.line) = allR X t := by
 unfold optsX optsR
 rw [List.map_map]
 exact List.map_id _
theorem ordL_one {X : Lett} (h : X.lines.length = 1) : ordL X = (allR X 0).map fun l => ⟨l, zLine⟩ := by
 unfold ordL
 rw [h, ← opts_line, List.map_map]
 simp only [rowsR, List.flatMap_cons, List.flatMap_nil, List.append_nil, nextR, List.map_map]
 refine List.map_congr_left fun a _ => ?_
 simp [ordOf, h]
theorem ordL_two {X : Lett} (h : X.lines.length = 2) : ordL X = (allR X 0).flatMap fun a => (allR X 1).map fun b => ⟨a, b⟩ := by
 unfold ordL
 rw [h, ← opts_line, ← opts_line, List.flatMap_map]
 simp only [rowsR, List.flatMap_cons, List.flatMap_nil, List.append_nil, nextR, List.nil_append]
 rw [List.flatMap_map, List.map_flatMap]
 congr 1
 funext a
 unfold nextR
 rw [List.map_map, List.map_map]
 refine List.map_congr_left fun b _ => ?_
 simp [ordOf, h]
theorem ordL_sort {X : Lett} (hN : 1 ≤ X.lines.length ∧ X.lines.length ≤ 2) : (ordL X).Pairwise ordLt := by
 by_cases h : X.lines.length = 1
 ·rw [ordL_one h, List.pairwise_map]
  exact (allR_sort X 0).imp fun {a b} hab => ordLt_a hab
 ·rw [ordL_two (by omega), List.pairwise_flatMap]
  refine ⟨fun a _ => ?_, (allR_sort X 0).imp fun {a b} hab => ?_⟩
  ·rw [List.pairwise_map]
   exact (allR_sort X 1).imp fun {c d} hcd => ordLt_b hcd
  ·intro x hx y hy
   obtain ⟨c, _, rfl⟩ := List.mem_map.1 hx
   obtain ⟨d, _, rfl⟩ := List.mem_map.1 hy
   exact ordLt_a hab
theorem keys_turns {x : Lett} {o : Ord2} : o ∈ keysM x ↔ ∃ t, t < (turnsM x).length ∧ Mn x ((turnsM x).getD t 0) o := by
 rw [mem_keysM]
 constructor
 ·rintro ⟨g, hg⟩
  rcases allM_inv x o with ⟨h, _⟩ | ⟨g', h, e⟩
  ·rw [h] at hg; cases hg
  ·obtain ⟨f, hf, _⟩ := e.lo
   obtain ⟨t, h1, h2, _⟩ := mem_cands.1 hf
   exact ⟨t, h1, h2⟩
 ·rintro ⟨t, h1, h2⟩
  rcases allM_inv x o with ⟨_, h⟩ | ⟨g', h, e⟩
  ·exact absurd (mem_cands.2 ⟨t, h1, h2, rfl⟩) (h _)
  ·exact ⟨g', h⟩
theorem partsO_pos {X : Lett} {o : Ord2} : 0 < (partsO X o).length ↔ o ∈ keysM X := by
 rw [keys_turns]
 constructor
 ·intro h
  obtain ⟨p, hp⟩ := List.exists_mem_of_length_pos h
  unfold partsO at hp
  rw [List.mem_filter, List.mem_range, mnB_iff] at hp
  exact ⟨p, hp⟩
 ·rintro ⟨p, h1, h2⟩
  refine List.length_pos_of_mem (a := p) ?_
  unfold partsO
  rw [List.mem_filter, List.mem_range, mnB_iff]
  exact ⟨h1, h2⟩
theorem keys_ordL {X : Lett} (hX : GL X) {o : Ord2} (h : o ∈ keysM X) : o ∈ ordL X := by
 have hN := hX.n
 obtain ⟨t, _, i, hi, _, h1, h2, _⟩ := keys_turns.1 h
 have ha : o.a ∈ allR X 0 := mem_allR.2 ⟨i, hi, (mem_mR hX (by omega) hi).2 h1⟩
 obtain ⟨a, b⟩ := o
 by_cases hn : X.lines.length = 1
 ·rw [ordL_one hn]
  unfold secL at h2
  rw [if_neg (by omega)] at h2
  have := List.mem_singleton.1 h2
  simp only at this
  subst this
  exact List.mem_map.2 ⟨a, ha, rfl⟩
 ·rw [ordL_two (by omega)]
  unfold secL at h2
  rw [if_pos (by omega)] at h2
  exact List.mem_flatMap.2 ⟨a, ha, List.mem_map.2 ⟨b, mem_allR.2 ⟨i, hi, (mem_mR hX (by omega) hi).2 h2⟩, rfl⟩⟩
theorem ordL_filter {X : Lett} (hX : GL X) : (ordL X).filter (fun o => decide (0 < (partsO X o).length)) = sortedM X := by
 refine sorted_same ordLt_irrefl (fun h1 h2 => ordLt_trans h1 h2) ((ordL_sort hX.n).filter _) (sorted_rise X) fun o => ?_
 rw [List.mem_filter, decide_eq_true_eq, partsO_pos, mem_sorted]
 exact ⟨fun h => h.2, fun h => ⟨keys_ordL hX h, h⟩⟩
theorem ordersR_eq {X : Lett} (hX : GL X) : ordersR X = (sortedM X).map (fndO X) := by
 rw [← ordL_filter hX]
 unfold ordersR ordL
 rw [List.map_congr_left (g := fun r => fndO X (ordOf X r)) fun r hr => trR_eq hX hr]
 rw [show (fun r => fndO X (ordOf X r)) = fndO X ∘ ordOf X from rfl, ← List.map_map, List.filter_map]
 congr 1
 refine List.filter_congr fun o _ => ?_
 simp [fndO]
def t78s : Spec := spec1 GL fun X => .sl (((sortedM X).map (fndO X)).map encFn) false
theorem t78s_ok : SpecOK Tryz.prog glB 78 t78s := spec1_ok E65_ok Tryz.func78 rfl (by kernel_rfl) fun X h => by
 have := ordersR_fn X h
 rwa [ordersR_eq h] at this
noncomputable def E66t : List (Nat × Spec) := [(78, t78s)] ++ E65t
theorem E66t_ok : AllOK E66t := ⟨⟨t78s_ok, Tryz.call78⟩, E65t_ok⟩
noncomputable def E66 : Env := mkE E66t []
theorem E66_ok : EnvOK Tryz.prog E66 := envOK E66t_ok trivial
theorem E66_ti {t : Nat} : E66.ti t = ti t := rfl
theorem E66_e {t : Nat} : E66.eqt t = eqB t := rfl
theorem E66_k {t : Nat} : E66.keyt t = keyB t := rfl
theorem E66_g {t : Nat} : E66.glob t = glB t := rfl
attribute [go_sem] E66_ti E66_e E66_k E66_g
def lett0R (x : Lett) : Bool := rackOk x.rack && ((decide (0 ≤ x.dlo) && decide (x.dlo ≤ x.dhi)) && decide (x.dhi ≤ 20000)) && ((decide (0 ≤ x.clo) && decide (x.clo ≤ x.chi)) && decide (x.chi ≤ 10000000)) && (decide (1 ≤ (x.lines.length : Int)) && decide ((x.lines.length : Int) ≤ 2))
theorem lett0R_eq (x : Lett) : lett0R x = lett0 x := by unfold lett0R lett0; simp only [Bool.and_assoc]
theorem checkR_fn (x : Lett) (hx : LOk x) : Fn E66 0 31 Tryz.f31 (Tryz.f31.body.getD .skip) [.agg (encLt x)] (.int .i64 (if lettOk x then 0 else 20)) := by
 unfold Fn Tryz.f31
 obtain ⟨hr, hl, hy⟩ := hx
 have hx0 := encLt_lit x
 have hr0 : ((if rackOk x.rack = true then (0 : Int) else 10) == 0) = rackOk x.rack := by cases rackOk x.rack <;> rfl
 have hη : (⟨x.rack.goods, x.rack.issues⟩ : Rack) = x.rack := rfl
 have hrt := eq_true hr
 have hl0 : (rackOk x.rack && ((decide (0 ≤ x.dlo) && decide (x.dlo ≤ x.dhi)) && decide (x.dhi ≤ 20000)) && ((decide (0 ≤ x.clo) && decide (x.clo ≤ x.chi)) && decide (x.chi ≤ 10000000)) && (decide (1 ≤ (x.lines.length : Int)) && decide ((x.lines.length : Int) ≤ 2))) = lett0 x := lett0R_eq x
 simp only [go_sem, @ct E66 79 s21 rfl, s21, @ct E66 58 sProper rfl, sProper, @ct E66 45 sTween rfl, sTween, callSpec, hx0, hη, hrt, hr0, List.length_map, hl0]
 refine ev_loopS [1] (fun i : Nat => [(3, .bool (lett0 x && (x.lines.take i).all llineOk)), (4, .int .i64 i)]) (fun i H => i ≤ x.lines.length ∧ H ([], 31000000) = some (.cells (encLt x) 1 false)) (fun i => x.lines.length - i) 0 ?_ ⟨Nat.zero_le _, ?_⟩ ?_
 ·simp only [go_sem, Int.natCast_zero, List.take_zero, List.all_nil, Bool.and_true]
 ·simp only [go_sem, hx0]
 ·simp only [go_sem]
  intro K i H ⟨hi, h1⟩ hK hE
  have hlo : lettOk x = (lett0 x && x.lines.all llineOk) := rfl
  cases hb : (lett0 x && (x.lines.take i).all llineOk) with
  | false =>
   have hno : lettOk x = false := by
    rw [hlo]
    cases h0 : lett0 x with
    | false => rfl
    | true =>
     rw [h0, Bool.true_and] at hb
     rw [Bool.true_and]
     refine Bool.eq_false_iff.2 fun h => ?_
     rw [List.all_eq_true] at h
     have : (x.lines.take i).all llineOk = true := List.all_eq_true.2 fun y hy => h y (List.mem_of_mem_take hy)
     rw [this] at hb; cases hb
   simp only [go_sem, h1, hx0, List.length_map]
   refine hE _ _ _ (by simp) ?_
   simp only [go_sem, hno]
  | true =>
   simp only [go_sem, h1, hx0, List.length_map]
   rw [condK_bool]
   refine ⟨fun h => ?_, fun h => ?_⟩
   ·have hi' : i < x.lines.length := by have := of_decide_eq_true h; omega
    have hbg : (x.lines.length : Int) < 4611686018427387904 := by unfold big at hl; omega
    have w2 : IntKind.i64.wrap ((i : Int) + 1) = (i : Int) + 1 := wrap_id (by omega)
    have hii : ((i : Int) < (x.lines.length : Int)) = True := eq_true (by omega)
    have hi0 : (0 ≤ (i : Int)) = True := eq_true (by omega)
    have ha := all_take llineOk hi'
    have hyy := hy _ (getD_mem default hi')
    have hst : (lett0 x && (x.lines.take (i + 1)).all llineOk) = llineOk (x.lines.getD i default) := by rw [ha, ← Bool.and_assoc, hb, Bool.true_and]
    generalize hg : x.lines.getD i default = y at hst hyy
    obtain ⟨ds, ss, flo, fhi, co, mlo, mhi⟩ := y
    have b1 : big ds.length = True := eq_true hyy.1
    have b2 : big ss.length = True := eq_true hyy.2
    simp only [go_sem, @ct E66 80 t80 rfl, t80, callSpec, h1, hx0, hii, hi0, Int.toNat_natCast, getD_mapN encLL x.lines i _ hi', hg, encLL, w2, b1, b2, List.length_map]
    refine hK (i + 1) _ _ ?_ ⟨hi', ?_⟩ (by omega)
    ·simp only [go_sem, hst, Int.natCast_add, Int.natCast_one]
    ·simp only [go_sem, h1, hx0]
   ·have hi' : i = x.lines.length := by have : ¬ ((i : Int) < (x.lines.length : Int)) := by simpa using h
                                        omega
    subst hi'
    rw [List.take_length, ← hlo] at hb
    refine hE _ _ _ (by simp) ?_
    simp only [go_sem, hb]
def t31 : Spec := spec1 LOk (fun x => .int .i64 (if lettOk x then 0 else 20))
theorem t31_ok : SpecOK Tryz.prog glB 31 t31 := spec1_ok E66_ok Tryz.func31 rfl (by kernel_rfl) fun x h => checkR_fn x h
theorem which_fn (l : List FndR) (ls : List Line) (hl : l.length ≤ 4000000000) (hb : ∀ f ∈ l, big f.lines.length) (hls : big ls.length) : Fn E66 0 77 Tryz.f77 (Tryz.f77.body.getD .skip) [.sl (l.map encFn) false, .sl (ls.map encL) false] (.int .i64 (findI (fun f => decide (f.lines = ls)) l 0)) := by
 unfold Fn Tryz.f77
 have hlt := eq_true hls
 simp only [go_sem]
 refine ev_loopS [0, 1] (fun i : Nat => [(5, .int .i64 i)]) (fun i H => i ≤ l.length ∧ findI (fun f => decide (f.lines = ls)) (l.drop i) i = findI (fun f => decide (f.lines = ls)) l 0) (fun i => l.length - i) 0 ?_ ⟨Nat.zero_le _, rfl⟩ ?_
 ·simp only [go_sem, Int.natCast_zero]
 ·simp only [go_sem, List.length_map]
  intro K i H ⟨hi, h1⟩ hK hE
  rw [condK_bool]
  refine ⟨fun h => ?_, fun h => ?_⟩
  ·have hi' : i < l.length := by have := of_decide_eq_true h; omega
   have hii : ((i : Int) < (l.length : Int)) = True := eq_true (by omega)
   have hi0 : (0 ≤ (i : Int)) = True := eq_true (by omega)
   have w2 : IntKind.i64.wrap ((i : Int) + 1) = (i : Int) + 1 := wrap_id (by omega)
   have hd := findI_drop (fun f : FndR => decide (f.lines = ls)) hi'
   have hfb := hb _ (getD_mem default hi')
   generalize hff : l.getD i default = f at hd hfb
   obtain ⟨fl, fp, fc⟩ := f
   have hft := eq_true hfb
   simp only at hft hd
   simp only [go_sem, @ct E66 29 t29 rfl, t29, callSpec, hii, hi0, Int.toNat_natCast, List.length_map, getD_mapN encFn l i _ hi', hff, encFn, dec_lines, hft, hlt]
   rw [condK_bool]
   refine ⟨fun hc => ?_, fun hc => ?_⟩
   ·rw [if_pos hc] at hd
    simp only [go_sem]
    refine hE _ _ _ (by simp) ?_
    simp only [go_sem, ← h1, hd]
   ·rw [if_neg (by rw [hc]; simp)] at hd
    simp only [go_sem]
    refine hK (i + 1) _ _ ?_ ⟨hi', by rw [← h1, hd]⟩ (by omega)
    simp only [go_sem, w2, Int.natCast_add, Int.natCast_one]
  ·have hi' : i = l.length := by have : ¬ ((i : Int) < (l.length : Int)) := by simpa using h
                                 omega
   subst hi'
   rw [List.drop_length] at h1
   have h2 : findI (fun f : FndR => decide (f.lines = ls)) l 0 = -1 := h1.symm
   refine hE _ _ _ (by simp) ?_
   simp only [go_sem, h2]
def t77 : Spec := spec2 (fun (l : List FndR) (ls : List Line) => l.length ≤ 4000000000 ∧ (∀ f ∈ l, big f.lines.length) ∧ big ls.length) fun l ls => .int .i64 (findI (fun f => decide (f.lines = ls)) l 0)
theorem t77_ok : SpecOK Tryz.prog glB 77 t77 := spec2_ok E66_ok Tryz.func77 rfl (by kernel_rfl) fun l ls h => which_fn l ls h.1 h.2.1 h.2.2
noncomputable def E67t : List (Nat × Spec) := [(31, t31), (77, t77)] ++ E66t
theorem E67t_ok : AllOK E67t := ⟨⟨t31_ok, Tryz.call31⟩, ⟨t77_ok, Tryz.call77⟩, E66t_ok⟩
noncomputable def E67 : Env := mkE E67t []
theorem E67_ok : EnvOK Tryz.prog E67 := envOK E67t_ok trivial
theorem E67_ti {t : Nat} : E67.ti t = ti t := rfl
theorem E67_e {t : Nat} : E67.eqt t = eqB t := rfl
theorem E67_k {t : Nat} : E67.keyt t = keyB t := rfl
theorem E67_g {t : Nat} : E67.glob t = glB t := rfl
attribute [go_sem] E67_ti E67_e E67_k E67_g
theorem sorted_bound {X : Lett} (hX : GL X) : (sortedM X).length ≤ 37748736 := by
 rw [← ordL_filter hX]
 refine Nat.le_trans (List.length_filter_le _ _) ?_
 have hN := hX.n
 unfold ordL
 rw [List.length_map]
 obtain ⟨h1, h2, h3⟩ := rowsR_len hX
 obtain h | h : X.lines.length = 1 ∨ X.lines.length = 2 := by omega
 ·rw [h]; omega
 ·rw [h]; exact h3 h
theorem linesO_len2 {x : Lett} (hn : 1 ≤ x.lines.length ∧ x.lines.length ≤ 2) (o : Ord2) : (linesO x o).length = x.lines.length := by
 unfold linesO
 by_cases h : x.lines.length = 1
 ·rw [if_pos h, h]; rfl
 ·rw [if_neg h]; simp only [List.length_cons, List.length_nil]; omega
theorem key_b2 {x : Lett} {o : Ord2} (h : o ∈ keysM x) (hn : x.lines.length ≤ 1) : o.b = zLine := by
 obtain ⟨t, _, i, _, _, _, h2, _⟩ := keys_turns.1 h
 unfold secL at h2
 rw [if_neg (by omega)] at h2
 exact List.mem_singleton.1 h2
theorem lineup_lines {x : Lett} (hn : 1 ≤ x.lines.length ∧ x.lines.length ≤ 2) {o : Ord2} (h : o ∈ keysM x) : lineupM x (linesO x o) = o := by
 unfold lineupM
 rw [if_pos (linesO_len2 hn o)]
 unfold linesO
 by_cases h1 : x.lines.length = 1
 ·rw [if_pos h1]
  have := key_b2 h (by omega)
  obtain ⟨a, b⟩ := o
  simp only at this
  subst this
  rfl
 ·rw [if_neg h1]; rfl
theorem lines_lineup {x : Lett} (hn : 1 ≤ x.lines.length ∧ x.lines.length ≤ 2) {ls : List Line} (h : ls.length = x.lines.length) : linesO x (lineupM x ls) = ls := by
 unfold lineupM
 rw [if_pos h]
 unfold linesO
 by_cases h1 : x.lines.length = 1
 ·rw [if_pos h1]
  match ls, (by omega : ls.length = 1) with
  | [a], _ => rfl
 ·rw [if_neg h1]
  match ls, (by omega : ls.length = 2) with
  | [a, b], _ => rfl
theorem when_at {x : Lett} (hn : 1 ≤ x.lines.length ∧ x.lines.length ≤ 2) {o : Ord2} (h : o ∈ keysM x) : whenM x (linesO x o) = getA (allM x) o := by
 unfold whenM
 rw [if_pos (linesO_len2 hn o), lineup_lines hn h]
def whichI (x : Lett) (ls : List Line) : Int := findI (fun f => decide (f.lines = ls)) ((sortedM x).map (fndO x)) 0
theorem which_some {x : Lett} (hX : GL x) (ls : List Line) : decide (whichI x ls ≥ 0) = (whenM x ls).isSome := by
 rw [Bool.eq_iff_iff, decide_eq_true_iff]
 unfold whichI
 rw [findI_any]
 constructor
 ·rintro ⟨f, hf, h⟩
  obtain ⟨o, ho, rfl⟩ := List.mem_map.1 hf
  have e : linesO x o = ls := of_decide_eq_true h
  rw [← e, when_at hX.n (mem_sorted.1 ho)]
  obtain ⟨g, hg⟩ := mem_keysM.1 (mem_sorted.1 ho)
  rw [hg]; rfl
 ·intro h
  unfold whenM at h
  by_cases hl : ls.length = x.lines.length
  ·rw [if_pos hl] at h
   obtain ⟨g, hg⟩ := Option.isSome_iff_exists.1 h
   refine ⟨fndO x (lineupM x ls), List.mem_map.2 ⟨_, mem_sorted.2 (mem_keysM.2 ⟨g, hg⟩), rfl⟩, decide_eq_true ?_⟩
   exact lines_lineup hX.n hl
  ·rw [if_neg hl] at h; cases h
theorem fnd_big {x : Lett} (hX : GL x) : ∀ f ∈ (sortedM x).map (fndO x), big f.lines.length := fun f hf => by
 obtain ⟨o, _, rfl⟩ := List.mem_map.1 hf
 have := linesO_len2 hX.n o
 have := hX.n
 show big (linesO x o).length
 unfold big; omega
theorem isOrderR_fn (x : Lett) (hx : LOk x) (ls : List Line) (hl : big ls.length) : Fn E67 0 30 Tryz.f30 (Tryz.f30.body.getD .skip) [.agg (encLt x), .sl (ls.map encL) false] (isOrdM x ls) := by
 unfold Fn Tryz.f30 isOrdM
 have hxl := eq_true hx
 have hx0 := encLt_lit x
 cases hk : lettOk x with
 | false =>
  simp only [go_sem, @ct E67 31 t31 rfl, t31, hx0, lett_eta, callSpec, hk, if_false, hxl]
 | true =>
  have hG := lett_good hk
  have hgx := eq_true hG
  have hbl := eq_true hl
  have hb := sorted_bound hG
  have h1 : ((sortedM x).length ≤ 4000000000) = True := eq_true (by omega)
  have h2 := eq_true (fnd_big hG)
  have h3 : decide (findI (fun f => decide (f.lines = ls)) ((sortedM x).map (fndO x)) 0 ≥ 0) = (whenM x ls).isSome := which_some hG ls
  simp only [go_sem, @ct E67 31 t31 rfl, t31, @ct E67 77 t77 rfl, t77, @ct E67 78 t78s rfl, t78s, hx0, lett_eta, callSpec, hk, if_true, hxl, hgx, dec_lines, hbl, h1, h2, h3]
def t30 : Spec := spec2 (fun (x : Lett) (ls : List Line) => LOk x ∧ big ls.length) isOrdM
theorem t30_ok : SpecOK Tryz.prog glB 30 t30 := spec2_ok E67_ok Tryz.func30 rfl (by kernel_rfl) fun x ls h => isOrderR_fn x h.1 ls h.2
theorem manyRf_fn (x : Lett) (hx : LOk x) : Fn E67 0 32 Tryz.f32 (Tryz.f32.body.getD .skip) [.agg (encLt x)] (manyPV x) := by
 unfold Fn Tryz.f32 manyPV
 have hxl := eq_true hx
 have hx0 := encLt_lit x
 cases hk : lettOk x with
 | false =>
  simp only [go_sem, @ct E67 31 t31 rfl, t31, hx0, lett_eta, callSpec, hk, if_false, hxl]
 | true =>
  have hG := lett_good hk
  have hgx := eq_true hG
  have hlen : (((sortedM x).map (fndO x)).map encFn).length = (allM x).length := by rw [List.length_map, List.length_map, sorted_len]
  simp only [go_sem, @ct E67 31 t31 rfl, t31, @ct E67 78 t78s rfl, t78s, hx0, lett_eta, callSpec, hk, if_true, hxl, hgx, List.length_map, sorted_len]
def t32 : Spec := spec1 LOk manyPV
theorem t32_ok : SpecOK Tryz.prog glB 32 t32 := spec1_ok E67_ok Tryz.func32 rfl (by kernel_rfl) fun x h => manyRf_fn x h
def askR (x : Lett) (right : Bool) : PV :=
 if lettOk x = true then (if right = true then (if sortedM x = [] then .tup [.sl [] true, .int .i64 4] else .tup [.sl (((sortedM x).map (fndO x)).map encFn) false, .int .i64 0]) else .tup [.sl [] true, .int .i64 21]) else .tup [.sl [] true, .int .i64 20]
theorem askedR_fn (x : Lett) (hx : LOk x) (right : Bool) : Fn E67 0 81 Tryz.f81 (Tryz.f81.body.getD .skip) [.agg (encLt x), .bool right] (askR x right) := by
 unfold Fn Tryz.f81 askR
 have hxl := eq_true hx
 have hx0 := encLt_lit x
 cases hk : lettOk x with
 | false =>
  simp only [go_sem, @ct E67 31 t31 rfl, t31, hx0, lett_eta, callSpec, hk, if_false, hxl]
 | true =>
  have hG := lett_good hk
  have hgx := eq_true hG
  cases right with
  | false => simp only [go_sem, @ct E67 31 t31 rfl, t31, hx0, lett_eta, callSpec, hk, if_true, if_false, hxl]
  | true =>
   by_cases h0 : sortedM x = []
   ·have hz : (((sortedM x).length : Int) == 0) = true := by rw [h0]; rfl
    simp only [go_sem, @ct E67 31 t31 rfl, t31, @ct E67 78 t78s rfl, t78s, hx0, lett_eta, callSpec, hk, if_true, hxl, hgx, List.length_map, hz, h0]
   ·have hz : (((sortedM x).length : Int) == 0) = false := by
     have := List.length_pos_iff.2 h0
     simpa using h0
    simp only [go_sem, @ct E67 31 t31 rfl, t31, @ct E67 78 t78s rfl, t78s, hx0, lett_eta, callSpec, hk, if_true, hxl, hgx, List.length_map, hz, if_neg h0]
def t81 : Spec := spec2 (fun (x : Lett) (_ : Bool) => LOk x) askR
theorem t81_ok : SpecOK Tryz.prog glB 81 t81 := spec2_ok E67_ok Tryz.func81 rfl (by kernel_rfl) fun x b h => askedR_fn x h b
noncomputable def E68t : List (Nat × Spec) := [(30, t30), (32, t32), (81, t81)] ++ E67t
theorem E68t_ok : AllOK E68t := ⟨⟨t30_ok, Tryz.call30⟩, ⟨t32_ok, Tryz.call32⟩, ⟨t81_ok, Tryz.call81⟩, E67t_ok⟩
noncomputable def E68 : Env := mkE E68t []
theorem E68_ok : EnvOK Tryz.prog E68 := envOK E68t_ok trivial
theorem E68_ti {t : Nat} : E68.ti t = ti t := rfl
theorem E68_e {t : Nat} : E68.eqt t = eqB t := rfl
theorem E68_k {t : Nat} : E68.keyt t = keyB t := rfl
theorem E68_g {t : Nat} : E68.glob t = glB t := rfl
attribute [go_sem] E68_ti E68_e E68_k E68_g
def rowOR (x : Lett) (o : Ord2) : List PV := [.sl ((linesO x o).map encL) false]
def ordersRPV (x : Lett) : PV :=
 if lettOk x = true then (if sortedM x = [] then .tup [.sl [] true, .int .i64 4] else if 64 < (sortedM x).length then .tup [.sl [] true, .int .i64 6] else .tup [.sl ((sortedM x).map (rowOR x)) false, .int .i64 0]) else .tup [.sl [] true, .int .i64 20]
def t33 : Spec := spec1 LOk ordersRPV
end Wb
