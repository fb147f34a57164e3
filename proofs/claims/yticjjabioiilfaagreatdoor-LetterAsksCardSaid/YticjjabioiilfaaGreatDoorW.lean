import Derived.Test.YticjjabioiilfaaGreatDoorV
set_option linter.unusedVariables false
set_option linter.unusedSimpArgs false
/- The first of the shortest questions: plain. -/
namespace Wb
open Go Go.Proofs Enc Row
set_option linter.unusedSimpArgs false
set_option linter.unusedVariables false
set_option maxRecDepth 20000
set_option maxHeartbeats 8000000
/-- Rising numbers, from one on and below another one. -/
def Inc : Nat → Nat → List Nat → Prop
  | _, _, [] => True
  | f, m, k :: ks => f ≤ k ∧ k < m ∧ Inc (k + 1) m ks
def natI (l : List Nat) : List Int := l.map fun (k : Nat) => (k : Int)
theorem Inc.mono {f f' m : Nat} (h : f' ≤ f) : ∀ {ks : List Nat}, Inc f m ks → Inc f' m ks
  | [], _ => trivial
  | _ :: _, hk => ⟨by have := hk.1; omega, hk.2⟩
theorem Inc.len : ∀ {f m : Nat} {ks : List Nat}, Inc f m ks → f ≤ m → f + ks.length ≤ m
  | _, _, [], _, hf => by simpa using hf
  | f, m, k :: ks, hk, hf => by
    have := hk.2.2.len (by have := hk.2.1; omega)
    have := hk.1
    simp only [List.length_cons]; omega
theorem Inc.lt : ∀ {f m : Nat} {ks : List Nat}, Inc f m ks → ∀ k ∈ ks, f ≤ k ∧ k < m
  | _, _, [], _, _, h => by cases h
  | f, m, a :: ks, hk, k, h => by
    rcases List.mem_cons.1 h with e | e
    · subst e; exact ⟨hk.1, hk.2.1⟩
    · have := hk.2.2.lt k e
      have := hk.1
      omega
theorem Inc.erase : ∀ {f m : Nat} {ks : List Nat} (i : Nat), Inc f m ks → Inc f m (ks.eraseIdx i)
  | _, _, [], _, h => by simpa using h
  | f, m, k :: ks, 0, hk => hk.2.2.mono (by have := hk.1; omega)
  | f, m, k :: ks, i + 1, hk => ⟨hk.1, hk.2.1, hk.2.2.erase i⟩
theorem Inc.range : ∀ (n f : Nat), Inc f (f + n) (List.range' f n)
  | 0, f => trivial
  | n + 1, f => by
    rw [List.range'_succ]
    refine ⟨Nat.le_refl _, by omega, ?_⟩
    have := Inc.range n (f + 1)
    rwa [show f + 1 + n = f + (n + 1) by omega] at this
theorem Inc.filter (p : Nat → Bool) : ∀ (n f : Nat), Inc f (f + n) ((List.range' f n).filter p)
  | 0, f => trivial
  | n + 1, f => by
    have ih := Inc.filter p n (f + 1)
    rw [show f + 1 + n = f + (n + 1) by omega] at ih
    rw [List.range'_succ, List.filter_cons]
    split
    · exact ⟨Nat.le_refl _, by omega, ih⟩
    · exact ih.mono (by omega)
theorem choose_spec (S : List Ord2) (most : Nat) : ∀ (n : Nat) (q : List Pr) (f : Nat),
    (chooseM S most n q f = none → ∀ ks, Inc f most ks → ks.length = n → apartB S (q ++ ks.map prN) = false) ∧
    ∀ r, chooseM S most n q f = some r → ∃ ks, Inc f most ks ∧ ks.length = n ∧ r = q ++ ks.map prN ∧ apartB S r = true ∧
      ∀ js, Inc f most js → js.length = n → aheadB (natI js) (natI ks) = true → apartB S (q ++ js.map prN) = false
  | 0, q, f => by
    unfold chooseM
    constructor
    · intro h ks _ hl
      obtain rfl := List.eq_nil_of_length_eq_zero hl
      split at h
      · cases h
      · rename_i h1; simpa using h1
    · intro r h
      split at h
      · rename_i h1
        cases h
        refine ⟨[], trivial, rfl, by simp, h1, fun js _ hl ha => ?_⟩
        obtain rfl := List.eq_nil_of_length_eq_zero hl
        exact absurd ha (by decide)
      · cases h
  | n + 1, q, f => by
    unfold chooseM
    constructor
    · intro h ks hk hl
      match ks, hk, hl with
      | k :: ks, hk, hl =>
        have hm : k ∈ List.range' f (most - f) := List.mem_range'_1.2 ⟨hk.1, by have := hk.2.1; have := hk.1; omega⟩
        have h1 := List.findSome?_eq_none_iff.1 h k hm
        have := (choose_spec S most n (q ++ [prN k]) (k + 1)).1 h1 ks hk.2.2 (by simpa using hl)
        simpa using this
    · intro r h
      obtain ⟨l1, k, l2, e, hk, hb⟩ := List.findSome?_eq_some_iff.1 h
      obtain ⟨ks, i1, i2, i3, i4, i5⟩ := (choose_spec S most n (q ++ [prN k]) (k + 1)).2 r hk
      have hm : k ∈ List.range' f (most - f) := by rw [e]; simp
      have hm' := List.mem_range'_1.1 hm
      refine ⟨k :: ks, ⟨hm'.1, by omega, i1⟩, by simp [i2], by simp [i3], i4, fun js hj hl ha => ?_⟩
      match js, hj, hl with
      | j :: js, hj, hl =>
        simp only [natI, List.map_cons, aheadB] at ha
        by_cases ejk : (j : Int) = (k : Int)
        · rw [if_pos ejk] at ha
          obtain rfl : j = k := by omega
          have := i5 js hj.2.2 (by simpa using hl) ha
          simpa using this
        · rw [if_neg ejk] at ha
          have hlt : j < k := by have := of_decide_eq_true ha; omega
          have hj1 : j ∈ List.range' f (most - f) := List.mem_range'_1.2 ⟨hj.1, by have := hj.2.1; have := hj.1; omega⟩
          have hs : (List.range' f (most - f)).Pairwise (· < ·) := List.pairwise_lt_range' ..
          rw [e] at hj1 hs
          have hj2 : j ∈ l1 := by
            rcases List.mem_append.1 hj1 with h1 | h1
            · exact h1
            · rcases List.mem_cons.1 h1 with h2 | h2
              · omega
              · have := (List.pairwise_cons.1 (List.pairwise_append.1 hs).2.1).1 j h2
                omega
          have := (choose_spec S most n (q ++ [prN j]) (j + 1)).1 (hb j hj2) js hj.2.2 (by simpa using hl)
          simpa using this
/-- The question that is told. -/
theorem ask_spec {S : List Ord2} {most : Nat} (hx : ∃ ks, Inc 0 most ks ∧ apartB S (ks.map prN) = true) :
    ∃ ks, Inc 0 most ks ∧ askL S most = ks.map prN ∧ apartB S (ks.map prN) = true ∧
      ∀ js, Inc 0 most js → (js.length < ks.length ∨ js.length = ks.length ∧ aheadB (natI js) (natI ks) = true) → apartB S (js.map prN) = false := by
  unfold askL askO
  cases h : (List.range' 0 (most + 1 - 0)).findSome? fun many => chooseM S most many [] 0 with
  | none =>
    obtain ⟨ks, h1, h2⟩ := hx
    have hl := h1.len (Nat.zero_le _)
    have h3 := List.findSome?_eq_none_iff.1 h ks.length (List.mem_range'_1.2 ⟨Nat.zero_le _, by omega⟩)
    have := (choose_spec S most ks.length [] 0).1 h3 ks h1 rfl
    rw [List.nil_append, h2] at this
    cases this
  | some r =>
    obtain ⟨l1, n, l2, e, hk, hb⟩ := List.findSome?_eq_some_iff.1 h
    obtain ⟨ks, i1, i2, i3, i4, i5⟩ := (choose_spec S most n [] 0).2 r hk
    rw [List.nil_append] at i3
    refine ⟨ks, i1, i3, by rw [← i3]; exact i4, fun js hj hl => ?_⟩
    rcases hl with hl | ⟨hl, ha⟩
    · have hs : (List.range' 0 (most + 1 - 0)).Pairwise (· < ·) := List.pairwise_lt_range' ..
      have hjl := hj.len (Nat.zero_le _)
      have hj1 : js.length ∈ List.range' 0 (most + 1 - 0) := List.mem_range'_1.2 ⟨Nat.zero_le _, by omega⟩
      rw [e] at hj1 hs
      have hj2 : js.length ∈ l1 := by
        rcases List.mem_append.1 hj1 with h1 | h1
        · exact h1
        · rcases List.mem_cons.1 h1 with h2 | h2
          · omega
          · have := (List.pairwise_cons.1 (List.pairwise_append.1 hs).2.1).1 _ h2
            omega
      have := (choose_spec S most js.length [] 0).1 (hb _ hj2) js hj rfl
      rwa [List.nil_append] at this
    · have := i5 js hj (by omega) ha
      rwa [List.nil_append] at this
end Wb
/- What parts orders: alike, parts. -/
namespace Wb
open Go Go.Proofs Enc Row
set_option linter.unusedSimpArgs false
set_option linter.unusedVariables false
set_option maxRecDepth 20000
set_option maxHeartbeats 8000000
theorem dec_line9 (l : Line) : (dec (.agg (encL l)) : Option Line) = some l := Enc.dec_enc l
def ansLs (a : List Line) (p : Pr) : Int := fldL p.field.toNat (a.getD p.line.toNat default)
def sameQ (a c : List Line) (q : List Pr) (but : Int) (i : Nat) : Bool := decide ((i : Int) = but) || decide (ansLs a (q.getD i default) = ansLs c (q.getD i default))
def alikeB (a c : List Line) (q : List Pr) (but : Int) : Bool := (List.range q.length).all (sameQ a c q but)
theorem all_range {p : Nat → Bool} (n : Nat) : (List.range (n + 1)).all p = ((List.range n).all p && p n) := by
  rw [List.range_succ, List.all_append]; simp
theorem all_range_le {p : Nat → Bool} {n m : Nat} (h : n ≤ m) (hf : (List.range m).all p = true) : (List.range n).all p = true := by
  rw [List.all_eq_true] at hf ⊢
  exact fun k hk => hf k (List.mem_range.2 (by have := List.mem_range.1 hk; omega))
theorem all_range_no {p : Nat → Bool} {n m : Nat} (h : n < m) (hf : p n = false) : (List.range m).all p = false := by
  cases h1 : (List.range m).all p with
  | false => rfl
  | true =>
    rw [List.all_eq_true] at h1
    rw [h1 n (List.mem_range.2 h)] at hf; cases hf
theorem alike_fn (a c : List Line) (q : List Pr) (but : Int) (hq : big q.length) (hp : ∀ p ∈ q, (0 ≤ p.line ∧ p.line < a.length ∧ p.line < c.length) ∧ 0 ≤ p.field ∧ p.field ≤ 3) :
    Fn E54 0 97 Tryz.f97 (Tryz.f97.body.getD .skip) [.sl (a.map encL) false, .sl (c.map encL) false, .sl (q.map encA) false, .int .i64 but] (.bool (alikeB a c q but)) := by
  unfold big at hq
  unfold Fn Tryz.f97
  simp only [go_sem]
  refine ev_loopS [0, 1, 2, 3, 8] (fun i : Nat => [(9, .int .i64 i)]) (fun i H => i ≤ q.length ∧ (List.range i).all (sameQ a c q but) = true) (fun i => q.length - i) 0 ?_ ⟨Nat.zero_le _, rfl⟩ ?_
  · simp only [go_sem, Int.natCast_zero]
  · simp only [go_sem, List.length_map]
    intro K i H ⟨hi, ha⟩ hK hE
    rw [condK_bool]
    refine ⟨fun h => ?_, fun h => ?_⟩
    · have hi' : i < q.length := by have := of_decide_eq_true h; omega
      have hii : ((i : Int) < (q.length : Int)) = True := eq_true (by omega)
      have hi0 : (0 ≤ (i : Int)) = True := eq_true (by omega)
      have w2 : IntKind.i64.wrap ((i : Int) + 1) = (i : Int) + 1 := wrap_id (by omega)
      obtain ⟨⟨p1, p2, p3⟩, p4, p5⟩ := hp _ (getD_mem default hi')
      have hsq : sameQ a c q but i = (decide ((i : Int) = but) || decide (ansLs a (q.getD i default) = ansLs c (q.getD i default))) := rfl
      generalize hO : q.getD i default = p at p1 p2 p3 p4 p5 hsq
      obtain ⟨pl, pf⟩ := p
      simp only at p1 p2 p3 p4 p5
      obtain ⟨ln, rfl⟩ := Int.eq_ofNat_of_zero_le p1
      have k1 : ln < a.length := by omega
      have k2 : ln < c.length := by omega
      have q1 := eq_true p1
      have q2 := eq_true p2
      have q3 := eq_true p3
      have q4 := eq_true p4
      have q5 := eq_true p5
      have e1 : ansLs a ⟨(ln : Int), pf⟩ = fldL pf.toNat (a.getD ln default) := rfl
      have e2 : ansLs c ⟨(ln : Int), pf⟩ = fldL pf.toNat (c.getD ln default) := rfl
      rw [e1, e2] at hsq
      generalize hA : a.getD ln default = A at hsq
      generalize hB : c.getD ln default = B at hsq
      have da := dec_line9 A
      have db := dec_line9 B
      obtain ⟨⟨a0, a1, a2⟩, a3⟩ := A
      obtain ⟨⟨b0, b1, b2⟩, b3⟩ := B
      simp only [encL] at da db
      simp only [go_sem, @ct E54 55 t55 rfl, t55, callSpec, hii, hi0, Int.toNat_natCast, List.length_map, getD_mapN encA q i _ hi', hO, encA, getD_mapN encL a ln _ k1, getD_mapN encL c ln _ k2, hA, hB, encL, da, db, q1, q2, q3, q4, q5]
      have hneg : (((i : Int) != but) && (fldL pf.toNat ⟨⟨a0, a1, a2⟩, a3⟩ != fldL pf.toNat ⟨⟨b0, b1, b2⟩, b3⟩)) = !sameQ a c q but i := by
        rw [hsq, Bool.not_or]; congr 1
      rw [hneg, condK_bool]
      refine ⟨fun hc => ?_, fun hc => ?_⟩
      · have hf : sameQ a c q but i = false := by simpa using hc
        simp only [go_sem]
        refine hE _ _ _ (by simp) ?_
        simp only [go_sem, alikeB, all_range_no hi' hf]
      · have hf : sameQ a c q but i = true := by simpa using hc
        simp only [go_sem]
        refine hK (i + 1) _ _ ?_ ⟨by omega, by rw [all_range, ha, hf]; rfl⟩ (by omega)
        simp only [go_sem, w2, Int.natCast_add, Int.natCast_one]
    · have hi' : i = q.length := by have : ¬ ((i : Int) < (q.length : Int)) := by simpa using h
                                    omega
      subst hi'
      refine hE _ _ _ (by simp) ?_
      simp only [go_sem, alikeB, ha]
def t97 : Spec := spec4 (fun (a c : List Line) (q : List Pr) (_ : Int) => big q.length ∧ ∀ p ∈ q, (0 ≤ p.line ∧ p.line < a.length ∧ p.line < c.length) ∧ 0 ≤ p.field ∧ p.field ≤ 3) fun a c q but => .bool (alikeB a c q but)
theorem t97_ok : SpecOK Tryz.prog glB 97 t97 := spec4_ok E54_ok Tryz.func97 rfl (by kernel_rfl) fun a c q but h => alike_fn a c q but h.1 h.2
noncomputable def E55t : List (Nat × Spec) := [(97, t97)] ++ E54t
theorem E55t_ok : AllOK E55t := ⟨⟨t97_ok, Tryz.call97⟩, E54t_ok⟩
noncomputable def E55 : Env := mkE E55t []
theorem E55_ok : EnvOK Tryz.prog E55 := envOK E55t_ok trivial
theorem E55_ti {t : Nat} : E55.ti t = ti t := rfl
theorem E55_q0 : (E55).eqt 26 = true := rfl
theorem E55_q1 : (E55).eqt 65 = true := rfl
theorem E55_q2 : (E55).eqt 77 = true := rfl
theorem E55_q3 : (E55).eqt 79 = true := rfl
theorem E55_q4 : (E55).eqt 182 = true := rfl
theorem E55_q5 : (E55).eqt 243 = true := rfl
theorem E55_q6 : (E55).keyt 3 = true := rfl
theorem E55_q7 : (E55).keyt 114 = true := rfl
theorem E55_q8 : (E55).keyt 169 = true := rfl
theorem E55_q9 : (E55).keyt 180 = true := rfl
theorem E55_q10 : (E55).keyt 193 = true := rfl
theorem E55_q11 : (E55).glob 0 = some [.fn 219 [] [], .fn 220 [] [], .fn 216 [] [], .fn 221 [] []] := rfl
theorem E55_q12 : (E55).glob 1 = some [.fn 222 [] [], .fn 223 [] []] := rfl
attribute [go_sem] E55_ti E55_q0 E55_q1 E55_q2 E55_q3 E55_q4 E55_q5 E55_q6 E55_q7 E55_q8 E55_q9 E55_q10 E55_q11 E55_q12
def partB (ls : List (List Line)) (q : List Pr) (but : Int) (i k : Nat) : Bool := !alikeB (ls.getD i default) (ls.getD k default) q but
def partsB (ls : List (List Line)) (q : List Pr) (but : Int) : Bool := (List.range ls.length).all fun i => (List.range i).all (partB ls q but i)
theorem parts_fn (ls : List (List Line)) (q : List Pr) (but : Int) (hl : big ls.length) (hq : big q.length) (hp : ∀ l ∈ ls, ∀ p ∈ q, (0 ≤ p.line ∧ p.line < l.length) ∧ 0 ≤ p.field ∧ p.field ≤ 3) :
    Fn E55 0 52 Tryz.f52 (Tryz.f52.body.getD .skip) [.sl (ls.map rowLs) false, .sl (q.map encA) false, .int .i64 but] (.bool (partsB ls q but)) := by
  have hqb := eq_true hq
  unfold big at hl
  unfold Fn Tryz.f52
  simp only [go_sem]
  refine ev_loopS [0, 1, 2, 6] (fun i : Nat => [(7, .int .i64 i)]) (fun i H => i ≤ ls.length ∧ (List.range i).all (fun i => (List.range i).all (partB ls q but i)) = true) (fun i => ls.length - i) 0 ?_ ⟨Nat.zero_le _, rfl⟩ ?_
  · simp only [go_sem, Int.natCast_zero]
  · simp only [go_sem, List.length_map]
    intro K i H ⟨hi, ha⟩ hK hE
    rw [condK_bool]
    refine ⟨fun h => ?_, fun h => ?_⟩
    · have hi' : i < ls.length := by have := of_decide_eq_true h; omega
      have hii : ((i : Int) < (ls.length : Int)) = True := eq_true (by omega)
      have hi0 : (0 ≤ (i : Int)) = True := eq_true (by omega)
      have w2 : IntKind.i64.wrap ((i : Int) + 1) = (i : Int) + 1 := wrap_id (by omega)
      simp only [go_sem]
      refine ev_loopS [0, 1, 2, 6, 7] (fun k : Nat => [(8, .int .i64 k)]) (fun k H => k ≤ i ∧ (List.range k).all (partB ls q but i) = true) (fun k => i - k) 0 ?_ ⟨Nat.zero_le _, rfl⟩ ?_
      · simp only [go_sem, Int.natCast_zero]
      · simp only [go_sem, List.length_map]
        intro K2 k H2 ⟨hk, hb⟩ hK2 hE2
        rw [condK_bool]
        refine ⟨fun h => ?_, fun h => ?_⟩
        · have hk' : k < i := by have := of_decide_eq_true h; omega
          have hk'' : k < ls.length := by omega
          have hkk : ((k : Int) < (ls.length : Int)) = True := eq_true (by omega)
          have hk0 : (0 ≤ (k : Int)) = True := eq_true (by omega)
          have w3 : IntKind.i64.wrap ((k : Int) + 1) = (k : Int) + 1 := wrap_id (by omega)
          have hm1 := hp _ (getD_mem default hi')
          have hm2 := hp _ (getD_mem default hk'')
          have hpb : partB ls q but i k = !alikeB (ls.getD i default) (ls.getD k default) q but := rfl
          generalize hA : ls.getD i default = A at hm1 hpb
          generalize hB : ls.getD k default = B at hm2 hpb
          have hpre : (∀ p ∈ q, (0 ≤ p.line ∧ p.line < A.length ∧ p.line < B.length) ∧ 0 ≤ p.field ∧ p.field ≤ 3) = True :=
            eq_true fun p hp' => ⟨⟨(hm1 p hp').1.1, (hm1 p hp').1.2, (hm2 p hp').1.2⟩, (hm1 p hp').2⟩
          simp only [go_sem, @ct E55 97 t97 rfl, t97, callSpec, hii, hi0, hkk, hk0, Int.toNat_natCast, List.length_map, getD_mapN rowLs ls i _ hi', getD_mapN rowLs ls k _ hk'', hA, hB, rowLs, dec_lines, dec_prs, hqb, hpre]
          rw [condK_bool]
          refine ⟨fun hc => ?_, fun hc => ?_⟩
          · rw [hc] at hpb
            have hf : (List.range i).all (partB ls q but i) = false := all_range_no hk' hpb
            simp only [go_sem]
            refine hE2 _ _ _ (by simp) ?_
            simp only [go_sem]
            refine hE _ _ _ (by simp) ?_
            simp only [go_sem, partsB, all_range_no (p := fun i => (List.range i).all (partB ls q but i)) hi' hf]
          · rw [hc] at hpb
            simp only [go_sem]
            refine hK2 (k + 1) _ _ ?_ ⟨by omega, by rw [all_range, hb, hpb]; rfl⟩ (by omega)
            simp only [go_sem, w3, Int.natCast_add, Int.natCast_one]
        · have hk' : k = i := by have : ¬ ((k : Int) < (i : Int)) := by simpa using h
                                 omega
          subst hk'
          refine hE2 _ _ _ (by simp) ?_
          simp only [go_sem]
          refine hK (k + 1) _ _ ?_ ⟨by omega, by rw [all_range, ha, hb]; rfl⟩ (by omega)
          simp only [go_sem, w2, Int.natCast_add, Int.natCast_one]
    · have hi' : i = ls.length := by have : ¬ ((i : Int) < (ls.length : Int)) := by simpa using h
                                     omega
      subst hi'
      refine hE _ _ _ (by simp) ?_
      simp only [go_sem, partsB, ha]
def t52 : Spec := spec3 (fun (ls : List (List Line)) (q : List Pr) (_ : Int) => big ls.length ∧ big q.length ∧ ∀ l ∈ ls, ∀ p ∈ q, (0 ≤ p.line ∧ p.line < l.length) ∧ 0 ≤ p.field ∧ p.field ≤ 3) fun ls q but => .bool (partsB ls q but)
theorem t52_ok : SpecOK Tryz.prog glB 52 t52 := spec3_ok E55_ok Tryz.func52 rfl (by kernel_rfl) fun ls q but h => parts_fn ls q but h.1 h.2.1 h.2.2
end Wb
/- What parts orders: plain. -/
namespace Wb
open Go Go.Proofs Enc Row
set_option linter.unusedSimpArgs false
set_option linter.unusedVariables false
set_option maxRecDepth 20000
set_option maxHeartbeats 8000000
theorem ansO_eq {q : List Pr} (hq : q.length ≤ 8) {o o' : Ord2} : ansO q o = ansO q o' ↔ ∀ j, j < q.length → ansV o (q.getD j default) = ansV o' (q.getD j default) := by
  unfold ansO ansI
  constructor
  · intro h j hj
    have h1 := congrArg (fun l : List Int => l.getD j 0) h
    have hj8 : j < 8 := by omega
    simpa [hj8, hj] using h1
  · intro h
    refine List.map_congr_left fun j _ => ?_
    by_cases hj : j < q.length
    · rw [if_pos hj, if_pos hj, h j hj]
    · rw [if_neg hj, if_neg hj]
theorem apartB_iff {S : List Ord2} {q : List Pr} (hq : q.length ≤ 8) : apartB S q = true ↔
    ∀ i k, k < i → i < S.length → ∃ j, j < q.length ∧ ansV (S.getD i default) (q.getD j default) ≠ ansV (S.getD k default) (q.getD j default) := by
  unfold apartB
  rw [decide_eq_true_iff]
  have hg : ∀ i (h : i < S.length), S.getD i default = S[i] := fun i h => by simp [h]
  unfold List.Nodup
  rw [List.pairwise_map, List.pairwise_iff_getElem]
  constructor
  · intro h i k hk hi
    have h1 := h k i (by omega) hi hk
    rw [hg i hi, hg k (by omega)]
    refine Classical.byContradiction fun hn => h1 ((ansO_eq hq).2 fun j hj => ?_)
    refine Classical.byContradiction fun hne => hn ⟨j, hj, fun e => hne e.symm⟩
  · intro h k i hk hi hki he
    obtain ⟨j, hj, hne⟩ := h i k hki hi
    rw [hg i hi, hg k hk] at hne
    exact hne ((ansO_eq hq).1 he j hj).symm
theorem ansLs_eq {x : Lett} (hn : 1 ≤ x.lines.length ∧ x.lines.length ≤ 2) {p : Pr} (h0 : 0 ≤ p.line) (h1 : p.line < x.lines.length) (o : Ord2) : ansLs (linesO x o) p = ansV o p := by
  obtain ⟨l, f⟩ := p
  obtain ⟨n, rfl⟩ := Int.eq_ofNat_of_zero_le h0
  unfold ansLs ansV
  simp only at h1 ⊢
  rw [show ((n : Nat) : Int).toNat = n from rfl, linesO_at hn (by omega)]
theorem partsB_iff {x : Lett} (hn : 1 ≤ x.lines.length ∧ x.lines.length ≤ 2) {S : List Ord2} {q : List Pr} {but : Int} (hp : ∀ p ∈ q, 0 ≤ p.line ∧ p.line < x.lines.length) :
    partsB (S.map (linesO x)) q but = true ↔ ∀ i k, k < i → i < S.length → ∃ j, j < q.length ∧ (j : Int) ≠ but ∧ ansV (S.getD i default) (q.getD j default) ≠ ansV (S.getD k default) (q.getD j default) := by
  have hg : ∀ i (h : i < S.length), (S.map (linesO x)).getD i default = linesO x (S.getD i default) := fun i h => by simp [h]
  have key : ∀ i k, k < i → i < S.length → (partB (S.map (linesO x)) q but i k = true ↔ ∃ j, j < q.length ∧ (j : Int) ≠ but ∧ ansV (S.getD i default) (q.getD j default) ≠ ansV (S.getD k default) (q.getD j default)) := fun i k hk hi => by
    unfold partB alikeB
    rw [hg i hi, hg k (by omega), Bool.not_eq_true', ← Bool.not_eq_true, List.all_eq_true]
    constructor
    · intro h
      refine Classical.byContradiction fun hn' => h fun j hj => ?_
      have hj' := List.mem_range.1 hj
      unfold sameQ
      have h2 := hp _ (getD_mem default hj')
      rw [ansLs_eq hn h2.1 h2.2, ansLs_eq hn h2.1 h2.2, Bool.or_eq_true, decide_eq_true_iff, decide_eq_true_iff]
      refine Classical.byContradiction fun hn2 => hn' ⟨j, hj', fun e => hn2 (.inl e), fun e => hn2 (.inr e)⟩
    · rintro ⟨j, hj, h1, h2⟩ h
      have h3 := h j (List.mem_range.2 hj)
      have h4 := hp _ (getD_mem default hj)
      unfold sameQ at h3
      rw [ansLs_eq hn h4.1 h4.2, ansLs_eq hn h4.1 h4.2, Bool.or_eq_true, decide_eq_true_iff, decide_eq_true_iff] at h3
      exact h3.elim h1 h2
  unfold partsB
  rw [List.all_eq_true]
  constructor
  · intro h i k hk hi
    have h1 := h i (List.mem_range.2 (by rw [List.length_map]; exact hi))
    rw [List.all_eq_true] at h1
    exact (key i k hk hi).1 (h1 k (List.mem_range.2 hk))
  · intro h i hi
    have hi' : i < S.length := by have := List.mem_range.1 hi; rwa [List.length_map] at this
    rw [List.all_eq_true]
    intro k hk
    have hk' := List.mem_range.1 hk
    exact (key i k hk' hi').2 (h i k hk' hi')
theorem parts_all {x : Lett} (hn : 1 ≤ x.lines.length ∧ x.lines.length ≤ 2) {S : List Ord2} {q : List Pr} (hq : q.length ≤ 8) (hp : ∀ p ∈ q, 0 ≤ p.line ∧ p.line < x.lines.length) :
    partsB (S.map (linesO x)) q (-1) = apartB S q := by
  rw [Bool.eq_iff_iff, partsB_iff hn hp, apartB_iff hq]
  constructor
  · intro h i k hk hi
    obtain ⟨j, h1, _, h3⟩ := h i k hk hi
    exact ⟨j, h1, h3⟩
  · intro h i k hk hi
    obtain ⟨j, h1, h3⟩ := h i k hk hi
    exact ⟨j, h1, by omega, h3⟩
theorem parts_but {x : Lett} (hn : 1 ≤ x.lines.length ∧ x.lines.length ≤ 2) {S : List Ord2} {q : List Pr} (hq : q.length ≤ 8) (hp : ∀ p ∈ q, 0 ≤ p.line ∧ p.line < x.lines.length) {i : Nat} (hi : i < q.length)
    (h : apartB S (q.eraseIdx i) = false) : partsB (S.map (linesO x)) q (i : Int) = false := by
  refine Bool.eq_false_iff.2 fun ht => ?_
  rw [partsB_iff hn hp] at ht
  refine Bool.eq_false_iff.1 h ((apartB_iff (by rw [List.length_eraseIdx_of_lt hi]; omega)).2 fun a b hb ha => ?_)
  obtain ⟨j, h1, h2, h3⟩ := ht a b hb ha
  rw [List.length_eraseIdx_of_lt hi]
  have h2' : j ≠ i := fun e => h2 (by rw [e])
  have hge : ∀ m, m < q.length - 1 → (q.eraseIdx i).getD m default = if m < i then q.getD m default else q.getD (m + 1) default := fun m hm => by
    rw [List.getD_eq_getElem?_getD, List.getElem?_eraseIdx]
    split <;> rw [List.getD_eq_getElem?_getD]
  by_cases hji : j < i
  · exact ⟨j, by omega, by rw [hge j (by omega), if_pos hji]; exact h3⟩
  · exact ⟨j - 1, by omega, by rw [hge (j - 1) (by omega), if_neg (by omega), show j - 1 + 1 = j by omega]; exact h3⟩
theorem prN_in {N k : Nat} (h : k < 4 * N) : (0 ≤ (prN k).line ∧ (prN k).line < N) ∧ 0 ≤ (prN k).field ∧ (prN k).field ≤ 3 := by
  unfold prN
  simp only
  omega
theorem apart_nil {S : List Ord2} : apartB S [] = true ↔ S.length ≤ 1 := by
  rw [apartB_iff (by simp)]
  constructor
  · intro h
    refine Classical.byContradiction fun hn => ?_
    obtain ⟨j, hj, _⟩ := h 1 0 (by omega) (by omega)
    cases hj
  · intro h i k hk hi
    omega
/-- All pairs part the orders of a letter. -/
theorem apart_all {x : Lett} (h : GL x) : apartB (sortedM x) ((List.range' 0 (x.lines.length * 4)).map prN) = true := by
  have hn := h.n
  rw [apartB_iff (by simp; omega)]
  intro i k hk hi
  have hg : ∀ i (h : i < (sortedM x).length), (sortedM x).getD i default = (sortedM x)[i] := fun i h => by simp [h]
  have hlt := List.pairwise_iff_getElem.1 (sorted_rise x) k i (by omega) hi hk
  have m1 := mem_sorted.1 (getD_mem (default : Ord2) hi)
  have m2 := mem_sorted.1 (getD_mem (default : Ord2) (by omega : k < (sortedM x).length))
  rw [hg i hi] at m1 ⊢
  rw [hg k (by omega)] at m2 ⊢
  generalize (sortedM x)[i] = o at *
  generalize (sortedM x)[k] = o' at *
  have hgp : ∀ j, j < x.lines.length * 4 → ((List.range' 0 (x.lines.length * 4)).map prN).getD j default = prN j := fun j hj => by simp [hj]
  refine Classical.byContradiction fun hc => ?_
  have hall : ∀ j, j < x.lines.length * 4 → ansV o (prN j) = ansV o' (prN j) := fun j hj => Classical.byContradiction fun hne => hc ⟨j, by simpa using hj, by rw [hgp j hj]; exact hne⟩
  have ha : o.a = o'.a := by
    have a0 := hall 0 (by omega)
    have a1 := hall 1 (by omega)
    have a2 := hall 2 (by omega)
    have a3 := hall 3 (by omega)
    obtain ⟨⟨⟨x0, x1, x2⟩, x3⟩, b⟩ := o
    obtain ⟨⟨⟨y0, y1, y2⟩, y3⟩, b'⟩ := o'
    simp only [ansV, prN, lineO, fldL] at a0 a1 a2 a3
    simp_all
  have hb : o.b = o'.b := by
    by_cases h1 : x.lines.length ≤ 1
    · rw [key_b h.days m1 h1, key_b h.days m2 h1]
    · have a0 := hall 4 (by omega)
      have a1 := hall 5 (by omega)
      have a2 := hall 6 (by omega)
      have a3 := hall 7 (by omega)
      obtain ⟨a, ⟨⟨x0, x1, x2⟩, x3⟩⟩ := o
      obtain ⟨a', ⟨⟨y0, y1, y2⟩, y3⟩⟩ := o'
      simp only [ansV, prN, lineO, fldL] at a0 a1 a2 a3
      simp_all
  have hoo : o = o' := by
    obtain ⟨a, b⟩ := o
    obtain ⟨a', b'⟩ := o'
    simp only at ha hb
    rw [ha, hb]
  rw [hoo] at hlt
  unfold cmpO at hlt
  rw [cmpK_self] at hlt
  cases hlt
end Wb
/- LetterAsks. -/
namespace Wb
open Go Go.Proofs Enc Row
set_option linter.unusedSimpArgs false
set_option linter.unusedVariables false
set_option maxRecDepth 20000
set_option maxHeartbeats 8000000
noncomputable def E56t : List (Nat × Spec) := [(52, t52), (51, s46), (49, sSpin), (53, t53)] ++ E55t
theorem E56t_ok : AllOK E56t := ⟨⟨t52_ok, Tryz.call52⟩, ⟨s46_ok, Tryz.call51⟩, ⟨s43_ok, Tryz.call49⟩, ⟨t53_ok, Tryz.call53⟩, E55t_ok⟩
noncomputable def E56 : Env := mkE E56t []
theorem E56_ok : EnvOK Tryz.prog E56 := envOK E56t_ok trivial
theorem E56_ti {t : Nat} : E56.ti t = ti t := rfl
theorem E56_q0 : (E56).eqt 26 = true := rfl
theorem E56_q1 : (E56).eqt 65 = true := rfl
theorem E56_q2 : (E56).eqt 77 = true := rfl
theorem E56_q3 : (E56).eqt 79 = true := rfl
theorem E56_q4 : (E56).eqt 182 = true := rfl
theorem E56_q5 : (E56).eqt 243 = true := rfl
theorem E56_q6 : (E56).keyt 3 = true := rfl
theorem E56_q7 : (E56).keyt 114 = true := rfl
theorem E56_q8 : (E56).keyt 169 = true := rfl
theorem E56_q9 : (E56).keyt 180 = true := rfl
theorem E56_q10 : (E56).keyt 193 = true := rfl
theorem E56_q11 : (E56).glob 0 = some [.fn 219 [] [], .fn 220 [] [], .fn 216 [] [], .fn 221 [] []] := rfl
theorem E56_q12 : (E56).glob 1 = some [.fn 222 [] [], .fn 223 [] []] := rfl
attribute [go_sem] E56_ti E56_q0 E56_q1 E56_q2 E56_q3 E56_q4 E56_q5 E56_q6 E56_q7 E56_q8 E56_q9 E56_q10 E56_q11 E56_q12
theorem climbs_inc {n : Nat} : ∀ {f : Nat} {ks : List Nat} {b : Int}, Inc f n ks → b < f → climbsF (n : Int) b (natI ks) = true
  | _, [], _, _, _ => rfl
  | f, k :: ks, b, h, hb => by
    have h1 := h.1
    have h2 := h.2.1
    have e1 : decide (b < (k : Int)) = true := decide_eq_true (by omega)
    have e2 : decide ((k : Int) < (n : Int)) = true := decide_eq_true (by omega)
    simp only [natI, List.map_cons, climbsF, e1, e2, Bool.true_and]
    exact climbs_inc (b := (k : Int)) h.2.2 (by omega)
theorem natI_len (ks : List Nat) : (natI ks).length = ks.length := by simp [natI]
theorem natI_at {ks : List Nat} {i : Nat} (h : i < ks.length) : (natI ks).getD i 0 = ((ks.getD i 0 : Nat) : Int) := by simp [natI, h]
theorem prN_at {ks : List Nat} {i : Nat} (h : i < ks.length) : (ks.map prN).getD i default = prN (ks.getD i 0) := by simp [h]
theorem natI_succ {ks : List Nat} {i : Nat} (h : i < ks.length) : natI (ks.take (i + 1)) = natI (ks.take i) ++ [((ks.getD i 0 : Nat) : Int)] := by
  have e : ks.getD i 0 = ks[i] := by simp [h]
  unfold natI
  rw [e, List.take_succ_eq_append_getElem h, List.map_append]; rfl
theorem app_oneF {E : Env} {K K2 : Key} {t e sz v2 : Nat} {p : PV} {rs : List (List PV)} {row : List PV} {ex ro : Bool} {q : Prop} {Q : PV → Heap → List Key → List Key → Prop} {H : Heap} (hq : q) (hk : (E.ti t).kind = .slice e) (hsz : (E.ti e).size = sz) (h0 : 0 < sz) (hb0 : 0 < (E.ti e).bytes)
    (hx : H K2 = some (.rows sz [row] v2 ro)) (hO : Own H (fun K' => K' = K) p sz rs) (hb : (rs.length + 1) * (E.ti e).bytes ≤ 35184372088832) (hrs : ∀ row ∈ rs, row.length = sz) (hrow : row.length = sz ∧ cells1 row = true)
    (hQ : ∀ p' H' R', (R' = [K2] ∨ R' = [K, K2]) → Own H' (fun K' => K' = K) p' sz (rs ++ [row]) → (∀ K', K' ≠ K → H' K' = H K') → Q p' H' R' [K]) : (app E K t p (.sref K2 v2 sz 1 ex)).wpF q Q H [] [] := by
  subst hsz
  unfold app
  rw [hk]
  refine ⟨fun _ => h0, ?_⟩
  simp only [rowsOf, frz, Prg.wpF, hx]
  refine ⟨fun _ => by simp, fun _ => fun r hr => by rw [List.mem_singleton.1 hr]; exact hrow, ?_⟩
  rcases hO with ⟨rfl, rfl⟩ | ⟨K', v, rfl, rfl, h2⟩
  · refine ⟨fun _ => ⟨rfl, .inl (List.cons_ne_nil _ _), fun row h => (by cases h), h0, hb0, hb⟩, fun v => rfl, ?_⟩
    refine hQ _ _ _ (.inl rfl) (.inr ⟨K, verOf H K + 1, rfl, by simp, by simp [Heap.set]⟩) fun K' hK' => set_at_ne _ _ hK'
  · simp only [Prg.wpF, h2]
    refine ⟨fun _ => ⟨trivial, trivial, trivial, trivial, h0, hb0, hb⟩, fun _ => trivial, hq, ?_⟩
    exact hQ _ _ _ (.inr rfl) (.inr ⟨K', v + 1, rfl, by simp, by simp [Heap.set]⟩) fun K2 hK2 => set_at_ne _ _ hK2
theorem erase_map {α β : Type} (f : α → β) : ∀ (l : List α) (i : Nat), (l.map f).eraseIdx i = (l.eraseIdx i).map f
  | [], _ => rfl
  | _ :: _, 0 => rfl
  | a :: l, i + 1 => by simp only [List.map_cons, List.eraseIdx_cons_succ]; rw [erase_map f l i]
theorem dec_lss3 (x : Lett) (S : List Ord2) (ex : Bool) : (dec (.sl (S.map (rowO x)) ex) : Option (List (List Line))) = some (S.map (linesO x)) := by
  have e : S.map (rowO x) = (S.map (linesO x)).map lsRow := by rw [List.map_map]; rfl
  rw [e]; exact dec_lss2 _ _
theorem asks_walk (x : Lett) (hx : LOk x) (set : Int) : Fn E56 0 11 Tryz.f11 (Tryz.f11.body.getD .skip) [.agg (encLt x), .int .i64 set] (.bool true) := by
  unfold Fn Tryz.f11
  have hxl := eq_true hx
  have hx0 := encLt_lit x
  cases hk : lettOk x with
  | false =>
    have h1 : ordersPV x = .tup [.sl [] true, .int .i64 20] := by unfold ordersPV; rw [hk]; rfl
    have h2 : askPV2 x = .tup [.sl [] true, .int .i64 20] := by unfold askPV2; rw [hk]; rfl
    simp only [go_sem, @ct E56 13 t13 rfl, t13, @ct E56 14 t14 rfl, t14, @ct E56 15 t15 rfl, t15, @ct E56 24 t24 rfl, t24, hx0, lett_eta, callSpec, hxl, hk, h1, h2]
  | true =>
    have hG := lett_good hk
    by_cases h0 : sortedM x = []
    · have h1 : ordersPV x = .tup [.sl [] true, .int .i64 4] := by unfold ordersPV; rw [if_pos hk, if_pos h0]
      have h2 : askPV2 x = .tup [.sl [] true, .int .i64 4] := by unfold askPV2; rw [if_pos hk, if_pos h0]
      simp only [go_sem, @ct E56 13 t13 rfl, t13, @ct E56 14 t14 rfl, t14, @ct E56 15 t15 rfl, t15, @ct E56 24 t24 rfl, t24, hx0, lett_eta, callSpec, hxl, hk, h1, h2]
    · by_cases h64 : 64 < (sortedM x).length
      · have h1 : ordersPV x = .tup [.sl [] true, .int .i64 6] := by unfold ordersPV; rw [if_pos hk, if_neg h0, if_pos h64]
        have h2 : askPV2 x = .tup [.sl [] true, .int .i64 6] := by unfold askPV2; rw [if_pos hk, if_neg h0, if_pos h64]
        simp only [go_sem, @ct E56 13 t13 rfl, t13, @ct E56 14 t14 rfl, t14, @ct E56 15 t15 rfl, t15, @ct E56 24 t24 rfl, t24, hx0, lett_eta, callSpec, hxl, hk, h1, h2]
      · have h1 := ordersPV_ok hk h0 h64
        have hN := hG.n
        obtain ⟨ks, k1, k2, k3, k4⟩ := ask_spec (S := sortedM x) (most := x.lines.length * 4) ⟨_, by have := Inc.range (x.lines.length * 4) 0; rwa [Nat.zero_add] at this, apart_all hG⟩
        have h2 : askPV2 x = .tup [.sl ((ks.map prN).map encA) true, .int .i64 0] := by unfold askPV2; rw [if_pos hk, if_neg h0, if_neg h64, k2]
        have hpos : 0 < (sortedM x).length := List.length_pos_iff.2 h0
        generalize hS : sortedM x = S at *
        have hkl := k1.len (Nat.zero_le _)
        have b4 : ((S.length : Int) == 0) = false := by simpa using (by omega : ¬ (S.length : Int) = 0)
        have hone : ((ks.length : Int) == 0) = ((S.length : Int) == 1) := by
          by_cases h : ks.length = 0
          · have h3 : ks = [] := List.eq_nil_of_length_eq_zero h
            rw [h3] at k3
            have := apart_nil.1 k3
            have e1 : (S.length : Int) = 1 := by omega
            rw [e1, h]; rfl
          · have h3 := k4 [] trivial (.inl (by simp only [List.length_nil]; omega))
            have e1 : ¬ S.length ≤ 1 := fun h5 => by
              have := apart_nil.2 h5
              rw [List.map_nil, this] at h3; cases h3
            have e2 : ¬ (ks.length : Int) = 0 := by omega
            have e3 : ¬ (S.length : Int) = 1 := by omega
            rw [beq_eq_false_iff_ne.2 e2, beq_eq_false_iff_ne.2 e3]
        have hlen : (S.map (rowO x)).length = S.length := List.length_map ..
        have hone2 : (((ks.length : Int) == 0) != ((S.length : Int) == 1)) = false := by rw [hone]; simp
        simp only [go_sem, @ct E56 13 t13 rfl, t13, @ct E56 14 t14 rfl, t14, @ct E56 15 t15 rfl, t15, @ct E56 24 t24 rfl, t24, hx0, lett_eta, callSpec, hxl, hk, h1, h2, List.length_map, b4, hone2]
        have hAl : (ks.map prN).length = ks.length := List.length_map ..
        refine ev_loopS [1, 2, 5, 7, 4] (fun y : Nat × PV => [(9, y.2), (10, .int .i64 y.1)]) (fun y H => y.1 ≤ ks.length ∧ H ([], 11000000) = some (.cells (encLt x) 1 false) ∧ Own H (fun K => K = ([], 11013014)) y.2 1 (il (natI (ks.take y.1)))) (fun y => ks.length - y.1) (0, .sl [] true) ?_ ⟨Nat.zero_le _, ?_, .nil⟩ ?_
        · simp only [go_sem, Int.natCast_zero]
        · simp only [go_sem, hx0]
        · simp only [go_sem, List.length_map]
          rintro K ⟨i, p⟩ H ⟨hi, i0, i1⟩ hK hE
          simp only at hi i0 i1
          dsimp only
          obtain ⟨hT, hC, hP, hV, hU⟩ := OwnTaint i1
          rw [condK_bool]
          refine ⟨fun h => ?_, fun h => ?_⟩
          · have hi' : i < ks.length := by have := of_decide_eq_true h; omega
            have hii : ((i : Int) < (ks.length : Int)) = True := eq_true (by omega)
            have hi0 : (0 ≤ (i : Int)) = True := eq_true (by omega)
            have w2 : IntKind.i64.wrap ((i : Int) + 1) = (i : Int) + 1 := wrap_id (by omega)
            have hkm : ks.getD i 0 < x.lines.length * 4 := (k1.lt _ (getD_mem 0 hi')).2
            have hsu := natI_succ hi'
            have hpa := prN_at hi'
            generalize hkk : ks.getD i 0 = kk at hkm hsu hpa
            have hen : encA (prN kk) = [.int .i64 ((kk / 4 : Nat) : Int), .int .i64 ((kk % 4 : Nat) : Int)] := rfl
            have e1 : 4 * ((kk / 4 : Nat) : Int) + ((kk % 4 : Nat) : Int) = (kk : Int) := by omega
            have e2 : (0 ≤ ((kk / 4 : Nat) : Int)) = True := eq_true (by omega)
            have e3 : (((kk / 4 : Nat) : Int) ≤ (x.lines.length : Int) - 1) = True := eq_true (by omega)
            have e4 : (0 ≤ ((kk % 4 : Nat) : Int)) = True := eq_true (by omega)
            have e5 : (((kk % 4 : Nat) : Int) ≤ 3) = True := eq_true (by omega)
            have e6 : IntKind.i64.wrap ((x.lines.length : Int) - 1) = (x.lines.length : Int) - 1 := wrap_id (by omega)
            have e7 : IntKind.i64.wrap (4 * ((kk / 4 : Nat) : Int)) = 4 * ((kk / 4 : Nat) : Int) := wrap_id (by omega)
            have e8 : IntKind.i64.wrap (kk : Int) = (kk : Int) := wrap_id (by omega)
            have hnl : (natI (ks.take i)).length = i := by rw [natI_len, List.length_take]; omega
            generalize ((kk / 4 : Nat) : Int) = a at *
            generalize ((kk % 4 : Nat) : Int) = b at *
            simp only [go_sem, @ct E56 45 sTween rfl, sTween, callSpec, i0, hx0, hii, hi0, Int.toNat_natCast, List.length_map, getD_mapN encA (ks.map prN) i _ (by rw [hAl]; exact hi'), hpa, hen, e2, e3, e4, e5, e6, e7, e8, e1, hT, hC, hP, hV, hU]
            refine app_oneF trivial rfl rfl (by decide) (by decide) (set_at_eq _ _ _) (i1.frame fun K hK => set_at_ne _ _ (by rw [hK]; simp)) (by rw [il_length, hnl]; show (i + 1) * 8 ≤ _; omega) (il_row _) ⟨rfl, rfl⟩ fun p' H' R' hR hO hF => ?_
            obtain ⟨hT', hC', hP', hV', hU'⟩ := OwnTaint hO
            rcases hR with rfl | rfl
            all_goals
              simp only [go_sem, hT', hC', hP', hV', hU', binds_data]
              refine hK (i + 1, p') _ _ ?_ ⟨hi', (hF _ (by simp)).trans ((set_at_ne _ _ (by simp)).trans i0), ?_⟩ (by simp only; omega)
              · simp only [go_sem, w2, Int.natCast_add, Int.natCast_one]
              · simp only [hsu, il_append]; exact hO
          · have hi' : i = ks.length := by have : ¬ ((i : Int) < (ks.length : Int)) := by simpa using h
                                           omega
            subst hi'
            refine hE _ _ _ (by simp) ?_
            rw [List.take_length] at i1
            generalize hPp : p = pl at i1
            have e10 : IntKind.i64.wrap (4 * (x.lines.length : Int)) = ((x.lines.length * 4 : Nat) : Int) := by rw [wrap_id (by omega)]; omega
            simp only [go_sem, i0, hx0, List.length_map, e10]
            refine ev_loopS [1, 2, 5, 7, 9, 11, 4] (fun i : Nat => [(12, .int .i64 i)]) (fun i H => i ≤ S.length ∧ H ([], 11000000) = some (.cells (encLt x) 1 false) ∧ Own H (fun K => K = ([], 11013014)) pl 1 (il (natI ks))) (fun i => S.length - i) 0 ?_ ⟨Nat.zero_le _, i0, i1⟩ ?_
            · simp only [go_sem, Int.natCast_zero, hPp]
            · simp only [go_sem, List.length_map]
              intro K2 i H2 ⟨hi2, j0, j1⟩ hK2 hE2
              rw [condK_bool]
              refine ⟨fun h => ?_, fun h => ?_⟩
              · have hi' : i < S.length := by have := of_decide_eq_true h; omega
                have hii : ((i : Int) < (S.length : Int)) = True := eq_true (by omega)
                have hi0 : (0 ≤ (i : Int)) = True := eq_true (by omega)
                have w2 : IntKind.i64.wrap ((i : Int) + 1) = (i : Int) + 1 := wrap_id (by omega)
                generalize hO : S.getD i default = o
                have hrow : rowO x o = [.sl ((linesO x o).map encL) true] := rfl
                have hll := linesO_len hN o
                have b5 : ((x.lines.length : Int) != (x.lines.length : Int)) = false := by simp
                simp only [go_sem, j0, hx0, hii, hi0, Int.toNat_natCast, List.length_map, getD_mapN (rowO x) S i _ hi', hO, hrow, hll, b5]
                refine hK2 (i + 1) _ _ ?_ ⟨by omega, j0, j1⟩ (by omega)
                simp only [go_sem, w2, Int.natCast_add, Int.natCast_one]
              · refine hE2 _ _ _ (by simp) ?_
                obtain ⟨ex1, fk1, hz1, hz2, hks1⟩ := j1.frz
                obtain ⟨hT2, hC2, hP2, hV2, hU2⟩ := OwnTaint j1
                have hbs : big (natI ks).length = True := eq_true (by rw [natI_len]; unfold big; omega)
                have hbS : big S.length = True := eq_true (by unfold big; omega)
                have hbk : big ks.length = True := eq_true (by unfold big; omega)
                have hcl : climbsF ((x.lines.length * 4 : Nat) : Int) (-1) (natI ks) = true := climbs_inc (by simpa using k1) (by decide)
                have hpin : ∀ p ∈ ks.map prN, (0 ≤ p.line ∧ p.line < x.lines.length) ∧ 0 ≤ p.field ∧ p.field ≤ 3 := fun p hp => by
                  obtain ⟨k, hk, rfl⟩ := List.mem_map.1 hp
                  exact prN_in (by have := (k1.lt k hk).2; omega)
                have hpre : (∀ l ∈ S.map (linesO x), ∀ p ∈ ks.map prN, (0 ≤ p.line ∧ p.line < l.length) ∧ 0 ≤ p.field ∧ p.field ≤ 3) = True := eq_true fun l hl p hp => by
                  obtain ⟨o, _, rfl⟩ := List.mem_map.1 hl
                  rw [linesO_len hN o]; exact hpin p hp
                have hpa : partsB (S.map (linesO x)) (ks.map prN) (-1) = true := by
                  rw [parts_all hN (by rw [hAl]; omega) (fun p hp => (hpin p hp).1)]; exact k3
                simp only [go_sem, @ct E56 51 s46 rfl, s46, @ct E56 52 t52 rfl, t52, callSpec, hT2, hC2, hU2, hz1, hz2, dec_il, hbs, hcl, dec_lss3, dec_prs, List.length_map, hbS, hbk, hpre, hpa]
                refine ev_loopS [1, 5, 7, 9, 11, 4] (fun i : Nat => [(13, .int .i64 i)]) (fun i H => i ≤ ks.length ∧ Own H (fun K => K = ([], 11013014)) pl 1 (il (natI ks))) (fun i => ks.length - i) 0 ?_ ⟨Nat.zero_le _, j1⟩ ?_
                · simp only [go_sem, Int.natCast_zero]
                · simp only [go_sem, List.length_map]
                  intro K3 i H3 ⟨hi3, l1⟩ hK3 hE3
                  rw [condK_bool]
                  refine ⟨fun h => ?_, fun h => ?_⟩
                  · have hi' : i < ks.length := by have := of_decide_eq_true h; omega
                    have w2 : IntKind.i64.wrap ((i : Int) + 1) = (i : Int) + 1 := wrap_id (by omega)
                    have her : (ks.map prN).eraseIdx i = (ks.eraseIdx i).map prN := erase_map prN ks i
                    have hpb : partsB (S.map (linesO x)) (ks.map prN) (i : Int) = false := parts_but hN (by rw [hAl]; omega) (fun p hp => (hpin p hp).1) (by rw [hAl]; exact hi') (by
                      rw [her]; exact k4 _ (k1.erase i) (.inl (by rw [List.length_eraseIdx_of_lt hi']; omega)))
                    simp only [go_sem, @ct E56 52 t52 rfl, t52, callSpec, dec_lss3, dec_prs, List.length_map, hbS, hbk, hpre, hpb]
                    refine hK3 (i + 1) _ _ ?_ ⟨by omega, l1⟩ (by omega)
                    simp only [go_sem, w2, Int.natCast_add, Int.natCast_one]
                  · refine hE3 _ _ _ (by simp) ?_
                    obtain ⟨W, hW, hW1, hW2⟩ : ∃ W, shft true .i64 1 ((x.lines.length * 4 : Nat) : Int) = W ∧ 1 ≤ W ∧ W ≤ 256 := by
                      obtain e | e : x.lines.length = 1 ∨ x.lines.length = 2 := by omega
                      · rw [e]; exact ⟨16, by decide, by decide, by decide⟩
                      · rw [e]; exact ⟨256, by decide, by decide, by decide⟩
                    have hWb : (W ≤ 9223372036854775807) = True := eq_true (by omega)
                    have hp0 : (0 ≤ ((x.lines.length * 4 : Nat) : Int)) = True := eq_true (by omega)
                    have hp62 : (((x.lines.length * 4 : Nat) : Int) ≤ 62) = True := eq_true (by omega)
                    obtain ⟨js, hjs, hji⟩ : ∃ js : List Nat, ofI (spinF set W) (x.lines.length * 4) = natI js ∧ Inc 0 (x.lines.length * 4) js := by
                      refine ⟨(List.range (x.lines.length * 4)).filter fun (k : Nat) => inF (spinF set W) (k : Int), rfl, ?_⟩
                      have := Inc.filter (fun (k : Nat) => inF (spinF set W) (k : Int)) (x.lines.length * 4) 0
                      rw [Nat.zero_add] at this
                      rw [List.range_eq_range']; exact this
                    have hjl := hji.len (Nat.zero_le _)
                    have hl9 := fun (t e : Nat) (ht : (E56.ti t).kind = .slice e) => own_len l1 ht
                    obtain ⟨ex2, fk2, hy1, hy2, hks2⟩ := l1.frz
                    obtain ⟨hT3, hC3, hP3, hV3, hU3⟩ := OwnTaint l1
                    have hbj : big (natI js).length = True := eq_true (by rw [natI_len]; unfold big; omega)
                    have h47 := hl9 47 3 rfl
                    simp only [go_sem, @ct E56 49 sSpin rfl, sSpin, @ct E56 53 t53 rfl, t53, @ct E56 54 t54 rfl, t54, callSpec, hW, hWb, hp0, hp62, Int.toNat_natCast, hjs, hT3, hC3, hU3, hy1, hy2, h47, il_length, natI_len, dec_il, hbj, hbs]
                    refine ⟨fun _ => ⟨by unfold big; omega, by unfold big; omega⟩, fun h1 h2 => ⟨h1, h2⟩, ?_⟩
                    rw [condK_bool]
                    refine ⟨fun hc => ?_, fun hc => ?_⟩
                    · simp only [go_sem, @ct E56 14 t14 rfl, t14]
                    · simp only [Bool.or_eq_false_iff, decide_eq_false_iff_not, Bool.and_eq_false_iff, beq_eq_false_iff_ne, Bool.not_eq_false'] at hc
                      have hap : apartB S (js.map prN) = false := k4 js hji (by
                        rcases hc.2 with h5 | h5
                        · exact .inl (by omega)
                        · by_cases h6 : js.length = ks.length
                          · exact .inr ⟨h6, h5⟩
                          · exact .inl (by omega))
                      simp only [go_sem]
                      refine ev_loopS [7, 14, 4] (fun y : Nat × PV => [(15, y.2), (16, .int .i64 y.1)]) (fun y H => y.1 ≤ js.length ∧ Own H (fun K => K = ([], 11034013)) y.2 2 (((js.take y.1).map prN).map encA)) (fun y => js.length - y.1) (0, .sl [] true) ?_ ⟨Nat.zero_le _, .nil⟩ ?_
                      · simp only [go_sem, Int.natCast_zero]
                      · simp only [go_sem, il_length, natI_len]
                        rintro K4 ⟨i, p4⟩ H4 ⟨hi4, m1⟩ hK4 hE4
                        simp only at hi4 m1
                        dsimp only
                        obtain ⟨hT, hC, hP, hV, hU⟩ := OwnTaint m1
                        rw [condK_bool]
                        refine ⟨fun h => ?_, fun h => ?_⟩
                        · have hi' : i < js.length := by have := of_decide_eq_true h; omega
                          have hii : ((i : Int) < (js.length : Int)) = True := eq_true (by omega)
                          have hi0 : (0 ≤ (i : Int)) = True := eq_true (by omega)
                          have w2 : IntKind.i64.wrap ((i : Int) + 1) = (i : Int) + 1 := wrap_id (by omega)
                          have hkm := (hji.lt _ (getD_mem 0 hi')).2
                          have hja := natI_at hi'
                          have htk : (js.take (i + 1)).map prN = (js.take i).map prN ++ [prN (js.getD i 0)] := by
                            have e : js.getD i 0 = js[i] := by simp [hi']
                            rw [e, List.take_succ_eq_append_getElem hi', List.map_append]; rfl
                          generalize hkk : js.getD i 0 = kk at hkm hja htk
                          have hen : encA (prN kk) = [.int .i64 ((kk / 4 : Nat) : Int), .int .i64 ((kk % 4 : Nat) : Int)] := rfl
                          have e1 : (kk : Int).tdiv 4 = ((kk / 4 : Nat) : Int) := rfl
                          have e2 : (kk : Int).tmod 4 = ((kk % 4 : Nat) : Int) := rfl
                          have e3 : IntKind.i64.wrap ((kk / 4 : Nat) : Int) = ((kk / 4 : Nat) : Int) := wrap_id (by omega)
                          have h40 : ((4 : Int) ≠ 0) = True := eq_true (by decide)
                          have hnl : (((js.take i).map prN).map encA).length = i := by simp; omega
                          simp only [go_sem, hii, hi0, Int.toNat_natCast, il_length, natI_len, il_getD, hja, e1, e2, e3, h40, hT, hC, hP, hV, hU]
                          refine app_oneF trivial rfl rfl (by decide) (by decide) (set_at_eq _ _ _) (m1.frame fun K hK => set_at_ne _ _ (by rw [hK]; simp)) (by rw [hnl]; show (i + 1) * 16 ≤ _; omega) (fun row hr => by obtain ⟨a, _, rfl⟩ := List.mem_map.1 hr; rfl) ⟨rfl, rfl⟩ fun p' H' R' hR hO hF => ?_
                          obtain ⟨hT', hC', hP', hV', hU'⟩ := OwnTaint hO
                          rcases hR with rfl | rfl
                          all_goals
                            simp only [go_sem, hT', hC', hP', hV', hU', binds_data]
                            refine hK4 (i + 1, p') _ _ ?_ ⟨hi', ?_⟩ (by simp only; omega)
                            · simp only [go_sem, w2, Int.natCast_add, Int.natCast_one]
                            · simp only [htk, List.map_append, List.map_cons, List.map_nil, hen]; simpa [List.map_append] using hO
                        · have hi' : i = js.length := by have : ¬ ((i : Int) < (js.length : Int)) := by simpa using h
                                                         omega
                          subst hi'
                          refine hE4 _ _ _ (by simp) ?_
                          rw [List.take_length] at m1
                          obtain ⟨ex3, fk3, hx1, hx2, hks3⟩ := m1.frz
                          obtain ⟨hT4, hC4, hP4, hV4, hU4⟩ := OwnTaint m1
                          have hbj2 : big js.length = True := eq_true (by unfold big; omega)
                          have hjin : ∀ p ∈ js.map prN, (0 ≤ p.line ∧ p.line < x.lines.length) ∧ 0 ≤ p.field ∧ p.field ≤ 3 := fun p hp => by
                            obtain ⟨k, hk, rfl⟩ := List.mem_map.1 hp
                            exact prN_in (by have := (hji.lt k hk).2; omega)
                          have hpre2 : (∀ l ∈ S.map (linesO x), ∀ p ∈ js.map prN, (0 ≤ p.line ∧ p.line < l.length) ∧ 0 ≤ p.field ∧ p.field ≤ 3) = True := eq_true fun l hl p hp => by
                            obtain ⟨o, _, rfl⟩ := List.mem_map.1 hl
                            rw [linesO_len hN o]; exact hjin p hp
                          have hpj : partsB (S.map (linesO x)) (js.map prN) (-1) = false := by
                            rw [parts_all hN (by rw [List.length_map]; omega) (fun p hp => (hjin p hp).1)]; exact hap
                          simp only [go_sem, @ct E56 52 t52 rfl, t52, @ct E56 14 t14 rfl, t14, callSpec, hT4, hC4, hU4, hx1, hx2, dec_lss3, dec_prs, List.length_map, hbS, hbj2, hpre2, hpj]
end Wb
