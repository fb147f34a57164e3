import Derived.Test.YticjjabioiilfaaGreatDoorV
import Derived.Test.YticjjabioiilfaaGreatDoorN
set_option linter.unusedVariables false
set_option linter.unusedSimpArgs false
/- The first of the shortest questions: plain. -/
namespace Wb
open Go Go.Proofs Enc Row
set_option linter.unusedSimpArgs false
set_option linter.unusedVariables false
set_option maxRecDepth 20000
set_option maxHeartbeats 8000000
/-- Rising numbers, from one on and below another one. -/
def Inc : Nat → Nat → List Nat → Prop
  | _, _, [] => True
  | f, m, k :: ks => f ≤ k ∧ k < m ∧ Inc (k + 1) m ks
def natI (l : List Nat) : List Int := l.map fun (k : Nat) => (k : Int)
theorem Inc.mono {f f' m : Nat} (h : f' ≤ f) : ∀ {ks : List Nat}, Inc f m ks → Inc f' m ks
  | [], _ => trivial
  | _ :: _, hk => ⟨by have := hk.1; omega, hk.2⟩
theorem Inc.len : ∀ {f m : Nat} {ks : List Nat}, Inc f m ks → f ≤ m → f + ks.length ≤ m
  | _, _, [], _, hf => by simpa using hf
  | f, m, k :: ks, hk, hf => by
    have := hk.2.2.len (by have := hk.2.1; omega)
    have := hk.1
    simp only [List.length_cons]; omega
theorem Inc.lt : ∀ {f m : Nat} {ks : List Nat}, Inc f m ks → ∀ k ∈ ks, f ≤ k ∧ k < m
  | _, _, [], _, _, h => by cases h
  | f, m, a :: ks, hk, k, h => by
    rcases List.mem_cons.1 h with e | e
    · subst e; exact ⟨hk.1, hk.2.1⟩
    · have := hk.2.2.lt k e
      have := hk.1
      omega
theorem Inc.erase : ∀ {f m : Nat} {ks : List Nat} (i : Nat), Inc f m ks → Inc f m (ks.eraseIdx i)
  | _, _, [], _, h => by simpa using h
  | f, m, k :: ks, 0, hk => hk.2.2.mono (by have := hk.1; omega)
  | f, m, k :: ks, i + 1, hk => ⟨hk.1, hk.2.1, hk.2.2.erase i⟩
theorem Inc.range : ∀ (n f : Nat), Inc f (f + n) (List.range' f n)
  | 0, f => trivial
  | n + 1, f => by
    rw [List.range'_succ]
    refine ⟨Nat.le_refl _, by omega, ?_⟩
    have := Inc.range n (f + 1)
    rwa [show f + 1 + n = f + (n + 1) by omega] at this
theorem Inc.filter (p : Nat → Bool) : ∀ (n f : Nat), Inc f (f + n) ((List.range' f n).filter p)
  | 0, f => trivial
  | n + 1, f => by
    have ih := Inc.filter p n (f + 1)
    rw [show f + 1 + n = f + (n + 1) by omega] at ih
    rw [List.range'_succ, List.filter_cons]
    split
    · exact ⟨Nat.le_refl _, by omega, ih⟩
    · exact ih.mono (by omega)
theorem choose_spec (S : List Ord2) (most : Nat) : ∀ (n : Nat) (q : List Pr) (f : Nat),
    (chooseM S most n q f = none → ∀ ks, Inc f most ks → ks.length = n → apartB S (q ++ ks.map prN) = false) ∧
    ∀ r, chooseM S most n q f = some r → ∃ ks, Inc f most ks ∧ ks.length = n ∧ r = q ++ ks.map prN ∧ apartB S r = true ∧
      ∀ js, Inc f most js → js.length = n → aheadB (natI js) (natI ks) = true → apartB S (q ++ js.map prN) = false
  | 0, q, f => by
    unfold chooseM
    constructor
    · intro h ks _ hl
      obtain rfl := List.eq_nil_of_length_eq_zero hl
      split at h
      · cases h
      · rename_i h1; simpa using h1
    · intro r h
      split at h
      · rename_i h1
        cases h
        refine ⟨[], trivial, rfl, by simp, h1, fun js _ hl ha => ?_⟩
        obtain rfl := List.eq_nil_of_length_eq_zero hl
        exact absurd ha (by decide)
      · cases h
  | n + 1, q, f => by
    unfold chooseM
    constructor
    · intro h ks hk hl
      match ks, hk, hl with
      | k :: ks, hk, hl =>
        have hm : k ∈ List.range' f (most - f) := List.mem_range'_1.2 ⟨hk.1, by have := hk.2.1; have := hk.1; omega⟩
        have h1 := List.findSome?_eq_none_iff.1 h k hm
        have := (choose_spec S most n (q ++ [prN k]) (k + 1)).1 h1 ks hk.2.2 (by simpa using hl)
        simpa using this
    · intro r h
      obtain ⟨l1, k, l2, e, hk, hb⟩ := List.findSome?_eq_some_iff.1 h
      obtain ⟨ks, i1, i2, i3, i4, i5⟩ := (choose_spec S most n (q ++ [prN k]) (k + 1)).2 r hk
      have hm : k ∈ List.range' f (most - f) := by rw [e]; simp
      have hm' := List.mem_range'_1.1 hm
      refine ⟨k :: ks, ⟨hm'.1, by omega, i1⟩, by simp [i2], by simp [i3], i4, fun js hj hl ha => ?_⟩
      match js, hj, hl with
      | j :: js, hj, hl =>
        simp only [natI, List.map_cons, aheadB] at ha
        by_cases ejk : (j : Int) = (k : Int)
        · rw [if_pos ejk] at ha
          obtain rfl : j = k := by omega
          have := i5 js hj.2.2 (by simpa using hl) ha
          simpa using this
        · rw [if_neg ejk] at ha
          have hlt : j < k := by have := of_decide_eq_true ha; omega
          have hj1 : j ∈ List.range' f (most - f) := List.mem_range'_1.2 ⟨hj.1, by have := hj.2.1; have := hj.1; omega⟩
          have hs : (List.range' f (most - f)).Pairwise (· < ·) := List.pairwise_lt_range' ..
          rw [e] at hj1 hs
          have hj2 : j ∈ l1 := by
            rcases List.mem_append.1 hj1 with h1 | h1
            · exact h1
            · rcases List.mem_cons.1 h1 with h2 | h2
              · omega
              · have := (List.pairwise_cons.1 (List.pairwise_append.1 hs).2.1).1 j h2
                omega
          have := (choose_spec S most n (q ++ [prN j]) (j + 1)).1 (hb j hj2) js hj.2.2 (by simpa using hl)
          simpa using this
/-- The question that is told. -/
theorem ask_spec {S : List Ord2} {most : Nat} (hx : ∃ ks, Inc 0 most ks ∧ apartB S (ks.map prN) = true) :
    ∃ ks, Inc 0 most ks ∧ askL S most = ks.map prN ∧ apartB S (ks.map prN) = true ∧
      ∀ js, Inc 0 most js → (js.length < ks.length ∨ js.length = ks.length ∧ aheadB (natI js) (natI ks) = true) → apartB S (js.map prN) = false := by
  unfold askL askO
  cases h : (List.range' 0 (most + 1 - 0)).findSome? fun many => chooseM S most many [] 0 with
  | none =>
    obtain ⟨ks, h1, h2⟩ := hx
    have hl := h1.len (Nat.zero_le _)
    have h3 := List.findSome?_eq_none_iff.1 h ks.length (List.mem_range'_1.2 ⟨Nat.zero_le _, by omega⟩)
    have := (choose_spec S most ks.length [] 0).1 h3 ks h1 rfl
    rw [List.nil_append, h2] at this
    cases this
  | some r =>
    obtain ⟨l1, n, l2, e, hk, hb⟩ := List.findSome?_eq_some_iff.1 h
    obtain ⟨ks, i1, i2, i3, i4, i5⟩ := (choose_spec S most n [] 0).2 r hk
    rw [List.nil_append] at i3
    refine ⟨ks, i1, i3, by rw [← i3]; exact i4, fun js hj hl => ?_⟩
    rcases hl with hl | ⟨hl, ha⟩
    · have hs : (List.range' 0 (most + 1 - 0)).Pairwise (· < ·) := List.pairwise_lt_range' ..
      have hjl := hj.len (Nat.zero_le _)
      have hj1 : js.length ∈ List.range' 0 (most + 1 - 0) := List.mem_range'_1.2 ⟨Nat.zero_le _, by omega⟩
      rw [e] at hj1 hs
      have hj2 : js.length ∈ l1 := by
        rcases List.mem_append.1 hj1 with h1 | h1
        · exact h1
        · rcases List.mem_cons.1 h1 with h2 | h2
          · omega
          · have := (List.pairwise_cons.1 (List.pairwise_append.1 hs).2.1).1 _ h2
            omega
      have := (choose_spec S most js.length [] 0).1 (hb _ hj2) js hj rfl
      rwa [List.nil_append] at this
    · have := i5 js hj (by omega) ha
      rwa [List.nil_append] at this
end Wb
/- What a line can mean: plain. -/
namespace Wb
open Go Go.Proofs Enc Row
set_option linter.unusedSimpArgs false
set_option linter.unusedVariables false
set_option maxRecDepth 20000
set_option maxHeartbeats 8000000
theorem mem_tlN {f : Int → List Int} {first : Bool} {c m : Int} : ∀ {j : Nat}, j ≤ 10 → (m ∈ tlN f first c j ↔ ∃ d : Nat, 10 - j ≤ d ∧ d ≤ 9 ∧ inF c d = true ∧ (first = true → 0 < d) ∧ m ∈ f d)
  | 0, _ => by
    unfold tlN
    constructor
    · intro h; cases h
    · rintro ⟨d, h1, h2, _⟩; omega
  | j + 1, hj => by
    have ih := mem_tlN (f := f) (first := first) (c := c) (m := m) (j := j) (by omega)
    have e : (9 - (j : Int)) = ((9 - j : Nat) : Int) := by omega
    unfold tlN
    rw [List.mem_append, ih, e]
    constructor
    · rintro (h | ⟨d, h1, h2, h3⟩)
      · split at h
        · rename_i hc
          simp only [Bool.and_eq_true, Bool.or_eq_true, Bool.not_eq_true', decide_eq_true_eq] at hc
          refine ⟨9 - j, by omega, by omega, hc.1, fun hf => ?_, h⟩
          rcases hc.2 with h5 | h5
          · rw [hf] at h5; cases h5
          · omega
        · cases h
      · exact ⟨d, by omega, h2, h3⟩
    · rintro ⟨d, h1, h2, h3, h4, h5⟩
      by_cases hd : d = 9 - j
      · subst hd
        refine .inl ?_
        rw [if_pos]
        · exact h5
        · simp only [Bool.and_eq_true, Bool.or_eq_true, Bool.not_eq_true', decide_eq_true_eq]
          refine ⟨h3, ?_⟩
          cases first with
          | false => exact .inl rfl
          | true => exact .inr (by have := h4 rfl; omega)
      · exact .inr ⟨d, by omega, h2, h3, h4, h5⟩
/-- Digits that can be read, and the number that they write behind another one. -/
def readsP : List Int → Bool → Int → Int → Prop
  | [], _, n, m => m = n
  | c :: cs, first, n, m => ∃ d : Nat, d ≤ 9 ∧ inF c d = true ∧ (first = true → 0 < d) ∧ readsP cs false (10 * n + d) m
theorem mem_numsS : ∀ {cs : List Int} {first : Bool} {n m : Int}, m ∈ numsS cs first n ↔ readsP cs first n m
  | [], first, n, m => by unfold numsS readsP; exact List.mem_singleton
  | c :: cs, first, n, m => by
    unfold numsS readsP
    rw [mem_tlN (Nat.le_refl _)]
    constructor
    · rintro ⟨d, _, h2, h3, h4, h5⟩
      exact ⟨d, h2, h3, h4, mem_numsS.1 h5⟩
    · rintro ⟨d, h2, h3, h4, h5⟩
      exact ⟨d, by omega, h2, h3, h4, mem_numsS.2 h5⟩
/-- A line of a letter can mean a line of an order, by a book. -/
def Means (x : LLine) (is : Issue) (l : Line) : Prop := ∃ y ∈ is.entries, readsP x.digits true 0 y.number ∧ ∃ f ∈ y.sizes, sizeB x f = true ∧
  (∃ c : Nat, c < 4 ∧ inF x.colours c = true ∧ inF y.colours c = true ∧ l.item = ⟨y.good, f.size, (c : Int)⟩) ∧ x.mlo ≤ l.many ∧ l.many ≤ x.mhi
theorem cbit_and {a b : Int} (ha : 0 ≤ a ∧ a ≤ 15) (hb : 0 ≤ b ∧ b ≤ 15) {c : Nat} (hc : c < 4) : cbit (bits BinOp.and .i64 a b) c = (inF a c && inF b c) := by
  have key : ∀ a ∈ List.range 16, ∀ b ∈ List.range 16, ∀ c ∈ List.range 4, cbit (bits BinOp.and .i64 (a : Int) (b : Int)) (c : Int) = (inF (a : Int) (c : Int) && inF (b : Int) (c : Int)) := by decide +kernel
  obtain ⟨m, rfl⟩ := Int.eq_ofNat_of_zero_le ha.1
  obtain ⟨n, rfl⟩ := Int.eq_ofNat_of_zero_le hb.1
  exact key m (List.mem_range.2 (by omega)) n (List.mem_range.2 (by omega)) c (List.mem_range.2 hc)
theorem findI_once {l : List Entry} (hn : (l.map (·.number)).Nodup) {y : Entry} (hy : y ∈ l) : 0 ≤ findI (fun z => z.number == y.number) l 0 ∧ l.getD (findI (fun z => z.number == y.number) l 0).toNat default = y := by
  have key : ∀ (l : List Entry) (i : Nat), (l.map (·.number)).Nodup → y ∈ l → (i : Int) ≤ findI (fun z => z.number == y.number) l i ∧ l.getD ((findI (fun z => z.number == y.number) l i).toNat - i) default = y := fun l => by
    induction l with
    | nil => intro i _ h; cases h
    | cons a l ih =>
      intro i hd hm
      rw [List.map_cons, List.nodup_cons] at hd
      rw [findI]
      by_cases h : a.number = y.number
      · have e : a = y := by
          rcases List.mem_cons.1 hm with e | e
          · exact e.symm
          · exact absurd (List.mem_map.2 ⟨y, e, h.symm⟩) hd.1
        subst e
        simp
      · have hm' : y ∈ l := by
          rcases List.mem_cons.1 hm with e | e
          · subst e; exact absurd rfl h
          · exact e
        have hb : (a.number == y.number) = false := by simpa using h
        rw [if_neg (by rw [hb]; simp)]
        obtain ⟨h1, h2⟩ := ih (i + 1) hd.2 hm'
        refine ⟨by omega, ?_⟩
        generalize findI (fun z => z.number == y.number) l (i + 1) = v at h1 h2
        rw [show v.toNat - i = (v.toNat - (i + 1)) + 1 by omega, List.getD_cons_succ]
        exact h2
  have := key l 0 hn hy
  simpa using this
theorem mem_meanL {x : LLine} {is : Issue} {g : Int} (hx : GLine x) (hi : GIssue g is) {l : Line} : l ∈ meanL x is ↔ Means x is l := by
  unfold meanL Means
  rw [List.mem_flatMap]
  have hcol : ∀ y ∈ is.entries, l ∈ entL x y y.sizes ↔ ∃ f ∈ y.sizes, sizeB x f = true ∧
      (∃ c : Nat, c < 4 ∧ inF x.colours c = true ∧ inF y.colours c = true ∧ l.item = ⟨y.good, f.size, (c : Int)⟩) ∧ x.mlo ≤ l.many ∧ l.many ≤ x.mhi := fun y hy => by
    unfold entL
    rw [List.mem_flatMap]
    refine exists_congr fun f => and_congr_right fun hf => ?_
    unfold colL
    rw [List.mem_flatMap]
    have ge := hi.entries y hy
    constructor
    · rintro ⟨c, hc, h⟩
      have hc4 := List.mem_range.1 hc
      rw [cbit_and ⟨by have := hx.colours; omega, hx.colours.2⟩ ⟨by have := ge.colours; omega, ge.colours.2⟩ hc4] at h
      split at h
      · rename_i hcond
        simp only [Bool.and_eq_true] at hcond
        unfold manyL at h
        obtain ⟨m, hm, rfl⟩ := List.mem_map.1 h
        have hm' := List.mem_range.1 hm
        exact ⟨hcond.1, ⟨c, hc4, hcond.2.1, hcond.2.2, rfl⟩, by simp only; omega, by simp only; omega⟩
      · cases h
    · rintro ⟨h1, ⟨c, hc, h2, h3, h4⟩, h5, h6⟩
      refine ⟨c, List.mem_range.2 hc, ?_⟩
      rw [cbit_and ⟨by have := hx.colours; omega, hx.colours.2⟩ ⟨by have := ge.colours; omega, ge.colours.2⟩ hc, h1, h2, h3]
      rw [if_pos (by rfl)]
      unfold manyL
      refine List.mem_map.2 ⟨(l.many - x.mlo).toNat, List.mem_range.2 (by omega), ?_⟩
      obtain ⟨it, mn⟩ := l
      simp only at h4 h5 h6 ⊢
      rw [h4]
      congr 1
      omega
  constructor
  · rintro ⟨n, hn, h⟩
    unfold numL at h
    split at h
    · cases h
    · rename_i hneg
      have hb := findI_bound (fun y : Entry => y.number == n) is.entries 0
      have hlt : (findI (fun y : Entry => y.number == n) is.entries 0).toNat < is.entries.length := by omega
      have hnum : (is.entries.getD (findI (fun y : Entry => y.number == n) is.entries 0).toNat default).number = n := by
        rcases findI_find (fun y : Entry => y.number == n) is.entries 0 with ⟨_, h3⟩ | ⟨j, h3, h4, h5⟩
        · omega
        · have h6 := List.find?_some h4
          have h7 : (findI (fun y : Entry => y.number == n) is.entries 0).toNat = j := by omega
          rw [h7]; simpa using h6
      have hmem := getD_mem (default : Entry) hlt
      refine ⟨_, hmem, by rw [hnum]; exact mem_numsS.1 hn, (hcol _ hmem).1 h⟩
  · rintro ⟨y, hy, hr, hrest⟩
    obtain ⟨h1, h2⟩ := findI_once hi.numbers hy
    refine ⟨y.number, mem_numsS.2 hr, ?_⟩
    unfold numL
    rw [if_neg (by omega), h2]
    exact (hcol y hy).2 hrest
end Wb
