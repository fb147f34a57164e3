import Derived.Test.YticjjabioiilfaaGreatDoorN
set_option linter.unusedVariables false
set_option linter.unusedSimpArgs false
/- What a line can mean: plain. -/
namespace Wb
open Go Go.Proofs Enc Row
set_option linter.unusedSimpArgs false
set_option linter.unusedVariables false
set_option maxRecDepth 20000
set_option maxHeartbeats 8000000
theorem mem_tlN {f : Int → List Int} {first : Bool} {c m : Int} : ∀ {j : Nat}, j ≤ 10 → (m ∈ tlN f first c j ↔ ∃ d : Nat, 10 - j ≤ d ∧ d ≤ 9 ∧ inF c d = true ∧ (first = true → 0 < d) ∧ m ∈ f d)
  | 0, _ => by
    unfold tlN
    constructor
    · intro h; cases h
    · rintro ⟨d, h1, h2, _⟩; omega
  | j + 1, hj => by
    have ih := mem_tlN (f := f) (first := first) (c := c) (m := m) (j := j) (by omega)
    have e : (9 - (j : Int)) = ((9 - j : Nat) : Int) := by omega
    unfold tlN
    rw [List.mem_append, ih, e]
    constructor
    · rintro (h | ⟨d, h1, h2, h3⟩)
      · split at h
        · rename_i hc
          simp only [Bool.and_eq_true, Bool.or_eq_true, Bool.not_eq_true', decide_eq_true_eq] at hc
          refine ⟨9 - j, by omega, by omega, hc.1, fun hf => ?_, h⟩
          rcases hc.2 with h5 | h5
          · rw [hf] at h5; cases h5
          · omega
        · cases h
      · exact ⟨d, by omega, h2, h3⟩
    · rintro ⟨d, h1, h2, h3, h4, h5⟩
      by_cases hd : d = 9 - j
      · subst hd
        refine .inl ?_
        rw [if_pos]
        · exact h5
        · simp only [Bool.and_eq_true, Bool.or_eq_true, Bool.not_eq_true', decide_eq_true_eq]
          refine ⟨h3, ?_⟩
          cases first with
          | false => exact .inl rfl
          | true => exact .inr (by have := h4 rfl; omega)
      · exact .inr ⟨d, by omega, h2, h3, h4, h5⟩
/-- Digits that can be read, and the number that they write behind another one. -/
def readsP : List Int → Bool → Int → Int → Prop
  | [], _, n, m => m = n
  | c :: cs, first, n, m => ∃ d : Nat, d ≤ 9 ∧ inF c d = true ∧ (first = true → 0 < d) ∧ readsP cs false (10 * n + d) m
theorem mem_numsS : ∀ {cs : List Int} {first : Bool} {n m : Int}, m ∈ numsS cs first n ↔ readsP cs first n m
  | [], first, n, m => by unfold numsS readsP; exact List.mem_singleton
  | c :: cs, first, n, m => by
    unfold numsS readsP
    rw [mem_tlN (Nat.le_refl _)]
    constructor
    · rintro ⟨d, _, h2, h3, h4, h5⟩
      exact ⟨d, h2, h3, h4, mem_numsS.1 h5⟩
    · rintro ⟨d, h2, h3, h4, h5⟩
      exact ⟨d, by omega, h2, h3, h4, mem_numsS.2 h5⟩
/-- A line of a letter can mean a line of an order, by a book. -/
def Means (x : LLine) (is : Issue) (l : Line) : Prop := ∃ y ∈ is.entries, readsP x.digits true 0 y.number ∧ ∃ f ∈ y.sizes, sizeB x f = true ∧
  (∃ c : Nat, c < 4 ∧ inF x.colours c = true ∧ inF y.colours c = true ∧ l.item = ⟨y.good, f.size, (c : Int)⟩) ∧ x.mlo ≤ l.many ∧ l.many ≤ x.mhi
theorem cbit_and {a b : Int} (ha : 0 ≤ a ∧ a ≤ 15) (hb : 0 ≤ b ∧ b ≤ 15) {c : Nat} (hc : c < 4) : cbit (bits BinOp.and .i64 a b) c = (inF a c && inF b c) := by
  have key : ∀ a ∈ List.range 16, ∀ b ∈ List.range 16, ∀ c ∈ List.range 4, cbit (bits BinOp.and .i64 (a : Int) (b : Int)) (c : Int) = (inF (a : Int) (c : Int) && inF (b : Int) (c : Int)) := by decide +kernel
  obtain ⟨m, rfl⟩ := Int.eq_ofNat_of_zero_le ha.1
  obtain ⟨n, rfl⟩ := Int.eq_ofNat_of_zero_le hb.1
  exact key m (List.mem_range.2 (by omega)) n (List.mem_range.2 (by omega)) c (List.mem_range.2 hc)
theorem findI_once {l : List Entry} (hn : (l.map (·.number)).Nodup) {y : Entry} (hy : y ∈ l) : 0 ≤ findI (fun z => z.number == y.number) l 0 ∧ l.getD (findI (fun z => z.number == y.number) l 0).toNat default = y := by
  have key : ∀ (l : List Entry) (i : Nat), (l.map (·.number)).Nodup → y ∈ l → (i : Int) ≤ findI (fun z => z.number == y.number) l i ∧ l.getD ((findI (fun z => z.number == y.number) l i).toNat - i) default = y := fun l => by
    induction l with
    | nil => intro i _ h; cases h
    | cons a l ih =>
      intro i hd hm
      rw [List.map_cons, List.nodup_cons] at hd
      rw [findI]
      by_cases h : a.number = y.number
      · have e : a = y := by
          rcases List.mem_cons.1 hm with e | e
          · exact e.symm
          · exact absurd (List.mem_map.2 ⟨y, e, h.symm⟩) hd.1
        subst e
        simp
      · have hm' : y ∈ l := by
          rcases List.mem_cons.1 hm with e | e
          · subst e; exact absurd rfl h
          · exact e
        have hb : (a.number == y.number) = false := by simpa using h
        rw [if_neg (by rw [hb]; simp)]
        obtain ⟨h1, h2⟩ := ih (i + 1) hd.2 hm'
        refine ⟨by omega, ?_⟩
        generalize findI (fun z => z.number == y.number) l (i + 1) = v at h1 h2
        rw [show v.toNat - i = (v.toNat - (i + 1)) + 1 by omega, List.getD_cons_succ]
        exact h2
  have := key l 0 hn hy
  simpa using this
theorem mem_meanL {x : LLine} {is : Issue} {g : Int} (hx : GLine x) (hi : GIssue g is) {l : Line} : l ∈ meanL x is ↔ Means x is l := by
  unfold meanL Means
  rw [List.mem_flatMap]
  have hcol : ∀ y ∈ is.entries, l ∈ entL x y y.sizes ↔ ∃ f ∈ y.sizes, sizeB x f = true ∧
      (∃ c : Nat, c < 4 ∧ inF x.colours c = true ∧ inF y.colours c = true ∧ l.item = ⟨y.good, f.size, (c : Int)⟩) ∧ x.mlo ≤ l.many ∧ l.many ≤ x.mhi := fun y hy => by
    unfold entL
    rw [List.mem_flatMap]
    refine exists_congr fun f => and_congr_right fun hf => ?_
    unfold colL
    rw [List.mem_flatMap]
    have ge := hi.entries y hy
    constructor
    · rintro ⟨c, hc, h⟩
      have hc4 := List.mem_range.1 hc
      rw [cbit_and ⟨by have := hx.colours; omega, hx.colours.2⟩ ⟨by have := ge.colours; omega, ge.colours.2⟩ hc4] at h
      split at h
      · rename_i hcond
        simp only [Bool.and_eq_true] at hcond
        unfold manyL at h
        obtain ⟨m, hm, rfl⟩ := List.mem_map.1 h
        have hm' := List.mem_range.1 hm
        exact ⟨hcond.1, ⟨c, hc4, hcond.2.1, hcond.2.2, rfl⟩, by simp only; omega, by simp only; omega⟩
      · cases h
    · rintro ⟨h1, ⟨c, hc, h2, h3, h4⟩, h5, h6⟩
      refine ⟨c, List.mem_range.2 hc, ?_⟩
      rw [cbit_and ⟨by have := hx.colours; omega, hx.colours.2⟩ ⟨by have := ge.colours; omega, ge.colours.2⟩ hc, h1, h2, h3]
      rw [if_pos (by rfl)]
      unfold manyL
      refine List.mem_map.2 ⟨(l.many - x.mlo).toNat, List.mem_range.2 (by omega), ?_⟩
      obtain ⟨it, mn⟩ := l
      simp only at h4 h5 h6 ⊢
      rw [h4]
      congr 1
      omega
  constructor
  · rintro ⟨n, hn, h⟩
    unfold numL at h
    split at h
    · cases h
    · rename_i hneg
      have hb := findI_bound (fun y : Entry => y.number == n) is.entries 0
      have hlt : (findI (fun y : Entry => y.number == n) is.entries 0).toNat < is.entries.length := by omega
      have hnum : (is.entries.getD (findI (fun y : Entry => y.number == n) is.entries 0).toNat default).number = n := by
        rcases findI_find (fun y : Entry => y.number == n) is.entries 0 with ⟨_, h3⟩ | ⟨j, h3, h4, h5⟩
        · omega
        · have h6 := List.find?_some h4
          have h7 : (findI (fun y : Entry => y.number == n) is.entries 0).toNat = j := by omega
          rw [h7]; simpa using h6
      have hmem := getD_mem (default : Entry) hlt
      refine ⟨_, hmem, by rw [hnum]; exact mem_numsS.1 hn, (hcol _ hmem).1 h⟩
  · rintro ⟨y, hy, hr, hrest⟩
    obtain ⟨h1, h2⟩ := findI_once hi.numbers hy
    refine ⟨y.number, mem_numsS.2 hr, ?_⟩
    unfold numL
    rw [if_neg (by omega), h2]
    exact (hcol y hy).2 hrest
end Wb
/- More can be read: plain. -/
namespace Wb
open Go Go.Proofs Enc Row
set_option linter.unusedSimpArgs false
set_option linter.unusedVariables false
set_option maxRecDepth 20000
set_option maxHeartbeats 8000000
def subsP : List Int → List Int → Prop
  | [], [] => True
  | a :: l, b :: m => (∀ d : Nat, d ≤ 9 → inF a d = true → inF b d = true) ∧ subsP l m
  | _, _ => False
theorem subsP_refl : ∀ l : List Int, subsP l l
  | [] => trivial
  | a :: l => ⟨fun _ _ h => h, subsP_refl l⟩
theorem subsP_set {b : Int} : ∀ {l : List Int} {k : Nat}, (∀ d : Nat, d ≤ 9 → inF (l.getD k 0) d = true → inF b d = true) → subsP l (l.set k b)
  | [], _, _ => trivial
  | a :: l, 0, h => ⟨h, subsP_refl l⟩
  | a :: l, k + 1, h => ⟨fun _ _ h => h, subsP_set (k := k) h⟩
theorem readsP_mono : ∀ {cs cs' : List Int} {first : Bool} {n m : Int}, subsP cs cs' → readsP cs first n m → readsP cs' first n m
  | [], [], _, _, _, _, h => h
  | [], _ :: _, _, _, _, h, _ => h.elim
  | _ :: _, [], _, _, _, h, _ => h.elim
  | a :: l, b :: k, first, n, m, hs, ⟨d, h1, h2, h3, h4⟩ => ⟨d, h1, hs.1 d h1 h2, h3, readsP_mono hs.2 h4⟩
/-- A line of which more can be read. -/
structure MoreL (x x' : LLine) : Prop where
  digits : subsP x.digits x'.digits
  sizes : ∀ f : Fit, sizeB x f = true → sizeB x' f = true
  colours : ∀ c : Nat, c < 4 → inF x.colours c = true → inF x'.colours c = true
  lo : x'.mlo ≤ x.mlo
  hi : x.mhi ≤ x'.mhi
theorem MoreL.refl (x : LLine) : MoreL x x := ⟨subsP_refl _, fun _ h => h, fun _ _ h => h, Int.le_refl _, Int.le_refl _⟩
theorem MoreL.means {x x' : LLine} (h : MoreL x x') {is : Issue} {l : Line} : Means x is l → Means x' is l := by
  rintro ⟨y, h1, h2, f, h3, h4, ⟨c, h5, h6, h7, h8⟩, h9, h10⟩
  have := h.lo
  have := h.hi
  exact ⟨y, h1, readsP_mono h.digits h2, f, h3, h.sizes f h4, ⟨c, h5, h.colours c h5 h6, h7, h8⟩, by omega, by omega⟩
/-- A letter of which more can be read. -/
structure MoreX (x x' : Lett) : Prop where
  rack : x'.rack = x.rack
  len : x'.lines.length = x.lines.length
  dlo : x'.dlo ≤ x.dlo
  dhi : x.dhi ≤ x'.dhi
  clo : x'.clo ≤ x.clo
  chi : x.chi ≤ x'.chi
  line : ∀ j, j < x.lines.length → MoreL (x.lines.getD j default) (x'.lines.getD j default)
theorem cand_mono {x x' : Lett} (h : MoreX x x') (hx : GL x) (hx' : GL x') {i j : Nat} (hi : i < x.rack.issues.length) (hj : j < x.lines.length) {l : Line} : l ∈ candL x i j → l ∈ candL x' i j := by
  unfold candL
  intro hl
  have g1 := hx.rack.issues _ (getD_mem default hi)
  have g2 := hx.line _ (getD_mem default hj)
  have g3 := hx'.line _ (getD_mem default (by rw [h.len]; exact hj : j < x'.lines.length))
  rw [h.rack]
  exact (mem_meanL g3 g1).2 ((h.line j hj).means ((mem_meanL g2 g1).1 hl))
theorem more_keys {x x' : Lett} (h : MoreX x x') (hx : GL x) (hx' : GL x') {o : Ord2} (ho : o ∈ keysM x) : o ∈ keysM x' := by
  obtain ⟨d, ⟨hd1, hd2⟩, i, h1, h2, h3, h4, h5, h6, h7⟩ := (mem_keys hx.days).1 ho
  have hcB : ∀ l, cB x' d l = cB x d l := fun l => by unfold cB; rw [h.len, h.rack]
  have hco : co x' d o = co x d o := by unfold co; rw [hcB, h.rack]
  have a1 := h.dlo
  have a2 := h.dhi
  have a3 := h.clo
  have a4 := h.chi
  refine (mem_keys hx'.days).2 ⟨d, ⟨by omega, by omega⟩, i, by rw [h.rack]; exact h1, by rw [h.rack]; exact h2, cand_mono h hx hx' h1 (by have := hx.n; omega) h3, ?_, by rw [h.rack]; exact h5, by rw [hcB]; exact h6, ?_⟩
  · unfold secL at h4 ⊢
    rw [h.len]
    by_cases hn : 1 < x.lines.length
    · rw [if_pos hn] at h4 ⊢; exact cand_mono h hx hx' h1 hn h4
    · rw [if_neg hn] at h4 ⊢; exact h4
  · rw [hco]
    simp only [inSpan, Bool.and_eq_true, decide_eq_true_eq] at h7 ⊢
    omega
theorem nodup_le {α : Type} [DecidableEq α] : ∀ {a b : List α}, a.Nodup → (∀ x ∈ a, x ∈ b) → a.length ≤ b.length
  | [], _, _, _ => Nat.zero_le _
  | x :: a, b, ha, h => by
    rw [List.nodup_cons] at ha
    have hx := h x (List.mem_cons_self ..)
    have := nodup_le (b := b.erase x) ha.2 fun y hy => by
      have hne : y ≠ x := fun e => ha.1 (e ▸ hy)
      exact (List.mem_erase_of_ne hne).2 (h y (List.mem_cons_of_mem _ hy))
    rw [List.length_erase_of_mem hx] at this
    have := List.length_pos_of_mem hx
    simp only [List.length_cons]; omega
theorem more_len {x x' : Lett} (h : MoreX x x') (hx : GL x) (hx' : GL x') : (allM x).length ≤ (allM x').length := by
  have := nodup_le (keysM_once x) fun o ho => more_keys h hx hx' ho
  simpa [keysM] using this
end Wb
/- A list with one number more. -/
namespace Wb
open Go Go.Proofs Enc Row
set_option linter.unusedSimpArgs false
set_option linter.unusedVariables false
set_option maxRecDepth 20000
set_option maxHeartbeats 8000000
theorem with_fn (l : List Int) (n : Int) (hl : l.length ≤ 1000) (h0 : l ≠ []) : Fn E0 0 50 Tryz.f50 (Tryz.f50.body.getD .skip) [.sl (il l) false, .int .i64 n] (.sl (il (l ++ [n])) false) := by
  unfold Fn Tryz.f50
  simp only [go_sem, app, rowsOf]
  have hrow : ∀ m : Int, ([PV.int .i64 m] : List PV).length = 1 ∧ cells1 [PV.int .i64 m] = true := fun m => ⟨rfl, rfl⟩
  have hil := il_length l
  refine ⟨fun row h => ?_, by omega, fun row h => by rw [h]; exact hrow n, by omega, by simp, ?_⟩
  · obtain ⟨m, _, rfl⟩ := List.mem_map.1 h; exact hrow m
  · rw [il_append]; exact wkR_refl _
def t50 : Spec := spec2 (fun (l : List Int) (_ : Int) => l.length ≤ 1000 ∧ l ≠ []) fun l n => .sl (il (l ++ [n])) false
theorem t50_ok : SpecOK Tryz.prog glB 50 t50 := spec2_ok E0_ok Tryz.func50 rfl (by kernel_rfl) fun l n h => with_fn l n h.1 h.2
end Wb
