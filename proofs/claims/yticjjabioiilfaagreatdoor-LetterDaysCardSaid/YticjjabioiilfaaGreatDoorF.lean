import Derived.Test.YticjjabioiilfaaGreatDoorB
import Derived.DeepKeys
set_option linter.unusedVariables false
set_option linter.unusedSimpArgs false
namespace Wb
open Go Go.RowKit
set_option linter.unusedSimpArgs false
def okV : Bool → Value → Prop
 | true, v => ∃ n, v = .int .i64 n
 | false, v => ∃ b, v = .bool b
def okS : List Bool → List Value → Prop
 | [], [] => True
 | s :: sh, v :: vs => okV s v ∧ okS sh vs
 | _, _ => False
def vEq : Value → Value → Bool
 | .int _ a, .int _ b => a == b
 | .bool a, .bool b => a == b
 | _, _ => false
def vEqs : List Value → List Value → Bool
 | x :: xs, y :: ys => vEq x y && vEqs xs ys
 | _, _ => true
def isV (ag : Bool) (a : Value) (l : List Value) : Prop := match ag with | true => a = .agg l.toArray | false => l = [a]
theorem okS.length : ∀ {sh : List Bool} {l : List Value}, okS sh l → l.length = sh.length
 | [], [], _ => rfl
 | _ :: _, _ :: _, h => by simp [okS.length h.2]
 | [], _ :: _, h => h.elim
 | _ :: _, [], h => h.elim
theorem okS.split : ∀ {s1 s2 : List Bool} {l : List Value}, okS (s1 ++ s2) l → okS s1 (l.take s1.length) ∧ okS s2 (l.drop s1.length)
 | [], _, l, h => by simpa [okS] using h
 | _ :: s1, s2, _ :: l, h => by
  obtain ⟨a, b⟩ := okS.split (s1 := s1) (s2 := s2) (l := l) h.2
  exact ⟨⟨h.1, a⟩, b⟩
 | _ :: _, _, [], h => h.elim
theorem vEqs_split : ∀ (n : Nat) {l l' : List Value}, l.length = l'.length → vEqs l l' = (vEqs (l.take n) (l'.take n) && vEqs (l.drop n) (l'.drop n))
 | 0, l, l', _ => by simp [vEqs]
 | n + 1, [], [], _ => rfl
 | n + 1, x :: l, y :: l', h => by
  simp only [vEqs, List.take_succ_cons, List.drop_succ_cons, vEqs_split n (l := l) (l' := l') (by simpa using h), Bool.and_assoc]
 | _ + 1, [], _ :: _, h => by simp at h
 | _ + 1, _ :: _, [], h => by simp at h
structure Flat (P : Program) (e : Nat) (ag : Bool) (sh : List Bool) (dd : Nat) : Prop where
 part : ∀ (w : World) (xs : Array Value) (off : Nat), okS sh ((xs.toList.drop off).take sh.length) → ∃ a, (part e xs off).run P w = .ok a w ∧ isV ag a ((xs.toList.drop off).take sh.length)
 eq : ∀ (w : World) (d : Nat) (a b : Value) (l l' : List Value), isV ag a l → isV ag b l' → okS sh l → okS sh l' → (Op.equalIn (d + dd) e a b).run P w = .ok (vEqs l l') w
 chk : ∀ (w : World) (d : Nat) (a : Value) (l : List Value) (em : Bool), isV ag a l → okS sh l → (Instr.checkKey em (d + dd) e a).run P w = .ok () w
 info : ∃ i, P.info? e = some i
 cells : P.cellsOf e = sh.length
variable {P : Program}
theorem Flat.up {e dd : Nat} {ag : Bool} {sh : List Bool} (h : Flat P e ag sh dd) : Flat P e ag sh (dd + 1) :=
 ⟨h.part, fun w d a b l l' h1 h2 h3 h4 => by have := h.eq w (d + 1) a b l l' h1 h2 h3 h4; rwa [show d + 1 + dd = d + (dd + 1) by omega] at this,
  fun w d a l em h1 h2 => by have := h.chk w (d + 1) a l em h1 h2; rwa [show d + 1 + dd = d + (dd + 1) by omega] at this, h.info, h.cells⟩
theorem okS_one {s : Bool} {l : List Value} (h : okS [s] l) : ∃ v, l = [v] ∧ okV s v := by
 match l, h with
 | [v], h => exact ⟨v, rfl, h.1⟩
 | _ :: _ :: _, h => exact h.2.elim
 | [], h => exact h.elim
theorem flat_int {e : Nat} (hu : P.underlying e = some (.int .i64)) (hc : P.cellsOf e = 1) : Flat P e false [true] 1 where
 part := fun w xs off h => by
  obtain ⟨v, h1, h2⟩ := okS_one h
  have h1' : (xs.toList.drop off).take 1 = [v] := h1
  refine ⟨v, ?_, h1⟩
  have := getElem?_of_chunk h1'
  simp [Go.part, isAgg, run_underlying hu, this]
 eq := fun w d a b l l' h1 h2 h3 h4 => by
  obtain ⟨v, rfl, n, rfl⟩ := okS_one h3
  obtain ⟨v', rfl, n', rfl⟩ := okS_one h4
  have h1 : [Value.int .i64 n] = [a] := h1
  have h2 : [Value.int .i64 n'] = [b] := h2
  cases h1; cases h2
  unfold Op.equalIn
  rw [Sem.run_bind, run_underlying hu w, Result.andThen_ok]
  simp [vEqs, vEq]
 chk := fun w d a l em h1 h2 => by
  obtain ⟨v, rfl, n, rfl⟩ := okS_one h2
  have h1 : [Value.int .i64 n] = [a] := h1
  cases h1
  unfold Instr.checkKey
  rw [Sem.run_bind, run_underlying hu w, Result.andThen_ok]
  rfl
 info := info_of_underlying hu
 cells := hc
theorem flat_bool {e : Nat} (hu : P.underlying e = some .bool) (hc : P.cellsOf e = 1) : Flat P e false [false] 1 where
 part := fun w xs off h => by
  obtain ⟨v, h1, h2⟩ := okS_one h
  have h1' : (xs.toList.drop off).take 1 = [v] := h1
  refine ⟨v, ?_, h1⟩
  have := getElem?_of_chunk h1'
  simp [Go.part, isAgg, run_underlying hu, this]
 eq := fun w d a b l l' h1 h2 h3 h4 => by
  obtain ⟨v, rfl, n, rfl⟩ := okS_one h3
  obtain ⟨v', rfl, n', rfl⟩ := okS_one h4
  have h1 : [Value.bool n] = [a] := h1
  have h2 : [Value.bool n'] = [b] := h2
  cases h1; cases h2
  unfold Op.equalIn
  rw [Sem.run_bind, run_underlying hu w, Result.andThen_ok]
  simp [vEqs, vEq]
 chk := fun w d a l em h1 h2 => by
  obtain ⟨v, rfl, n, rfl⟩ := okS_one h2
  have h1 : [Value.bool n] = [a] := h1
  cases h1
  unfold Instr.checkKey
  rw [Sem.run_bind, run_underlying hu w, Result.andThen_ok]
  rfl
 info := info_of_underlying hu
 cells := hc
def FieldsFlat (P : Program) (dd : Nat) : List Field → Nat → List Bool → Prop
 | [], _, sh => sh = []
 | f :: fs, o, sh => ∃ ag s1 s2, f.name ≠ "_" ∧ f.offset = o ∧ Flat P f.type ag s1 dd ∧ sh = s1 ++ s2 ∧ FieldsFlat P dd fs (o + s1.length) s2
theorem eqFields_flat {dd : Nat} (w : World) (d : Nat) (xs ys : Array Value) : ∀ (fs : List Field) (o : Nat) (sh : List Bool), FieldsFlat P dd fs o sh → okS sh (xs.toList.drop o) → okS sh (ys.toList.drop o) →
    (Op.eqFields (d + dd) xs ys fs).run P w = .ok (vEqs (xs.toList.drop o) (ys.toList.drop o)) w
 | [], o, sh, hf, hx, hy => by
  subst hf
  have := hx.length
  rw [List.eq_nil_of_length_eq_zero this]
  simp [Op.eqFields, vEqs]
 | f :: fs, o, sh, ⟨ag, s1, s2, h1, h2, h3, h4, h5⟩, hx, hy => by
  subst h4
  obtain ⟨x1, x2⟩ := hx.split
  obtain ⟨y1, y2⟩ := hy.split
  rw [List.drop_drop] at x2 y2
  obtain ⟨a, a1, a2⟩ := h3.part w xs o x1
  obtain ⟨b, b1, b2⟩ := h3.part w ys o y1
  have ih := eqFields_flat w d xs ys fs (o + s1.length) s2 h5 x2 y2
  simp only [Op.eqFields, h1, ne_eq, not_false_eq_true, if_true, Sem.run_bind, h2, a1, b1, Result.andThen_ok, h3.eq w d a b _ _ a2 b2 x1 y1]
  have e := vEqs_split s1.length (l := xs.toList.drop o) (l' := ys.toList.drop o) (by rw [hx.length, hy.length])
  rw [List.drop_drop, List.drop_drop] at e
  rw [e]
  cases hv : vEqs ((xs.toList.drop o).take s1.length) ((ys.toList.drop o).take s1.length) with
  | false => simp
  | true => simpa using ih
theorem chkFields_flat {dd : Nat} (w : World) (d : Nat) (xs : Array Value) (em : Bool) : ∀ (fs : List Field) (o : Nat) (sh : List Bool), FieldsFlat P dd fs o sh → okS sh (xs.toList.drop o) →
    ((forIn fs PUnit.unit fun f _ => if f.name ≠ "_" then (do
        Instr.checkKey em (d + dd) f.type (← part f.type xs f.offset)
        pure (ForInStep.yield PUnit.unit)) else pure (ForInStep.yield PUnit.unit)) : Sem PUnit).run P w = .ok PUnit.unit w
 | [], o, sh, hf, hx => by simp
 | f :: fs, o, sh, ⟨ag, s1, s2, h1, h2, h3, h4, h5⟩, hx => by
  subst h4
  obtain ⟨x1, x2⟩ := hx.split
  rw [List.drop_drop] at x2
  obtain ⟨a, a1, a2⟩ := h3.part w xs o x1
  have ih := chkFields_flat w d xs em fs (o + s1.length) s2 h5 x2
  simp only [List.forIn_cons, h1, ne_eq, not_false_eq_true, if_true, Sem.run_bind, h2, a1, Result.andThen_ok, h3.chk w d a _ em a2 x1, Sem.run_pure]
  exact ih
theorem flat_struct {t dd : Nat} {fs : Array Field} {sh : List Bool} (hu : P.underlying t = some (.struct fs)) (hs : P.stoodInHeld t = false) (hf : FieldsFlat P dd fs.toList 0 sh) (hc : P.cellsOf t = sh.length) : Flat P t true sh (dd + 1) where
 part := fun w xs off h => by
  obtain ⟨i, hi⟩ := info_of_underlying hu
  refine ⟨.agg (xs.extract off (off + P.cellsOf t)), ?_, ?_⟩
  ·simp [Go.part, isAgg, run_underlying hu, run_sizeOf w hi]
  ·show Value.agg _ = Value.agg _
   congr 1
   apply Array.toList_inj.1
   rw [Array.toList_extract, hc]
   simp [List.extract]
 eq := fun w d a b l l' h1 h2 h3 h4 => by
  have h1 : a = .agg l.toArray := h1
  have h2 : b = .agg l'.toArray := h2
  subst h1; subst h2
  have hfs : P.fieldsOf t = fs := by simp [Program.fieldsOf, hu]
  rw [show d + (dd + 1) = (d + dd) + 1 from rfl, run_equalIn_struct w (d + dd) t _ _ (by rw [hfs]; exact hu) hs, hfs]
  have := eqFields_flat (P := P) (dd := dd) w d l.toArray l'.toArray fs.toList 0 sh hf (by simpa using h3) (by simpa using h4)
  simpa using this
 chk := fun w d a l em h1 h2 => by
  have h1 : a = .agg l.toArray := h1
  subst h1
  have := chkFields_flat (P := P) (dd := dd) w d l.toArray em fs.toList 0 sh hf (by simpa using h2)
  rw [show d + (dd + 1) = (d + dd) + 1 from rfl]
  unfold Instr.checkKey
  rw [Sem.run_bind, run_underlying hu w, Result.andThen_ok]
  simp only [← Array.forIn_toList]
  rw [Sem.run_bind, this, Result.andThen_ok]
  rfl
 info := info_of_underlying hu
 cells := hc
theorem eqItems_flat {e dd : Nat} {ag : Bool} {s : List Bool} (he : Flat P e ag s dd) (w : World) (d : Nat) (xs ys : Array Value) : ∀ (n k : Nat), okS (List.replicate n s).flatten (xs.toList.drop (k * s.length)) → okS (List.replicate n s).flatten (ys.toList.drop (k * s.length)) →
    (Op.eqItems (d + dd) e s.length xs ys (List.range' k n)).run P w = .ok (vEqs (xs.toList.drop (k * s.length)) (ys.toList.drop (k * s.length))) w
 | 0, k, hx, hy => by
  have := hx.length
  simp only [List.replicate_zero, List.flatten_nil, List.length_nil] at this
  rw [List.eq_nil_of_length_eq_zero this]
  simp [Op.eqItems, vEqs]
 | n + 1, k, hx, hy => by
  rw [List.replicate_succ, List.flatten_cons] at hx hy
  obtain ⟨x1, x2⟩ := hx.split
  obtain ⟨y1, y2⟩ := hy.split
  rw [List.drop_drop, show k * s.length + s.length = (k + 1) * s.length by rw [Nat.add_mul, Nat.one_mul]] at x2 y2
  obtain ⟨a, a1, a2⟩ := he.part w xs (k * s.length) x1
  obtain ⟨b, b1, b2⟩ := he.part w ys (k * s.length) y1
  have ih := eqItems_flat he w d xs ys n (k + 1) x2 y2
  rw [List.range'_succ]
  simp only [Op.eqItems, Sem.run_bind, a1, b1, Result.andThen_ok, he.eq w d a b _ _ a2 b2 x1 y1]
  have e := vEqs_split s.length (l := xs.toList.drop (k * s.length)) (l' := ys.toList.drop (k * s.length)) (by rw [hx.length, hy.length])
  rw [List.drop_drop, List.drop_drop, show k * s.length + s.length = (k + 1) * s.length by rw [Nat.add_mul, Nat.one_mul]] at e
  rw [e]
  cases hv : vEqs ((xs.toList.drop (k * s.length)).take s.length) ((ys.toList.drop (k * s.length)).take s.length) with
  | false => simp
  | true => simpa using ih
theorem chkItems_flat {e dd : Nat} {ag : Bool} {s : List Bool} (he : Flat P e ag s dd) (w : World) (d : Nat) (xs : Array Value) (em : Bool) : ∀ (n k : Nat), okS (List.replicate n s).flatten (xs.toList.drop (k * s.length)) →
    ((forIn (List.range' k n) PUnit.unit fun i _ => (do
        Instr.checkKey em (d + dd) e (← part e xs (i * (← sizeOf e)))
        pure (ForInStep.yield PUnit.unit))) : Sem PUnit).run P w = .ok PUnit.unit w
 | 0, k, hx => by simp
 | n + 1, k, hx => by
  rw [List.replicate_succ, List.flatten_cons] at hx
  obtain ⟨x1, x2⟩ := hx.split
  rw [List.drop_drop, show k * s.length + s.length = (k + 1) * s.length by rw [Nat.add_mul, Nat.one_mul]] at x2
  obtain ⟨a, a1, a2⟩ := he.part w xs (k * s.length) x1
  obtain ⟨i, hi⟩ := he.info
  have ih := chkItems_flat he w d xs em n (k + 1) x2
  rw [List.range'_succ]
  simp only [List.forIn_cons, Sem.run_bind, run_sizeOf w hi, he.cells, a1, Result.andThen_ok, he.chk w d a _ em a2 x1, Sem.run_pure]
  exact ih
theorem flat_array {t e dd n : Nat} {ag : Bool} {s : List Bool} (hu : P.underlying t = some (.array n e)) (he : Flat P e ag s dd) (hc : P.cellsOf t = (List.replicate n s).flatten.length) : Flat P t true (List.replicate n s).flatten (dd + 1) where
 part := fun w xs off h => by
  obtain ⟨i, hi⟩ := info_of_underlying hu
  refine ⟨.agg (xs.extract off (off + P.cellsOf t)), ?_, ?_⟩
  ·simp [Go.part, isAgg, run_underlying hu, run_sizeOf w hi]
  ·show Value.agg _ = Value.agg _
   congr 1
   apply Array.toList_inj.1
   rw [Array.toList_extract, hc]
   simp only [List.extract]
   rw [show off + (List.replicate n s).flatten.length - off = (List.replicate n s).flatten.length by omega]
 eq := fun w d a b l l' h1 h2 h3 h4 => by
  have h1 : a = .agg l.toArray := h1
  have h2 : b = .agg l'.toArray := h2
  subst h1; subst h2
  obtain ⟨i, hi⟩ := he.info
  rw [show d + (dd + 1) = (d + dd) + 1 from rfl, run_equalIn_array w (d + dd) _ _ hu hi, he.cells, List.range_eq_range']
  have := eqItems_flat he w d l.toArray l'.toArray n 0 (by simpa using h3) (by simpa using h4)
  simpa using this
 chk := fun w d a l em h1 h2 => by
  have h1 : a = .agg l.toArray := h1
  subst h1
  have := chkItems_flat he w d l.toArray em n 0 (by simpa using h2)
  rw [show d + (dd + 1) = (d + dd) + 1 from rfl]
  unfold Instr.checkKey
  rw [Sem.run_bind, run_underlying hu w, Result.andThen_ok]
  simp only [Std.Legacy.Range.forIn_eq_forIn_range', Std.Legacy.Range.size, Nat.sub_zero, Nat.add_one_sub_one, Nat.div_one]
  rw [Sem.run_bind, this, Result.andThen_ok]
  rfl
 info := info_of_underlying hu
 cells := hc
def shZ : List PV → List Bool
 | [] => []
 | .int _ _ :: l => true :: shZ l
 | _ :: l => false :: shZ l
theorem okS_ints : ∀ (l : List Int), okS (List.replicate l.length true) (l.map fun n => Value.int .i64 n)
 | [] => trivial
 | n :: l => ⟨⟨n, rfl⟩, okS_ints l⟩
theorem vEqs_ints : ∀ (l l' : List Int), l.length = l'.length → vEqs (l.map fun n => Value.int .i64 n) (l'.map fun n => Value.int .i64 n) = (l == l')
 | [], [], _ => rfl
 | a :: l, b :: l', h => by
  simp only [List.map_cons, vEqs, vEq, vEqs_ints l l' (by simpa using h)]
  rfl
 | [], _ :: _, h => by simp at h
 | _ :: _, [], h => by simp at h
theorem Flat.key {t n dd : Nat} (h : Flat P t true (List.replicate n true) dd) (hd : dd ≤ 10000) : KeyOK P t n true := by
 rintro w l l' x y h1 hx hy h2
 have hx : x = .agg (l.map (fun n => Value.int .i64 n)).toArray := hx
 have hy : y = .agg (l'.map (fun n => Value.int .i64 n)).toArray := hy
 subst hx; subst hy
 have o1 := okS_ints l
 have o2 := okS_ints l'
 rw [h1] at o1
 rw [h2] at o2
 refine ⟨?_, fun e => ?_⟩
 ·have := h.eq w (10000 - dd) _ _ _ _ rfl rfl o1 o2
  rw [show 10000 - dd + dd = 10000 by omega] at this
  rw [← vEqs_ints l l' (by omega)]
  exact this
 ·have := h.chk w (10000 - dd) _ _ e rfl o1
  rwa [show 10000 - dd + dd = 10000 by omega] at this
theorem okS_like {w : World} {Z : Nat → Prop} {C : Ctx} : ∀ {xs z : List PV} {l : List Value}, likeL xs z = true → RepS w Z C xs l → okS (shZ z) l
 | [], [], [], _, _ => trivial
 | .int .i64 a :: xs, .int .i64 b :: z, v :: l, h, hr => by
  obtain ⟨h1, h2⟩ := hr
  cases h1
  exact ⟨⟨a, rfl⟩, okS_like (xs := xs) (z := z) (by simpa [likeL] using h) h2⟩
 | .bool a :: xs, .bool b :: z, v :: l, h, hr => by
  obtain ⟨h1, h2⟩ := hr
  cases h1
  exact ⟨⟨a, rfl⟩, okS_like (xs := xs) (z := z) (by simpa [likeL] using h) h2⟩
theorem likeL_nil {xs : List PV} (h : likeL xs [] = true) : xs = [] := by
 unfold likeL at h
 split at h <;> first | rfl | (rename_i h0; cases h0) | cases h
theorem likeL_cons {xs z : List PV} {p : PV} (h : likeL xs (p :: z) = true) : (∃ a b xs', xs = .int .i64 a :: xs' ∧ p = .int .i64 b ∧ likeL xs' z = true) ∨ ∃ a b xs', xs = .bool a :: xs' ∧ p = .bool b ∧ likeL xs' z = true := by
 unfold likeL at h
 split at h
 ·rename_i h0; cases h0
 ·rename_i h0; cases h0; exact .inl ⟨_, _, _, rfl, rfl, h⟩
 ·rename_i h0; cases h0; exact .inr ⟨_, _, _, rfl, rfl, h⟩
 ·cases h
theorem vEqs_like {w : World} {Z : Nat → Prop} {C : Ctx} : ∀ {z xs ys : List PV} {l l' : List Value}, likeL xs z = true → likeL ys z = true → RepS w Z C xs l → RepS w Z C ys l' → vEqs l l' = eqL xs ys := by
 intro z
 induction z with
 | nil =>
  intro xs ys l l' h h' hr hr'
  rw [likeL_nil h] at hr ⊢
  rw [likeL_nil h'] at hr' ⊢
  cases l with
  | nil => rfl
  | cons _ _ => exact hr.elim
 | cons p z ih =>
  intro xs ys l l' h h' hr hr'
  rcases likeL_cons h with ⟨a, b, xs', rfl, rfl, h2⟩ | ⟨a, b, xs', rfl, rfl, h2⟩
  ·rcases likeL_cons h' with ⟨a', b', ys', rfl, _, h2'⟩ | ⟨_, _, _, _, hh, _⟩
   ·cases l with
    | nil => exact hr.elim
    | cons v l =>
     cases l' with
     | nil => exact hr'.elim
     | cons v' l' =>
      obtain ⟨r1, r2⟩ := hr
      obtain ⟨r1', r2'⟩ := hr'
      cases r1; cases r1'
      simp only [vEqs, vEq, eqL, ih h2 h2' r2 r2']
   ·cases hh
  ·rcases likeL_cons h' with ⟨_, _, _, _, hh, _⟩ | ⟨a', b', ys', rfl, _, h2'⟩
   ·cases hh
   ·cases l with
    | nil => exact hr.elim
    | cons v l =>
     cases l' with
     | nil => exact hr'.elim
     | cons v' l' =>
      obtain ⟨r1, r2⟩ := hr
      obtain ⟨r1', r2'⟩ := hr'
      cases r1; cases r1'
      simp only [vEqs, vEq, eqL, ih h2 h2' r2 r2']
theorem Flat.eqok {t dd : Nat} {z : List PV} (h : Flat P t true (shZ z) dd) (hd : dd ≤ 10000) (hg : ∀ (op : BinOp) x y (a b : Array Value) (w : World), (eqGuard op t x y (.agg a) (.agg b)).run P w = .ok () w) : EqOK P t z := by
 intro w Z C xs ys a b h1 h2 h3 h4
 have s3 : RepS w Z C xs a.toList := h3.s
 have s4 : RepS w Z C ys b.toList := h4.s
 refine ⟨?_, fun op x y => hg op x y a b w⟩
 have := h.eq w (10000 - dd) (.agg a) (.agg b) a.toList b.toList (by simp [isV]) (by simp [isV]) (okS_like h1 s3) (okS_like h2 s4)
 rw [show 10000 - dd + dd = 10000 by omega, vEqs_like h1 h2 s3 s4] at this
 exact this
end Wb
