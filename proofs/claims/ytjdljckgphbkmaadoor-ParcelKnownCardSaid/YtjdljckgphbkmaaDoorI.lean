import Derived.Test.YtjdljckgphbkmaaDoorH
import Derived.Ground.Names2Prog
import Derived.Shelf.Slices.Clone
import Derived.Test.YtjdljckgphbkmaaDoorT
set_option linter.unusedVariables false
set_option linter.unusedSimpArgs false
/- slices.Clone at []int. -/
namespace Go.Proofs
open Go.Shelf
def Tryd.clone_ren : Go.Shelf.Ren := ⟨fun | 15 => 72 | n => n, fun | 22 => 24 | n => n, fun | n => n⟩
theorem Tryd.clone_lays : Lays2.n15 Tryd.prog Tryd.clone_ren := {
  mixed := by kernel_rfl
  f15 := Tryd.func72.trans (congrArg some (by kernel_rfl))
  t3 := Tryd.underlying3
  a3 := Tryd.isAgg3
  z3 := Tryd.sizeOf3
  v3 := Tryd.zeroValue3
  t4 := Tryd.underlying4
  a4 := Tryd.isAgg4
  z4 := Tryd.sizeOf4
  v4 := Tryd.zeroValue4
  t22 := Tryd.underlying24
  a22 := Tryd.isAgg24
  z22 := Tryd.sizeOf24
  v22 := Tryd.zeroValue24
  i3 := by kernel_rfl }
end Go.Proofs
namespace Wb
open Go Go.Proofs Enc Row
theorem clone_ints {l : List Int} {w : World} {Z : Nat → Prop} {C : Ctx} {x : Value} {ex : Bool} (h0 : l ≠ []) (hr : Rep w Z C (.sl (il l) ex) x) (hZ : ∀ b, Z b → b < w.heap.size) :
    ∃ b off c, x = .slice (some ⟨b, off, none⟩) l.length c ∧ ∀ j, j < l.length → w.cell? ⟨b, off + j, none⟩ = some (.int .i64 (l.getD j 0)) := by
  cases hr with
  | @sl _ _ _ A len cap sz blk off vals h1 h2 h3 h4 h5 h6 h7 =>
    have hne : il l ≠ [] := by cases l <;> simp_all [il]
    have hlen : len = l.length := by rw [← h1]; simp [il]
    subst hlen
    refine ⟨blk, off, cap, by rw [h4 hne], fun j hj => ?_⟩
    have hj' : (il l)[j]? = some [PV.int .i64 l[j]] := by simp [il, hj]
    have hsz : sz = 1 := by
      have := h5 [PV.int .i64 l[j]] (List.mem_iff_getElem?.2 ⟨j, hj'⟩)
      simpa using this.symm
    subst hsz
    have a := (h6 j _ 0 (.int .i64 l[j]) hj' rfl).2
    have b := h7 j _ 0 (.int .i64 l[j]) hj' rfl
    generalize vals j 0 = y at a b
    cases b
    rw [show off + j = off + j * 1 + 0 by omega, a]
    simp [List.getD_eq_getElem?_getD, hj]
def s72 : Spec := spec1 (fun l : List Int => l ≠ [] ∧ l.length ≤ 1000) (fun l => .sl (il l) false)
theorem s72_ok : SpecOK Tryd.prog glB 72 s72 := by
  intro args pre r hs hp w Z xs hZ _ hx
  unfold s72 spec1 at hs
  match args, hs with
  | [p], hs =>
    obtain ⟨x, rfl⟩ : ∃ x, xs = [x] := by
      cases xs with
      | nil => exact hx.elim
      | cons x xs => cases xs with
        | nil => exact ⟨x, rfl⟩
        | cons _ _ => exact hx.2.elim
    simp only at hs
    cases hd : (dec p : Option (List Int)) with
    | none => rw [hd] at hs; cases hs
    | some l =>
      rw [hd] at hs
      cases hs
      obtain ⟨h0, h1⟩ := hp
      have hr : Rep w Z Ctx.nil (.sl (il l) false) x := wk_rep (Enc.wk_dec _ _ hd) hx.1
      obtain ⟨b, off, c, rfl, hc⟩ := clone_ints h0 hr hZ
      have hcall := Any.slices_Clone_int Tryd.clone_lays b off l.length c l w (Nat.le_refl _) (by omega) hc
      refine hcall.mono fun e w' hb => ?_
      obtain ⟨v, rfl, hown, hv, hbel⟩ := hb
      refine ⟨v, rfl, hbel, ?_⟩
      obtain ⟨h2, h3⟩ := hown
      rcases h3 with ⟨rfl, _⟩ | ⟨g, cap, cur, rfl, k1, k2, k3, k4, k5, k6⟩
      · exact absurd rfl hv
      · have hg : g < w'.heap.size := (Array.getElem?_eq_some_iff.1 k2).1
        refine .sl 1 g 0 (fun i _ => .int .i64 (l.getD i 0)) (by simp [il]) k3 (by simp) (fun _ => rfl) ?_ ?_ ?_
        · intro row hrow
          simp only [il, List.mem_map] at hrow
          obtain ⟨_, _, rfl⟩ := hrow; rfl
        · intro i row j q a b
          simp only [il, List.getElem?_map, Option.map_eq_some_iff] at a
          obtain ⟨m, hm, rfl⟩ := a
          cases j with
          | succ j => simp at b
          | zero =>
            obtain ⟨hi, hm'⟩ := List.getElem?_eq_some_iff.1 hm
            refine ⟨.inr ⟨k1, hg⟩, ?_⟩
            have e : cur.toList[i]? = some (.int .i64 (l.getD i 0)) := by
              have : (cur.toList.take (l.length * 1))[i]? = some (.int .i64 (l.getD i 0)) := by
                rw [k6]; simp [hi, List.getD_eq_getElem?_getD]
              rw [List.getElem?_take] at this
              split at this
              · exact this
              · cases this
            simp only [World.cell?, k2]
            simpa using e
        · intro i row j q a b
          simp only [il, List.getElem?_map, Option.map_eq_some_iff] at a
          obtain ⟨m, hm, rfl⟩ := a
          cases j with
          | succ j => simp at b
          | zero =>
            simp at b; subst b
            obtain ⟨hi, hm'⟩ := List.getElem?_eq_some_iff.1 hm
            have : l.getD i 0 = m := by simp [List.getD_eq_getElem?_getD, hm]
            rw [this]
            exact .int
end Wb
/- Stamp. -/
namespace Wb
open Go Go.Proofs Enc Row
set_option linter.unusedSimpArgs false
set_option linter.unusedVariables false
set_option maxRecDepth 20000
set_option maxHeartbeats 4000000
def E11t : List (Nat × Spec) := [(72, s72), (33, s33)] ++ E10t
theorem E11t_ok : AllOK E11t := ⟨⟨s72_ok, Tryd.call72⟩, ⟨s33_ok, Tryd.call33⟩, E10t_ok⟩
noncomputable def E11 : Env := mkE E11t []
theorem E11_ok : EnvOK Tryd.prog E11 := envOK E11t_ok trivial
theorem E11_ti {t : Nat} : E11.ti t = ti t := rfl
theorem E11_q0 : (E11).eqt 130 = true := rfl
theorem E11_q1 : (E11).keyt 3 = true := rfl
theorem E11_q2 : (E11).keyt 85 = true := rfl
attribute [go_sem] E11_ti E11_q0 E11_q1 E11_q2
/-- A slice of the call's own, whether or not it has room behind. -/
def Own2 (H : Heap) (S : Key → Prop) (p : PV) (sz : Nat) (rs : List (List PV)) : Prop :=
  ∃ K v ex, S K ∧ p = .sref K v sz rs.length ex ∧ H K = some (.rows sz rs v false)
theorem Own2.frame {H H' : Heap} {S : Key → Prop} {p : PV} {sz : Nat} {rs : List (List PV)} (h : Own2 H S p sz rs) (hH : ∀ K, S K → H' K = H K) : Own2 H' S p sz rs := by
  obtain ⟨K, v, ex, h1, h2, h3⟩ := h
  exact ⟨K, v, ex, h1, h2, (hH K h1).trans h3⟩
theorem app_own2 {E : Env} {K K2 : Key} {t e sz v2 : Nat} {p : PV} {rs : List (List PV)} {row : List PV} {ex ro : Bool} {q : Prop} {Q : PV → Heap → Prop} {H : Heap} {S : Key → Prop} (hq : q) (hk : (E.ti t).kind = .slice e) (hsz : (E.ti e).size = sz) (h0 : 0 < sz) (hb0 : 0 < (E.ti e).bytes)
    (hx : H K2 = some (.rows sz [row] v2 ro)) (hO : Own2 H S p sz rs) (hS : S K) (hb : (rs.length + 1) * (E.ti e).bytes ≤ 35184372088832) (hrow : row.length = sz ∧ cells1 row = true)
    (hQ : ∀ p' H', Own2 H' S p' sz (rs ++ [row]) → (∀ K', ¬ S K' → H' K' = H K') → Q p' H') : (app E K t p (.sref K2 v2 sz 1 ex)).wp q Q H := by
  subst hsz
  unfold app
  rw [hk]
  refine ⟨fun _ => h0, rowsOf_wp (xs := [row]) (.inr ⟨K2, v2, ex, ro, rfl, hx⟩) (fun r hr => by rw [List.mem_singleton.1 hr]; exact hrow) ?_⟩
  obtain ⟨K', v, ex', h1, rfl, h2⟩ := hO
  cases ex' with
  | true =>
    simp only [Prg.wp, h2]
    refine ⟨fun _ => ⟨trivial, trivial, trivial, trivial, h0, hb0, hb⟩, fun _ => .inl (List.cons_ne_nil _ _), fun _ => rfl, ?_⟩
    refine hQ _ _ ⟨K, _, false, hS, by simp, set_at_eq _ _ _⟩ fun K2 hK2 => set_at_ne _ _ fun h : K2 = K => hK2 (by rw [h]; exact hS)
  | false =>
    simp only [Prg.wp, h2]
    refine ⟨fun _ => ⟨trivial, trivial, trivial, trivial, h0, hb0, hb⟩, fun _ => trivial, hq, ?_⟩
    refine hQ _ _ ⟨K', _, false, h1, by simp, set_at_eq _ _ _⟩ fun K2 hK2 => set_at_ne _ _ fun h : K2 = K' => hK2 (by rw [h]; exact h1)
theorem Own2Taint {H : Heap} {S : Key → Prop} {p : PV} {sz : Nat} {rs : List (List PV)} (h : Own2 H S p sz rs) : taint p = True ∧ clean p = p ∧ cellP p = true ∧ valCells p = [p] ∧ ∀ {α : Type} (k : PV → Prg α), unt p k = k p := by
  obtain ⟨K, v, ex, h1, rfl, h2⟩ := h
  exact ⟨rfl, rfl, rfl, rfl, fun k => rfl⟩
def nums (l : List Int) : List PV := l.map fun n => .int .i64 n
def rowE (e : Int × List Int) : List PV := .int .i64 e.1 :: nums e.2
theorem cmp_lex : ∀ a b : List Int, decide (cmpL a b < 0) = lexLt a b
  | [], [] => rfl
  | [], _ :: _ => rfl
  | _ :: _, [] => rfl
  | a :: l, b :: m => by
    have ih := cmp_lex l m
    simp only [cmpL, lexLt, cmpI]
    by_cases h1 : a < b
    · have h2 : ¬ a = b := by omega
      simp [h1, h2]
    · by_cases h2 : a = b
      · subst h2; simpa using ih
      · have h3 : b < a := by omega
        have h4 : ¬ a ≤ b := by omega
        simp [h1, h2, h3, h4]
theorem stamps_in' : ∀ (l : List Int) (n : Int), 0 ≤ n → stampsOk n l = true → ∀ w ∈ l, 1 ≤ w ∧ w ≤ 1000
  | [], _, _, _, w, hw => by cases hw
  | a :: l, n, hn, h, w, hw => by
    simp only [stampsOk, btw, Bool.and_eq_true, decide_eq_true_eq] at h
    rcases List.mem_cons.1 hw with rfl | hw
    · omega
    · exact stamps_in' l a (by omega) h.2 w hw
theorem stamps_in {l : List Int} (h : stampsOk 0 l = true) : ∀ w ∈ l, 1 ≤ w ∧ w ≤ 1000 := stamps_in' l 0 (Int.le_refl _) h
theorem rows_tab (st : List Int) {i m : Nat} (h : m ≤ i) {z : List PV} : ((tabS st i).map rowE).getD m z = rowE (ent st m) := by
  have h1 := tabS_get st i m h
  have h2 : m < (tabS st i).length := by rw [tabS_len]; omega
  simp only [List.getD_eq_getElem?_getD, List.getElem?_map, List.getElem?_eq_getElem h2, Option.map_some, Option.getD_some] at *
  rw [h1]
theorem ent_five {st : List Int} (h5 : st.length ≤ 5) (hst : ∀ w ∈ st, 1 ≤ w) (m : Nat) : ∃ a o0 o1 o2 o3 o4, ent st m = (a, [o0, o1, o2, o3, o4]) := by
  have h : (ent st m).2.length = 5 := by
    rcases ent_says h5 hst m with ⟨e, _⟩ | ⟨v, h, e⟩
    · rw [e]; rfl
    · rw [e]; simp only [padS, List.length_append, List.length_replicate]
      have := h.is.len; omega
  generalize ent st m = e at *
  obtain ⟨a, l⟩ := e
  match l, h with
  | [o0, o1, o2, o3, o4], _ => exact ⟨a, o0, o1, o2, o3, o4, rfl⟩
theorem rowE5 (a o0 o1 o2 o3 o4 : Int) : rowE (a, [o0, o1, o2, o3, o4]) = [.int .i64 a, .int .i64 o0, .int .i64 o1, .int .i64 o2, .int .i64 o3, .int .i64 o4] := rfl
theorem mem_le_sum : ∀ (v : List Int), (∀ a ∈ v, 0 ≤ a) → ∀ x ∈ v, x ≤ sumL v
  | [], _, x, hx => by cases hx
  | a :: l, h, x, hx => by
    have h1 := sum_nonneg l fun a ha => h a (by simp [ha])
    have h2 := h a (by simp)
    simp only [sumL]
    rcases List.mem_cons.1 hx with rfl | hx
    · omega
    · have := mem_le_sum l (fun a ha => h a (by simp [ha])) x hx; omega
theorem ent_small {st : List Int} (h5 : st.length ≤ 5) (hst : ∀ w ∈ st, 1 ≤ w) (m : Nat) : (-1 ≤ (ent st m).1 ∧ (ent st m).1 ≤ m) ∧ ∀ x ∈ (ent st m).2, 0 ≤ x ∧ x ≤ m := by
  rcases ent_says h5 hst m with ⟨e, _⟩ | ⟨v, h, e⟩
  · rw [e]
    refine ⟨⟨Int.le_refl _, by simp only; omega⟩, fun x hx => ?_⟩
    simp only [List.mem_cons, List.not_mem_nil, or_false, or_self] at hx
    omega
  · rw [e]
    have h1 := sum_le_dot st v h.is.len.symm hst h.is.pos
    have h2 := sum_nonneg v h.is.pos
    rw [h.is.sum] at h1
    refine ⟨⟨by simp only; omega, h1⟩, fun x hx => ?_⟩
    simp only [padS, List.mem_append, List.mem_replicate] at hx
    rcases hx with hx | ⟨_, rfl⟩
    · exact ⟨h.is.pos x hx, Int.le_trans (mem_le_sum v h.is.pos x hx) h1⟩
    · omega
theorem inc_cells (o0 o1 o2 o3 o4 : Int) (j : Nat) (hj : j < 5) : ∃ oj p0 p1 p2 p3 p4, oj ∈ [o0, o1, o2, o3, o4] ∧ inc [o0, o1, o2, o3, o4] j = [p0, p1, p2, p3, p4] ∧
    (∀ x : PV, [x, PV.int .i64 o0, .int .i64 o1, .int .i64 o2, .int .i64 o3, .int .i64 o4].getD (1 + j * 1) (PV.int .i64 0) = .int .i64 oj) ∧
    ∀ x : PV, [x, PV.int .i64 o0, .int .i64 o1, .int .i64 o2, .int .i64 o3, .int .i64 o4].set (1 + j * 1) (.int .i64 (oj + 1)) = [x, .int .i64 p0, .int .i64 p1, .int .i64 p2, .int .i64 p3, .int .i64 p4] := by
  match j, hj with
  | 0, _ => exact ⟨o0, _, _, _, _, _, by simp, rfl, fun x => rfl, fun x => rfl⟩
  | 1, _ => exact ⟨o1, _, _, _, _, _, by simp, rfl, fun x => rfl, fun x => rfl⟩
  | 2, _ => exact ⟨o2, _, _, _, _, _, by simp, rfl, fun x => rfl, fun x => rfl⟩
  | 3, _ => exact ⟨o3, _, _, _, _, _, by simp, rfl, fun x => rfl, fun x => rfl⟩
  | 4, _ => exact ⟨o4, _, _, _, _, _, by simp, rfl, fun x => rfl, fun x => rfl⟩
theorem takeS_five {st : List Int} {tab : Nat → Int × List Int} {n k m : Nat} {best : Int × List Int} {a o0 o1 o2 o3 o4 : Int} (hb : best.2.length = 5) (hm : n - (st.getD k 0).toNat = m) (he : tab m = (a, [o0, o1, o2, o3, o4])) : (takeS st tab n best k).2.length = 5 := by
  unfold takeS
  split
  · exact hb
  · split
    · rw [hm, he]; rw [inc_len]; rfl
    · exact hb
theorem dec_five (a b c d e : Int) (ex : Bool) : (dec (.sl [[.int .i64 a], [.int .i64 b], [.int .i64 c], [.int .i64 d], [.int .i64 e]] ex) : Option (List Int)) = some [a, b, c, d, e] := rfl
theorem big_five : big 5 = True := eq_true (by unfold big; decide)
theorem arows5 (a b c d e : PV) : arows 1 5 [a, b, c, d, e] = [[a], [b], [c], [d], [e]] := rfl
attribute [go_sem] dec_five big_five arows5
theorem tabS_succ (st : List Int) (n : Nat) : tabS st (n + 1) = tabS st n ++ [ent st (n + 1)] := by
  unfold ent
  simp only [tabS, List.getD_eq_getElem?_getD]
  rw [List.getElem?_append_right (by rw [tabS_len]; omega), tabS_len]
  simp
theorem arows_take (a b c d e : Int) {n : Nat} (h : n ≤ 5) : arows 1 n [PV.int .i64 a, .int .i64 b, .int .i64 c, .int .i64 d, .int .i64 e] = il ([a, b, c, d, e].take n) := by
  match n, h with
  | 0, _ => rfl
  | 1, _ => rfl
  | 2, _ => rfl
  | 3, _ => rfl
  | 4, _ => rfl
  | 5, _ => rfl
theorem row_any (l : List (Int × List Int)) (n : Nat) (o0 o1 o2 o3 o4 : Int) : ∃ a, ((l.map rowE).getD n [PV.int .i64 0, .int .i64 o0, .int .i64 o1, .int .i64 o2, .int .i64 o3, .int .i64 o4]).getD 0 (PV.int .i64 0) = .int .i64 a := by
  simp only [List.getD_eq_getElem?_getD, List.getElem?_map]
  cases l[n]? with
  | none => exact ⟨0, rfl⟩
  | some e => exact ⟨e.1, rfl⟩
def stampO (b : PBook) (c : Int) : List Int × Int := if bookOk b then (if decide (0 ≤ c) && decide (c ≤ 20000) then (stampM b.stamps c.toNat, 0) else ([], 61)) else ([], 60)
theorem Stamp_fn (b : PBook) (h4 : Big4 b) (c : Int) : Fn E11 1 31 Tryd.f31 (Tryd.f31.body.getD .skip) [.agg (encB b), .int .i64 c] (.tup [.sl (il (stampO b c).1) true, .int .i64 (stampO b c).2]) := by
  unfold Fn Tryd.f31 stampO
  have hdb : (dec (.agg (encB b)) : Option PBook) = some b := dec_book b
  cases hb : bookOk b with
  | false =>
    obtain ⟨ps, ks, gr, fr, un, fe, st⟩ := b
    simp only [encB] at hdb
    simp only [go_sem, Nat.reduceAdd, Nat.reduceSub, Nat.reduceMul, Nat.reduceEqDiff, Nat.reduceLT, Nat.reduceLeDiff, Nat.reduceBEq, Nat.reduceBNe, Int.reduceToNat, Int.reduceLE, Int.reduceLT, Int.reduceNe, Int.reduceNeg, reduceCtorEq, Int.reduceBEq, Int.reduceBNe, @callV_spec E11 16 s16 rfl, @callV_specT E11 16 s16 rfl, @stepV_spec E11 16 s16 rfl, @effV_spec E11 16 s16 rfl, s16, @callV_spec E11 60 sTween rfl, @callV_specT E11 60 sTween rfl, @stepV_spec E11 60 sTween rfl, @effV_spec E11 60 sTween rfl, sTween, @callV_spec E11 61 s61 rfl, @callV_specT E11 61 s61 rfl, @stepV_spec E11 61 s61 rfl, @effV_spec E11 61 s61 rfl, s61, callSpec, encB, hdb, hb, h4, il_nil0]
  | true =>
    cases hz : (decide (0 ≤ c) && decide (c ≤ 20000)) with
    | false =>
      obtain ⟨ps, ks, gr, fr, un, fe, st⟩ := b
      simp only [encB] at hdb
      simp only [go_sem, Nat.reduceAdd, Nat.reduceSub, Nat.reduceMul, Nat.reduceEqDiff, Nat.reduceLT, Nat.reduceLeDiff, Nat.reduceBEq, Nat.reduceBNe, Int.reduceToNat, Int.reduceLE, Int.reduceLT, Int.reduceNe, Int.reduceNeg, reduceCtorEq, Int.reduceBEq, Int.reduceBNe, @callV_spec E11 16 s16 rfl, @callV_specT E11 16 s16 rfl, @stepV_spec E11 16 s16 rfl, @effV_spec E11 16 s16 rfl, s16, @callV_spec E11 60 sTween rfl, @callV_specT E11 60 sTween rfl, @stepV_spec E11 60 sTween rfl, @effV_spec E11 60 sTween rfl, sTween, @callV_spec E11 61 s61 rfl, @callV_specT E11 61 s61 rfl, @stepV_spec E11 61 s61 rfl, @effV_spec E11 61 s61 rfl, s61, callSpec, encB, hdb, hb, h4, il_nil0, hz]
    | true =>
      have hz' : 0 ≤ c ∧ c ≤ 20000 := by simp at hz; omega
      have hG := book_good hb
      obtain ⟨ps, ks, gr, fr, un, fe, st⟩ := b
      simp only [encB] at hdb
      simp only [go_sem, Nat.reduceAdd, Nat.reduceSub, Nat.reduceMul, Nat.reduceEqDiff, Nat.reduceLT, Nat.reduceLeDiff, Nat.reduceBEq, Nat.reduceBNe, Int.reduceToNat, Int.reduceLE, Int.reduceLT, Int.reduceNe, Int.reduceNeg, reduceCtorEq, Int.reduceBEq, Int.reduceBNe, @callV_spec E11 16 s16 rfl, @callV_specT E11 16 s16 rfl, @stepV_spec E11 16 s16 rfl, @effV_spec E11 16 s16 rfl, s16, @callV_spec E11 60 sTween rfl, @callV_specT E11 60 sTween rfl, @stepV_spec E11 60 sTween rfl, @effV_spec E11 60 sTween rfl, sTween, @callV_spec E11 61 s61 rfl, @callV_specT E11 61 s61 rfl, @stepV_spec E11 61 s61 rfl, @effV_spec E11 61 s61 rfl, s61, callSpec, encB, hdb, hb, h4, hz]
      refine ev_loopS [1, 2] (fun x : Nat × PV => [(7, x.2), (8, .int .i64 (x.1 + 1))])
        (fun x H => x.1 ≤ stampV st c.toNat ∧ H (([], 31000000) : Key) = some (.cells (encB ⟨ps, ks, gr, fr, un, fe, st⟩) 1 false) ∧ Own2 H (fun K => K = ([], 31006001) ∨ K = ([], 31020003)) x.2 6 ((tabS st x.1).map rowE))
        (fun x => stampV st c.toNat + 1 - x.1) (0, .sref ([], 31006001) 1 6 1 true) ?_ ⟨Nat.zero_le _, ?_, ([], 31006001), 1, true, .inl rfl, rfl, ?_⟩ ?_
      · simp only [go_sem, Nat.reduceAdd, Nat.reduceSub, Nat.reduceMul, Nat.reduceEqDiff, Nat.reduceLT, Nat.reduceLeDiff, Nat.reduceBEq, Nat.reduceBNe, Int.reduceToNat, Int.reduceLE, Int.reduceLT, Int.reduceNe, Int.reduceNeg, reduceCtorEq, Int.reduceBEq, Int.reduceBNe, Int.natCast_zero, Int.zero_add]
      · simp only [go_sem, Nat.reduceAdd, Nat.reduceSub, Nat.reduceMul, Nat.reduceEqDiff, Nat.reduceLT, Nat.reduceLeDiff, Nat.reduceBEq, Nat.reduceBNe, Int.reduceToNat, Int.reduceLE, Int.reduceLT, Int.reduceNe, Int.reduceNeg, reduceCtorEq, Int.reduceBEq, Int.reduceBNe, encB]
      · simp only [go_sem, Nat.reduceAdd, Nat.reduceSub, Nat.reduceMul, Nat.reduceEqDiff, Nat.reduceLT, Nat.reduceLeDiff, Nat.reduceBEq, Nat.reduceBNe, Int.reduceToNat, Int.reduceLE, Int.reduceLT, Int.reduceNe, Int.reduceNeg, reduceCtorEq, Int.reduceBEq, Int.reduceBNe]
        rfl
      · simp only [go_sem, Nat.reduceAdd, Nat.reduceSub, Nat.reduceMul, Nat.reduceEqDiff, Nat.reduceLT, Nat.reduceLeDiff, Nat.reduceBEq, Nat.reduceBNe, Int.reduceToNat, Int.reduceLE, Int.reduceLT, Int.reduceNe, Int.reduceNeg, reduceCtorEq, Int.reduceBEq, Int.reduceBNe]
        intro K x H ⟨hi, k1, k2⟩ hK hE
        obtain ⟨i, p⟩ := x
        simp only at hi k1 k2
        have k1' := k1
        simp only [encB] at k1'
        have hb5 := hG.s5
        simp only at hb5
        have hV := (stampV_ok (st := st) (by intro e; have := hG.s1; simp [e] at this) hb5 (stamps_in hG.st) c.toNat)
        have hi20 : i < 30000 := by omega
        obtain ⟨t1, t2, t3, t4, t5⟩ := Own2Taint k2
        simp only [go_sem, Nat.reduceAdd, Nat.reduceSub, Nat.reduceMul, Nat.reduceEqDiff, Nat.reduceLT, Nat.reduceLeDiff, Nat.reduceBEq, Nat.reduceBNe, Int.reduceToNat, Int.reduceLE, Int.reduceLT, Int.reduceNe, Int.reduceNeg, reduceCtorEq, Int.reduceBEq, Int.reduceBNe, k1', t1, t2, t3, t4, t5]
        generalize hv9 : verOf H ([], 31009001) + 1 = v9
        refine ev_loopS [1, 2, 7, 8, 9, 29, 30] (fun j : Nat => [(31, .int .i64 j)])
          (fun j H => j ≤ st.length ∧ H (([], 31000000) : Key) = some (.cells (encB ⟨ps, ks, gr, fr, un, fe, st⟩) 1 false) ∧ Own2 H (fun K => K = ([], 31006001) ∨ K = ([], 31020003)) p 6 ((tabS st i).map rowE) ∧
            H (([], 31009001) : Key) = some (.cells (rowE ((List.range j).foldl (takeS st (ent st) (i + 1)) (-1, [0, 0, 0, 0, 0]))) v9 false) ∧ ((List.range j).foldl (takeS st (ent st) (i + 1)) (-1, [0, 0, 0, 0, 0])).2.length = 5)
          (fun j => st.length - j) 0 ?_ ⟨Nat.zero_le _, ?_, ?_, ?_, rfl⟩ ?_
        · simp only [go_sem, Nat.reduceAdd, Nat.reduceSub, Nat.reduceMul, Nat.reduceEqDiff, Nat.reduceLT, Nat.reduceLeDiff, Nat.reduceBEq, Nat.reduceBNe, Int.reduceToNat, Int.reduceLE, Int.reduceLT, Int.reduceNe, Int.reduceNeg, reduceCtorEq, Int.reduceBEq, Int.reduceBNe]
        · simp only [go_sem, Nat.reduceAdd, Nat.reduceSub, Nat.reduceMul, Nat.reduceEqDiff, Nat.reduceLT, Nat.reduceLeDiff, Nat.reduceBEq, Nat.reduceBNe, Int.reduceToNat, Int.reduceLE, Int.reduceLT, Int.reduceNe, Int.reduceNeg, reduceCtorEq, Int.reduceBEq, Int.reduceBNe, encB, k1']
        · refine k2.frame fun K hK => ?_
          rcases hK with rfl | rfl <;> simp only [go_sem, Nat.reduceAdd, Nat.reduceSub, Nat.reduceMul, Nat.reduceEqDiff, Nat.reduceLT, Nat.reduceLeDiff, Nat.reduceBEq, Nat.reduceBNe, Int.reduceToNat, Int.reduceLE, Int.reduceLT, Int.reduceNe, Int.reduceNeg, reduceCtorEq, Int.reduceBEq, Int.reduceBNe]
        · simp only [go_sem, Nat.reduceAdd, Nat.reduceSub, Nat.reduceMul, Nat.reduceEqDiff, Nat.reduceLT, Nat.reduceLeDiff, Nat.reduceBEq, Nat.reduceBNe, Int.reduceToNat, Int.reduceLE, Int.reduceLT, Int.reduceNe, Int.reduceNeg, reduceCtorEq, Int.reduceBEq, Int.reduceBNe]
          rfl
        · simp only [go_sem, Nat.reduceAdd, Nat.reduceSub, Nat.reduceMul, Nat.reduceEqDiff, Nat.reduceLT, Nat.reduceLeDiff, Nat.reduceBEq, Nat.reduceBNe, Int.reduceToNat, Int.reduceLE, Int.reduceLT, Int.reduceNe, Int.reduceNeg, reduceCtorEq, Int.reduceBEq, Int.reduceBNe]
          intro K2 j H2 ⟨hj, g1, g2, g3, hl5⟩ hK2 hE2
          have g1' := g1
          simp only [encB] at g1'
          simp only [go_sem, Nat.reduceAdd, Nat.reduceSub, Nat.reduceMul, Nat.reduceEqDiff, Nat.reduceLT, Nat.reduceLeDiff, Nat.reduceBEq, Nat.reduceBNe, Int.reduceToNat, Int.reduceLE, Int.reduceLT, Int.reduceNe, Int.reduceNeg, reduceCtorEq, Int.reduceBEq, Int.reduceBNe, il_length]
          rw [condK_bool]
          refine ⟨fun hc => ?_, fun hc => ?_⟩
          · have h' : j + 1 ≤ st.length := by simp only [decide_eq_true_eq] at hc; omega
            have hj' : j < st.length := by simp only [decide_eq_true_eq] at hc; omega
            obtain ⟨Kp, vp, ex, hS, rfl, hHp⟩ := g2
            have u1 : (Kp = ([], 31009001)) = False := by rcases hS with rfl | rfl <;> simp
            have u2 : (Kp = ([], 31014006)) = False := by rcases hS with rfl | rfl <;> simp
            have u3 : ((([], 31014006) : Key) = Kp) = False := by rcases hS with rfl | rfl <;> simp
            have hw := stamps_in hG.st
            simp only at hw
            have hsj : st.getD j 0 ∈ st := by rw [List.getD_eq_getElem?_getD, List.getElem?_eq_getElem hj']; exact List.getElem_mem _
            have hwj := hw _ hsj
            have hji : (j : Int) < (st.length : Int) := by omega
            have w31 : IntKind.i64.wrap ((j : Int) + 1) = ((j + 1 : Nat) : Int) := by rw [Int.natCast_add, Int.natCast_one]; exact wrap_id (by omega)
            have hfold : (List.range (j + 1)).foldl (takeS st (ent st) (i + 1)) (-1, [0, 0, 0, 0, 0]) = takeS st (ent st) (i + 1) ((List.range j).foldl (takeS st (ent st) (i + 1)) (-1, [0, 0, 0, 0, 0])) j := by
              rw [List.range_succ, List.foldl_append]; rfl
            generalize (List.range j).foldl (takeS st (ent st) (i + 1)) (-1, [0, 0, 0, 0, 0]) = best at *
            by_cases hgt : st.getD j 0 > (i : Int) + 1
            · obtain ⟨av, hav⟩ := row_any (tabS st i) (IntKind.i64.wrap ((i : Int) + 1 - st.getD j 0)).toNat 0 0 0 0 0
              simp only [go_sem, Nat.reduceAdd, Nat.reduceSub, Nat.reduceMul, Nat.reduceEqDiff, Nat.reduceLT, Nat.reduceLeDiff, Nat.reduceBEq, Nat.reduceBNe, Int.reduceToNat, Int.reduceLE, Int.reduceLT, Int.reduceNe, Int.reduceNeg, reduceCtorEq, Int.reduceBEq, Int.reduceBNe, hHp, il_getD, il_length, hj', hji, hgt, hav]
              have hst : takeS st (ent st) (i + 1) best j = best := by
                unfold takeS; rw [if_pos (.inl (by omega))]
              rw [hst] at hfold
              refine hK2 (j + 1) _ _ ?_ ⟨h', g1, ⟨Kp, vp, ex, hS, rfl, hHp⟩, ?_, by rw [hfold]; exact hl5⟩ (by omega)
              · simp only [go_sem, Nat.reduceAdd, Nat.reduceSub, Nat.reduceMul, Nat.reduceEqDiff, Nat.reduceLT, Nat.reduceLeDiff, Nat.reduceBEq, Nat.reduceBNe, Int.reduceToNat, Int.reduceLE, Int.reduceLT, Int.reduceNe, Int.reduceNeg, reduceCtorEq, Int.reduceBEq, Int.reduceBNe, w31, il_length]
              · rw [hfold]; exact g3
            · have hm : ∃ m, m ≤ i ∧ (m : Int) = (i : Int) + 1 - st.getD j 0 := ⟨((i : Int) + 1 - st.getD j 0).toNat, by omega, by omega⟩
              obtain ⟨m, hm, hme⟩ := hm
              have wm : IntKind.i64.wrap ((i : Int) + 1 - st.getD j 0) = (m : Int) := by rw [← hme]; exact wrap_id (by omega)
              have hrow := fun z => rows_tab st hm (z := z)
              obtain ⟨a, o0, o1, o2, o3, o4, he⟩ := ent_five hb5 (fun w hw' => (hw w hw').1) m
              have hml : m < (tabS st i).length := by rw [tabS_len]; omega
              have hmi : (m : Int) < ((tabS st i).length : Int) := by omega
              have hmN : i + 1 - (st.getD j 0).toNat = m := by omega
              by_cases ha : a < 0
              · simp only [go_sem, Nat.reduceAdd, Nat.reduceSub, Nat.reduceMul, Nat.reduceEqDiff, Nat.reduceLT, Nat.reduceLeDiff, Nat.reduceBEq, Nat.reduceBNe, Int.reduceToNat, Int.reduceLE, Int.reduceLT, Int.reduceNe, Int.reduceNeg, reduceCtorEq, Int.reduceBEq, Int.reduceBNe, hHp, il_getD, il_length, hj', hji, hgt, wm, hrow, he, rowE5, hml, hmi, ha]
                have hst : takeS st (ent st) (i + 1) best j = best := by
                  unfold takeS; rw [hmN, he, if_pos (.inr ha)]
                rw [hst] at hfold
                refine hK2 (j + 1) _ _ ?_ ⟨h', g1, ⟨Kp, vp, ex, hS, rfl, hHp⟩, ?_, by rw [hfold]; exact hl5⟩ (by omega)
                · simp only [go_sem, Nat.reduceAdd, Nat.reduceSub, Nat.reduceMul, Nat.reduceEqDiff, Nat.reduceLT, Nat.reduceLeDiff, Nat.reduceBEq, Nat.reduceBNe, Int.reduceToNat, Int.reduceLE, Int.reduceLT, Int.reduceNe, Int.reduceNeg, reduceCtorEq, Int.reduceBEq, Int.reduceBNe, w31, il_length]
                · rw [hfold]; exact g3
              · obtain ⟨ba, bl⟩ := best
                simp only at hl5
                match bl, hl5 with
                | [b0, b1, b2, b3, b4], _ =>
                  have hj5 : (j : Int) < 5 := by omega
                  have hjb : 1 + j * 1 ≤ 5 := by omega
                  obtain ⟨oj, p0, p1, p2, p3, p4, q1, q2, q3, q4⟩ := inc_cells o0 o1 o2 o3 o4 j (by omega)
                  have hsm := ent_small hb5 (fun w hw' => (hw w hw').1) m
                  rw [he] at hsm
                  have hoj := hsm.2 oj q1
                  have hsa := hsm.1
                  simp only at hsa
                  have wa : IntKind.i64.wrap (a + 1) = a + 1 := wrap_id (by omega)
                  have wo : IntKind.i64.wrap (oj + 1) = oj + 1 := wrap_id (by omega)
                  simp only [go_sem, Nat.reduceAdd, Nat.reduceSub, Nat.reduceMul, Nat.reduceEqDiff, Nat.reduceLT, Nat.reduceLeDiff, Nat.reduceBEq, Nat.reduceBNe, Int.reduceToNat, Int.reduceLE, Int.reduceLT, Int.reduceNe, Int.reduceNeg, reduceCtorEq, Int.reduceBEq, Int.reduceBNe, @callV_spec E11 71 s71 rfl, @callV_specT E11 71 s71 rfl, @stepV_spec E11 71 s71 rfl, @effV_spec E11 71 s71 rfl, s71, callSpec, hHp, il_getD, il_length, hj', hji, hgt, wm, hrow, he, rowE5, hml, hmi, ha, g3, hj5, hjb, q3, q4, wa, wo, cmp_lex]
                  refine ⟨fun x y => ⟨x, y⟩, ?_⟩
                  have hstp : takeS st (ent st) (i + 1) (ba, [b0, b1, b2, b3, b4]) j = if ba < 0 ∨ a + 1 < ba ∨ a + 1 = ba ∧ lexLt [p0, p1, p2, p3, p4] [b0, b1, b2, b3, b4] = true then (a + 1, [p0, p1, p2, p3, p4]) else (ba, [b0, b1, b2, b3, b4]) := by
                    unfold takeS; rw [hmN, he, if_neg (by simp only; omega)]; simp only [q2]
                  rw [hstp] at hfold
                  rw [condK_bool]
                  refine ⟨fun hc2 => ?_, fun hc2 => ?_⟩
                  · have hc3 : ba < 0 ∨ a + 1 < ba ∨ a + 1 = ba ∧ lexLt [p0, p1, p2, p3, p4] [b0, b1, b2, b3, b4] = true := by simpa [or_assoc] using hc2
                    rw [if_pos hc3] at hfold
                    simp only [go_sem, Nat.reduceAdd, Nat.reduceSub, Nat.reduceMul, Nat.reduceEqDiff, Nat.reduceLT, Nat.reduceLeDiff, Nat.reduceBEq, Nat.reduceBNe, Int.reduceToNat, Int.reduceLE, Int.reduceLT, Int.reduceNe, Int.reduceNeg, reduceCtorEq, Int.reduceBEq, Int.reduceBNe, g3, rowE5]
                    refine hK2 (j + 1) _ _ ?_ ⟨h', ?_, ⟨Kp, vp, ex, hS, rfl, ?_⟩, ?_, by rw [hfold]; rfl⟩ (by omega)
                    · simp only [go_sem, Nat.reduceAdd, Nat.reduceSub, Nat.reduceMul, Nat.reduceEqDiff, Nat.reduceLT, Nat.reduceLeDiff, Nat.reduceBEq, Nat.reduceBNe, Int.reduceToNat, Int.reduceLE, Int.reduceLT, Int.reduceNe, Int.reduceNeg, reduceCtorEq, Int.reduceBEq, Int.reduceBNe, w31, il_length]
                    · simp only [go_sem, Nat.reduceAdd, Nat.reduceSub, Nat.reduceMul, Nat.reduceEqDiff, Nat.reduceLT, Nat.reduceLeDiff, Nat.reduceBEq, Nat.reduceBNe, Int.reduceToNat, Int.reduceLE, Int.reduceLT, Int.reduceNe, Int.reduceNeg, reduceCtorEq, Int.reduceBEq, Int.reduceBNe, g1]
                    · simp only [go_sem, Nat.reduceAdd, Nat.reduceSub, Nat.reduceMul, Nat.reduceEqDiff, Nat.reduceLT, Nat.reduceLeDiff, Nat.reduceBEq, Nat.reduceBNe, Int.reduceToNat, Int.reduceLE, Int.reduceLT, Int.reduceNe, Int.reduceNeg, reduceCtorEq, Int.reduceBEq, Int.reduceBNe, hHp, u1, u2]
                    · rw [hfold, rowE5]; simp only [go_sem, Nat.reduceAdd, Nat.reduceSub, Nat.reduceMul, Nat.reduceEqDiff, Nat.reduceLT, Nat.reduceLeDiff, Nat.reduceBEq, Nat.reduceBNe, Int.reduceToNat, Int.reduceLE, Int.reduceLT, Int.reduceNe, Int.reduceNeg, reduceCtorEq, Int.reduceBEq, Int.reduceBNe]
                  · have hc3 : ¬ (ba < 0 ∨ a + 1 < ba ∨ a + 1 = ba ∧ lexLt [p0, p1, p2, p3, p4] [b0, b1, b2, b3, b4] = true) := by
                      intro h; rw [show (decide (ba < 0) || decide (a + 1 < ba) || a + 1 == ba && lexLt [p0, p1, p2, p3, p4] [b0, b1, b2, b3, b4]) = true by simpa [or_assoc] using h] at hc2; cases hc2
                    rw [if_neg hc3] at hfold
                    simp only [go_sem, Nat.reduceAdd, Nat.reduceSub, Nat.reduceMul, Nat.reduceEqDiff, Nat.reduceLT, Nat.reduceLeDiff, Nat.reduceBEq, Nat.reduceBNe, Int.reduceToNat, Int.reduceLE, Int.reduceLT, Int.reduceNe, Int.reduceNeg, reduceCtorEq, Int.reduceBEq, Int.reduceBNe]
                    refine hK2 (j + 1) _ _ ?_ ⟨h', ?_, ⟨Kp, vp, ex, hS, rfl, ?_⟩, ?_, by rw [hfold]; rfl⟩ (by omega)
                    · simp only [go_sem, Nat.reduceAdd, Nat.reduceSub, Nat.reduceMul, Nat.reduceEqDiff, Nat.reduceLT, Nat.reduceLeDiff, Nat.reduceBEq, Nat.reduceBNe, Int.reduceToNat, Int.reduceLE, Int.reduceLT, Int.reduceNe, Int.reduceNeg, reduceCtorEq, Int.reduceBEq, Int.reduceBNe, w31, il_length]
                    · simp only [go_sem, Nat.reduceAdd, Nat.reduceSub, Nat.reduceMul, Nat.reduceEqDiff, Nat.reduceLT, Nat.reduceLeDiff, Nat.reduceBEq, Nat.reduceBNe, Int.reduceToNat, Int.reduceLE, Int.reduceLT, Int.reduceNe, Int.reduceNeg, reduceCtorEq, Int.reduceBEq, Int.reduceBNe, g1]
                    · simp only [go_sem, Nat.reduceAdd, Nat.reduceSub, Nat.reduceMul, Nat.reduceEqDiff, Nat.reduceLT, Nat.reduceLeDiff, Nat.reduceBEq, Nat.reduceBNe, Int.reduceToNat, Int.reduceLE, Int.reduceLT, Int.reduceNe, Int.reduceNeg, reduceCtorEq, Int.reduceBEq, Int.reduceBNe, hHp, u1, u2]
                    · rw [hfold]; simp only [go_sem, Nat.reduceAdd, Nat.reduceSub, Nat.reduceMul, Nat.reduceEqDiff, Nat.reduceLT, Nat.reduceLeDiff, Nat.reduceBEq, Nat.reduceBNe, Int.reduceToNat, Int.reduceLE, Int.reduceLT, Int.reduceNe, Int.reduceNeg, reduceCtorEq, Int.reduceBEq, Int.reduceBNe, g3]
          · have hj' : j = st.length := by simp only [decide_eq_false_iff_not] at hc; omega
            subst hj'
            have hw := stamps_in hG.st
            simp only at hw
            have hbest : (List.range st.length).foldl (takeS st (ent st) (i + 1)) (-1, [0, 0, 0, 0, 0]) = ent st (i + 1) := (ent_succ (fun w hw' => (hw w hw').1) i).symm
            rw [hbest] at g3
            obtain ⟨a, o0, o1, o2, o3, o4, he⟩ := ent_five hb5 (fun w hw' => (hw w hw').1) (i + 1)
            rw [he, rowE5] at g3
            simp only [go_sem, Nat.reduceAdd, Nat.reduceSub, Nat.reduceMul, Nat.reduceEqDiff, Nat.reduceLT, Nat.reduceLeDiff, Nat.reduceBEq, Nat.reduceBNe, Int.reduceToNat, Int.reduceLE, Int.reduceLT, Int.reduceNe, Int.reduceNeg, reduceCtorEq, Int.reduceBEq, Int.reduceBNe]
            refine hE2 _ _ _ (by simp) ?_
            simp only [go_sem, Nat.reduceAdd, Nat.reduceSub, Nat.reduceMul, Nat.reduceEqDiff, Nat.reduceLT, Nat.reduceLeDiff, Nat.reduceBEq, Nat.reduceBNe, Int.reduceToNat, Int.reduceLE, Int.reduceLT, Int.reduceNe, Int.reduceNeg, reduceCtorEq, Int.reduceBEq, Int.reduceBNe, g3, t1, t2, t3, t4, t5]
            refine app_own2 (ro := false) (E := E11) (t := 115) (e := 114) (sz := 6) (S := fun K => K = ([], 31006001) ∨ K = ([], 31020003)) (rs := (tabS st i).map rowE) (row := rowE (ent st (i + 1))) trivial rfl rfl (by decide) (by decide) ?_ (g2.frame fun K hK => ?_) (.inr rfl) ?_ ?_ ?_
            · rw [he, rowE5]; simp only [go_sem, Nat.reduceAdd, Nat.reduceSub, Nat.reduceMul, Nat.reduceEqDiff, Nat.reduceLT, Nat.reduceLeDiff, Nat.reduceBEq, Nat.reduceBNe, Int.reduceToNat, Int.reduceLE, Int.reduceLT, Int.reduceNe, Int.reduceNeg, reduceCtorEq, Int.reduceBEq, Int.reduceBNe]
            · rcases hK with rfl | rfl <;> simp only [go_sem, Nat.reduceAdd, Nat.reduceSub, Nat.reduceMul, Nat.reduceEqDiff, Nat.reduceLT, Nat.reduceLeDiff, Nat.reduceBEq, Nat.reduceBNe, Int.reduceToNat, Int.reduceLE, Int.reduceLT, Int.reduceNe, Int.reduceNeg, reduceCtorEq, Int.reduceBEq, Int.reduceBNe]
            · rw [List.length_map, tabS_len]; show (i + 1 + 1) * 48 ≤ _; omega
            · rw [he, rowE5]; exact ⟨rfl, rfl⟩
            intro p' H3 hO hF
            rw [show (tabS st i).map rowE ++ [rowE (ent st (i + 1))] = (tabS st (i + 1)).map rowE by rw [tabS_succ, List.map_append]; rfl] at hO
            obtain ⟨y1, y2, y3, y4, y5⟩ := Own2Taint hO
            have f1 := (hF ([], 31000000) (by simp)).trans (show _ = some (.cells (encB ⟨ps, ks, gr, fr, un, fe, st⟩) 1 false) by simp only [go_sem, Nat.reduceAdd, Nat.reduceSub, Nat.reduceMul, Nat.reduceEqDiff, Nat.reduceLT, Nat.reduceLeDiff, Nat.reduceBEq, Nat.reduceBNe, Int.reduceToNat, Int.reduceLE, Int.reduceLT, Int.reduceNe, Int.reduceNeg, reduceCtorEq, Int.reduceBEq, Int.reduceBNe, g1])
            have f1' := f1
            simp only [encB] at f1'
            have hOk := hO
            obtain ⟨Kp, vp, ex, hS, rfl, hHp⟩ := hO
            have u1 : (Kp = ([], 31021005)) = False := by rcases hS with rfl | rfl <;> simp
            have u3 : ((([], 31021005) : Key) = Kp) = False := by rcases hS with rfl | rfl <;> simp
            obtain ⟨a', e0, e1, e2, e3, e4, hei⟩ := ent_five hb5 (fun w hw' => (hw w hw').1) i
            have hrow := fun z => rows_tab st (Nat.le_succ i) (z := z)
            have wn : IntKind.i64.wrap ((i : Int) + 1 - 1) = (i : Int) := by rw [Int.add_sub_cancel]; exact wrap_id (by omega)
            have hil : i < (tabS st (i + 1)).length := by rw [tabS_len]; omega
            have hili : (i : Int) < ((tabS st (i + 1)).length : Int) := by omega
            simp only [go_sem, Nat.reduceAdd, Nat.reduceSub, Nat.reduceMul, Nat.reduceEqDiff, Nat.reduceLT, Nat.reduceLeDiff, Nat.reduceBEq, Nat.reduceBNe, Int.reduceToNat, Int.reduceLE, Int.reduceLT, Int.reduceNe, Int.reduceNeg, reduceCtorEq, Int.reduceBEq, Int.reduceBNe, hHp, wn, hrow, hei, rowE5, hil, hili]
            rw [condK_bool]
            refine ⟨fun hc2 => ?_, fun hc2 => ?_⟩
            · have hc3 : (i : Int) + 1 > c ∧ a' ≥ 0 := by simpa using hc2
              have hiV : i = stampV st c.toNat := by
                by_cases hlt : i < stampV st c.toNat
                · have := (hV.2.2.2.2 i (by omega) hlt).1
                  rw [hei] at this
                  simp only at this; omega
                · omega
              have hM : stampM st c.toNat = [e0, e1, e2, e3, e4].take st.length := by
                unfold stampM; rw [← hiV, hei]
              have hs1 := hG.s1
              simp only at hs1
              have hlen : (stampM st c.toNat).length = st.length := by rw [hM, List.length_take]; simp only [List.length_cons, List.length_nil]; omega
              have hne : (stampM st c.toNat = []) = False := eq_false fun e => by rw [e] at hlen; simp at hlen; omega
              have hle : ((stampM st c.toNat).length ≤ 1000) = True := eq_true (by omega)
              have har : arows 1 st.length [PV.int .i64 e0, PV.int .i64 e1, PV.int .i64 e2, PV.int .i64 e3, PV.int .i64 e4] = il (stampM st c.toNat) := by
                rw [hM]; exact arows_take _ _ _ _ _ (by omega)
              have hc5 : ((st.length : Int) ≤ 5) = True := eq_true (by omega)
              have hc6 : (1 + st.length * 1 ≤ 6) = True := eq_true (by omega)
              simp only [go_sem, Nat.reduceAdd, Nat.reduceSub, Nat.reduceMul, Nat.reduceEqDiff, Nat.reduceLT, Nat.reduceLeDiff, Nat.reduceBEq, Nat.reduceBNe, Int.reduceToNat, Int.reduceLE, Int.reduceLT, Int.reduceNe, Int.reduceNeg, reduceCtorEq, Int.reduceBEq, Int.reduceBNe, @callV_spec E11 72 s72 rfl, @callV_specT E11 72 s72 rfl, @stepV_spec E11 72 s72 rfl, @effV_spec E11 72 s72 rfl, s72, callSpec, f1', il_length, har, hc5, hc6, hne, hle, List.take_length]
              refine ⟨Int.le_refl _, hE _ _ _ (by simp) ?_⟩
              rw [show List.take (stampM st c.toNat).length (il (stampM st c.toNat)) = il (stampM st c.toNat) by rw [← il_length]; exact List.take_length]
              simp only [go_sem, Nat.reduceAdd, Nat.reduceSub, Nat.reduceMul, Nat.reduceEqDiff, Nat.reduceLT, Nat.reduceLeDiff, Nat.reduceBEq, Nat.reduceBNe, Int.reduceToNat, Int.reduceLE, Int.reduceLT, Int.reduceNe, Int.reduceNeg, reduceCtorEq, Int.reduceBEq, Int.reduceBNe]
            · have hiV : i < stampV st c.toNat := by
                by_cases hlt : i < stampV st c.toNat
                · exact hlt
                · exfalso
                  have hiV : i = stampV st c.toNat := by omega
                  have h1 := hV.2.2.2.1
                  rw [← hiV, hei] at h1
                  have h2 := sum_nonneg _ hV.2.2.1.is.pos
                  have h3 : a' = sumL (stampM st c.toNat) := congrArg Prod.fst h1
                  have h4 := hV.1
                  rw [show (decide ((i : Int) + 1 > c) && decide (a' ≥ 0)) = true by simp; omega] at hc2
                  cases hc2
              have w25 : IntKind.i64.wrap ((i : Int) + 1 + 1) = ((i + 1 : Nat) : Int) + 1 := by rw [Int.natCast_add, Int.natCast_one]; exact wrap_id (by omega)
              simp only [go_sem, Nat.reduceAdd, Nat.reduceSub, Nat.reduceMul, Nat.reduceEqDiff, Nat.reduceLT, Nat.reduceLeDiff, Nat.reduceBEq, Nat.reduceBNe, Int.reduceToNat, Int.reduceLE, Int.reduceLT, Int.reduceNe, Int.reduceNeg, reduceCtorEq, Int.reduceBEq, Int.reduceBNe]
              refine hK (i + 1, .sref Kp vp 6 ((tabS st (i + 1)).map rowE).length ex) _ _ ?_ ⟨hiV, ?_, Kp, vp, ex, hS, rfl, ?_⟩ (by simp only; omega)
              · simp only [go_sem, Nat.reduceAdd, Nat.reduceSub, Nat.reduceMul, Nat.reduceEqDiff, Nat.reduceLT, Nat.reduceLeDiff, Nat.reduceBEq, Nat.reduceBNe, Int.reduceToNat, Int.reduceLE, Int.reduceLT, Int.reduceNe, Int.reduceNeg, reduceCtorEq, Int.reduceBEq, Int.reduceBNe, w25]
              · simp only [go_sem, Nat.reduceAdd, Nat.reduceSub, Nat.reduceMul, Nat.reduceEqDiff, Nat.reduceLT, Nat.reduceLeDiff, Nat.reduceBEq, Nat.reduceBNe, Int.reduceToNat, Int.reduceLE, Int.reduceLT, Int.reduceNe, Int.reduceNeg, reduceCtorEq, Int.reduceBEq, Int.reduceBNe, f1]
              · simp only [go_sem, Nat.reduceAdd, Nat.reduceSub, Nat.reduceMul, Nat.reduceEqDiff, Nat.reduceLT, Nat.reduceLeDiff, Nat.reduceBEq, Nat.reduceBNe, Int.reduceToNat, Int.reduceLE, Int.reduceLT, Int.reduceNe, Int.reduceNeg, reduceCtorEq, Int.reduceBEq, Int.reduceBNe, hHp, u1]
def s31 : Spec := spec2 (fun (b : PBook) (_ : Int) => Big4 b) (fun b c => .tup [.sl (il (stampO b c).1) true, .int .i64 (stampO b c).2])
theorem s31_ok : SpecOK Tryd.prog glB 31 s31 := spec2_ok E11_ok Tryd.func31 rfl (by kernel_rfl) fun b c h => Stamp_fn b h c
end Wb
/- The chapter's examples. -/
namespace Wb
open Go Go.Proofs Enc Row
set_option linter.unusedSimpArgs false
set_option linter.unusedVariables false
set_option maxRecDepth 20000
set_option maxHeartbeats 4000000
def bk : PBook := ⟨[⟨10, 500, 300, false⟩, ⟨20, 800, 1200, false⟩, ⟨5, 200, 100, true⟩, ⟨30, 1500, 2000, false⟩], [⟨25, 1000, [10, 12, 14, 16, 18], 2⟩, ⟨60, 3000, [20, 24, 28, 32, 36], 5⟩], 500, 1000, 1000, 3, [1, 2, 5, 10]⟩
theorem bk_ok : bookOk bk = true := by decide +kernel
theorem bk_fits : fitsM bk ⟨1, [0, 1, 3]⟩ = (true, 0) := by decide +kernel
theorem bk_post : postM bk ⟨1, [0, 1, 3]⟩ 4 = (70, 0) := by decide +kernel
theorem bk_div : isDivM bk [⟨0, [2]⟩, ⟨1, [0, 1, 3]⟩] = (true, 0) := by decide +kernel
theorem bk_big : bigM bk = ([], 0) := by decide +kernel
theorem bk_whole0 : (wholeM true bk 0).1.2 = 64 ∧ (wholeM true bk 0).2 = 0 := by decide +kernel
theorem bk_few : fewM bk = (2, 0) := by decide +kernel
theorem bk_cost : costM bk 0 = (64, 0) := by decide +kernel
theorem bk_cheap : (cheapestM bk 0).1.length = 2 ∧ (cheapestM bk 0).2 = 0 := by decide +kernel
theorem bk_stamp : stampO bk 64 = ([0, 2, 0, 6], 0) := by decide +kernel
theorem bk_send : sendM bk 0 33 = ([3], 0) := by decide +kernel
theorem book_fn : Fn E11 0 53 Tryd.f53 (Tryd.f53.body.getD .skip) [] (.agg (encB bk)) := by
  unfold Fn Tryd.f53
  simp only [go_sem, Nat.reduceAdd, Nat.reduceSub, Nat.reduceMul, Nat.reduceEqDiff, Nat.reduceLT, Nat.reduceLeDiff, Nat.reduceBEq, Nat.reduceBNe, Int.reduceToNat, Int.reduceLE, Int.reduceLT, Int.reduceNe, Int.reduceNeg, reduceCtorEq, Int.reduceBEq, Int.reduceBNe, @callV_spec E11 82 s82 rfl, @callV_specT E11 82 s82 rfl, @stepV_spec E11 82 s82 rfl, @effV_spec E11 82 s82 rfl, s82, callSpec]
  simp [wk.wkL, wk.wkR, wk, encB, bk, encP, encK, il]
/-- The chapter's book, as a name that nothing unfolds. -/
noncomputable def bkX : PBook := Classical.choose (⟨bk, rfl⟩ : ∃ b, b = bk)
theorem bkX_eq : bkX = bk := Classical.choose_spec (⟨bk, rfl⟩ : ∃ b, b = bk)
noncomputable def s53 : Spec := spec0 True (.agg (encB bkX))
theorem s53_ok : SpecOK Tryd.prog glB 53 s53 := spec0_ok E11_ok Tryd.func53 rfl (by kernel_rfl) fun _ => by rw [bkX_eq]; exact book_fn
end Wb
/- The chapter's examples hold. -/
namespace Wb
open Go Go.Proofs Enc Row
set_option linter.unusedSimpArgs false
set_option linter.unusedVariables false
set_option maxRecDepth 20000
set_option maxHeartbeats 4000000
/-- Send's model, as a name that the kernel does not unfold. -/
noncomputable def sendX : PBook → Int → Int → List Int × Int := Classical.choose (⟨sendM, rfl⟩ : ∃ f, f = sendM)
theorem sendX_eq : sendX = sendM := Classical.choose_spec (⟨sendM, rfl⟩ : ∃ f, f = sendM)
noncomputable def s33x : Spec := spec3 (fun (b : PBook) (_ _ : Int) => Big4 b) (fun b z c => .tup [.sl (il (sendX b z c).1) true, .int .i64 (sendX b z c).2])
theorem s33x_ok : SpecOK Tryd.prog glB 33 s33x := by
  have e : s33x = s33 := by unfold s33x s33; rw [sendX_eq]
  rw [e]; exact s33_ok
noncomputable def E12t : List (Nat × Spec) := [(33, s33x), (20, s20), (24, s24), (31, s31), (53, s53)] ++ E11t
theorem E12t_ok : AllOK E12t := ⟨⟨s33x_ok, Tryd.call33⟩, ⟨s20_ok, Tryd.call20⟩, ⟨s24_ok, Tryd.call24⟩, ⟨s31_ok, Tryd.call31⟩, ⟨s53_ok, Tryd.call53⟩, E11t_ok⟩
noncomputable def E12 : Env := mkE E12t []
theorem E12_ok : EnvOK Tryd.prog E12 := envOK E12t_ok trivial
theorem E12_ti {t : Nat} : E12.ti t = ti t := rfl
theorem E12_q0 : (E12).eqt 130 = true := rfl
theorem E12_q1 : (E12).keyt 3 = true := rfl
theorem E12_q2 : (E12).keyt 85 = true := rfl
attribute [go_sem] E12_ti E12_q0 E12_q1 E12_q2
theorem bk_big4 : Big4 bkX := by
  rw [bkX_eq]
  refine ⟨?_, ?_, ?_, ?_⟩ <;> simp [bk, big]
theorem stamped_fn : Fn E12 0 23 Tryd.f23 (Tryd.f23.body.getD .skip) [] (.bool true) := by
  unfold Fn Tryd.f23
  have xfits := bk_fits; rw [← bkX_eq] at xfits
  have xpost := bk_post; rw [← bkX_eq] at xpost
  have xdiv := bk_div; rw [← bkX_eq] at xdiv
  have xbig := bk_big; rw [← bkX_eq] at xbig
  have xfew := bk_few; rw [← bkX_eq] at xfew
  have xcost := bk_cost; rw [← bkX_eq] at xcost
  have xcheap := bk_cheap; rw [← bkX_eq] at xcheap
  have xstamp := bk_stamp; rw [← bkX_eq] at xstamp
  have xsend := bk_send; rw [← bkX_eq, ← sendX_eq] at xsend
  have hη : (⟨bkX.pieces, bkX.kinds, bkX.grams, bkX.free, bkX.unit, bkX.fee, bkX.stamps⟩ : PBook) = bkX := rfl
  have h1 : (dec (.sl [[.int .i64 0], [.int .i64 1], [.int .i64 3]] true) : Option (List Int)) = some [0, 1, 3] := rfl
  have h2 : (dec (.sl [[.int .i64 2]] true) : Option (List Int)) = some [2] := rfl
  have h3 : (dec (.sl [[.int .i64 3]] true) : Option (List Int)) = some [3] := rfl
  have h4 : (dec (.sl [[.int .i64 0], [.int .i64 2], [.int .i64 0], [.int .i64 6]] true) : Option (List Int)) = some [0, 2, 0, 6] := rfl
  have h5 : (dec (.sl [[.int .i64 0, .sl (il [2]) false], [.int .i64 1, .sl (il [0, 1, 3]) false]] true) : Option (List Parc)) = some [⟨0, [2]⟩, ⟨1, [0, 1, 3]⟩] := drows_rows [(⟨0, [2]⟩ : Parc), ⟨1, [0, 1, 3]⟩]
  have h7 : (il []).length = 0 := rfl
  have g1 : big (stampO bkX 64).1.length = True := by rw [xstamp]; exact eq_true (by unfold big; decide)
  have g2 : big (sendX bkX 0 33).1.length = True := by rw [xsend]; exact eq_true (by unfold big; decide)
  have g3 : big [(⟨0, [2]⟩ : Parc), ⟨1, [0, 1, 3]⟩].length = True := eq_true (by unfold big; decide)
  have g4 : big [(0 : Int), 1, 3].length = True := eq_true (by unfold big; decide)
  have h6 : (∀ q : Parc, q ∈ [(⟨0, [2]⟩ : Parc), ⟨1, [0, 1, 3]⟩] → big q.pieces.length) = True := eq_true (by simp [big])
  have h8 : (∀ q : Parc, q = ⟨0, [2]⟩ ∨ q = ⟨1, [0, 1, 3]⟩ → big q.pieces.length) = True := eq_true (by rintro q (rfl | rfl) <;> simp [big])
  simp (maxSteps := 4000000) only [go_sem, Nat.reduceAdd, Nat.reduceSub, Nat.reduceMul, Nat.reduceEqDiff, Nat.reduceLT, Nat.reduceLeDiff, Nat.reduceBEq, Nat.reduceBNe, Int.reduceToNat, Int.reduceLE, Int.reduceLT, Int.reduceNe, Int.reduceNeg, reduceCtorEq, Int.reduceBEq, Int.reduceBNe, @callV_spec E12 53 s53 rfl, @callV_specT E12 53 s53 rfl, @stepV_spec E12 53 s53 rfl, @effV_spec E12 53 s53 rfl, s53, @callV_spec E12 42 s42 rfl, @callV_specT E12 42 s42 rfl, @stepV_spec E12 42 s42 rfl, @effV_spec E12 42 s42 rfl, s42, @callV_spec E12 14 s14 rfl, @callV_specT E12 14 s14 rfl, @stepV_spec E12 14 s14 rfl, @effV_spec E12 14 s14 rfl, s14, @callV_spec E12 18 s18 rfl, @callV_specT E12 18 s18 rfl, @stepV_spec E12 18 s18 rfl, @effV_spec E12 18 s18 rfl, s18, @callV_spec E12 24 s24 rfl, @callV_specT E12 24 s24 rfl, @stepV_spec E12 24 s24 rfl, @effV_spec E12 24 s24 rfl, s24, @callV_spec E12 29 s29 rfl, @callV_specT E12 29 s29 rfl, @stepV_spec E12 29 s29 rfl, @effV_spec E12 29 s29 rfl, s29, @callV_spec E12 28 s28 rfl, @callV_specT E12 28 s28 rfl, @stepV_spec E12 28 s28 rfl, @effV_spec E12 28 s28 rfl, s28, @callV_spec E12 26 s26 rfl, @callV_specT E12 26 s26 rfl, @stepV_spec E12 26 s26 rfl, @effV_spec E12 26 s26 rfl, s26, @callV_spec E12 20 s20 rfl, @callV_specT E12 20 s20 rfl, @stepV_spec E12 20 s20 rfl, @effV_spec E12 20 s20 rfl, s20, @callV_spec E12 31 s31 rfl, @callV_specT E12 31 s31 rfl, @stepV_spec E12 31 s31 rfl, @effV_spec E12 31 s31 rfl, s31, @callV_spec E12 33 s33x rfl, @callV_specT E12 33 s33x rfl, @stepV_spec E12 33 s33x rfl, @effV_spec E12 33 s33x rfl, s33x, @callV_spec E12 22 s22 rfl, @callV_specT E12 22 s22 rfl, @stepV_spec E12 22 s22 rfl, @effV_spec E12 22 s22 rfl, s22, callSpec, encB, hη, bk_big4, h1, h2, h3, h4, h5, h6, ite_self, List.length_map, h7, h8, g1, g2, g3, g4, Int.natCast_zero]
  rw [condK_bool]
  refine ⟨fun h => absurd h (by simp [xfits, xpost, xdiv, xcheap]), fun _ => ?_⟩
  have c1 : ((costM bkX 0).2 == 0) = true := by rw [xcost]; rfl
  have c2 : ((fewM bkX).2 == 0) = true := by rw [xfew]; rfl
  have c3 : ((bigM bkX).2 == 0) = true := by rw [xbig]; rfl
  have c4 : ((stampO bkX 64).2 == 0) = true := by rw [xstamp]; rfl
  have c5 : ((sendX bkX 0 33).2 == 0) = true := by rw [xsend]; rfl
  have c6 : ((costM bkX 0).1 == 64) = true := by rw [xcost]; rfl
  have c7 : ((fewM bkX).1 == 2) = true := by rw [xfew]; rfl
  have c8 : (((il (bigM bkX).1).length : Int) == 0) = true := by rw [xbig]; rfl
  have c9 : ((stampO bkX 64).1 == [0, 2, 0, 6]) = true := by rw [xstamp]; rfl
  have c10 : ((sendX bkX 0 33).1 == [3]) = true := by rw [xsend]; rfl
  simp (maxSteps := 4000000) only [go_sem, Nat.reduceAdd, Nat.reduceSub, Nat.reduceMul, Nat.reduceEqDiff, Nat.reduceLT, Nat.reduceLeDiff, Nat.reduceBEq, Nat.reduceBNe, Int.reduceToNat, Int.reduceLE, Int.reduceLT, Int.reduceNe, Int.reduceNeg, reduceCtorEq, Int.reduceBEq, Int.reduceBNe, @callV_spec E12 53 s53 rfl, @callV_specT E12 53 s53 rfl, @stepV_spec E12 53 s53 rfl, @effV_spec E12 53 s53 rfl, s53, @callV_spec E12 42 s42 rfl, @callV_specT E12 42 s42 rfl, @stepV_spec E12 42 s42 rfl, @effV_spec E12 42 s42 rfl, s42, @callV_spec E12 14 s14 rfl, @callV_specT E12 14 s14 rfl, @stepV_spec E12 14 s14 rfl, @effV_spec E12 14 s14 rfl, s14, @callV_spec E12 18 s18 rfl, @callV_specT E12 18 s18 rfl, @stepV_spec E12 18 s18 rfl, @effV_spec E12 18 s18 rfl, s18, @callV_spec E12 24 s24 rfl, @callV_specT E12 24 s24 rfl, @stepV_spec E12 24 s24 rfl, @effV_spec E12 24 s24 rfl, s24, @callV_spec E12 29 s29 rfl, @callV_specT E12 29 s29 rfl, @stepV_spec E12 29 s29 rfl, @effV_spec E12 29 s29 rfl, s29, @callV_spec E12 28 s28 rfl, @callV_specT E12 28 s28 rfl, @stepV_spec E12 28 s28 rfl, @effV_spec E12 28 s28 rfl, s28, @callV_spec E12 26 s26 rfl, @callV_specT E12 26 s26 rfl, @stepV_spec E12 26 s26 rfl, @effV_spec E12 26 s26 rfl, s26, @callV_spec E12 20 s20 rfl, @callV_specT E12 20 s20 rfl, @stepV_spec E12 20 s20 rfl, @effV_spec E12 20 s20 rfl, s20, @callV_spec E12 31 s31 rfl, @callV_specT E12 31 s31 rfl, @stepV_spec E12 31 s31 rfl, @effV_spec E12 31 s31 rfl, s31, @callV_spec E12 33 s33x rfl, @callV_specT E12 33 s33x rfl, @stepV_spec E12 33 s33x rfl, @effV_spec E12 33 s33x rfl, s33x, @callV_spec E12 22 s22 rfl, @callV_specT E12 22 s22 rfl, @stepV_spec E12 22 s22 rfl, @effV_spec E12 22 s22 rfl, s22, callSpec, encB, hη, bk_big4, h1, h2, h3, h4, h5, h6, ite_self, List.length_map, h7, h8, g1, g2, g3, g4, Int.natCast_zero, c1, c2, c3, c4, c5, c6, c7, c8, c9, c10]
noncomputable def s23 : Spec := spec0 True (.bool true)
theorem s23_ok : SpecOK Tryd.prog glB 23 s23 := spec0_ok E12_ok Tryd.func23 rfl (by kernel_rfl) fun _ => stamped_fn
end Wb
