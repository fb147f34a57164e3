import Derived.Test.YticjjabioiilfaaGreatDoorB
import Derived.OpenShut
import Derived.ChangeArms
import Derived.ChangeOld
import Derived.SizedLaws
import Derived.Carry
import Derived.WideShapes
import Derived.RowKit
set_option linter.unusedVariables false
set_option linter.unusedSimpArgs false
namespace Wb
open Go Go.RowKit
def Opens (P : Program) (t : TypeId) (α : Type) (rw' : α → List PV) (ok : α → Prop) : Prop :=
 ∀ {H : Type} {enc : TypeId × Value → H} {w : World} {fuel : Nat} {cs : List Value} {x : DataW H × List MemPlace}, DataW.trod enc P w 0 (fun _ => true) true fuel t cs = some x →
  (∀ n ∈ x.1.weights P t, n ≤ reachBytes) → ∃ a : α, ok a ∧ RepS w (fun b => b < w.heap.size) Ctx.nil (rw' a) cs
theorem opens_map {P : Program} {t : TypeId} {α β : Type} {rw' : α → List PV} {ok : α → Prop} (h : Opens P t α rw' ok) (g : α → β) {rb : β → List PV} {okb : β → Prop} (hr : ∀ a, rb (g a) = rw' a) (hk : ∀ a, ok a → okb (g a)) : Opens P t β rb okb :=
 fun hx hw => by obtain ⟨a, h1, h2⟩ := h hx hw; exact ⟨g a, hk a h1, by rw [hr]; exact h2⟩
def okInt (n : Int) : Prop := -9223372036854775808 ≤ n ∧ n ≤ 9223372036854775807
theorem opens_int {P : Program} {t : TypeId} (ht : P.underlying t = some (.int .i64)) : Opens P t Int (fun n => [.int .i64 n]) okInt := fun hx _ => by
 obtain ⟨n, rfl, rfl, h⟩ := DataW.trod_int ht hx
 refine ⟨n, ?_, .int, trivial⟩
 simp [Lit.wf, IntKind.min, IntKind.max, IntKind.signed, IntKind.bits] at h
 exact h
def OpensF (P : Program) (fs : List Field) (off : Nat) (tot : Nat) (α : Type) (rw' : α → List PV) (ok : α → Prop) : Prop :=
 ∀ {H : Type} {enc : TypeId × Value → H} {w : World} {fuel : Nat} {cs : List Value} {xs : List (DataW H × List MemPlace)}, cs.length = tot → xs.length = fs.length →
  (∀ (i : Nat) (f : Field), fs[i]? = some f → DataW.trod enc P w 0 (fun _ => true) true fuel f.type ((cs.drop f.offset).take (P.cellsOf f.type)) = xs[i]?) →
  (∀ n ∈ DataW.weightsEach P (fs.map (·.type)) (xs.map (·.1)), n ≤ reachBytes) → ∃ a : α, ok a ∧ RepS w (fun b => b < w.heap.size) Ctx.nil (rw' a) (cs.drop off)
theorem opensF_nil {P : Program} {off : Nat} : OpensF P [] off off Unit (fun _ => []) (fun _ => True) := fun hl _ _ _ => ⟨(), trivial, by rw [List.drop_of_length_le (by omega)]; trivial⟩
theorem opensF_cons {P : Program} {f : Field} {fs : List Field} {tot : Nat} {α β : Type} {ra : α → List PV} {oka : α → Prop} {rb : β → List PV} {okb : β → Prop}
    (ha : Opens P f.type α ra oka) (hb : OpensF P fs (f.offset + P.cellsOf f.type) tot β rb okb) :
    OpensF P (f :: fs) f.offset tot (α × β) (fun x => ra x.1 ++ rb x.2) (fun x => oka x.1 ∧ okb x.2) := fun {H enc w fuel cs xs} hl hx hf hw => by
 match xs, hx with
 | x :: xs, hx =>
  obtain ⟨a, h1, h2⟩ := ha (hf 0 f rfl) (fun n hn => hw n (by simp only [List.map_cons, DataW.weightsEach, List.mem_append]; exact .inl hn))
  obtain ⟨b, h3, h4⟩ := hb (xs := xs) hl (by simpa using hx) (fun i g hg => by simpa using hf (i + 1) g (by simpa using hg))
   (fun n hn => hw n (by simp only [List.map_cons, DataW.weightsEach, List.mem_append]; exact .inr hn))
  refine ⟨(a, b), ⟨h1, h3⟩, ?_⟩
  have := RepS.append h2 h4
  rwa [← List.drop_drop, List.take_append_drop] at this
theorem opF0 {P : Program} {off tot : Nat} (e : off = tot) : OpensF P [] off tot Unit (fun _ => []) (fun _ => True) := by subst e; exact opensF_nil
theorem opF {P : Program} {f : Field} {fs : List Field} {t off tot : Nat} (off' : Nat) {α β : Type} {ra : α → List PV} {oka : α → Prop} {rb : β → List PV} {okb : β → Prop}
    (ha : Opens P t α ra oka) (et : f.type = t) (eo : f.offset = off) (eo' : off + P.cellsOf t = off') (hb : OpensF P fs off' tot β rb okb) :
    OpensF P (f :: fs) off tot (α × β) (fun x => ra x.1 ++ rb x.2) (fun x => oka x.1 ∧ okb x.2) := by
 subst et; subst eo; subst eo'; exact opensF_cons ha hb
theorem opens_struct {P : Program} {t : TypeId} {fs : Array Field} {α : Type} {rw' : α → List PV} {ok : α → Prop} (ht : P.underlying t = some (.struct fs)) (h : OpensF P fs.toList 0 (P.cellsOf t) α rw' ok) : Opens P t α rw' ok := fun hx hw => by
 obtain ⟨xs, n, rfl, rfl, h1, h2, h3⟩ := DataW.trod_struct ht hx
 obtain ⟨a, h4, h5⟩ := h (xs := xs) h1 (by simpa using h2) (fun i f hf => h3 i f (by simpa using hf)) (fun n hn => hw n (by simpa [DataW.weights, ht] using hn))
 exact ⟨a, h4, by simpa using h5⟩
theorem weightsAll_mem {H : Type} {P : Program} {e : TypeId} : ∀ {l : List (DataW H)} {d : DataW H} {n : Nat}, d ∈ l → n ∈ d.weights P e → n ∈ DataW.weightsAll P e l
 | d' :: l, d, n, h, k => by
  simp only [DataW.weightsAll, List.mem_append]
  rcases List.mem_cons.1 h with e | e
  ·subst e; exact .inl k
  ·exact .inr (weightsAll_mem e k)
theorem cells_at {w : World} {a : Addr} {n : Nat} {cs : List Value} (h : w.cells? 0 a n = some cs) : cs.length = n ∧ ∀ (j : Nat) v, cs[j]? = some v → w.cell? (a.add j) = some v := by
 unfold World.cells? at h
 rw [if_pos (Nat.zero_le _)] at h
 refine ⟨by simpa using mapM_some_length h, fun j v hj => ?_⟩
 have hlt := (List.getElem?_eq_some_iff.1 hj).1
 have hlen := mapM_some_length h
 have := mapM_some_get h j j (by rw [List.getElem?_eq_some_iff]; exact ⟨by simp at hlen ⊢; omega, by simp⟩)
 rw [this, hj]
theorem addr_add {w : World} {a : Addr} {k j : Nat} {v : Value} (h : w.cell? ((a.add k).add j) = some v) : (a.add k).add j = ⟨a.block, a.off + k + j, none⟩ := by
 have hs := World.cell?_spot h
 obtain ⟨b, o, s⟩ := a
 unfold Addr.add at hs ⊢
 by_cases hj : j = 0 <;> by_cases hk : k = 0 <;> simp [hj, hk] at hs ⊢ <;> first | exact hs | omega | (exact ⟨by omega, hs⟩) | skip
theorem cell_lt {w : World} {a : Addr} {v : Value} (h : w.cell? a = some v) : a.block < w.heap.size := by
 refine Classical.byContradiction fun hn => ?_
 unfold World.cell? at h
 rw [show w.heap[a.block]? = none from by simp; omega] at h
 simp at h
theorem opens_slice {P : Program} {t e : TypeId} {α : Type} [Inhabited α] {ra : α → List PV} {ok : α → Prop} (ht : P.underlying t = some (.slice e)) (hb : 8 ≤ P.bytesOf e) (hp : 0 < P.cellsOf e) (hs : ∀ a, (ra a).length = P.cellsOf e) (h : Opens P e α ra ok) :
    Opens P t (List α) (fun l => [.sl (l.map ra) false]) (fun l => l.length ≤ 17592186044416 ∧ ∀ a ∈ l, ok a) := fun {H enc w fuel cs x} hx hw => by
 rcases DataW.trod_slice ht hx with ⟨rfl, rfl⟩ | ⟨a, len, cap, elems, rest, n, rfl, rfl, rfl, h0, h1, h2, h3, h4, h5, h6⟩
 ·exact ⟨[], ⟨by simp, fun a h => by cases h⟩, .sl (P.cellsOf e) 0 0 (fun _ _ => undef) rfl (Nat.le_refl _) (fun h => by cases h) (fun h => absurd rfl h) (fun _ h => by cases h) (fun i row j p a => by simp at a) (fun i row j p a => by simp at a), trivial⟩
 ·have hall : ∀ i, ∃ (a' : α), i < len → ok a' ∧ ∃ c : List Value, w.cells? 0 (a.add (i * P.cellsOf e)) (P.cellsOf e) = some c ∧ RepS w (fun b => b < w.heap.size) Ctx.nil (ra a') c := fun i => by
   by_cases hi : i < len
   ·have h7 := h4 i hi
    have h8 : i < elems.length := by omega
    rw [List.getElem?_eq_getElem h8, Option.bind_eq_some_iff] at h7
    obtain ⟨c, hc, h9⟩ := h7
    obtain ⟨a', h10, h11⟩ := h h9 (fun k hk => hw k (by
     simp only [DataW.weights, ht]
     refine List.mem_cons_of_mem _ (List.mem_append.2 (.inl ?_))
     exact weightsAll_mem (List.mem_map.2 ⟨_, List.getElem_mem h8, rfl⟩) hk))
    exact ⟨a', fun _ => ⟨h10, c, hc, h11⟩⟩
   ·exact ⟨default, fun h => absurd h hi⟩
  let f : Nat → α := fun i => Classical.choose (hall i)
  have hf : ∀ i, i < len → ok (f i) ∧ ∃ c : List Value, w.cells? 0 (a.add (i * P.cellsOf e)) (P.cellsOf e) = some c ∧ RepS w (fun b => b < w.heap.size) Ctx.nil (ra (f i)) c := fun i => Classical.choose_spec (hall i)
  have hrow : ∀ i row, (((List.range len).map f).map ra)[i]? = some row → i < len ∧ row = ra (f i) := fun i row hi => by
   simp only [List.getElem?_map, Option.map_eq_some_iff] at hi
   obtain ⟨_, ⟨k, hk, rfl⟩, rfl⟩ := hi
   rw [List.getElem?_eq_some_iff] at hk
   obtain ⟨h6, h7⟩ := hk
   simp at h6 h7
   subst h7
   exact ⟨h6, rfl⟩
  have hcell : ∀ i row (j : Nat) p, (((List.range len).map f).map ra)[i]? = some row → row[j]? = some p → ∃ v, w.cell? ⟨a.block, a.off + i * P.cellsOf e + j, none⟩ = some v ∧ Rep w (fun b => b < w.heap.size) Ctx.nil p v := fun i row j p h1 h2 => by
   obtain ⟨hi, rfl⟩ := hrow i row h1
   obtain ⟨_, c, hc, hr⟩ := hf i hi
   obtain ⟨e1, e2⟩ := cells_at hc
   have hj : j < c.length := by rw [hr.length]; exact (List.getElem?_eq_some_iff.1 h2).1
   have e3 := e2 j c[j] (List.getElem?_eq_getElem hj)
   rw [addr_add e3] at e3
   exact ⟨_, e3, hr.get h2 (List.getElem?_eq_getElem hj)⟩
  have hcap : len ≤ 17592186044416 := by
   have := hw ((elems.length + rest.length) * P.bytesOf e) (by simp [DataW.weights, ht])
   unfold reachBytes at this
   have h7 : elems.length * 8 ≤ (elems.length + rest.length) * P.bytesOf e := Nat.mul_le_mul (Nat.le_add_right _ _) hb
   omega
  refine ⟨(List.range len).map f, ⟨by simpa using hcap, fun b hb => ?_⟩, ?_, trivial⟩
  ·simp only [List.mem_map, List.mem_range] at hb
   obtain ⟨i, hi, rfl⟩ := hb
   exact (hf i hi).1
  ·refine .sl (P.cellsOf e) a.block a.off (fun i j => (w.cell? ⟨a.block, a.off + i * P.cellsOf e + j, none⟩).getD undef) (by simp) h1 (fun h => by cases h) (fun hne => ?_) (fun row hr => ?_) (fun i row j p g1 g2 => ?_) (fun i row j p g1 g2 => ?_)
   ·have h0' : 0 < len := by
     refine Classical.byContradiction fun hz => hne ?_
     have : len = 0 := by omega
     subst this; rfl
    obtain ⟨_, c, hc, hr⟩ := hf 0 h0'
    obtain ⟨e1, e2⟩ := cells_at hc
    have e3 := e2 0 c[0] (List.getElem?_eq_getElem (by omega))
    have e4 := World.cell?_spot e3
    obtain ⟨b, o, s⟩ := a
    simp [Addr.add] at e4
    rw [e4]
   ·simp only [List.map_map, List.mem_map] at hr
    obtain ⟨k, _, rfl⟩ := hr
    exact hs _
   ·obtain ⟨v, h7, _⟩ := hcell i row j p g1 g2
    exact ⟨cell_lt (a := ⟨a.block, a.off + i * P.cellsOf e + j, none⟩) h7, by rw [h7]; rfl⟩
   ·obtain ⟨v, h7, h8⟩ := hcell i row j p g1 g2
    rw [h7]; exact h8
def OpensA (P : Program) (ts : List TypeId) (α : Type) (pv : α → List PV) (ok : α → Prop) : Prop :=
 ∀ {H : Type} {enc : TypeId × Value → H} {w : World} {base : Nat} {vs : List Value} {ds : List (DataW H)} {ps : List MemPlace}, DataW.TrodAll enc P w 0 (fun _ => true) true ts vs ds ps →
  (∀ (j : Nat) t v, ts[j]? = some t → vs[j]? = some v → Value.okWide P w .any base t v) → (∀ n ∈ DataW.weightsEach P ts ds, n ≤ reachBytes) →
  ∃ a : α, ok a ∧ RepS w (fun b => b < w.heap.size) Ctx.nil (pv a) vs
theorem opensA_map {P : Program} {ts : List TypeId} {α β : Type} {pv : α → List PV} {ok : α → Prop} (h : OpensA P ts α pv ok) (g : α → β) {rb : β → List PV} {okb : β → Prop} (hr : ∀ a, rb (g a) = pv a) (hk : ∀ a, ok a → okb (g a)) : OpensA P ts β rb okb :=
 fun hx hv hw => by obtain ⟨a, h1, h2⟩ := h hx hv hw; exact ⟨g a, hk a h1, by rw [hr]; exact h2⟩
theorem opensA_nil {P : Program} : OpensA P [] Unit (fun _ => []) (fun _ => True) := fun hx _ _ => by
 obtain ⟨rfl, _, _⟩ := ChangeShapes.trodAll_nil hx
 exact ⟨(), trivial, trivial⟩
theorem opensA_cons {P : Program} {t : TypeId} {ts : List TypeId} {α β : Type} {pa : α → PV} {oka : α → Prop} {pb : β → List PV} {okb : β → Prop}
    (ha : ∀ {H : Type} {enc : TypeId × Value → H} {w : World} {base : Nat} {v : Value} {d : DataW H} {p : List MemPlace}, DataW.Trod enc P w 0 (fun _ => true) true t v d p → Value.okWide P w .any base t v → (∀ n ∈ d.weights P t, n ≤ reachBytes) →
      ∃ a : α, oka a ∧ Rep w (fun b => b < w.heap.size) Ctx.nil (pa a) v)
    (hb : OpensA P ts β pb okb) : OpensA P (t :: ts) (α × β) (fun x => pa x.1 :: pb x.2) (fun x => oka x.1 ∧ okb x.2) := fun hx hv hw => by
 obtain ⟨v, vs', d, ds', p, q, rfl, rfl, rfl, h1, h2⟩ := ChangeShapes.trodAll_cons hx
 obtain ⟨a, a1, a2⟩ := ha h1 (hv 0 t v rfl rfl) (fun n hn => hw n (by simp only [DataW.weightsEach, List.mem_append]; exact .inl hn))
 obtain ⟨b, b1, b2⟩ := hb h2 (fun j t v e1 e2 => hv (j + 1) t v (by simpa using e1) (by simpa using e2)) (fun n hn => hw n (by simp only [DataW.weightsEach, List.mem_append]; exact .inr hn))
 exact ⟨(a, b), ⟨a1, b1⟩, a2, b2⟩
theorem argSlice {P : Program} {t e : TypeId} (ht : P.underlying t = some (.slice e)) {α : Type} {ra : α → PV} {ok : α → Prop} (hp : Opens P t α (fun a => [ra a]) ok) {H : Type} {enc : TypeId × Value → H} {w : World} {base : Nat} {v : Value} {d : DataW H} {p : List MemPlace} (h : DataW.Trod enc P w 0 (fun _ => true) true t v d p)
    (hv : Value.okWide P w .any base t v) (hw : ∀ n ∈ d.weights P t, n ≤ reachBytes) : ∃ a : α, ok a ∧ Rep w (fun b => b < w.heap.size) Ctx.nil (ra a) v := by
 obtain ⟨a, len, cap, rfl⟩ := WideShapes.okWide_slice ht hv
 obtain ⟨fuel, hf⟩ := h
 obtain ⟨a, h1, h2⟩ := hp hf hw
 exact ⟨a, h1, h2.1⟩
theorem argAgg {P : Program} {t : TypeId} {td : TypeDesc} (ht : P.underlying t = some td) (ha : (td matches .struct _ | .array _ _) = true) {α : Type} {ra : α → List PV} {ok : α → Prop} (hp : Opens P t α ra ok) {H : Type} {enc : TypeId × Value → H} {w : World} {base : Nat} {v : Value} {d : DataW H} {p : List MemPlace} (h : DataW.Trod enc P w 0 (fun _ => true) true t v d p)
    (hv : Value.okWide P w .any base t v) (hw : ∀ n ∈ d.weights P t, n ≤ reachBytes) : ∃ a : α, ok a ∧ Rep w (fun b => b < w.heap.size) Ctx.nil (.agg (ra a)) v := by
 obtain ⟨cs, rfl⟩ : ∃ cs, v = .agg cs := by
  unfold Value.okWide at hv
  rw [ht] at hv
  cases td <;> first | (obtain ⟨cs, rfl, _⟩ := hv; exact ⟨cs, rfl⟩) | (simp at ha)
 obtain ⟨fuel, hf⟩ := h
 obtain ⟨a, h1, h2⟩ := hp hf hw
 have h3 := h2.l
 exact ⟨a, h1, .agg h3.1 h3.2⟩
theorem trodAll_below {P : Program} (hl : laidOutB P = true) {H : Type} {enc : TypeId × Value → H} {W W' : World} (hb : Below W.heap.size W W') : ∀ {ts : List TypeId} {vs : List Value} {ds : List (DataW H)} {ps : List MemPlace},
    (∀ t ∈ ts, P.readableRec t = true ∧ t < P.types.size) → DataW.TrodAll enc P W 0 (fun _ => true) true ts vs ds ps → DataW.TrodAll enc P W' 0 (fun b => decide (b < W.heap.size)) true ts vs ds ps
 | [], _, _, _, _, h => by
  obtain ⟨rfl, rfl, rfl⟩ := ChangeShapes.trodAll_nil h
  exact ChangeShapes.trodAll_mk0
 | t :: ts, _, _, _, hk, h => by
  obtain ⟨v, vs', d, ds', p, q, rfl, rfl, rfl, h1, h2⟩ := ChangeShapes.trodAll_cons h
  obtain ⟨k1, k2⟩ := hk t (by simp)
  exact trodAll_cons_mk (Below.trod hl k1 k2 h1 hb (by obtain ⟨m, hm⟩ := h1; exact DataW.trod_lt m _ _ _ hm)) (trodAll_below hl hb (fun t ht => hk t (by simp [ht])) h2)
end Wb
