import Derived.Test.YticjjabioiilfaaGreatDoorU
import Derived.Shelf.SlSortCmp.NoneTotal
set_option linter.unusedVariables false
set_option linter.unusedSimpArgs false
namespace Wb
open Go Go.RowKit Go.Sort Go.Proofs Go.Shelf
set_option linter.unusedSimpArgs false
set_option linter.unusedVariables false
section
variable {α : Type} [Inhabited α]
def rI (f : α → List Int) (x : α) : List PV := (f x).map fun n => PV.int .i64 n
def vI (f : α → List Int) (x : α) : List Value := (f x).map fun n => Value.int .i64 n
theorem rI_s {α : Type} {w : World} {Z : Nat → Prop} {C : Ctx} (f : α → List Int) (x : α) : Rep w Z C (.agg (rI f x)) (.agg (vI f x).toArray) := by
 refine .agg (by simp [rI, vI]) fun j p v h1 h2 => ?_
 simp only [rI, vI, List.getElem?_map, Option.map_eq_some_iff, List.getElem?_toArray] at h1 h2
 obtain ⟨n, e1, rfl⟩ := h1
 obtain ⟨m, e2, rfl⟩ := h2
 rw [e1] at e2
 cases e2
 exact .int
variable {f : α → List Int} {k : Nat} {P : Program} {w0 w : World} {μ : Map} {H : Heap}
theorem rows_open (hs : Sim w0 μ H w) (hk : ∀ x, (f x).length = k) (k0 : 0 < k) {K : Key} {v n : Nat} {ex : Bool} {x : Value} {l : List α} (hK : H K = some (.rows k (l.map (rI f)) v false)) (hn : n = l.length) (h0 : n ≠ 0) (hr : Rep w (Zof μ H w) (ctx μ H w) (.sref K v k n ex) x) :
    ∃ r cap, x = .slice (some ⟨r, 0, none⟩) n cap ∧ μ K = some r ∧ HoldsK (vI f) k w r 0 l.toArray ∧ ∃ arr T, w.heap[r]? = some (.cells arr T (0, 0)) ∧ l.length * k ≤ arr.size := by
 cases hr with
 | sref0 => exact absurd rfl h0
 | @sref _ _ _ _ _ _ cap r h _ h1 h2 =>
  rcases h with ⟨m, hl, hm⟩ | hst
  ·obtain ⟨b, e1, e2, e3, e4⟩ := ctx_loc hl
   rw [hK] at e1
   cases e1
   obtain ⟨arr, T, b1, b2, b3, b4⟩ := hs.blk K _ _ hK e3
   have hlen : l.length * k ≤ arr.size := by simpa using b2
   refine ⟨r, cap, rfl, e3, fun t ht => ?_, arr, T, b1, hlen⟩
   rw [size_flatK] at ht
   simp only [List.size_toArray] at ht
   have hi : t / k < l.length := Nat.div_lt_of_lt_mul (by rw [Nat.mul_comm]; exact ht)
   have hj : t % k < k := Nat.mod_lt _ k0
   have hta : t < arr.size := by omega
   have hjl : t % k < (f l[t / k]).length := by rw [hk]; exact hj
   have he : t / k * k + t % k = t := Nat.div_add_mod' t k
   have hx := b4 (t / k) (rI f l[t / k]) (t % k) (.int .i64 (f l[t / k])[t % k]) arr[t] (by simp [hi]) (by simp [rI, hjl]) (by rw [he]; simp [hta])
   have hv : arr[t] = .int .i64 (f l[t / k])[t % k] := by generalize arr[t] = y at hx; cases hx; rfl
   refine ⟨?_, ?_⟩
   ·rw [Nat.zero_add, cell_of_row w _ _ arr T _ b1, Array.getElem?_eq_getElem hta, hv, id, get_flatK _ _ _ _ (by simpa using ht)]
    simp [hi, vI, hjl]
   ·simp [World.frozen?, b1]
  ·exact (ctx_stale hst hK rfl).elim
theorem rows_put (hs : Sim w0 μ H w) (hk : ∀ x, (f x).length = k) (k0 : 0 < k) {K : Key} {v r q : Nat} {l l1 : List α} (hK : H K = some (.rows k (l.map (rI f)) v false)) (hr : μ K = some r) {arr : Array Value} {T : TypeId} (ha : w.heap[r]? = some (.cells arr T (0, 0))) (hl : l.length * k ≤ arr.size)
    (h1 : l1.length = l.length) :
    Sim w0 μ (H.set K (.rows k (l1.map (rI f)) v false)) (putRowK (vI f) k (Sort.ahead w q) r 0 l1.toArray) ∧ Evo μ H w μ (H.set K (.rows k (l1.map (rI f)) v false)) (putRowK (vI f) k (Sort.ahead w q) r 0 l1.toArray) := by
 let F := flatK (vI f) k l1.toArray
 let arr' := putCells id 0 F arr
 have hFs : F.size = l.length * k := by simp [F, h1]
 have hw : (putRowK (vI f) k (Sort.ahead w q) r 0 l1.toArray).heap[r]? = some (.cells arr' T (0, 0)) := by
  simp only [putRowK, putRow, mapBlock, Sort.ahead, Array.getElem?_modify, if_true, ha, Option.map_some, onCells]; rfl
 have hoth : ∀ j, j ≠ r → (putRowK (vI f) k (Sort.ahead w q) r 0 l1.toArray).heap[j]? = w.heap[j]? := fun j hj => by
  simp only [putRowK, putRow, mapBlock, Sort.ahead, Array.getElem?_modify, Ne.symm hj, if_false]
 have hsz : (putRowK (vI f) k (Sort.ahead w q) r 0 l1.toArray).heap.size = w.heap.size := by simp [putRowK, putRow, mapBlock, Sort.ahead]
 have hs' : arr'.size = arr.size := by simp [arr', putCells]
 have hbs : bsize (putRowK (vI f) k (Sort.ahead w q) r 0 l1.toArray) r = bsize w r := by simp only [bsize, hw, ha, hs']
 have hE := Evo.write (b' := .rows k (l1.map (rI f)) v false) hs hK hr rfl (.inl rfl) hsz hoth hbs
 refine ⟨Sim.write hs hK hr rfl (.inl rfl) hsz hoth hbs ⟨rfl, rfl, rfl, Nat.le_add_right _ _⟩ ⟨arr', T, hw, ?_, fun row hrow => ?_, fun i row j p x a b c => ?_⟩, hE⟩
 ·simp [hs', h1]; exact hl
 ·simp only [List.mem_map] at hrow
  obtain ⟨_, _, rfl⟩ := hrow
  simp [rI, hk]
 ·simp only [List.getElem?_map, Option.map_eq_some_iff] at a
  obtain ⟨m, hm, rfl⟩ := a
  obtain ⟨hi, hm'⟩ := List.getElem?_eq_some_iff.1 hm
  simp only [rI, List.getElem?_map, Option.map_eq_some_iff] at b
  obtain ⟨y, hy, rfl⟩ := b
  obtain ⟨hj, hy'⟩ := List.getElem?_eq_some_iff.1 hy
  rw [hk] at hj
  have hlt : i * k + j < l1.length * k := by
   have := Nat.mul_le_mul_right k (show i + 1 ≤ l1.length from hi); rw [Nat.add_mul, Nat.one_mul] at this; omega
  have hia : i * k + j < arr.size := by rw [h1] at hlt; omega
  have e1 : (i * k + j) / k = i := (blk_iff k i _ k0).1 ⟨by omega, by omega⟩
  have e2 : (i * k + j) % k = j := by rw [Nat.mod_eq_sub_div_mul, e1]; omega
  have : arr'[i * k + j]? = some (.int .i64 y) := by
   simp only [arr', putCells, Array.getElem?_mapIdx, Array.getElem?_eq_getElem hia, Option.map_some]
   rw [if_pos ⟨Nat.zero_le _, by rw [hFs, ← h1]; omega⟩, Nat.sub_zero]
   simp only [F, id]
   rw [get_flatK _ _ _ _ (by simpa using hlt), e1, e2]
   simp [hi, hm', vI, hy', hk, hj]
  rw [this] at c
  cases c
  exact .int
end
theorem Bel.regrown {w w' : World} (h : Bel w.heap.size w w') : ∃ q os, w' = Sort.grow (w.drewN q) os := by
 refine ⟨w'.drawn - w.drawn, w'.heap.extract w.heap.size w'.heap.size, ?_⟩
 have hh : w'.heap = w.heap ++ w'.heap.extract w.heap.size w'.heap.size := by
  refine Array.ext (by simp; have := h.size; omega) fun i h1 h2 => ?_
  by_cases hi : i < w.heap.size
  ·have := h.block i hi
   rw [Array.getElem?_eq_getElem h1, Array.getElem?_eq_getElem hi] at this
   rw [Array.getElem_append_left hi]
   exact Option.some.inj this
  ·rw [Array.getElem_append_right (by omega)]
   simp only [Array.getElem_extract]
   congr 1; omega
 have hd := h.dr
 obtain ⟨a1, a2, a3, _, _⟩ := h.toBelow
 cases w; cases w'
 simp only [Sort.grow, World.drewN] at *
 subst a1; subst a2; subst a3
 congr 1
 omega
section
variable {α : Type} [Inhabited α] {P : Program} {glob : Nat → Option (List PV)} {ρ : Ren}
def sortB (cf : α → α → Int) (l : List α) : List α := l.mergeSort fun x y => !(ltOf cf) y x
theorem sortB_len {α : Type} (cf : α → α → Int) (l : List α) : (sortB cf l).length = l.length := by simp [sortB]
def sortFM (f : α → List Int) (k : Nat) (cf : α → α → Int) (g : Nat) : MSpec := fun args H Q =>
 match args with
 | [.sref K v sz n ex, .fn g' [] []] => g' = g ∧ sz = k ∧ ∃ l : List α, H K = some (.rows k (l.map (rI f)) v false) ∧ n = l.length ∧ n < 4611686018427387904 ∧ Q (.tup []) (H.set K (.rows k ((sortB cf l).map (rI f)) v false))
 | [.sl [] _, .fn _ _ _] => Q (.tup []) H
 | _ => False
theorem sortFM_ok (L : SlLaysF0.n6 P ρ) {f : α → List Int} {k : Nat} {cf : α → α → Int} {g : Nat} {s : Spec} (hk : ∀ x, (f x).length = k) (k0 : 0 < k)
    (aE : ∀ w, (isAgg (ρ.t 24)).run P w = .ok true w) (zE : ∀ w, (Go.sizeOf (ρ.t 24)).run P w = .ok k w)
    (hO : SWO (ltOf cf)) (hT : ∀ x y, (ltOf cf) x y = false → (ltOf cf) y x = false → x = y)
    (hg : Callable P g) (hc : SpecOK P glob g s) (hsp : ∀ x y, s [.agg (rI f x), .agg (rI f y)] = some (True, .int .i64 (cf x y))) : MutOK P glob (ρ.f 6) (sortFM f k cf g) := by
 intro w0 hgl μ H w args xs Q h hs hr
 unfold sortFM at h
 split at h
 ·rename_i K v sz n ex g'
  obtain ⟨rfl, rfl, l, hK, hn, hb, hQ⟩ := h
  match xs, hr with
  | [x, y], ⟨hx, hy, _⟩ =>
   obtain rfl : y = .func (.func g') #[] #[] := by
    cases hy with
    | fn h1 h2 h3 h4 =>
     rename_i a b
     obtain rfl : a = #[] := Array.eq_empty_of_size_eq_zero h1
     obtain rfl : b = #[] := Array.eq_empty_of_size_eq_zero h2
     rfl
   by_cases hz : n = 0
   ·have hl : l = [] := List.eq_nil_of_length_eq_zero (by omega)
    subst hz; subst hl
    obtain ⟨A, cap, rfl⟩ : ∃ A cap, x = .slice A 0 cap := by cases hx with
     | sref0 => exact ⟨_, _, rfl⟩
     | sref h a b c => omega
    refine (AnyF.slices_SortFunc_none { L with } A cap _ w).mono fun e w' he => ?_
    obtain ⟨rfl, rfl⟩ := he
    have : H.set K (.rows sz ((sortB cf ([] : List α)).map (rI f)) v false) = H := heap_set_same (by rw [hK]; simp [sortB])
    rw [this] at hQ
    exact ⟨_, _, μ, H, rfl, hQ, hs, Evo.refl _ _ _, .tup rfl (fun j p x a => by simp at a)⟩
   ·obtain ⟨r, cap, rfl, e1, e2, arr, T, e3, e4⟩ := rows_open hs hk k0 hK hn hz hx
    have hrl := (hs.own K r e1).2
    have hr0 := (hs.own K r e1).1
    have hcmp : CmpLays P g' #[] (vI f) sz cf r 0 l.toArray.size w := fun m os dk hdk x y => by
     have hB : Below w0.heap.size w0 (sortWorldK (vI f) sz w r 0 m dk os) := by
      refine ⟨hs.below.os, hs.below.tape, hs.below.output, ?_, fun j hj => ?_⟩
      ·simp only [sortWorldK, Sort.grow, putRowK, putRow, mapBlock, Sort.ahead, Array.size_append, Array.size_modify]
       have := hs.below.size; omega
      ·have h1 : j < (w.heap.modify r (onCells (putCells id 0 (flatK (vI f) sz dk)))).size := by
        simp only [Array.size_modify]; have := hs.below.size; omega
       simp only [sortWorldK, Sort.grow, putRowK, putRow, mapBlock, Sort.ahead]
       rw [Array.getElem?_append_left h1, Array.getElem?_modify, if_neg (by omega)]
       exact hs.below.block j hj
     refine (hc _ _ _ (hsp x y) trivial _ (fun _ => False) [.agg (vI f x).toArray, .agg (vI f y).toArray] (fun _ h => h.elim) (hgl.below hB) ⟨rI_s f x, rI_s f y, trivial⟩).mono fun e w' hb => ?_
     obtain ⟨z, rfl, b1, b2⟩ := hb
     cases b2
     exact ⟨rfl, b1.regrown⟩
    have hrun := AnyQ.slices_SortFunc_total L sz aE zE (vI f) (fun x => by simp [vI, hk]) (fun x v hv => by
     simp only [vI, List.mem_map] at hv
     obtain ⟨_, _, rfl⟩ := hv; rfl) cf hO g' #[] r 0 cap l.toArray w (hg) hcmp e2 hrl (by simpa [← hn] using hb) hT
    simp only [List.size_toArray, ← hn] at hrun
    refine hrun.mono fun e w' he => ?_
    obtain ⟨rfl, q, os, rfl⟩ := he
    obtain ⟨p1, p2⟩ := rows_put (q := q) (l1 := sortB cf l) hs hk k0 hK e1 e3 e4 (sortB_len cf l)
    have hbg := Bel.grown (putRowK (vI f) sz (Sort.ahead w q) r 0 (sortB cf l).toArray) os
    exact ⟨_, _, μ, _, rfl, hQ, p1.grow hbg, p2.trans (Evo.grow p1 hbg), .tup rfl (fun j p x a => by simp at a)⟩
 ·match xs, hr with
  | [x, y], ⟨hx, hy, _⟩ =>
   obtain ⟨A, cap, rfl⟩ : ∃ A cap, x = .slice A 0 cap := by cases hx with
    | sl sz blk off vals h1 => simp at h1; subst h1; exact ⟨_, _, rfl⟩
   refine (AnyF.slices_SortFunc_none { L with } A cap _ w).mono fun e w' he => ?_
   obtain ⟨rfl, rfl⟩ := he
   exact ⟨_, _, μ, H, rfl, h, hs, Evo.refl _ _ _, .tup rfl (fun j p x a => by simp at a)⟩
 ·exact h.elim
end
end Wb
