import Derived.Test.YticjjabioiilfaaGreatDoorB
import Derived.Sort.Row
import Derived.Sort.Grow
import Derived.Lib.SlicesCompact
set_option linter.unusedVariables false
set_option linter.unusedSimpArgs false
namespace Wb
open Go Go.RowKit Go.Sort
section
variable {P : Program} {w0 w : World} {μ : Map} {H : Heap}
theorem ints_open (hs : Sim w0 μ H w) {K : Key} {v n : Nat} {ex : Bool} {x : Value} {l : List Int} (hK : H K = some (.rows 1 (il l) v false)) (hn : n = l.length) (h0 : n ≠ 0) (hr : Rep w (Zof μ H w) (ctx μ H w) (.sref K v 1 n ex) x) :
    ∃ r cap, x = .slice (some ⟨r, 0, none⟩) n cap ∧ μ K = some r ∧ n ≤ cap ∧ cap ≤ bsize w r ∧ (ex = true → cap = n) ∧ Holds (Value.int .i64) w r 0 l.toArray ∧ ∃ arr T, w.heap[r]? = some (.cells arr T (0, 0)) ∧ l.length ≤ arr.size := by
 cases hr with
 | sref0 => exact absurd rfl h0
 | @sref _ _ _ _ _ _ cap r h _ h1 h2 =>
  rcases h with ⟨m, hl, hm⟩ | hst
  ·obtain ⟨b, e1, e2, e3, e4⟩ := ctx_loc hl
   rw [hK] at e1
   cases e1
   obtain ⟨arr, T, b1, b2, b3, b4⟩ := hs.blk K _ _ hK e3
   have hlen : l.length ≤ arr.size := by simpa [il] using b2
   refine ⟨r, cap, rfl, e3, h1, by omega, h2, fun j hj => ?_, arr, T, b1, hlen⟩
   have hj' : j < l.length := by simpa using hj
   have hja : j < arr.size := by omega
   have hx := b4 j [PV.int .i64 l[j]] 0 (.int .i64 l[j]) arr[j] (by simp [il, hj']) rfl (by simp [hja])
   have hv : arr[j] = .int .i64 l[j] := by generalize arr[j] = y at hx; cases hx; rfl
   refine ⟨?_, ?_⟩
   ·rw [Nat.zero_add, cell_of_row w _ _ arr T _ b1, Array.getElem?_eq_getElem hja, hv]
    simp [hj']
   ·simp [World.frozen?, b1]
  ·exact (ctx_stale hst hK rfl).elim
theorem ints_put (hs : Sim w0 μ H w) {K : Key} {v v' r q : Nat} {l l1 l2 : List Int} (hK : H K = some (.rows 1 (il l) v false)) (hr : μ K = some r) (hv : v' = v ∨ v' = v + 1) {arr : Array Value} {T : TypeId} (ha : w.heap[r]? = some (.cells arr T (0, 0))) (hl : l.length ≤ arr.size)
    (h1 : (l1 ++ l2).length = l.length) :
    Sim w0 μ (H.set K (.rows 1 (il l1) v' false)) (putRow (Value.int .i64) (Sort.ahead w q) r 0 (l1 ++ l2).toArray) ∧ Evo μ H w μ (H.set K (.rows 1 (il l1) v' false)) (putRow (Value.int .i64) (Sort.ahead w q) r 0 (l1 ++ l2).toArray) := by
 let arr' := putCells (Value.int .i64) 0 (l1 ++ l2).toArray arr
 have hw : (putRow (Value.int .i64) (Sort.ahead w q) r 0 (l1 ++ l2).toArray).heap[r]? = some (.cells arr' T (0, 0)) := by
  simp only [putRow, mapBlock, Sort.ahead, Array.getElem?_modify, if_true, ha, Option.map_some, onCells]; rfl
 have hoth : ∀ k, k ≠ r → (putRow (Value.int .i64) (Sort.ahead w q) r 0 (l1 ++ l2).toArray).heap[k]? = w.heap[k]? := fun k hk => by
  simp only [putRow, mapBlock, Sort.ahead, Array.getElem?_modify, Ne.symm hk, if_false]
 have hsz : (putRow (Value.int .i64) (Sort.ahead w q) r 0 (l1 ++ l2).toArray).heap.size = w.heap.size := by simp [putRow, mapBlock, Sort.ahead]
 have hs' : arr'.size = arr.size := by simp [arr', putCells]
 have hbs : bsize (putRow (Value.int .i64) (Sort.ahead w q) r 0 (l1 ++ l2).toArray) r = bsize w r := by simp only [bsize, hw, ha, hs']
 have hE := Evo.write (b' := .rows 1 (il l1) v' false) hs hK hr rfl hv hsz hoth hbs
 refine ⟨Sim.write hs hK hr rfl hv hsz hoth hbs ⟨rfl, rfl, rfl, Nat.le_add_right _ _⟩ ⟨arr', T, hw, ?_, fun row hrow => ?_, fun i row j p x a b c => ?_⟩, hE⟩
 ·have : l1.length ≤ (l1 ++ l2).length := by simp
  simp [il, hs']; omega
 ·simp only [il, List.mem_map] at hrow
  obtain ⟨_, _, rfl⟩ := hrow; rfl
 ·simp only [il, List.getElem?_map, Option.map_eq_some_iff] at a
  obtain ⟨m, hm, rfl⟩ := a
  cases j with
  | succ j => simp at b
  | zero =>
   simp at b; subst b
   obtain ⟨hi, hm'⟩ := List.getElem?_eq_some_iff.1 hm
   have hi2 : i < (l1 ++ l2).length := by simp; omega
   have hia : i < arr.size := by omega
   have : arr'[i * 1 + 0]? = some (.int .i64 m) := by
    simp only [arr', putCells, Nat.mul_one, Nat.add_zero, Array.getElem?_mapIdx, Array.getElem?_eq_getElem hia, Option.map_some]
    rw [if_pos ⟨Nat.zero_le _, by simpa using hi2⟩]
    have e : (l1 ++ l2).toArray[i - 0]! = m := by
     rw [getElem!_pos _ _ (by simpa using hi2)]
     simp [List.getElem_append_left hi, hm']
    rw [e]
   rw [this] at c
   cases c
   exact .int
end
def sortL (l : List Int) : List Int := l.mergeSort fun x y => decide (x ≤ y)
def sortM : MSpec := fun args H Q =>
 match args with
 | [.sref K v sz n ex] => sz = 1 ∧ ∃ l : List Int, H K = some (.rows 1 (il l) v false) ∧ n = l.length ∧ n < 4611686018427387904 ∧ Q (.tup []) (H.set K (.rows 1 (il (sortL l)) v false))
 | [.sl [] _] => Q (.tup []) H
 | _ => False
theorem heap_set_same {H : Heap} {K : Key} {b : PB} (h : H K = some b) : H.set K b = H := by
 funext K'; simp only [Heap.set]; split
 ·rename_i e; rw [e, h]
 ·rfl
theorem grow_below (w : World) (os : Array Obj) : Below w.heap.size w (grow w os) := by
 refine ⟨rfl, rfl, rfl, by simp [grow], fun k hk => ?_⟩
 simp [grow, Array.getElem?_append, hk]
theorem Bel.grown (w : World) (os : Array Obj) : Bel w.heap.size w (grow w os) := ⟨grow_below w os, Nat.le_refl _⟩
theorem sortM_ok {P : Program} {glob : Nat → Option (List PV)} {g : Nat} (h0 : ∀ (p : Option Addr) (cap : Nat) (w : World), Calls P g #[.slice p 0 cap] w fun e w' => e = .returned (.tuple #[]) ∧ w' = w)
    (h1 : ∀ (blk off cap : Nat) (zs : List Int) (w : World) (_ : Holds (Value.int .i64) w blk off zs.toArray) (_ : blk < w.heap.size) (_ : zs.length < 4611686018427387904),
      Calls P g #[.slice (some ⟨blk, off, none⟩) zs.length cap] w fun e w' => e = .returned (.tuple #[]) ∧ ∃ n os, w' = grow (putRow (Value.int .i64) (Sort.ahead w n) blk off (zs.mergeSort fun x y => decide (x ≤ y)).toArray) os) : MutOK P glob g sortM := by
 intro w0 hgl μ H w args xs Q h hs hr
 unfold sortM at h
 split at h
 ·rename_i K v sz n ex
  obtain ⟨rfl, l, hK, hn, hb, hQ⟩ := h
  match xs, hr with
  | [x], ⟨hx, _⟩ =>
   by_cases hz : n = 0
   ·have hl : l = [] := List.eq_nil_of_length_eq_zero (by omega)
    subst hz; subst hl
    obtain ⟨A, cap, rfl⟩ : ∃ A cap, x = .slice A 0 cap := by cases hx with
     | sref0 => exact ⟨_, _, rfl⟩
     | sref _ h _ _ => omega
    refine (h0 A cap w).mono fun e w' he => ?_
    obtain ⟨rfl, rfl⟩ := he
    have e1 : H.set K (.rows 1 (il (sortL [])) v false) = H := heap_set_same (by simpa [sortL] using hK)
    rw [e1] at hQ
    exact ⟨_, _, μ, H, rfl, hQ, hs, Evo.refl _ _ _, .tup rfl (fun j p x a => by simp at a)⟩
   ·obtain ⟨r, cap, rfl, e1, e2, e3, e4, e5, arr, T, e6, e7⟩ := ints_open hs hK hn hz hx
    subst hn
    refine (h1 r 0 cap l w e5 (hs.own K r e1).2 hb).mono fun e w' he => ?_
    obtain ⟨rfl, q, os, rfl⟩ := he
    have hp := ints_put (q := q) (v' := v) (l1 := sortL l) (l2 := []) hs hK e1 (.inl rfl) e6 e7 (by simp [sortL])
    simp only [List.append_nil] at hp
    obtain ⟨p1, p2⟩ := hp
    have gb := Bel.grown (putRow (Value.int .i64) (Sort.ahead w q) r 0 (sortL l).toArray) os
    exact ⟨_, _, μ, _, rfl, hQ, p1.grow gb, p2.trans (Evo.grow p1 gb), .tup rfl (fun j p x a => by simp at a)⟩
 ·match xs, hr with
  | [x], ⟨hx, _⟩ =>
   obtain ⟨A, cap, rfl⟩ : ∃ A cap, x = .slice A 0 cap := by cases hx with
    | sl sz blk off vals h1 => simp at h1; subst h1; exact ⟨_, _, rfl⟩
   refine (h0 A cap w).mono fun e w' he => ?_
   obtain ⟨rfl, rfl⟩ := he
   exact ⟨_, _, μ, H, rfl, h, hs, Evo.refl _ _ _, .tup rfl (fun j p x a => by simp at a)⟩
 ·exact h.elim
def compactM : MSpec := fun args H Q =>
 match args with
 | [.sref K v sz n ex] => sz = 1 ∧ ∃ l : List Int, H K = some (.rows 1 (il l) v false) ∧ n = l.length ∧ n < 4611686018427387904 ∧ l ≠ [] ∧ Q (.sref K (v + 1) 1 (Lib.compact l).length false) (H.set K (.rows 1 (il (Lib.compact l)) (v + 1) false))
 | [.sl [] ex] => Q (.sl [] ex) H
 | _ => False
theorem compact_len (l : List Int) : (Lib.compact l).length ≤ l.length := by
 unfold Lib.compact Lib.compactUpTo
 rw [List.length_map]
 exact Nat.le_trans (List.length_filter_le _ _) (by simp)
theorem compact_pos {l : List Int} (h : l ≠ []) : 0 < (Lib.compact l).length := by
 have hl : 0 < l.length := List.length_pos_iff.2 h
 unfold Lib.compact Lib.compactUpTo
 rw [List.length_map]
 refine List.length_pos_of_mem (a := 0) (List.mem_filter.2 ⟨List.mem_range.2 hl, ?_⟩)
 exact Lib.keeps_lt_one _ 0 (by omega)
theorem compactM_ok {P : Program} {glob : Nat → Option (List PV)} {g : Nat} (h0 : ∀ (a : Option Addr) (cap : Nat) (w : World), Calls P g #[.slice a 0 cap] w fun e w' => e = .returned (.slice a 0 cap) ∧ w' = w)
    (h1 : ∀ (blk off cap : Nat) (zs : List Int) (w : World) (_ : Holds (Value.int .i64) w blk off zs.toArray) (_ : zs.length ≤ 9223372036854775807) (_ : zs.length ≤ cap),
      Calls P g #[.slice (some ⟨blk, off, none⟩) zs.length cap] w fun e w' => e = .returned (.slice (some ⟨blk, off, none⟩) (Lib.compact zs).length cap) ∧ ∃ q, w' = putRow (Value.int .i64) (Sort.ahead w q) blk off (Lib.compact zs ++ List.replicate (zs.length - (Lib.compact zs).length) 0).toArray) : MutOK P glob g compactM := by
 intro w0 hgl μ H w args xs Q h hs hr
 unfold compactM at h
 split at h
 ·rename_i K v sz n ex
  obtain ⟨rfl, l, hK, hn, hb, hne, hQ⟩ := h
  match xs, hr with
  | [x], ⟨hx, _⟩ =>
   have hz : n ≠ 0 := fun hz => hne (List.eq_nil_of_length_eq_zero (by omega))
   obtain ⟨r, cap, rfl, e1, e2, e3, e4, e5, arr, T, e6, e7⟩ := ints_open hs hK hn hz hx
   subst hn
   refine (h1 r 0 cap l w e5 (by omega) e2).mono fun e w' he => ?_
   obtain ⟨rfl, q, rfl⟩ := he
   have hcl := compact_len l
   obtain ⟨p1, p2⟩ := ints_put (q := q) (v' := v + 1) (l1 := Lib.compact l) (l2 := List.replicate (l.length - (Lib.compact l).length) 0) hs hK e1 (.inr rfl) e6 e7 (by simp; omega)
   refine ⟨_, _, μ, _, rfl, hQ, p1, p2, .sref (.inl ⟨_, ctx_loc_of (b := .rows 1 (il (Lib.compact l)) (v + 1) false) (by simp [Heap.set]) e1, ?_⟩) (compact_pos hne) (by omega) (fun h => by cases h)⟩
   have : bsize w r = bsize (putRow (Value.int .i64) (Sort.ahead w q) r 0 (Lib.compact l ++ List.replicate (l.length - (Lib.compact l).length) 0).toArray) r := by
    simp [bsize, putRow, mapBlock, Sort.ahead, Array.getElem?_modify, e6, onCells, putCells]
   omega
 ·match xs, hr with
  | [x], ⟨hx, _⟩ =>
   rename_i ex
   have hx' := hx
   obtain ⟨A, cap, rfl⟩ : ∃ A cap, x = .slice A 0 cap := by cases hx with
    | sl sz blk off vals h1 => simp at h1; subst h1; exact ⟨_, _, rfl⟩
   refine (h0 A cap w).mono fun e w' he => ?_
   obtain ⟨rfl, rfl⟩ := he
   exact ⟨_, _, μ, H, rfl, h, hs, Evo.refl _ _ _, hx'⟩
 ·exact h.elim
end Wb
