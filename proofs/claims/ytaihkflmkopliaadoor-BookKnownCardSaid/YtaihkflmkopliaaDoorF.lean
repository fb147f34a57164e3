import Derived.Test.YtaihkflmkopliaaDoorB
import Derived.Sort.Row
import Derived.Sort.Grow
import Derived.Lib.SlicesCompact
import Derived.Shelf.Small.Bits
import Derived.Shelf.Strconv.Itoa0
import Derived.Shelf.Sort.Plain
import Derived.Ground.Names2Prog
import Derived.Shelf.Slices.CompactI
import Derived.Shelf.Slices.SearchI
import Derived.Shelf.Slices.Cells
import Derived.Shelf.Slices.In.SortNone
import Derived.Test.YtaihkflmkopliaaDoorProg
import Derived.Test.YtaihkflmkopliaaDoorD
set_option linter.unusedVariables false
set_option linter.unusedSimpArgs false
/- A slice of whole numbers of the call's own, written in place by a function of Go's library. -/
namespace Wb
open Go Go.RowKit Go.Sort
section
variable {P : Program} {w0 w : World} {μ : Map} {H : Heap}
theorem ints_open (hs : Sim w0 μ H w) {K : Key} {v n : Nat} {ex : Bool} {x : Value} {l : List Int} (hK : H K = some (.rows 1 (il l) v false)) (hn : n = l.length) (h0 : n ≠ 0) (hr : Rep w (Zof μ H w) (ctx μ H w) (.sref K v 1 n ex) x) :
    ∃ r cap, x = .slice (some ⟨r, 0, none⟩) n cap ∧ μ K = some r ∧ n ≤ cap ∧ cap ≤ bsize w r ∧ (ex = true → cap = n) ∧ Holds (Value.int .i64) w r 0 l.toArray ∧ ∃ arr T, w.heap[r]? = some (.cells arr T (0, 0)) ∧ l.length ≤ arr.size := by
  cases hr with
  | sref0 => exact absurd rfl h0
  | @sref _ _ _ _ _ _ cap r h _ h1 h2 =>

    rcases h with ⟨m, hl, hm⟩ | hst
    · obtain ⟨b, e1, e2, e3, e4⟩ := ctx_loc hl
      rw [hK] at e1
      cases e1
      obtain ⟨arr, T, b1, b2, b3, b4⟩ := hs.blk K _ _ hK e3
      have hlen : l.length ≤ arr.size := by simpa [il] using b2
      refine ⟨r, cap, rfl, e3, h1, by omega, h2, fun j hj => ?_, arr, T, b1, hlen⟩
      have hj' : j < l.length := by simpa using hj
      have hja : j < arr.size := by omega
      have hx := b4 j [PV.int .i64 l[j]] 0 (.int .i64 l[j]) arr[j] (by simp [il, hj']) rfl (by simp [hja])
      have hv : arr[j] = .int .i64 l[j] := by generalize arr[j] = y at hx; cases hx; rfl
      refine ⟨?_, ?_⟩
      · rw [Nat.zero_add, cell_of_row w _ _ arr T _ b1, Array.getElem?_eq_getElem hja, hv]
        simp [hj']
      · simp [World.frozen?, b1]
    · exact (ctx_stale hst hK rfl).elim
theorem ints_put (hs : Sim w0 μ H w) {K : Key} {v v' r q : Nat} {l l1 l2 : List Int} (hK : H K = some (.rows 1 (il l) v false)) (hr : μ K = some r) (hv : v' = v ∨ v' = v + 1) {arr : Array Value} {T : TypeId} (ha : w.heap[r]? = some (.cells arr T (0, 0))) (hl : l.length ≤ arr.size)
    (h1 : (l1 ++ l2).length = l.length) :
    Sim w0 μ (H.set K (.rows 1 (il l1) v' false)) (putRow (Value.int .i64) (Sort.ahead w q) r 0 (l1 ++ l2).toArray) ∧ Evo μ H w μ (H.set K (.rows 1 (il l1) v' false)) (putRow (Value.int .i64) (Sort.ahead w q) r 0 (l1 ++ l2).toArray) := by
  let arr' := putCells (Value.int .i64) 0 (l1 ++ l2).toArray arr
  have hw : (putRow (Value.int .i64) (Sort.ahead w q) r 0 (l1 ++ l2).toArray).heap[r]? = some (.cells arr' T (0, 0)) := by
    simp only [putRow, mapBlock, Sort.ahead, Array.getElem?_modify, if_true, ha, Option.map_some, onCells]; rfl
  have hoth : ∀ k, k ≠ r → (putRow (Value.int .i64) (Sort.ahead w q) r 0 (l1 ++ l2).toArray).heap[k]? = w.heap[k]? := fun k hk => by
    simp only [putRow, mapBlock, Sort.ahead, Array.getElem?_modify, Ne.symm hk, if_false]
  have hsz : (putRow (Value.int .i64) (Sort.ahead w q) r 0 (l1 ++ l2).toArray).heap.size = w.heap.size := by simp [putRow, mapBlock, Sort.ahead]
  have hs' : arr'.size = arr.size := by simp [arr', putCells]
  have hbs : bsize (putRow (Value.int .i64) (Sort.ahead w q) r 0 (l1 ++ l2).toArray) r = bsize w r := by simp only [bsize, hw, ha, hs']
  have hE := Evo.write (b' := .rows 1 (il l1) v' false) hs hK hr rfl hv hsz hoth hbs
  refine ⟨Sim.write hs hK hr rfl hv hsz hoth hbs ⟨rfl, rfl, rfl⟩ ⟨arr', T, hw, ?_, fun row hrow => ?_, fun i row j p x a b c => ?_⟩, hE⟩
  · have : l1.length ≤ (l1 ++ l2).length := by simp
    simp [il, hs']; omega
  · simp only [il, List.mem_map] at hrow
    obtain ⟨_, _, rfl⟩ := hrow; rfl
  · simp only [il, List.getElem?_map, Option.map_eq_some_iff] at a
    obtain ⟨m, hm, rfl⟩ := a
    cases j with
    | succ j => simp at b
    | zero =>
      simp at b; subst b
      obtain ⟨hi, hm'⟩ := List.getElem?_eq_some_iff.1 hm
      have hi2 : i < (l1 ++ l2).length := by simp; omega
      have hia : i < arr.size := by omega
      have : arr'[i * 1 + 0]? = some (.int .i64 m) := by
        simp only [arr', putCells, Nat.mul_one, Nat.add_zero, Array.getElem?_mapIdx, Array.getElem?_eq_getElem hia, Option.map_some]
        rw [if_pos ⟨Nat.zero_le _, by simpa using hi2⟩]
        have e : (l1 ++ l2).toArray[i - 0]! = m := by
          rw [getElem!_pos _ _ (by simpa using hi2)]
          simp [List.getElem_append_left hi, hm']
        rw [e]
      rw [this] at c
      cases c
      exact .int
end
def sortL (l : List Int) : List Int := l.mergeSort fun x y => decide (x ≤ y)
def sortM : MSpec := fun args H Q =>
  match args with
  | [.sref K v sz n ex] => sz = 1 ∧ ∃ l : List Int, H K = some (.rows 1 (il l) v false) ∧ n = l.length ∧ n < 4611686018427387904 ∧ Q (.tup []) (H.set K (.rows 1 (il (sortL l)) v false))
  | [.sl [] _] => Q (.tup []) H
  | _ => False
theorem heap_set_same {H : Heap} {K : Key} {b : PB} (h : H K = some b) : H.set K b = H := by
  funext K'; simp only [Heap.set]; split
  · rename_i e; rw [e, h]
  · rfl
theorem grow_below (w : World) (os : Array Obj) : Below w.heap.size w (grow w os) := by
  refine ⟨rfl, rfl, rfl, by simp [grow], fun k hk => ?_⟩
  simp [grow, Array.getElem?_append, hk]
theorem sortM_ok {P : Program} {g : Nat} (h0 : ∀ (p : Option Addr) (cap : Nat) (w : World), Calls P g #[.slice p 0 cap] w fun e w' => e = .returned (.tuple #[]) ∧ w' = w)
    (h1 : ∀ (blk off cap : Nat) (zs : List Int) (w : World) (_ : Holds (Value.int .i64) w blk off zs.toArray) (_ : blk < w.heap.size) (_ : zs.length < 4611686018427387904),
      Calls P g #[.slice (some ⟨blk, off, none⟩) zs.length cap] w fun e w' => e = .returned (.tuple #[]) ∧ ∃ n os, w' = grow (putRow (Value.int .i64) (Sort.ahead w n) blk off (zs.mergeSort fun x y => decide (x ≤ y)).toArray) os) : MutOK P g sortM := by
  intro w0 μ H w args xs Q h hs hr
  unfold sortM at h
  split at h
  · rename_i K v sz n ex
    obtain ⟨rfl, l, hK, hn, hb, hQ⟩ := h
    match xs, hr with
    | [x], ⟨hx, _⟩ =>
      by_cases hz : n = 0
      · have hl : l = [] := List.eq_nil_of_length_eq_zero (by omega)
        subst hz; subst hl
        obtain ⟨A, cap, rfl⟩ : ∃ A cap, x = .slice A 0 cap := by cases hx with
          | sref0 => exact ⟨_, _, rfl⟩
          | sref _ h _ _ => omega
        refine (h0 A cap w).mono fun e w' he => ?_
        obtain ⟨rfl, rfl⟩ := he
        have e1 : H.set K (.rows 1 (il (sortL [])) v false) = H := heap_set_same (by simpa [sortL] using hK)
        rw [e1] at hQ
        exact ⟨_, _, μ, H, rfl, hQ, hs, Evo.refl _ _ _, .tup rfl (fun j p x a => by simp at a)⟩
      · obtain ⟨r, cap, rfl, e1, e2, e3, e4, e5, arr, T, e6, e7⟩ := ints_open hs hK hn hz hx
        subst hn
        refine (h1 r 0 cap l w e5 (hs.own K r e1).2 hb).mono fun e w' he => ?_
        obtain ⟨rfl, q, os, rfl⟩ := he
        have hp := ints_put (q := q) (v' := v) (l1 := sortL l) (l2 := []) hs hK e1 (.inl rfl) e6 e7 (by simp [sortL])
        simp only [List.append_nil] at hp
        obtain ⟨p1, p2⟩ := hp
        have gb := grow_below (putRow (Value.int .i64) (Sort.ahead w q) r 0 (sortL l).toArray) os
        exact ⟨_, _, μ, _, rfl, hQ, p1.grow gb, p2.trans (Evo.grow p1 gb), .tup rfl (fun j p x a => by simp at a)⟩
  · match xs, hr with
    | [x], ⟨hx, _⟩ =>
      obtain ⟨A, cap, rfl⟩ : ∃ A cap, x = .slice A 0 cap := by cases hx with
        | sl sz blk off vals h1 => simp at h1; subst h1; exact ⟨_, _, rfl⟩
      refine (h0 A cap w).mono fun e w' he => ?_
      obtain ⟨rfl, rfl⟩ := he
      exact ⟨_, _, μ, H, rfl, h, hs, Evo.refl _ _ _, .tup rfl (fun j p x a => by simp at a)⟩
  · exact h.elim
def compactM : MSpec := fun args H Q =>
  match args with
  | [.sref K v sz n ex] => sz = 1 ∧ ∃ l : List Int, H K = some (.rows 1 (il l) v false) ∧ n = l.length ∧ n < 4611686018427387904 ∧ l ≠ [] ∧ Q (.sref K (v + 1) 1 (Lib.compact l).length false) (H.set K (.rows 1 (il (Lib.compact l)) (v + 1) false))
  | [.sl [] ex] => Q (.sl [] ex) H
  | _ => False
theorem compact_len (l : List Int) : (Lib.compact l).length ≤ l.length := by
  unfold Lib.compact Lib.compactUpTo
  rw [List.length_map]
  exact Nat.le_trans (List.length_filter_le _ _) (by simp)
theorem compact_pos {l : List Int} (h : l ≠ []) : 0 < (Lib.compact l).length := by
  have hl : 0 < l.length := List.length_pos_iff.2 h
  unfold Lib.compact Lib.compactUpTo
  rw [List.length_map]
  refine List.length_pos_of_mem (a := 0) (List.mem_filter.2 ⟨List.mem_range.2 hl, ?_⟩)
  exact Lib.keeps_lt_one _ 0 (by omega)
theorem compactM_ok {P : Program} {g : Nat} (h0 : ∀ (a : Option Addr) (cap : Nat) (w : World), Calls P g #[.slice a 0 cap] w fun e w' => e = .returned (.slice a 0 cap) ∧ w' = w)
    (h1 : ∀ (blk off cap : Nat) (zs : List Int) (w : World) (_ : Holds (Value.int .i64) w blk off zs.toArray) (_ : zs.length ≤ 9223372036854775807) (_ : zs.length ≤ cap),
      Calls P g #[.slice (some ⟨blk, off, none⟩) zs.length cap] w fun e w' => e = .returned (.slice (some ⟨blk, off, none⟩) (Lib.compact zs).length cap) ∧ ∃ q, w' = putRow (Value.int .i64) (Sort.ahead w q) blk off (Lib.compact zs ++ List.replicate (zs.length - (Lib.compact zs).length) 0).toArray) : MutOK P g compactM := by
  intro w0 μ H w args xs Q h hs hr
  unfold compactM at h
  split at h
  · rename_i K v sz n ex
    obtain ⟨rfl, l, hK, hn, hb, hne, hQ⟩ := h
    match xs, hr with
    | [x], ⟨hx, _⟩ =>
      have hz : n ≠ 0 := fun hz => hne (List.eq_nil_of_length_eq_zero (by omega))
      obtain ⟨r, cap, rfl, e1, e2, e3, e4, e5, arr, T, e6, e7⟩ := ints_open hs hK hn hz hx
      subst hn
      refine (h1 r 0 cap l w e5 (by omega) e2).mono fun e w' he => ?_
      obtain ⟨rfl, q, rfl⟩ := he
      have hcl := compact_len l
      obtain ⟨p1, p2⟩ := ints_put (q := q) (v' := v + 1) (l1 := Lib.compact l) (l2 := List.replicate (l.length - (Lib.compact l).length) 0) hs hK e1 (.inr rfl) e6 e7 (by simp; omega)
      refine ⟨_, _, μ, _, rfl, hQ, p1, p2, .sref (.inl ⟨_, ctx_loc_of (b := .rows 1 (il (Lib.compact l)) (v + 1) false) (by simp [Heap.set]) e1, ?_⟩) (compact_pos hne) (by omega) (fun h => by cases h)⟩
      have : bsize w r = bsize (putRow (Value.int .i64) (Sort.ahead w q) r 0 (Lib.compact l ++ List.replicate (l.length - (Lib.compact l).length) 0).toArray) r := by
        simp [bsize, putRow, mapBlock, Sort.ahead, Array.getElem?_modify, e6, onCells, putCells]
      omega
  · match xs, hr with
    | [x], ⟨hx, _⟩ =>
      rename_i ex
      have hx' := hx
      obtain ⟨A, cap, rfl⟩ : ∃ A cap, x = .slice A 0 cap := by cases hx with
        | sl sz blk off vals h1 => simp at h1; subst h1; exact ⟨_, _, rfl⟩
      refine (h0 A cap w).mono fun e w' he => ?_
      obtain ⟨rfl, rfl⟩ := he
      exact ⟨_, _, μ, H, rfl, h, hs, Evo.refl _ _ _, hx'⟩
  · exact h.elim
end Wb
/- Contracts of Go's library, laid by the kit's tool over this program. -/
namespace Go.Proofs
open Go.Shelf
def Tryd.lays128_ren : Go.Shelf.Ren := ⟨fun | 128 => 125 | n => n, fun | 51 => 165 | 3 => 3 | 4 => 4 | 46 => 150 | 5 => 5 | 9 => 9 | n => n, fun | n => n⟩
theorem Tryd.lays128 : Go.Proofs.Lays.n128 Tryd.prog Tryd.lays128_ren := {
  mixed := by kernel_rfl
  f128 := Tryd.func125.trans (congrArg some (by kernel_rfl))
  t3 := Tryd.underlying3
  a3 := Tryd.isAgg3
  z3 := Tryd.sizeOf3
  v3 := Tryd.zeroValue3
  t4 := Tryd.underlying4
  a4 := Tryd.isAgg4
  z4 := Tryd.sizeOf4
  v4 := Tryd.zeroValue4
  t5 := Tryd.underlying5
  a5 := Tryd.isAgg5
  z5 := Tryd.sizeOf5
  v5 := Tryd.zeroValue5
  t9 := Tryd.underlying9
  a9 := Tryd.isAgg9
  z9 := Tryd.sizeOf9
  v9 := Tryd.zeroValue9
  t46 := Tryd.underlying150
  a46 := Tryd.isAgg150
  z46 := Tryd.sizeOf150
  v46 := Tryd.zeroValue150
  t51 := Tryd.underlying165
  a51 := Tryd.isAgg165
  z51 := Tryd.sizeOf165
  v51 := Tryd.zeroValue165 }
theorem Tryd.bits_Len32 (x : Int) (w : World) (h0 : 0 ≤ x) (h1 : x ≤ 4294967295) :
    Calls Tryd.prog 125 #[.int .u32 x] w fun e w' => e = .returned (.int .i64 (Lib.bitLen x.toNat)) ∧ w' = w := Any.bits_Len32 Tryd.lays128 x w h0 h1
def Tryd.lays125_ren : Go.Shelf.Ren := ⟨fun | 125 => 110 | 128 => 125 | 129 => 126 | n => n, fun | 46 => 150 | 3 => 3 | 51 => 165 | 53 => 167 | 4 => 4 | 5 => 5 | 9 => 9 | n => n, fun | n => n⟩
theorem Tryd.lays125 : Go.Proofs.Lays.n125 Tryd.prog Tryd.lays125_ren := {
  mixed := by kernel_rfl
  f125 := Tryd.func110.trans (congrArg some (by kernel_rfl))
  f128 := Tryd.func125.trans (congrArg some (by kernel_rfl))
  f129 := Tryd.func126.trans (congrArg some (by kernel_rfl))
  t3 := Tryd.underlying3
  a3 := Tryd.isAgg3
  z3 := Tryd.sizeOf3
  v3 := Tryd.zeroValue3
  t4 := Tryd.underlying4
  a4 := Tryd.isAgg4
  z4 := Tryd.sizeOf4
  v4 := Tryd.zeroValue4
  t5 := Tryd.underlying5
  a5 := Tryd.isAgg5
  z5 := Tryd.sizeOf5
  v5 := Tryd.zeroValue5
  t9 := Tryd.underlying9
  a9 := Tryd.isAgg9
  z9 := Tryd.sizeOf9
  v9 := Tryd.zeroValue9
  t46 := Tryd.underlying150
  a46 := Tryd.isAgg150
  z46 := Tryd.sizeOf150
  v46 := Tryd.zeroValue150
  t51 := Tryd.underlying165
  a51 := Tryd.isAgg165
  z51 := Tryd.sizeOf165
  v51 := Tryd.zeroValue165
  t53 := Tryd.underlying167
  a53 := Tryd.isAgg167
  z53 := Tryd.sizeOf167
  v53 := Tryd.zeroValue167 }
theorem Tryd.bits_Len (x : Int) (w : World) (h0 : 0 ≤ x) (h1 : x ≤ 18446744073709551615) :
    Calls Tryd.prog 110 #[.int .u64 x] w fun e w' => e = .returned (.int .i64 (Lib.bitLen x.toNat)) ∧ w' = w := Any.bits_Len Tryd.lays125 x w h0 h1
def Tryd.lays129_ren : Go.Shelf.Ren := ⟨fun | 129 => 126 | n => n, fun | 53 => 167 | 3 => 3 | 4 => 4 | 46 => 150 | 5 => 5 | 9 => 9 | n => n, fun | n => n⟩
theorem Tryd.lays129 : Go.Proofs.Lays.n129 Tryd.prog Tryd.lays129_ren := {
  mixed := by kernel_rfl
  f129 := Tryd.func126.trans (congrArg some (by kernel_rfl))
  t3 := Tryd.underlying3
  a3 := Tryd.isAgg3
  z3 := Tryd.sizeOf3
  v3 := Tryd.zeroValue3
  t4 := Tryd.underlying4
  a4 := Tryd.isAgg4
  z4 := Tryd.sizeOf4
  v4 := Tryd.zeroValue4
  t5 := Tryd.underlying5
  a5 := Tryd.isAgg5
  z5 := Tryd.sizeOf5
  v5 := Tryd.zeroValue5
  t9 := Tryd.underlying9
  a9 := Tryd.isAgg9
  z9 := Tryd.sizeOf9
  v9 := Tryd.zeroValue9
  t46 := Tryd.underlying150
  a46 := Tryd.isAgg150
  z46 := Tryd.sizeOf150
  v46 := Tryd.zeroValue150
  t53 := Tryd.underlying167
  a53 := Tryd.isAgg167
  z53 := Tryd.sizeOf167
  v53 := Tryd.zeroValue167 }
theorem Tryd.bits_Len64 (x : Int) (w : World) (h0 : 0 ≤ x) (h1 : x ≤ 18446744073709551615) :
    Calls Tryd.prog 126 #[.int .u64 x] w fun e w' => e = .returned (.int .i64 (Lib.bitLen x.toNat)) ∧ w' = w := Any.bits_Len64 Tryd.lays129 x w h0 h1
def Tryd.lays189_ren : Go.Shelf.Ren := ⟨fun | 189 => 87 | 125 => 110 | 257 => 109 | 128 => 125 | 129 => 126 | 294 => 116 | 295 => 117 | 296 => 118 | 297 => 119 | 298 => 120 | 299 => 121 | 216 => 122 | 300 => 123 | 301 => 124 | 328 => 129 | 329 => 130 | 330 => 131 | 331 => 132 | 332 => 133 | 215 => 134 | 343 => 135 | n => n, fun | 28 => 36 | 3 => 3 | 46 => 150 | 0 => 0 | 51 => 165 | 53 => 167 | 4 => 4 | 183 => 159 | 182 => 158 | 131 => 119 | 5 => 5 | 9 => 9 | 218 => 169 | 222 => 173 | 228 => 175 | 229 => 176 | n => n, fun | n => n⟩
theorem Tryd.lays189 : Go.Proofs.Lays.n189 Tryd.prog Tryd.lays189_ren := {
  mixed := by kernel_rfl
  f125 := Tryd.func110.trans (congrArg some (by kernel_rfl))
  f128 := Tryd.func125.trans (congrArg some (by kernel_rfl))
  f129 := Tryd.func126.trans (congrArg some (by kernel_rfl))
  f189 := Tryd.func87.trans (congrArg some (by kernel_rfl))
  f215 := Tryd.func134.trans (congrArg some (by kernel_rfl))
  f216 := Tryd.func122.trans (congrArg some (by kernel_rfl))
  f257 := Tryd.func109.trans (congrArg some (by kernel_rfl))
  f294 := Tryd.func116.trans (congrArg some (by kernel_rfl))
  f295 := Tryd.func117.trans (congrArg some (by kernel_rfl))
  f296 := Tryd.func118.trans (congrArg some (by kernel_rfl))
  f297 := Tryd.func119.trans (congrArg some (by kernel_rfl))
  f298 := Tryd.func120.trans (congrArg some (by kernel_rfl))
  f299 := Tryd.func121.trans (congrArg some (by kernel_rfl))
  f300 := Tryd.func123.trans (congrArg some (by kernel_rfl))
  f301 := Tryd.func124.trans (congrArg some (by kernel_rfl))
  f328 := Tryd.func129.trans (congrArg some (by kernel_rfl))
  f329 := Tryd.func130.trans (congrArg some (by kernel_rfl))
  f330 := Tryd.func131.trans (congrArg some (by kernel_rfl))
  f331 := Tryd.func132.trans (congrArg some (by kernel_rfl))
  f332 := Tryd.func133.trans (congrArg some (by kernel_rfl))
  f343 := Tryd.func135.trans (congrArg some (by kernel_rfl))
  t0 := Tryd.underlying0
  a0 := Tryd.isAgg0
  z0 := Tryd.sizeOf0
  v0 := Tryd.zeroValue0
  t3 := Tryd.underlying3
  a3 := Tryd.isAgg3
  z3 := Tryd.sizeOf3
  v3 := Tryd.zeroValue3
  t4 := Tryd.underlying4
  a4 := Tryd.isAgg4
  z4 := Tryd.sizeOf4
  v4 := Tryd.zeroValue4
  t5 := Tryd.underlying5
  a5 := Tryd.isAgg5
  z5 := Tryd.sizeOf5
  v5 := Tryd.zeroValue5
  t9 := Tryd.underlying9
  a9 := Tryd.isAgg9
  z9 := Tryd.sizeOf9
  v9 := Tryd.zeroValue9
  t28 := Tryd.underlying36
  a28 := Tryd.isAgg36
  z28 := Tryd.sizeOf36
  v28 := Tryd.zeroValue36
  t46 := Tryd.underlying150
  a46 := Tryd.isAgg150
  z46 := Tryd.sizeOf150
  v46 := Tryd.zeroValue150
  t51 := Tryd.underlying165
  a51 := Tryd.isAgg165
  z51 := Tryd.sizeOf165
  v51 := Tryd.zeroValue165
  t53 := Tryd.underlying167
  a53 := Tryd.isAgg167
  z53 := Tryd.sizeOf167
  v53 := Tryd.zeroValue167
  t131 := Tryd.underlying119
  a131 := Tryd.isAgg119
  z131 := Tryd.sizeOf119
  v131 := Tryd.zeroValue119
  t182 := Tryd.underlying158
  a182 := Tryd.isAgg158
  z182 := Tryd.sizeOf158
  v182 := Tryd.zeroValue158
  t183 := Tryd.underlying159
  a183 := Tryd.isAgg159
  z183 := Tryd.sizeOf159
  v183 := Tryd.zeroValue159
  t218 := Tryd.underlying169
  a218 := Tryd.isAgg169
  z218 := Tryd.sizeOf169
  v218 := Tryd.zeroValue169
  t222 := Tryd.underlying173
  a222 := Tryd.isAgg173
  z222 := Tryd.sizeOf173
  v222 := Tryd.zeroValue173
  t228 := Tryd.underlying175
  a228 := Tryd.isAgg175
  z228 := Tryd.sizeOf175
  v228 := Tryd.zeroValue175
  t229 := Tryd.underlying176
  a229 := Tryd.isAgg176
  z229 := Tryd.sizeOf176
  v229 := Tryd.zeroValue176 }
open Go.Sort Go.RowKit in
theorem Tryd.slices_Sort_int (blk off cap : Nat) (zs : List Int) (w : World) (hH : Holds (Value.int .i64) w blk off zs.toArray) (hblk : blk < w.heap.size) (hsz : zs.length < 4611686018427387904) :
    Calls Tryd.prog 87 #[.slice (some ⟨blk, off, none⟩) zs.length cap] w fun e w' =>
      e = .returned (.tuple #[]) ∧ ∃ n os, w' = grow (putRow (Value.int .i64) (Sort.ahead w n) blk off (zs.mergeSort fun x y => decide (x ≤ y)).toArray) os := Any.slices_Sort_int Tryd.lays189 blk off cap zs w hH hblk hsz
def Tryd.laysNm220_ren : Go.Shelf.Ren := ⟨fun | 20 => 88 | n => n, fun | 22 => 36 | 3 => 3 | 4 => 4 | 0 => 0 | n => n, fun | n => n⟩
theorem Tryd.laysNm220 : Go.Proofs.Lays2.n20 Tryd.prog Tryd.laysNm220_ren := {
  mixed := by kernel_rfl
  f20 := Tryd.func88.trans (congrArg some (by kernel_rfl))
  t0 := Tryd.underlying0
  a0 := Tryd.isAgg0
  z0 := Tryd.sizeOf0
  v0 := Tryd.zeroValue0
  t3 := Tryd.underlying3
  a3 := Tryd.isAgg3
  z3 := Tryd.sizeOf3
  v3 := Tryd.zeroValue3
  t4 := Tryd.underlying4
  a4 := Tryd.isAgg4
  z4 := Tryd.sizeOf4
  v4 := Tryd.zeroValue4
  t22 := Tryd.underlying36
  a22 := Tryd.isAgg36
  z22 := Tryd.sizeOf36
  v22 := Tryd.zeroValue36
  i3 := by kernel_rfl }
open Go.RowKit Go.Lib Go.Sort in
theorem Tryd.slices_Compact_int_arr (blk off cap : Nat) (d : Array Int) (w : World) (hH : Holds encI w blk off d) (hsz : d.size ≤ 9223372036854775807) (hcap : d.size ≤ cap) :
    Calls Tryd.prog 88 #[.slice (some ⟨blk, off, none⟩) d.size cap] w fun e w' => e = .returned (.slice (some ⟨blk, off, none⟩) (compactUpTo d d.size).length cap) ∧ ∃ q, w' = putRow encI (Sort.ahead w q) blk off (compactUpTo d d.size ++ List.replicate (d.size - (compactUpTo d d.size).length) 0).toArray := Any.slices_Compact_int_arr Tryd.laysNm220 blk off cap d w hH hsz hcap
open Go.RowKit Go.Lib Go.Sort in
theorem Tryd.slices_Compact_int (blk off cap : Nat) (zs : List Int) (w : World) (hH : Holds (Value.int .i64) w blk off zs.toArray) (hsz : zs.length ≤ 9223372036854775807) (hcap : zs.length ≤ cap) :
    Calls Tryd.prog 88 #[.slice (some ⟨blk, off, none⟩) zs.length cap] w fun e w' => e = .returned (.slice (some ⟨blk, off, none⟩) (Lib.compact zs).length cap) ∧ ∃ q, w' = putRow (Value.int .i64) (Sort.ahead w q) blk off (Lib.compact zs ++ List.replicate (zs.length - (Lib.compact zs).length) 0).toArray := Any.slices_Compact_int Tryd.laysNm220 blk off cap zs w hH hsz hcap
open Go.RowKit Go.Lib Go.Sort in
theorem Tryd.slices_Compact_int_empty (a : Option Addr) (cap : Nat) (w : World) :
    Calls Tryd.prog 88 #[.slice a 0 cap] w fun e w' => e = .returned (.slice a 0 cap) ∧ w' = w := Any.slices_Compact_int_empty Tryd.laysNm220 a cap w
def Tryd.laysNm237_ren : Go.Shelf.Ren := ⟨fun | 37 => 134 | n => n, fun | 3 => 3 | 4 => 4 | n => n, fun | n => n⟩
theorem Tryd.laysNm237 : Go.Proofs.Lays2.n37 Tryd.prog Tryd.laysNm237_ren := {
  mixed := by kernel_rfl
  f37 := Tryd.func134.trans (congrArg some (by kernel_rfl))
  t3 := Tryd.underlying3
  a3 := Tryd.isAgg3
  z3 := Tryd.sizeOf3
  v3 := Tryd.zeroValue3
  t4 := Tryd.underlying4
  a4 := Tryd.isAgg4
  z4 := Tryd.sizeOf4
  v4 := Tryd.zeroValue4 }
open Go.RowKit Go.Lib in
theorem Tryd.cmp_isNaN_int2 (x : Int) (w : World) :
    Calls Tryd.prog 134 #[.int .i64 x] w fun e w' => e = .returned (.bool false) ∧ w' = w := Any.cmp_isNaN_int2 Tryd.laysNm237 x w
def Tryd.laysNm231_ren : Go.Shelf.Ren := ⟨fun | 31 => 122 | 37 => 134 | n => n, fun | 3 => 3 | 4 => 4 | n => n, fun | n => n⟩
theorem Tryd.laysNm231 : Go.Proofs.Lays2.n31 Tryd.prog Tryd.laysNm231_ren := {
  mixed := by kernel_rfl
  f31 := Tryd.func122.trans (congrArg some (by kernel_rfl))
  f37 := Tryd.func134.trans (congrArg some (by kernel_rfl))
  t3 := Tryd.underlying3
  a3 := Tryd.isAgg3
  z3 := Tryd.sizeOf3
  v3 := Tryd.zeroValue3
  t4 := Tryd.underlying4
  a4 := Tryd.isAgg4
  z4 := Tryd.sizeOf4
  v4 := Tryd.zeroValue4 }
open Go.RowKit Go.Lib in
theorem Tryd.cmp_Less_int2 (x y : Int) (w : World) :
    Calls Tryd.prog 122 #[.int .i64 x, .int .i64 y] w fun e w' => e = .returned (.bool (decide (x < y))) ∧ w' = w := Any.cmp_Less_int2 Tryd.laysNm231 x y w
open Go.RowKit Go.Lib Go.Sort in
theorem Tryd.slices_Compact_int_cells (b off n c : Nat) (zs : List Int) (w : World) (hz : n ≤ zs.length) (hbig : n ≤ 9223372036854775807) (hcap : n ≤ c) (hc : ∀ j, j < zs.length → w.cell? ⟨b, off + j, none⟩ = some (.int .i64 (zs.getD j 0))) (hf : ∀ j, j < n → w.frozen? ⟨b, off + j, none⟩ = false) :
    Calls Tryd.prog 88 #[.slice (some ⟨b, off, none⟩) n c] w fun e w' => e = .returned (.slice (some ⟨b, off, none⟩) (Lib.compact (zs.take n)).length c) ∧ ∃ q, w' = (w.drewN q).setCells b off ((Lib.compact (zs.take n) ++ List.replicate (n - (Lib.compact (zs.take n)).length) 0).map (Value.int .i64)) := Any.slices_Compact_int_cells Tryd.laysNm220 b off n c zs w hz hbig hcap hc hf
open Go.RowKit Go.Sort in
theorem Tryd.slices_Sort_int_none (p : Option Addr) (cap : Nat) (w : World) :
    Calls Tryd.prog 87 #[.slice p 0 cap] w fun e w' => e = .returned (.tuple #[]) ∧ w' = w := Any.slices_Sort_int_none Tryd.lays189 p cap w
end Go.Proofs
/- The days on which prices can change. -/
namespace Wb
open Go Go.Proofs Enc Row
set_option linter.unusedSimpArgs false
set_option linter.unusedVariables false
set_option maxRecDepth 20000
set_option maxHeartbeats 4000000
theorem m87_ok : MutOK Tryd.prog 87 sortM := sortM_ok Tryd.slices_Sort_int_none fun blk off cap zs w a b c => Tryd.slices_Sort_int blk off cap zs w a b c
theorem m88_ok : MutOK Tryd.prog 88 compactM := compactM_ok Tryd.slices_Compact_int_empty fun blk off cap zs w a b c => Tryd.slices_Compact_int blk off cap zs w a b c
def Mt : List (Nat × MSpec) := [(87, sortM), (88, compactM)]
theorem Mt_ok : MutAll Mt := ⟨⟨m87_ok, Tryd.call87⟩, ⟨m88_ok, Tryd.call88⟩, trivial⟩
def E7t : List (Nat × Spec) := [(82, s82)] ++ E6t
theorem E7t_ok : AllOK E7t := ⟨⟨s82_ok, Tryd.call82⟩, E6t_ok⟩
noncomputable def E7 : Env := mkM E7t [] Mt
theorem E7_ok : EnvOK Tryd.prog E7 := envMOK E7t_ok trivial Mt_ok
theorem E7_ti {t : Nat} : E7.ti t = ti t := rfl
theorem E7_q0 : (E7).eqt 152 = true := rfl
theorem E7_q1 : (E7).eqt 69 = true := rfl
theorem E7_q2 : (E7).keyt 3 = true := rfl
theorem E7_q3 : (E7).keyt 108 = true := rfl
attribute [go_sem] E7_ti E7_q0 E7_q1 E7_q2 E7_q3
theorem callN_mt {E : Env} {g : Nat} {m : MSpec} (h1 : E.inl g = none) (h2 : E.mt g = some m) (n : Nat) (path : List Nat) (a b args : List PV) (H : Heap) (Q : PV → Heap → Prop) : callN E (n + 1) path (.fn g a b) args H Q = m args H Q := by
  simp only [callN, h1, h2]
def OwnB (H : Heap) (K1 : Key) (v1 : Nat) (K2 : Key) (p : PV) (rs : List (List PV)) : Prop :=
  (p = .sref K1 v1 1 rs.length true ∧ H K1 = some (.rows 1 rs v1 false)) ∨ ∃ v, p = .sref K2 v 1 rs.length false ∧ H K2 = some (.rows 1 rs v false)
-- f86 cuts
def ends2 (y : Issue) : List Int := [y.lo, y.held + 1]
def inDays (d : Int × Int) (n : Int) : Bool := decide (d.1 ≤ n) && decide (n ≤ d.2)
def rawCuts (d : Int × Int) (l : List Issue) : List Int := d.1 :: l.flatMap fun y => (ends2 y).filter (inDays d)
theorem rawCuts_len (d : Int × Int) (l : List Issue) : (rawCuts d l).length ≤ 1 + 2 * l.length := by
  unfold rawCuts
  simp only [List.length_cons, List.length_flatMap]
  induction l with
  | nil => simp
  | cons y l ih =>
    have : ((ends2 y).filter (inDays d)).length ≤ 2 := List.length_filter_le _ _
    simp only [List.map_cons, List.sum_cons, List.length_cons]
    omega
theorem rawCuts_take (d : Int × Int) {l : List Issue} {i : Nat} (h : i < l.length) : rawCuts d (l.take (i + 1)) = rawCuts d (l.take i) ++ (ends2 (l.getD i default)).filter (inDays d) := by
  unfold rawCuts
  rw [List.take_succ_eq_append_getElem h, List.flatMap_append]
  simp [h]
theorem cuts_fn (r : Rack) (es : List (List Int × PV)) (d : Int × Int) (hi : r.issues.length ≤ 4) (hh : ∀ y ∈ r.issues, okInt (y.held + 1)) :
    Fn E7 1 86 Tryd.f86 (Tryd.f86.body.getD .skip) [.agg (encC ⟨r, es⟩), .agg [.int .i64 d.1, .int .i64 d.2]] (.sl (il (Lib.compact (sortL (rawCuts d r.issues)))) false) := by
  unfold Fn Tryd.f86
  simp only [go_sem, Nat.reduceAdd, Nat.reduceSub, Nat.reduceMul, Nat.reduceEqDiff, Nat.reduceLT, Nat.reduceLeDiff, Nat.reduceBEq, Nat.reduceBNe, Int.reduceToNat, Int.reduceLE, Int.reduceLT, Int.reduceNe, Int.reduceNeg, reduceCtorEq, Int.reduceBEq, Int.reduceBNe, @callV_spec E7 66 sTween rfl, @callV_specT E7 66 sTween rfl, @stepV_spec E7 66 sTween rfl, @effV_spec E7 66 sTween rfl, sTween, @callV_spec E7 153 s153 rfl, @callV_specT E7 153 s153 rfl, @stepV_spec E7 153 s153 rfl, @effV_spec E7 153 s153 rfl, s153, encC, show E7.glob = glB from rfl, glB]
  refine ev_loopS [2, 3, 4] (fun x : Nat × PV => [(5, x.2), (16, .int .i64 r.issues.length), (15, .sl (r.issues.map encI) false), (17, .int .i64 x.1)])
    (fun x H => x.1 ≤ r.issues.length ∧ H (([], 86000000) : Key) = some (.cells (encC ⟨r, es⟩) 1 false) ∧ H (([], 86000001) : Key) = some (.cells [.int .i64 d.1, .int .i64 d.2] 1 false) ∧ OwnB H ([], 86001002) 1 ([], 86010003) x.2 (il (rawCuts d (r.issues.take x.1))))
    (fun x => r.issues.length - x.1) (0, .sref ([], 86001002) 1 1 1 true) ?_ ⟨Nat.zero_le _, ?_, ?_, .inl ⟨rfl, ?_⟩⟩ ?_
  · simp only [go_sem, Nat.reduceAdd, Nat.reduceSub, Nat.reduceMul, Nat.reduceEqDiff, Nat.reduceLT, Nat.reduceLeDiff, Nat.reduceBEq, Nat.reduceBNe, Int.reduceToNat, Int.reduceLE, Int.reduceLT, Int.reduceNe, Int.reduceNeg, reduceCtorEq, Int.reduceBEq, Int.reduceBNe]
  · simp only [go_sem, Nat.reduceAdd, Nat.reduceSub, Nat.reduceMul, Nat.reduceEqDiff, Nat.reduceLT, Nat.reduceLeDiff, Nat.reduceBEq, Nat.reduceBNe, Int.reduceToNat, Int.reduceLE, Int.reduceLT, Int.reduceNe, Int.reduceNeg, reduceCtorEq, Int.reduceBEq, Int.reduceBNe, encC]
  · simp only [go_sem, Nat.reduceAdd, Nat.reduceSub, Nat.reduceMul, Nat.reduceEqDiff, Nat.reduceLT, Nat.reduceLeDiff, Nat.reduceBEq, Nat.reduceBNe, Int.reduceToNat, Int.reduceLE, Int.reduceLT, Int.reduceNe, Int.reduceNeg, reduceCtorEq, Int.reduceBEq, Int.reduceBNe]
  · simp only [go_sem, Nat.reduceAdd, Nat.reduceSub, Nat.reduceMul, Nat.reduceEqDiff, Nat.reduceLT, Nat.reduceLeDiff, Nat.reduceBEq, Nat.reduceBNe, Int.reduceToNat, Int.reduceLE, Int.reduceLT, Int.reduceNe, Int.reduceNeg, reduceCtorEq, Int.reduceBEq, Int.reduceBNe, rawCuts, il, List.take, List.flatMap_nil, List.map]
  · simp only [go_sem, Nat.reduceAdd, Nat.reduceSub, Nat.reduceMul, Nat.reduceEqDiff, Nat.reduceLT, Nat.reduceLeDiff, Nat.reduceBEq, Nat.reduceBNe, Int.reduceToNat, Int.reduceLE, Int.reduceLT, Int.reduceNe, Int.reduceNeg, reduceCtorEq, Int.reduceBEq, Int.reduceBNe]
    intro K x H ⟨hi', h1, h2, h3⟩ hK hE
    obtain ⟨i, p⟩ := x
    simp only at hi' h1 h2 h3
    simp only [go_sem, Nat.reduceAdd, Nat.reduceSub, Nat.reduceMul, Nat.reduceEqDiff, Nat.reduceLT, Nat.reduceLeDiff, Nat.reduceBEq, Nat.reduceBNe, Int.reduceToNat, Int.reduceLE, Int.reduceLT, Int.reduceNe, Int.reduceNeg, reduceCtorEq, Int.reduceBEq, Int.reduceBNe]
    rw [condK_bool]
    refine ⟨fun h => ?_, fun h => ?_⟩
    · have h' : i < r.issues.length := by simpa using h
      have hii : (i : Int) < (r.issues.length : Int) := by omega
      have hy : r.issues.getD i default ∈ r.issues := by simp [List.getD_eq_getElem?_getD, h']
      have hw : IntKind.i64.wrap ((r.issues.getD i default).held + 1) = (r.issues.getD i default).held + 1 := wrap_id (hh _ hy)
      simp only [go_sem, Nat.reduceAdd, Nat.reduceSub, Nat.reduceMul, Nat.reduceEqDiff, Nat.reduceLT, Nat.reduceLeDiff, Nat.reduceBEq, Nat.reduceBNe, Int.reduceToNat, Int.reduceLE, Int.reduceLT, Int.reduceNe, Int.reduceNeg, reduceCtorEq, Int.reduceBEq, Int.reduceBNe, @callV_spec E7 66 sTween rfl, @callV_specT E7 66 sTween rfl, @stepV_spec E7 66 sTween rfl, @effV_spec E7 66 sTween rfl, sTween, @callV_spec E7 153 s153 rfl, @callV_specT E7 153 s153 rfl, @stepV_spec E7 153 s153 rfl, @effV_spec E7 153 s153 rfl, s153, h1, h2, encC, show E7.glob = glB from rfl, glB, hii, hw]
      generalize hvs : verOf H ([], 86006005) + 1 = vs
      have hlen0 := rawCuts_len d (r.issues.take i)
      have hlen1 : (r.issues.take i).length ≤ 4 := Nat.le_trans (List.length_take_le' _ _) hi
      refine ev_loopS [2, 3, 4, 15, 16, 17, 30, 31] (fun x : Nat × PV => [(5, x.2), (32, .int .i64 x.1)])
        (fun x H => x.1 ≤ 2 ∧ H (([], 86000000) : Key) = some (.cells (encC ⟨r, es⟩) 1 false) ∧ H (([], 86000001) : Key) = some (.cells [.int .i64 d.1, .int .i64 d.2] 1 false) ∧ H (([], 86006005) : Key) = some (.rows 1 [[.int .i64 (r.issues.getD i default).lo], [.int .i64 ((r.issues.getD i default).held + 1)]] vs false) ∧
          OwnB H ([], 86001002) 1 ([], 86010003) x.2 (il (rawCuts d (r.issues.take i) ++ ((ends2 (r.issues.getD i default)).take x.1).filter (inDays d))))
        (fun x => 2 - x.1) (0, p) ?_ ⟨by omega, ?_, ?_, ?_, ?_⟩ ?_
      · simp only [go_sem, Nat.reduceAdd, Nat.reduceSub, Nat.reduceMul, Nat.reduceEqDiff, Nat.reduceLT, Nat.reduceLeDiff, Nat.reduceBEq, Nat.reduceBNe, Int.reduceToNat, Int.reduceLE, Int.reduceLT, Int.reduceNe, Int.reduceNeg, reduceCtorEq, Int.reduceBEq, Int.reduceBNe]
      · simp only [go_sem, Nat.reduceAdd, Nat.reduceSub, Nat.reduceMul, Nat.reduceEqDiff, Nat.reduceLT, Nat.reduceLeDiff, Nat.reduceBEq, Nat.reduceBNe, Int.reduceToNat, Int.reduceLE, Int.reduceLT, Int.reduceNe, Int.reduceNeg, reduceCtorEq, Int.reduceBEq, Int.reduceBNe, h1, encC]
      · simp only [go_sem, Nat.reduceAdd, Nat.reduceSub, Nat.reduceMul, Nat.reduceEqDiff, Nat.reduceLT, Nat.reduceLeDiff, Nat.reduceBEq, Nat.reduceBNe, Int.reduceToNat, Int.reduceLE, Int.reduceLT, Int.reduceNe, Int.reduceNeg, reduceCtorEq, Int.reduceBEq, Int.reduceBNe, h2]
      · simp only [go_sem, Nat.reduceAdd, Nat.reduceSub, Nat.reduceMul, Nat.reduceEqDiff, Nat.reduceLT, Nat.reduceLeDiff, Nat.reduceBEq, Nat.reduceBNe, Int.reduceToNat, Int.reduceLE, Int.reduceLT, Int.reduceNe, Int.reduceNeg, reduceCtorEq, Int.reduceBEq, Int.reduceBNe]
      · rcases h3 with ⟨rfl, e2⟩ | ⟨v, rfl, e2⟩
        · exact .inl ⟨by simp, by simp only [go_sem, Nat.reduceAdd, Nat.reduceSub, Nat.reduceMul, Nat.reduceEqDiff, Nat.reduceLT, Nat.reduceLeDiff, Nat.reduceBEq, Nat.reduceBNe, Int.reduceToNat, Int.reduceLE, Int.reduceLT, Int.reduceNe, Int.reduceNeg, reduceCtorEq, Int.reduceBEq, Int.reduceBNe, e2, List.filter_nil]⟩
        · exact .inr ⟨v, by simp, by simp only [go_sem, Nat.reduceAdd, Nat.reduceSub, Nat.reduceMul, Nat.reduceEqDiff, Nat.reduceLT, Nat.reduceLeDiff, Nat.reduceBEq, Nat.reduceBNe, Int.reduceToNat, Int.reduceLE, Int.reduceLT, Int.reduceNe, Int.reduceNeg, reduceCtorEq, Int.reduceBEq, Int.reduceBNe, e2, List.filter_nil]⟩
      · simp only [go_sem, Nat.reduceAdd, Nat.reduceSub, Nat.reduceMul, Nat.reduceEqDiff, Nat.reduceLT, Nat.reduceLeDiff, Nat.reduceBEq, Nat.reduceBNe, Int.reduceToNat, Int.reduceLE, Int.reduceLT, Int.reduceNe, Int.reduceNeg, reduceCtorEq, Int.reduceBEq, Int.reduceBNe]
        intro K2 x H2 ⟨hj, g1, g2, g3, g4⟩ hK2 hE2
        obtain ⟨j, p2⟩ := x
        simp only at hj g1 g2 g3 g4
        have hc : j = 0 ∨ j = 1 ∨ j = 2 := by omega
        rcases hc with rfl | rfl | rfl
        · simp only [go_sem, Nat.reduceAdd, Nat.reduceSub, Nat.reduceMul, Nat.reduceEqDiff, Nat.reduceLT, Nat.reduceLeDiff, Nat.reduceBEq, Nat.reduceBNe, Int.reduceToNat, Int.reduceLE, Int.reduceLT, Int.reduceNe, Int.reduceNeg, reduceCtorEq, Int.reduceBEq, Int.reduceBNe, @callV_spec E7 66 sTween rfl, @callV_specT E7 66 sTween rfl, @stepV_spec E7 66 sTween rfl, @effV_spec E7 66 sTween rfl, sTween, g1, g2, g3, Int.cast_ofNat_Int]
          rw [condK_bool]
          refine ⟨fun hin => ?_, fun hin => ?_⟩
          · have hil : il (rawCuts d (r.issues.take i) ++ ((ends2 (r.issues.getD i default)).take 1).filter (inDays d)) = il (rawCuts d (r.issues.take i) ++ ((ends2 (r.issues.getD i default)).take 0).filter (inDays d)) ++ [[.int .i64 (r.issues.getD i default).lo]] := by
              have e : inDays d (r.issues.getD i default).lo = true := hin
              rw [show (ends2 (r.issues.getD i default)).take 1 = (ends2 (r.issues.getD i default)).take 0 ++ [(r.issues.getD i default).lo] from rfl, List.filter_append, ← List.append_assoc, il_append, List.filter_cons, if_pos e]; rfl
            have hL : (rawCuts d (r.issues.take i) ++ ((ends2 (r.issues.getD i default)).take 0).filter (inDays d)).length ≤ 20 := by
              have : (((ends2 (r.issues.getD i default)).take 0).filter (inDays d)).length ≤ 2 := Nat.le_trans (List.length_filter_le _ _) (by simp [ends2])
              rw [List.length_append]; omega
            generalize (rawCuts d (r.issues.take i) ++ ((ends2 (r.issues.getD i default)).take 0).filter (inDays d)) = acc at *
            rcases g4 with ⟨rfl, e2⟩ | ⟨v, rfl, e2⟩
            · simp only [go_sem, Nat.reduceAdd, Nat.reduceSub, Nat.reduceMul, Nat.reduceEqDiff, Nat.reduceLT, Nat.reduceLeDiff, Nat.reduceBEq, Nat.reduceBNe, Int.reduceToNat, Int.reduceLE, Int.reduceLT, Int.reduceNe, Int.reduceNeg, reduceCtorEq, Int.reduceBEq, Int.reduceBNe, g1, g2, g3, e2, app, rowsOf, cells1, cellP, forall_eq, il_length]
              refine ⟨by omega, hK2 (1, .sref ([], 86010003) (verOf H2 ([], 86010003) + 1) 1 (acc.length + 1) false) _ _ ?_ ⟨by simp, ?_, ?_, ?_, .inr ⟨verOf H2 ([], 86010003) + 1, ?_, ?_⟩⟩ (by simp)⟩
              · simp only [go_sem, Nat.reduceAdd, Nat.reduceSub, Nat.reduceMul, Nat.reduceEqDiff, Nat.reduceLT, Nat.reduceLeDiff, Nat.reduceBEq, Nat.reduceBNe, Int.reduceToNat, Int.reduceLE, Int.reduceLT, Int.reduceNe, Int.reduceNeg, reduceCtorEq, Int.reduceBEq, Int.reduceBNe]; rfl
              · simp only [go_sem, Nat.reduceAdd, Nat.reduceSub, Nat.reduceMul, Nat.reduceEqDiff, Nat.reduceLT, Nat.reduceLeDiff, Nat.reduceBEq, Nat.reduceBNe, Int.reduceToNat, Int.reduceLE, Int.reduceLT, Int.reduceNe, Int.reduceNeg, reduceCtorEq, Int.reduceBEq, Int.reduceBNe, g1]
              · simp only [go_sem, Nat.reduceAdd, Nat.reduceSub, Nat.reduceMul, Nat.reduceEqDiff, Nat.reduceLT, Nat.reduceLeDiff, Nat.reduceBEq, Nat.reduceBNe, Int.reduceToNat, Int.reduceLE, Int.reduceLT, Int.reduceNe, Int.reduceNeg, reduceCtorEq, Int.reduceBEq, Int.reduceBNe, g2]
              · simp only [go_sem, Nat.reduceAdd, Nat.reduceSub, Nat.reduceMul, Nat.reduceEqDiff, Nat.reduceLT, Nat.reduceLeDiff, Nat.reduceBEq, Nat.reduceBNe, Int.reduceToNat, Int.reduceLE, Int.reduceLT, Int.reduceNe, Int.reduceNeg, reduceCtorEq, Int.reduceBEq, Int.reduceBNe, g3]
              · rw [hil]; simp [il_length]
              · rw [hil]; simp only [go_sem, Nat.reduceAdd, Nat.reduceSub, Nat.reduceMul, Nat.reduceEqDiff, Nat.reduceLT, Nat.reduceLeDiff, Nat.reduceBEq, Nat.reduceBNe, Int.reduceToNat, Int.reduceLE, Int.reduceLT, Int.reduceNe, Int.reduceNeg, reduceCtorEq, Int.reduceBEq, Int.reduceBNe]
            · simp only [go_sem, Nat.reduceAdd, Nat.reduceSub, Nat.reduceMul, Nat.reduceEqDiff, Nat.reduceLT, Nat.reduceLeDiff, Nat.reduceBEq, Nat.reduceBNe, Int.reduceToNat, Int.reduceLE, Int.reduceLT, Int.reduceNe, Int.reduceNeg, reduceCtorEq, Int.reduceBEq, Int.reduceBNe, g1, g2, g3, e2, app, rowsOf, cells1, cellP, forall_eq, il_length]
              refine ⟨by omega, hK2 (1, .sref ([], 86010003) (v + 1) 1 (acc.length + 1) false) _ _ ?_ ⟨by simp, ?_, ?_, ?_, .inr ⟨v + 1, ?_, ?_⟩⟩ (by simp)⟩
              · simp only [go_sem, Nat.reduceAdd, Nat.reduceSub, Nat.reduceMul, Nat.reduceEqDiff, Nat.reduceLT, Nat.reduceLeDiff, Nat.reduceBEq, Nat.reduceBNe, Int.reduceToNat, Int.reduceLE, Int.reduceLT, Int.reduceNe, Int.reduceNeg, reduceCtorEq, Int.reduceBEq, Int.reduceBNe]; rfl
              · simp only [go_sem, Nat.reduceAdd, Nat.reduceSub, Nat.reduceMul, Nat.reduceEqDiff, Nat.reduceLT, Nat.reduceLeDiff, Nat.reduceBEq, Nat.reduceBNe, Int.reduceToNat, Int.reduceLE, Int.reduceLT, Int.reduceNe, Int.reduceNeg, reduceCtorEq, Int.reduceBEq, Int.reduceBNe, g1]
              · simp only [go_sem, Nat.reduceAdd, Nat.reduceSub, Nat.reduceMul, Nat.reduceEqDiff, Nat.reduceLT, Nat.reduceLeDiff, Nat.reduceBEq, Nat.reduceBNe, Int.reduceToNat, Int.reduceLE, Int.reduceLT, Int.reduceNe, Int.reduceNeg, reduceCtorEq, Int.reduceBEq, Int.reduceBNe, g2]
              · simp only [go_sem, Nat.reduceAdd, Nat.reduceSub, Nat.reduceMul, Nat.reduceEqDiff, Nat.reduceLT, Nat.reduceLeDiff, Nat.reduceBEq, Nat.reduceBNe, Int.reduceToNat, Int.reduceLE, Int.reduceLT, Int.reduceNe, Int.reduceNeg, reduceCtorEq, Int.reduceBEq, Int.reduceBNe, g3]
              · rw [hil]; simp [il_length]
              · rw [hil]; simp only [go_sem, Nat.reduceAdd, Nat.reduceSub, Nat.reduceMul, Nat.reduceEqDiff, Nat.reduceLT, Nat.reduceLeDiff, Nat.reduceBEq, Nat.reduceBNe, Int.reduceToNat, Int.reduceLE, Int.reduceLT, Int.reduceNe, Int.reduceNeg, reduceCtorEq, Int.reduceBEq, Int.reduceBNe]
          · have hil : ((ends2 (r.issues.getD i default)).take 1).filter (inDays d) = ((ends2 (r.issues.getD i default)).take 0).filter (inDays d) := by
              have e : inDays d (r.issues.getD i default).lo = false := hin
              rw [show (ends2 (r.issues.getD i default)).take 1 = (ends2 (r.issues.getD i default)).take 0 ++ [(r.issues.getD i default).lo] from rfl, List.filter_append, List.filter_cons, if_neg (by rw [e]; simp)]; simp
            simp only [go_sem, Nat.reduceAdd, Nat.reduceSub, Nat.reduceMul, Nat.reduceEqDiff, Nat.reduceLT, Nat.reduceLeDiff, Nat.reduceBEq, Nat.reduceBNe, Int.reduceToNat, Int.reduceLE, Int.reduceLT, Int.reduceNe, Int.reduceNeg, reduceCtorEq, Int.reduceBEq, Int.reduceBNe]
            refine hK2 (1, p2) _ _ ?_ ⟨by simp, g1, g2, g3, ?_⟩ (by simp)
            · simp only [go_sem, Nat.reduceAdd, Nat.reduceSub, Nat.reduceMul, Nat.reduceEqDiff, Nat.reduceLT, Nat.reduceLeDiff, Nat.reduceBEq, Nat.reduceBNe, Int.reduceToNat, Int.reduceLE, Int.reduceLT, Int.reduceNe, Int.reduceNeg, reduceCtorEq, Int.reduceBEq, Int.reduceBNe]; rfl
            · rw [hil]; exact g4
        · simp only [go_sem, Nat.reduceAdd, Nat.reduceSub, Nat.reduceMul, Nat.reduceEqDiff, Nat.reduceLT, Nat.reduceLeDiff, Nat.reduceBEq, Nat.reduceBNe, Int.reduceToNat, Int.reduceLE, Int.reduceLT, Int.reduceNe, Int.reduceNeg, reduceCtorEq, Int.reduceBEq, Int.reduceBNe, @callV_spec E7 66 sTween rfl, @callV_specT E7 66 sTween rfl, @stepV_spec E7 66 sTween rfl, @effV_spec E7 66 sTween rfl, sTween, g1, g2, g3, Int.cast_ofNat_Int]
          rw [condK_bool]
          refine ⟨fun hin => ?_, fun hin => ?_⟩
          · have hil : il (rawCuts d (r.issues.take i) ++ ((ends2 (r.issues.getD i default)).take 2).filter (inDays d)) = il (rawCuts d (r.issues.take i) ++ ((ends2 (r.issues.getD i default)).take 1).filter (inDays d)) ++ [[.int .i64 ((r.issues.getD i default).held + 1)]] := by
              have e : inDays d ((r.issues.getD i default).held + 1) = true := hin
              rw [show (ends2 (r.issues.getD i default)).take 2 = (ends2 (r.issues.getD i default)).take 1 ++ [((r.issues.getD i default).held + 1)] from rfl, List.filter_append, ← List.append_assoc, il_append, List.filter_cons, if_pos e]; rfl
            have hL : (rawCuts d (r.issues.take i) ++ ((ends2 (r.issues.getD i default)).take 1).filter (inDays d)).length ≤ 20 := by
              have : (((ends2 (r.issues.getD i default)).take 1).filter (inDays d)).length ≤ 2 := Nat.le_trans (List.length_filter_le _ _) (by simp [ends2])
              rw [List.length_append]; omega
            generalize (rawCuts d (r.issues.take i) ++ ((ends2 (r.issues.getD i default)).take 1).filter (inDays d)) = acc at *
            rcases g4 with ⟨rfl, e2⟩ | ⟨v, rfl, e2⟩
            · simp only [go_sem, Nat.reduceAdd, Nat.reduceSub, Nat.reduceMul, Nat.reduceEqDiff, Nat.reduceLT, Nat.reduceLeDiff, Nat.reduceBEq, Nat.reduceBNe, Int.reduceToNat, Int.reduceLE, Int.reduceLT, Int.reduceNe, Int.reduceNeg, reduceCtorEq, Int.reduceBEq, Int.reduceBNe, g1, g2, g3, e2, app, rowsOf, cells1, cellP, forall_eq, il_length]
              refine ⟨by omega, hK2 (2, .sref ([], 86010003) (verOf H2 ([], 86010003) + 1) 1 (acc.length + 1) false) _ _ ?_ ⟨by simp, ?_, ?_, ?_, .inr ⟨verOf H2 ([], 86010003) + 1, ?_, ?_⟩⟩ (by simp)⟩
              · simp only [go_sem, Nat.reduceAdd, Nat.reduceSub, Nat.reduceMul, Nat.reduceEqDiff, Nat.reduceLT, Nat.reduceLeDiff, Nat.reduceBEq, Nat.reduceBNe, Int.reduceToNat, Int.reduceLE, Int.reduceLT, Int.reduceNe, Int.reduceNeg, reduceCtorEq, Int.reduceBEq, Int.reduceBNe]; rfl
              · simp only [go_sem, Nat.reduceAdd, Nat.reduceSub, Nat.reduceMul, Nat.reduceEqDiff, Nat.reduceLT, Nat.reduceLeDiff, Nat.reduceBEq, Nat.reduceBNe, Int.reduceToNat, Int.reduceLE, Int.reduceLT, Int.reduceNe, Int.reduceNeg, reduceCtorEq, Int.reduceBEq, Int.reduceBNe, g1]
              · simp only [go_sem, Nat.reduceAdd, Nat.reduceSub, Nat.reduceMul, Nat.reduceEqDiff, Nat.reduceLT, Nat.reduceLeDiff, Nat.reduceBEq, Nat.reduceBNe, Int.reduceToNat, Int.reduceLE, Int.reduceLT, Int.reduceNe, Int.reduceNeg, reduceCtorEq, Int.reduceBEq, Int.reduceBNe, g2]
              · simp only [go_sem, Nat.reduceAdd, Nat.reduceSub, Nat.reduceMul, Nat.reduceEqDiff, Nat.reduceLT, Nat.reduceLeDiff, Nat.reduceBEq, Nat.reduceBNe, Int.reduceToNat, Int.reduceLE, Int.reduceLT, Int.reduceNe, Int.reduceNeg, reduceCtorEq, Int.reduceBEq, Int.reduceBNe, g3]
              · rw [hil]; simp [il_length]
              · rw [hil]; simp only [go_sem, Nat.reduceAdd, Nat.reduceSub, Nat.reduceMul, Nat.reduceEqDiff, Nat.reduceLT, Nat.reduceLeDiff, Nat.reduceBEq, Nat.reduceBNe, Int.reduceToNat, Int.reduceLE, Int.reduceLT, Int.reduceNe, Int.reduceNeg, reduceCtorEq, Int.reduceBEq, Int.reduceBNe]
            · simp only [go_sem, Nat.reduceAdd, Nat.reduceSub, Nat.reduceMul, Nat.reduceEqDiff, Nat.reduceLT, Nat.reduceLeDiff, Nat.reduceBEq, Nat.reduceBNe, Int.reduceToNat, Int.reduceLE, Int.reduceLT, Int.reduceNe, Int.reduceNeg, reduceCtorEq, Int.reduceBEq, Int.reduceBNe, g1, g2, g3, e2, app, rowsOf, cells1, cellP, forall_eq, il_length]
              refine ⟨by omega, hK2 (2, .sref ([], 86010003) (v + 1) 1 (acc.length + 1) false) _ _ ?_ ⟨by simp, ?_, ?_, ?_, .inr ⟨v + 1, ?_, ?_⟩⟩ (by simp)⟩
              · simp only [go_sem, Nat.reduceAdd, Nat.reduceSub, Nat.reduceMul, Nat.reduceEqDiff, Nat.reduceLT, Nat.reduceLeDiff, Nat.reduceBEq, Nat.reduceBNe, Int.reduceToNat, Int.reduceLE, Int.reduceLT, Int.reduceNe, Int.reduceNeg, reduceCtorEq, Int.reduceBEq, Int.reduceBNe]; rfl
              · simp only [go_sem, Nat.reduceAdd, Nat.reduceSub, Nat.reduceMul, Nat.reduceEqDiff, Nat.reduceLT, Nat.reduceLeDiff, Nat.reduceBEq, Nat.reduceBNe, Int.reduceToNat, Int.reduceLE, Int.reduceLT, Int.reduceNe, Int.reduceNeg, reduceCtorEq, Int.reduceBEq, Int.reduceBNe, g1]
              · simp only [go_sem, Nat.reduceAdd, Nat.reduceSub, Nat.reduceMul, Nat.reduceEqDiff, Nat.reduceLT, Nat.reduceLeDiff, Nat.reduceBEq, Nat.reduceBNe, Int.reduceToNat, Int.reduceLE, Int.reduceLT, Int.reduceNe, Int.reduceNeg, reduceCtorEq, Int.reduceBEq, Int.reduceBNe, g2]
              · simp only [go_sem, Nat.reduceAdd, Nat.reduceSub, Nat.reduceMul, Nat.reduceEqDiff, Nat.reduceLT, Nat.reduceLeDiff, Nat.reduceBEq, Nat.reduceBNe, Int.reduceToNat, Int.reduceLE, Int.reduceLT, Int.reduceNe, Int.reduceNeg, reduceCtorEq, Int.reduceBEq, Int.reduceBNe, g3]
              · rw [hil]; simp [il_length]
              · rw [hil]; simp only [go_sem, Nat.reduceAdd, Nat.reduceSub, Nat.reduceMul, Nat.reduceEqDiff, Nat.reduceLT, Nat.reduceLeDiff, Nat.reduceBEq, Nat.reduceBNe, Int.reduceToNat, Int.reduceLE, Int.reduceLT, Int.reduceNe, Int.reduceNeg, reduceCtorEq, Int.reduceBEq, Int.reduceBNe]
          · have hil : ((ends2 (r.issues.getD i default)).take 2).filter (inDays d) = ((ends2 (r.issues.getD i default)).take 1).filter (inDays d) := by
              have e : inDays d ((r.issues.getD i default).held + 1) = false := hin
              rw [show (ends2 (r.issues.getD i default)).take 2 = (ends2 (r.issues.getD i default)).take 1 ++ [((r.issues.getD i default).held + 1)] from rfl, List.filter_append, List.filter_cons, if_neg (by rw [e]; simp)]; simp
            simp only [go_sem, Nat.reduceAdd, Nat.reduceSub, Nat.reduceMul, Nat.reduceEqDiff, Nat.reduceLT, Nat.reduceLeDiff, Nat.reduceBEq, Nat.reduceBNe, Int.reduceToNat, Int.reduceLE, Int.reduceLT, Int.reduceNe, Int.reduceNeg, reduceCtorEq, Int.reduceBEq, Int.reduceBNe]
            refine hK2 (2, p2) _ _ ?_ ⟨by simp, g1, g2, g3, ?_⟩ (by simp)
            · simp only [go_sem, Nat.reduceAdd, Nat.reduceSub, Nat.reduceMul, Nat.reduceEqDiff, Nat.reduceLT, Nat.reduceLeDiff, Nat.reduceBEq, Nat.reduceBNe, Int.reduceToNat, Int.reduceLE, Int.reduceLT, Int.reduceNe, Int.reduceNeg, reduceCtorEq, Int.reduceBEq, Int.reduceBNe]; rfl
            · rw [hil]; exact g4
        · simp only [go_sem, Nat.reduceAdd, Nat.reduceSub, Nat.reduceMul, Nat.reduceEqDiff, Nat.reduceLT, Nat.reduceLeDiff, Nat.reduceBEq, Nat.reduceBNe, Int.reduceToNat, Int.reduceLE, Int.reduceLT, Int.reduceNe, Int.reduceNeg, reduceCtorEq, Int.reduceBEq, Int.reduceBNe, @callV_spec E7 66 sTween rfl, @callV_specT E7 66 sTween rfl, @stepV_spec E7 66 sTween rfl, @effV_spec E7 66 sTween rfl, sTween, g1, g2, g3, Int.cast_ofNat_Int]
          refine hE2 _ _ _ (by simp) ?_
          simp only [go_sem, Nat.reduceAdd, Nat.reduceSub, Nat.reduceMul, Nat.reduceEqDiff, Nat.reduceLT, Nat.reduceLeDiff, Nat.reduceBEq, Nat.reduceBNe, Int.reduceToNat, Int.reduceLE, Int.reduceLT, Int.reduceNe, Int.reduceNeg, reduceCtorEq, Int.reduceBEq, Int.reduceBNe, @callV_spec E7 66 sTween rfl, @callV_specT E7 66 sTween rfl, @stepV_spec E7 66 sTween rfl, @effV_spec E7 66 sTween rfl, sTween]
          have w2 : IntKind.i64.wrap ((i : Int) + 1) = (i : Int) + 1 := wrap_id (by omega)
          refine hK (i + 1, p2) _ _ ?_ ⟨h', g1, g2, ?_⟩ (by simp only; omega)
          · simp only [go_sem, Nat.reduceAdd, Nat.reduceSub, Nat.reduceMul, Nat.reduceEqDiff, Nat.reduceLT, Nat.reduceLeDiff, Nat.reduceBEq, Nat.reduceBNe, Int.reduceToNat, Int.reduceLE, Int.reduceLT, Int.reduceNe, Int.reduceNeg, reduceCtorEq, Int.reduceBEq, Int.reduceBNe, w2, Int.natCast_add, Int.natCast_one]
          · rw [rawCuts_take d h']
            exact g4
    · refine hE _ _ _ (by simp) ?_
      have h' : i = r.issues.length := by have : ¬ ((i : Int) < (r.issues.length : Int)) := by simpa using h
                                          omega
      subst h'
      simp only [List.take_length] at h3
      have hl := rawCuts_len d r.issues
      have hne : Lib.compact (sortL (rawCuts d r.issues)) = Lib.compact (sortL (rawCuts d r.issues)) := rfl
      have hsl : (sortL (rawCuts d r.issues)).length = (rawCuts d r.issues).length := by simp [sortL]
      have hpos : sortL (rawCuts d r.issues) ≠ [] := by
        intro h; rw [h] at hsl; simp [rawCuts] at hsl
      rcases h3 with ⟨rfl, e2⟩ | ⟨v, rfl, e2⟩
      · simp only [go_sem, Nat.reduceAdd, Nat.reduceSub, Nat.reduceMul, Nat.reduceEqDiff, Nat.reduceLT, Nat.reduceLeDiff, Nat.reduceBEq, Nat.reduceBNe, Int.reduceToNat, Int.reduceLE, Int.reduceLT, Int.reduceNe, Int.reduceNeg, reduceCtorEq, Int.reduceBEq, Int.reduceBNe, @callV_in E7 87 rfl, @callV_in E7 88 rfl, heavy_none, @callN_mt E7 87 sortM rfl rfl, @callN_mt E7 88 compactM rfl rfl]
        refine ⟨rfl, rawCuts d r.issues, e2, by simp [il_length], by rw [il_length]; omega, ?_⟩
        simp only [go_sem, Nat.reduceAdd, Nat.reduceSub, Nat.reduceMul, Nat.reduceEqDiff, Nat.reduceLT, Nat.reduceLeDiff, Nat.reduceBEq, Nat.reduceBNe, Int.reduceToNat, Int.reduceLE, Int.reduceLT, Int.reduceNe, Int.reduceNeg, reduceCtorEq, Int.reduceBEq, Int.reduceBNe, @callV_in E7 87 rfl, @callV_in E7 88 rfl, heavy_none, @callN_mt E7 87 sortM rfl rfl, @callN_mt E7 88 compactM rfl rfl]
        refine ⟨rfl, sortL (rawCuts d r.issues), by simp only [go_sem, Nat.reduceAdd, Nat.reduceSub, Nat.reduceMul, Nat.reduceEqDiff, Nat.reduceLT, Nat.reduceLeDiff, Nat.reduceBEq, Nat.reduceBNe, Int.reduceToNat, Int.reduceLE, Int.reduceLT, Int.reduceNe, Int.reduceNeg, reduceCtorEq, Int.reduceBEq, Int.reduceBNe], by rw [il_length, hsl], by rw [il_length]; omega, hpos, ?_⟩
        simp only [go_sem, Nat.reduceAdd, Nat.reduceSub, Nat.reduceMul, Nat.reduceEqDiff, Nat.reduceLT, Nat.reduceLeDiff, Nat.reduceBEq, Nat.reduceBNe, Int.reduceToNat, Int.reduceLE, Int.reduceLT, Int.reduceNe, Int.reduceNeg, reduceCtorEq, Int.reduceBEq, Int.reduceBNe, il_length]
      · simp only [go_sem, Nat.reduceAdd, Nat.reduceSub, Nat.reduceMul, Nat.reduceEqDiff, Nat.reduceLT, Nat.reduceLeDiff, Nat.reduceBEq, Nat.reduceBNe, Int.reduceToNat, Int.reduceLE, Int.reduceLT, Int.reduceNe, Int.reduceNeg, reduceCtorEq, Int.reduceBEq, Int.reduceBNe, @callV_in E7 87 rfl, @callV_in E7 88 rfl, heavy_none, @callN_mt E7 87 sortM rfl rfl, @callN_mt E7 88 compactM rfl rfl]
        refine ⟨rfl, rawCuts d r.issues, e2, by simp [il_length], by rw [il_length]; omega, ?_⟩
        simp only [go_sem, Nat.reduceAdd, Nat.reduceSub, Nat.reduceMul, Nat.reduceEqDiff, Nat.reduceLT, Nat.reduceLeDiff, Nat.reduceBEq, Nat.reduceBNe, Int.reduceToNat, Int.reduceLE, Int.reduceLT, Int.reduceNe, Int.reduceNeg, reduceCtorEq, Int.reduceBEq, Int.reduceBNe, @callV_in E7 87 rfl, @callV_in E7 88 rfl, heavy_none, @callN_mt E7 87 sortM rfl rfl, @callN_mt E7 88 compactM rfl rfl]
        refine ⟨rfl, sortL (rawCuts d r.issues), by simp only [go_sem, Nat.reduceAdd, Nat.reduceSub, Nat.reduceMul, Nat.reduceEqDiff, Nat.reduceLT, Nat.reduceLeDiff, Nat.reduceBEq, Nat.reduceBNe, Int.reduceToNat, Int.reduceLE, Int.reduceLT, Int.reduceNe, Int.reduceNeg, reduceCtorEq, Int.reduceBEq, Int.reduceBNe], by rw [il_length, hsl], by rw [il_length]; omega, hpos, ?_⟩
        simp only [go_sem, Nat.reduceAdd, Nat.reduceSub, Nat.reduceMul, Nat.reduceEqDiff, Nat.reduceLT, Nat.reduceLeDiff, Nat.reduceBEq, Nat.reduceBNe, Int.reduceToNat, Int.reduceLE, Int.reduceLT, Int.reduceNe, Int.reduceNeg, reduceCtorEq, Int.reduceBEq, Int.reduceBNe, il_length]
def s86 : Spec := spec2 (fun (x : Calc) (_ : Int × Int) => x.r.issues.length ≤ 4 ∧ ∀ y ∈ x.r.issues, okInt (y.held + 1)) (fun x d => .sl (il (Lib.compact (sortL (rawCuts d x.r.issues)))) false)
theorem s86_ok : SpecOK Tryd.prog glB 86 s86 := spec2_ok E7_ok Tryd.func86 rfl (by kernel_rfl) fun x d h => cuts_fn x.r x.es d h.1 h.2
end Wb
/- The check of a rack, by the program. -/
namespace Wb
open Go Go.Proofs Enc Row
set_option linter.unusedSimpArgs false
set_option linter.unusedVariables false
set_option maxRecDepth 20000
set_option maxHeartbeats 4000000
theorem big_of_le {n : Nat} (h : n ≤ 17592186044416) : big n := by unfold big; omega
def s68 : Spec := spec2 (fun (r : Rack) (e : Entry) => okInt r.goods ∧ -9223372036854775808 < r.goods ∧ big e.sizes.length) (fun r e => .bool (isEntryOk r.goods e))
theorem s68_ok : SpecOK Tryd.prog glB 68 s68 := spec2_ok E1_ok Tryd.func68 rfl (by kernel_rfl) fun r e h => isEntry_fn r.goods _ false e h.2.2 ⟨by have := h.1.1; omega, h.1.2⟩
def E8t : List (Nat × Spec) := [(68, s68), (86, s86)] ++ E7t
theorem E8t_ok : AllOK E8t := ⟨⟨s68_ok, Tryd.call68⟩, ⟨s86_ok, Tryd.call86⟩, E7t_ok⟩
noncomputable def E8 : Env := mkM E8t [] Mt
theorem E8_ok : EnvOK Tryd.prog E8 := envMOK E8t_ok trivial Mt_ok
theorem E8_ti {t : Nat} : E8.ti t = ti t := rfl
theorem E8_q0 : (E8).eqt 152 = true := rfl
theorem E8_q1 : (E8).eqt 69 = true := rfl
theorem E8_q2 : (E8).keyt 3 = true := rfl
theorem E8_q3 : (E8).keyt 108 = true := rfl
attribute [go_sem] E8_ti E8_q0 E8_q1 E8_q2 E8_q3
/-- A map from numbers to truth that holds just some numbers. -/
def MapHas (es : List (List Int × PV)) (ns : List Int) : Prop := ∀ n, mget es [n] = if n ∈ ns then some (.bool true) else none
theorem mget_mset (es : List (List Int × PV)) (k k' : List Int) (v : PV) : mget (mset es k v) k' = if k = k' then some v else mget es k' := by
  induction es with
  | nil => simp [mset, mget]
  | cons e es ih =>
    obtain ⟨a, b⟩ := e
    simp only [mset]
    by_cases h : a = k
    · subst h
      simp only [if_true, mget]
      by_cases h2 : a = k' <;> simp [h2]
    · simp only [h, if_false, mget, ih]
      by_cases h2 : a = k'
      · subst h2; simp [h, Ne.symm h]
      · simp [h2]
theorem MapHas.nil : MapHas [] [] := fun n => by simp [mget]
theorem MapHas.add {es : List (List Int × PV)} {ns : List Int} (h : MapHas es ns) (m : Int) : MapHas (mset es [m] (.bool true)) (ns ++ [m]) := fun n => by
  rw [mget_mset, h n]
  by_cases e : m = n
  · simp [e]
  · simp [e, Ne.symm e]
theorem MapHas.found {es : List (List Int × PV)} {ns : List Int} (h : MapHas es ns) (n : Int) : Wb.found { kind := .boolk, size := 1, bytes := 1, zero := [.bool false] } false (mget es [n]) = .bool (decide (n ∈ ns)) := by
  rw [h n]
  by_cases e : n ∈ ns <;> simp [Wb.found, e, loadAt, TK.isAgg]
theorem findI_neg (ns : List Int) (n : Int) : decide (findI (fun a => a == n) ns 0 < 0) = !decide (n ∈ ns) := by
  rcases findI_find (fun a : Int => a == n) ns 0 with ⟨h1, h2⟩ | ⟨j, h1, h2, h3⟩
  · rw [h2]
    have : n ∉ ns := fun h => by
      have := List.find?_eq_none.1 h1 n h
      simp at this
    simp [this]
  · rw [h3]
    have hm := List.mem_of_find?_eq_some h2
    have hp := List.find?_some h2
    simp at hp
    have : n ∈ ns := by rw [← hp]; simpa using hm
    simp [this]
theorem isEntry_eq (g : Int) (e : Entry) : isEntryOk g e = (entryOk e && (decide (0 ≤ e.good) && decide (e.good ≤ g - 1))) := by
  unfold isEntryOk isEntryB entryOk
  cases decide (1 ≤ e.number) && decide (e.number ≤ 9999) <;> cases decide (0 ≤ e.good) && decide (e.good ≤ g - 1) <;> cases decide (1 ≤ e.colours) && decide (e.colours ≤ 15) <;>
    cases decide (1 ≤ (e.sizes.length : Int)) && decide ((e.sizes.length : Int) ≤ 8) <;> cases fitsOk 0 e.sizes <;> rfl
theorem entriesOk_drop (g : Int) (ns gs : List Int) {l : List Entry} {j : Nat} (h : j < l.length) : entriesOk g ns gs (l.drop j) =
    (isEntryOk g (l.getD j default) && !decide ((l.getD j default).number ∈ ns) && !decide ((l.getD j default).good ∈ gs) && entriesOk g (ns ++ [(l.getD j default).number]) (gs ++ [(l.getD j default).good]) (l.drop (j + 1))) := by
  have e : l.getD j default = l[j] := by simp [h]
  rw [e, List.drop_eq_getElem_cons h]
  simp only [entriesOk, findI_neg, isEntry_eq]
def issuePre (x : Issue) : Bool := (decide (0 ≤ x.lo) && decide (x.lo ≤ x.hi) && decide (x.hi ≤ 20000)) && (decide (x.lo ≤ x.held) && decide (x.held ≤ 20000)) && decide ((x.entries.length : Int) ≤ 24)
theorem issueOk_eq (g : Int) (x : Issue) : issueOk g x = (issuePre x && entriesOk g [] [] x.entries) := rfl
theorem all_drop {α : Type} [Inhabited α] (p : α → Bool) {l : List α} {i : Nat} (h : i < l.length) : (l.drop i).all p = (p (l.getD i default) && (l.drop (i + 1)).all p) := by
  have e : l.getD i default = l[i] := by simp [h]
  rw [e, List.drop_eq_getElem_cons h]
  rfl
theorem map_take_succ {α β : Type} [Inhabited α] (f : α → β) {l : List α} {j : Nat} (h : j < l.length) : (l.take (j + 1)).map f = (l.take j).map f ++ [f (l.getD j default)] := by
  have e : l.getD j default = l[j] := by simp [h]
  rw [e, List.take_succ_eq_append_getElem h, List.map_append]
  rfl
theorem check_fn (r : Rack) (hr : okRack r) : Fn E8 0 20 Tryd.f20 (Tryd.f20.body.getD .skip) [.agg (encR r)] (.int .i64 (if rackOk r then 0 else 10)) := by
  obtain ⟨hgo, hil, his⟩ := hr
  unfold Fn Tryd.f20
  simp only [go_sem, Nat.reduceAdd, Nat.reduceSub, Nat.reduceMul, Nat.reduceEqDiff, Nat.reduceLT, Nat.reduceLeDiff, Nat.reduceBEq, Nat.reduceBNe, Int.reduceToNat, Int.reduceLE, Int.reduceLT, Int.reduceNe, Int.reduceNeg, reduceCtorEq, Int.reduceBEq, Int.reduceBNe, @callV_spec E8 66 sTween rfl, @callV_specT E8 66 sTween rfl, @stepV_spec E8 66 sTween rfl, @effV_spec E8 66 sTween rfl, sTween, encR]
  refine ev_loopS [1] (fun x : Nat × Bool => [(3, .bool x.2), (20, .sl (r.issues.map encI) false), (21, .int .i64 r.issues.length), (22, .int .i64 x.1)])
    (fun x H => x.1 ≤ r.issues.length ∧ H (([], 20000000) : Key) = some (.cells (encR r) 1 false) ∧ rackOk r = (x.2 && (r.issues.drop x.1).all (issueOk r.goods)) ∧ (x.2 = true → 1 ≤ r.goods))
    (fun x => r.issues.length - x.1) (0, (decide (1 ≤ r.goods) && decide (r.goods ≤ 24)) && (decide (1 ≤ (r.issues.length : Int)) && decide ((r.issues.length : Int) ≤ 4))) ?_ ⟨Nat.zero_le _, ?_, by simp [rackOk], fun h => by simp at h; omega⟩ ?_
  · simp only [go_sem, Nat.reduceAdd, Nat.reduceSub, Nat.reduceMul, Nat.reduceEqDiff, Nat.reduceLT, Nat.reduceLeDiff, Nat.reduceBEq, Nat.reduceBNe, Int.reduceToNat, Int.reduceLE, Int.reduceLT, Int.reduceNe, Int.reduceNeg, reduceCtorEq, Int.reduceBEq, Int.reduceBNe]
  · simp only [go_sem, Nat.reduceAdd, Nat.reduceSub, Nat.reduceMul, Nat.reduceEqDiff, Nat.reduceLT, Nat.reduceLeDiff, Nat.reduceBEq, Nat.reduceBNe, Int.reduceToNat, Int.reduceLE, Int.reduceLT, Int.reduceNe, Int.reduceNeg, reduceCtorEq, Int.reduceBEq, Int.reduceBNe, encR]
  · simp only [go_sem, Nat.reduceAdd, Nat.reduceSub, Nat.reduceMul, Nat.reduceEqDiff, Nat.reduceLT, Nat.reduceLeDiff, Nat.reduceBEq, Nat.reduceBNe, Int.reduceToNat, Int.reduceLE, Int.reduceLT, Int.reduceNe, Int.reduceNeg, reduceCtorEq, Int.reduceBEq, Int.reduceBNe]
    intro K x H ⟨hi, h1, hf, hgd⟩ hK hE
    obtain ⟨i, ok⟩ := x
    simp only at hi hf hgd
    rw [condK_bool]
    refine ⟨fun h => ?_, fun h => ?_⟩
    · have h' : i < r.issues.length := by simpa using h
      have hii : (i : Int) < (r.issues.length : Int) := by omega
      have hy : r.issues.getD i default ∈ r.issues := by simp [List.getD_eq_getElem?_getD, h']
      generalize hye : r.issues.getD i default = y at hy
      have hok := his y hy
      simp only [go_sem, Nat.reduceAdd, Nat.reduceSub, Nat.reduceMul, Nat.reduceEqDiff, Nat.reduceLT, Nat.reduceLeDiff, Nat.reduceBEq, Nat.reduceBNe, Int.reduceToNat, Int.reduceLE, Int.reduceLT, Int.reduceNe, Int.reduceNeg, reduceCtorEq, Int.reduceBEq, Int.reduceBNe, @callV_spec E8 66 sTween rfl, @callV_specT E8 66 sTween rfl, @stepV_spec E8 66 sTween rfl, @effV_spec E8 66 sTween rfl, sTween, @callV_spec E8 67 sProper rfl, @callV_specT E8 67 sProper rfl, @stepV_spec E8 67 sProper rfl, @effV_spec E8 67 sProper rfl, sProper, h1, encR, hii, getD_mapN encI r.issues i _ h', hye, encI]
      have hpre : (ok && (decide (0 ≤ y.lo) && decide (y.lo ≤ y.hi) && decide (y.hi ≤ 20000)) && (decide (y.lo ≤ y.held) && decide (y.held ≤ 20000)) && decide ((y.entries.length : Int) ≤ 24)) = (ok && issuePre y) := by
        unfold issuePre; cases ok <;> simp [Bool.and_assoc]
      rw [hpre]
      rw [all_drop _ h', hye] at hf
      rw [condK_bool]
      refine ⟨fun h2 => ?_, fun h2 => ?_⟩
      · simp only [go_sem, Nat.reduceAdd, Nat.reduceSub, Nat.reduceMul, Nat.reduceEqDiff, Nat.reduceLT, Nat.reduceLeDiff, Nat.reduceBEq, Nat.reduceBNe, Int.reduceToNat, Int.reduceLE, Int.reduceLT, Int.reduceNe, Int.reduceNeg, reduceCtorEq, Int.reduceBEq, Int.reduceBNe]
        refine hE _ _ _ (by simp) ?_
        simp only [go_sem, Nat.reduceAdd, Nat.reduceSub, Nat.reduceMul, Nat.reduceEqDiff, Nat.reduceLT, Nat.reduceLeDiff, Nat.reduceBEq, Nat.reduceBNe, Int.reduceToNat, Int.reduceLE, Int.reduceLT, Int.reduceNe, Int.reduceNeg, reduceCtorEq, Int.reduceBEq, Int.reduceBNe]
        have h3 : rackOk r = false := by
          rw [hf, issueOk_eq]
          simp only [Bool.not_eq_true'] at h2
          revert h2; cases ok <;> cases issuePre y <;> simp
        simp only [go_sem, Nat.reduceAdd, Nat.reduceSub, Nat.reduceMul, Nat.reduceEqDiff, Nat.reduceLT, Nat.reduceLeDiff, Nat.reduceBEq, Nat.reduceBNe, Int.reduceToNat, Int.reduceLE, Int.reduceLT, Int.reduceNe, Int.reduceNeg, reduceCtorEq, Int.reduceBEq, Int.reduceBNe, h3]
      · have h3 : ok = true ∧ issuePre y = true := by
          revert h2; cases ok <;> cases issuePre y <;> simp
        obtain ⟨rfl, h4⟩ := h3
        have hgd := hgd rfl
        have h24 : y.entries.length ≤ 24 := by
          simp only [issuePre, Bool.and_eq_true, decide_eq_true_eq] at h4; omega
        simp only [go_sem, Nat.reduceAdd, Nat.reduceSub, Nat.reduceMul, Nat.reduceEqDiff, Nat.reduceLT, Nat.reduceLeDiff, Nat.reduceBEq, Nat.reduceBNe, Int.reduceToNat, Int.reduceLE, Int.reduceLT, Int.reduceNe, Int.reduceNeg, reduceCtorEq, Int.reduceBEq, Int.reduceBNe, h4, encI]
        generalize hv5 : verOf H ([], 20004002) + 1 = v5
        generalize hv6 : verOf H ([], 20008000) + 1 = v6
        generalize hv7 : verOf H ([], 20008001) + 1 = v7
        refine ev_loopS [1, 5, 6, 7, 20, 21, 22, 51, 52] (fun x : Nat × Bool => [(3, .bool x.2), (53, .int .i64 x.1)])
          (fun x H => x.1 ≤ y.entries.length ∧ H (([], 20000000) : Key) = some (.cells (encR r) 1 false) ∧
            (∃ es, H (([], 20008000) : Key) = some (.map false 1 es v6 false) ∧ MapHas es ((y.entries.take x.1).map (·.number))) ∧ (∃ es, H (([], 20008001) : Key) = some (.map false 1 es v7 false) ∧ MapHas es ((y.entries.take x.1).map (·.good))) ∧
            entriesOk r.goods [] [] y.entries = (x.2 && entriesOk r.goods ((y.entries.take x.1).map (·.number)) ((y.entries.take x.1).map (·.good)) (y.entries.drop x.1)))
          (fun x => y.entries.length - x.1) (0, true) ?_ ⟨Nat.zero_le _, ?_, ⟨[], ?_, MapHas.nil⟩, ⟨[], ?_, MapHas.nil⟩, by simp⟩ ?_
        · simp only [go_sem, Nat.reduceAdd, Nat.reduceSub, Nat.reduceMul, Nat.reduceEqDiff, Nat.reduceLT, Nat.reduceLeDiff, Nat.reduceBEq, Nat.reduceBNe, Int.reduceToNat, Int.reduceLE, Int.reduceLT, Int.reduceNe, Int.reduceNeg, reduceCtorEq, Int.reduceBEq, Int.reduceBNe]
        · simp only [go_sem, Nat.reduceAdd, Nat.reduceSub, Nat.reduceMul, Nat.reduceEqDiff, Nat.reduceLT, Nat.reduceLeDiff, Nat.reduceBEq, Nat.reduceBNe, Int.reduceToNat, Int.reduceLE, Int.reduceLT, Int.reduceNe, Int.reduceNeg, reduceCtorEq, Int.reduceBEq, Int.reduceBNe, h1, encR]
        · simp only [go_sem, Nat.reduceAdd, Nat.reduceSub, Nat.reduceMul, Nat.reduceEqDiff, Nat.reduceLT, Nat.reduceLeDiff, Nat.reduceBEq, Nat.reduceBNe, Int.reduceToNat, Int.reduceLE, Int.reduceLT, Int.reduceNe, Int.reduceNeg, reduceCtorEq, Int.reduceBEq, Int.reduceBNe, hv6]
        · simp only [go_sem, Nat.reduceAdd, Nat.reduceSub, Nat.reduceMul, Nat.reduceEqDiff, Nat.reduceLT, Nat.reduceLeDiff, Nat.reduceBEq, Nat.reduceBNe, Int.reduceToNat, Int.reduceLE, Int.reduceLT, Int.reduceNe, Int.reduceNeg, reduceCtorEq, Int.reduceBEq, Int.reduceBNe, hv7]
        · simp only [go_sem, Nat.reduceAdd, Nat.reduceSub, Nat.reduceMul, Nat.reduceEqDiff, Nat.reduceLT, Nat.reduceLeDiff, Nat.reduceBEq, Nat.reduceBNe, Int.reduceToNat, Int.reduceLE, Int.reduceLT, Int.reduceNe, Int.reduceNeg, reduceCtorEq, Int.reduceBEq, Int.reduceBNe]
          intro K2 x H2 ⟨hj, g1, ⟨es6, g6, m6⟩, ⟨es7, g7, m7⟩, g2⟩ hK2 hE2
          obtain ⟨j, ok2⟩ := x
          simp only at hj g2 m6 m7
          rw [condK_bool]
          refine ⟨fun h => ?_, fun h => ?_⟩
          · have hj' : j < y.entries.length := by simpa using h
            have hjj : (j : Int) < (y.entries.length : Int) := by omega
            have he : y.entries.getD j default ∈ y.entries := by simp [List.getD_eq_getElem?_getD, hj']
            rw [entriesOk_drop _ _ _ hj'] at g2
            have htn : (y.entries.take (j + 1)).map (·.number) = (y.entries.take j).map (·.number) ++ [(y.entries.getD j default).number] := map_take_succ _ hj'
            have htg : (y.entries.take (j + 1)).map (·.good) = (y.entries.take j).map (·.good) ++ [(y.entries.getD j default).good] := map_take_succ _ hj'
            rw [← htn, ← htg] at g2
            generalize hee : y.entries.getD j default = e at *
            have hoe := hok.2.2.2.2 e he
            have hbg := big_of_le hoe.2.2.2.1
            have w2 : IntKind.i64.wrap ((j : Int) + 1) = (j : Int) + 1 := wrap_id (by omega)
            simp only [go_sem, Nat.reduceAdd, Nat.reduceSub, Nat.reduceMul, Nat.reduceEqDiff, Nat.reduceLT, Nat.reduceLeDiff, Nat.reduceBEq, Nat.reduceBNe, Int.reduceToNat, Int.reduceLE, Int.reduceLT, Int.reduceNe, Int.reduceNeg, reduceCtorEq, Int.reduceBEq, Int.reduceBNe, @callV_spec E8 68 s68 rfl, @callV_specT E8 68 s68 rfl, @stepV_spec E8 68 s68 rfl, @effV_spec E8 68 s68 rfl, s68, g1, g6, g7, encR, hjj, getD_mapN encE y.entries j _ hj', hee, encE, look, mapPut, keyOf, ints, m6.found e.number, m7.found e.good, hgo, hbg]
            refine ⟨fun _ => by omega, hK2 (j + 1, ok2 && isEntryOk r.goods e && !decide (e.number ∈ (y.entries.take j).map (·.number)) && !decide (e.good ∈ (y.entries.take j).map (·.good))) _ _ ?_ ⟨hj', ?_, ⟨mset es6 [e.number] (.bool true), ?_, ?_⟩, ⟨mset es7 [e.good] (.bool true), ?_, ?_⟩, ?_⟩ (by simp only; omega)⟩
            · simp only [go_sem, Nat.reduceAdd, Nat.reduceSub, Nat.reduceMul, Nat.reduceEqDiff, Nat.reduceLT, Nat.reduceLeDiff, Nat.reduceBEq, Nat.reduceBNe, Int.reduceToNat, Int.reduceLE, Int.reduceLT, Int.reduceNe, Int.reduceNeg, reduceCtorEq, Int.reduceBEq, Int.reduceBNe, w2, Int.natCast_add, Int.natCast_one]
            · simp only [go_sem, Nat.reduceAdd, Nat.reduceSub, Nat.reduceMul, Nat.reduceEqDiff, Nat.reduceLT, Nat.reduceLeDiff, Nat.reduceBEq, Nat.reduceBNe, Int.reduceToNat, Int.reduceLE, Int.reduceLT, Int.reduceNe, Int.reduceNeg, reduceCtorEq, Int.reduceBEq, Int.reduceBNe, g1, encR]
            · simp only [go_sem, Nat.reduceAdd, Nat.reduceSub, Nat.reduceMul, Nat.reduceEqDiff, Nat.reduceLT, Nat.reduceLeDiff, Nat.reduceBEq, Nat.reduceBNe, Int.reduceToNat, Int.reduceLE, Int.reduceLT, Int.reduceNe, Int.reduceNeg, reduceCtorEq, Int.reduceBEq, Int.reduceBNe]
            · rw [htn]; exact m6.add _
            · simp only [go_sem, Nat.reduceAdd, Nat.reduceSub, Nat.reduceMul, Nat.reduceEqDiff, Nat.reduceLT, Nat.reduceLeDiff, Nat.reduceBEq, Nat.reduceBNe, Int.reduceToNat, Int.reduceLE, Int.reduceLT, Int.reduceNe, Int.reduceNeg, reduceCtorEq, Int.reduceBEq, Int.reduceBNe]
            · rw [htg]; exact m7.add _
            · rw [g2]; simp only [Bool.and_assoc]
          · refine hE2 _ _ _ (by simp) ?_
            have hj' : j = y.entries.length := by have : ¬ ((j : Int) < (y.entries.length : Int)) := by simpa using h
                                                  omega
            subst hj'
            simp only [go_sem, Nat.reduceAdd, Nat.reduceSub, Nat.reduceMul, Nat.reduceEqDiff, Nat.reduceLT, Nat.reduceLeDiff, Nat.reduceBEq, Nat.reduceBNe, Int.reduceToNat, Int.reduceLE, Int.reduceLT, Int.reduceNe, Int.reduceNeg, reduceCtorEq, Int.reduceBEq, Int.reduceBNe]
            have w2 : IntKind.i64.wrap ((i : Int) + 1) = (i : Int) + 1 := wrap_id (by omega)
            refine hK (i + 1, ok2) _ _ ?_ ⟨h', g1, ?_, fun _ => hgd⟩ (by simp only; omega)
            · simp only [go_sem, Nat.reduceAdd, Nat.reduceSub, Nat.reduceMul, Nat.reduceEqDiff, Nat.reduceLT, Nat.reduceLeDiff, Nat.reduceBEq, Nat.reduceBNe, Int.reduceToNat, Int.reduceLE, Int.reduceLT, Int.reduceNe, Int.reduceNeg, reduceCtorEq, Int.reduceBEq, Int.reduceBNe, w2, Int.natCast_add, Int.natCast_one]
            · rw [hf, issueOk_eq, h4, g2]
              simp [entriesOk]
    · refine hE _ _ _ (by simp) ?_
      have h' : i = r.issues.length := by have : ¬ ((i : Int) < (r.issues.length : Int)) := by simpa using h
                                          omega
      subst h'
      simp only [List.drop_length, List.all_nil, Bool.and_true] at hf
      simp only [go_sem, Nat.reduceAdd, Nat.reduceSub, Nat.reduceMul, Nat.reduceEqDiff, Nat.reduceLT, Nat.reduceLeDiff, Nat.reduceBEq, Nat.reduceBNe, Int.reduceToNat, Int.reduceLE, Int.reduceLT, Int.reduceNe, Int.reduceNeg, reduceCtorEq, Int.reduceBEq, Int.reduceBNe]
      rw [condK_bool]
      refine ⟨fun h => ?_, fun h => ?_⟩
      · have : ok = false := by simpa using h
        simp only [go_sem, Nat.reduceAdd, Nat.reduceSub, Nat.reduceMul, Nat.reduceEqDiff, Nat.reduceLT, Nat.reduceLeDiff, Nat.reduceBEq, Nat.reduceBNe, Int.reduceToNat, Int.reduceLE, Int.reduceLT, Int.reduceNe, Int.reduceNeg, reduceCtorEq, Int.reduceBEq, Int.reduceBNe, hf, this]
      · have : ok = true := by simpa using h
        simp only [go_sem, Nat.reduceAdd, Nat.reduceSub, Nat.reduceMul, Nat.reduceEqDiff, Nat.reduceLT, Nat.reduceLeDiff, Nat.reduceBEq, Nat.reduceBNe, Int.reduceToNat, Int.reduceLE, Int.reduceLT, Int.reduceNe, Int.reduceNeg, reduceCtorEq, Int.reduceBEq, Int.reduceBNe, hf, this]
def s20 : Spec := spec1 (fun (r : Rack) => okRack r) (fun r => .int .i64 (if rackOk r then 0 else 10))
theorem s20_ok : SpecOK Tryd.prog glB 20 s20 := spec1_ok E8_ok Tryd.func20 rfl (by kernel_rfl) fun r h => check_fn r h
end Wb
/- The check of a rack, by the reference. -/
namespace Wb
open Go Go.Proofs Enc Row
set_option linter.unusedSimpArgs false
set_option linter.unusedVariables false
set_option maxRecDepth 20000
set_option maxHeartbeats 4000000
theorem il_one (a : Int) : il [a] = [[PV.int .i64 a]] := rfl
theorem il_nil : il [] = [] := rfl
/-- Two lists of numbers that are appended to at two places. -/
def Two (H : Heap) (K6 K7 : Key) (p6 p7 : PV) (a b : List Int) : Prop :=
  (a = [] ∧ b = [] ∧ p6 = .sl [] true ∧ p7 = .sl [] true) ∨ ∃ v6 v7, p6 = .sref K6 v6 1 a.length false ∧ p7 = .sref K7 v7 1 b.length false ∧ H K6 = some (.rows 1 (il a) v6 false) ∧ H K7 = some (.rows 1 (il b) v7 false)
theorem refCheck_fn (r : Rack) (hr : okRack r) : Fn E8 0 21 Tryd.f21 (Tryd.f21.body.getD .skip) [.agg (encR r)] (.int .i64 (if rackOk r then 0 else 10)) := by
  obtain ⟨hgo, hil, his⟩ := hr
  unfold Fn Tryd.f21
  simp only [go_sem, Nat.reduceAdd, Nat.reduceSub, Nat.reduceMul, Nat.reduceEqDiff, Nat.reduceLT, Nat.reduceLeDiff, Nat.reduceBEq, Nat.reduceBNe, Int.reduceToNat, Int.reduceLE, Int.reduceLT, Int.reduceNe, Int.reduceNeg, reduceCtorEq, Int.reduceBEq, Int.reduceBNe, @callV_spec E8 50 sTween rfl, @callV_specT E8 50 sTween rfl, @stepV_spec E8 50 sTween rfl, @effV_spec E8 50 sTween rfl, sTween, encR]
  refine ev_loopS [1] (fun x : Nat × Bool => [(3, .bool x.2), (4, .int .i64 x.1)])
    (fun x H => x.1 ≤ r.issues.length ∧ H (([], 21000000) : Key) = some (.cells (encR r) 1 false) ∧ rackOk r = (x.2 && (r.issues.drop x.1).all (issueOk r.goods)) ∧ (x.2 = true → 1 ≤ r.goods))
    (fun x => r.issues.length - x.1) (0, (decide (1 ≤ r.goods) && decide (r.goods ≤ 24)) && (decide (1 ≤ (r.issues.length : Int)) && decide ((r.issues.length : Int) ≤ 4))) ?_ ⟨Nat.zero_le _, ?_, by simp [rackOk], fun h => by simp at h; omega⟩ ?_
  · simp only [go_sem, Nat.reduceAdd, Nat.reduceSub, Nat.reduceMul, Nat.reduceEqDiff, Nat.reduceLT, Nat.reduceLeDiff, Nat.reduceBEq, Nat.reduceBNe, Int.reduceToNat, Int.reduceLE, Int.reduceLT, Int.reduceNe, Int.reduceNeg, reduceCtorEq, Int.reduceBEq, Int.reduceBNe]
  · simp only [go_sem, Nat.reduceAdd, Nat.reduceSub, Nat.reduceMul, Nat.reduceEqDiff, Nat.reduceLT, Nat.reduceLeDiff, Nat.reduceBEq, Nat.reduceBNe, Int.reduceToNat, Int.reduceLE, Int.reduceLT, Int.reduceNe, Int.reduceNeg, reduceCtorEq, Int.reduceBEq, Int.reduceBNe, encR]
  · simp only [go_sem, Nat.reduceAdd, Nat.reduceSub, Nat.reduceMul, Nat.reduceEqDiff, Nat.reduceLT, Nat.reduceLeDiff, Nat.reduceBEq, Nat.reduceBNe, Int.reduceToNat, Int.reduceLE, Int.reduceLT, Int.reduceNe, Int.reduceNeg, reduceCtorEq, Int.reduceBEq, Int.reduceBNe]
    intro K x H ⟨hi, h1, hf, hgd⟩ hK hE
    obtain ⟨i, ok⟩ := x
    simp only at hi hf hgd
    simp only [go_sem, Nat.reduceAdd, Nat.reduceSub, Nat.reduceMul, Nat.reduceEqDiff, Nat.reduceLT, Nat.reduceLeDiff, Nat.reduceBEq, Nat.reduceBNe, Int.reduceToNat, Int.reduceLE, Int.reduceLT, Int.reduceNe, Int.reduceNeg, reduceCtorEq, Int.reduceBEq, Int.reduceBNe, h1, encR]
    rw [condK_bool]
    refine ⟨fun h => ?_, fun h => ?_⟩
    · have hh : ok = true ∧ (i : Int) < (r.issues.length : Int) := by simpa using h
      obtain ⟨rfl, hii⟩ := hh
      have h' : i < r.issues.length := by omega
      have hgd := hgd rfl
      have hy : r.issues.getD i default ∈ r.issues := by simp [List.getD_eq_getElem?_getD, h']
      generalize hye : r.issues.getD i default = y at hy
      have hok := his y hy
      rw [all_drop _ h', hye] at hf
      simp only [go_sem, Nat.reduceAdd, Nat.reduceSub, Nat.reduceMul, Nat.reduceEqDiff, Nat.reduceLT, Nat.reduceLeDiff, Nat.reduceBEq, Nat.reduceBNe, Int.reduceToNat, Int.reduceLE, Int.reduceLT, Int.reduceNe, Int.reduceNeg, reduceCtorEq, Int.reduceBEq, Int.reduceBNe, @callV_spec E8 50 sTween rfl, @callV_specT E8 50 sTween rfl, @stepV_spec E8 50 sTween rfl, @effV_spec E8 50 sTween rfl, sTween, @callV_spec E8 69 sProper rfl, @callV_specT E8 69 sProper rfl, @stepV_spec E8 69 sProper rfl, @effV_spec E8 69 sProper rfl, sProper, h1, encR, hii, getD_mapN encI r.issues i _ h', hye, encI]
      have hpre : ((decide (0 ≤ y.lo) && decide (y.lo ≤ y.hi) && decide (y.hi ≤ 20000)) && (decide (y.lo ≤ y.held) && decide (y.held ≤ 20000)) && decide ((y.entries.length : Int) ≤ 24)) = issuePre y := rfl
      rw [hpre]
      generalize hv5 : verOf H ([], 21005005) + 1 = v5
      refine ev_loopS [1, 4, 5] (fun x : Nat × Bool × PV × PV => [(3, .bool x.2.1), (8, .int .i64 x.1), (6, x.2.2.1), (7, x.2.2.2)])
        (fun x H => x.1 ≤ y.entries.length ∧ H (([], 21000000) : Key) = some (.cells (encR r) 1 false) ∧ H (([], 21005005) : Key) = some (.cells (encI y) v5 false) ∧
          Two H ([], 21013004) ([], 21013009) x.2.2.1 x.2.2.2 ((y.entries.take x.1).map (·.number)) ((y.entries.take x.1).map (·.good)) ∧ (x.2.1 = true → issuePre y = true) ∧
          issueOk r.goods y = (x.2.1 && entriesOk r.goods ((y.entries.take x.1).map (·.number)) ((y.entries.take x.1).map (·.good)) (y.entries.drop x.1)))
        (fun x => y.entries.length - x.1) (0, issuePre y, .sl [] true, .sl [] true) ?_ ⟨Nat.zero_le _, ?_, ?_, .inl ⟨rfl, rfl, rfl, rfl⟩, id, by simp [issueOk_eq]⟩ ?_
      · simp only [go_sem, Nat.reduceAdd, Nat.reduceSub, Nat.reduceMul, Nat.reduceEqDiff, Nat.reduceLT, Nat.reduceLeDiff, Nat.reduceBEq, Nat.reduceBNe, Int.reduceToNat, Int.reduceLE, Int.reduceLT, Int.reduceNe, Int.reduceNeg, reduceCtorEq, Int.reduceBEq, Int.reduceBNe]
      · simp only [go_sem, Nat.reduceAdd, Nat.reduceSub, Nat.reduceMul, Nat.reduceEqDiff, Nat.reduceLT, Nat.reduceLeDiff, Nat.reduceBEq, Nat.reduceBNe, Int.reduceToNat, Int.reduceLE, Int.reduceLT, Int.reduceNe, Int.reduceNeg, reduceCtorEq, Int.reduceBEq, Int.reduceBNe, h1, encR]
      · simp only [go_sem, Nat.reduceAdd, Nat.reduceSub, Nat.reduceMul, Nat.reduceEqDiff, Nat.reduceLT, Nat.reduceLeDiff, Nat.reduceBEq, Nat.reduceBNe, Int.reduceToNat, Int.reduceLE, Int.reduceLT, Int.reduceNe, Int.reduceNeg, reduceCtorEq, Int.reduceBEq, Int.reduceBNe, encI]
      · simp only [go_sem, Nat.reduceAdd, Nat.reduceSub, Nat.reduceMul, Nat.reduceEqDiff, Nat.reduceLT, Nat.reduceLeDiff, Nat.reduceBEq, Nat.reduceBNe, Int.reduceToNat, Int.reduceLE, Int.reduceLT, Int.reduceNe, Int.reduceNeg, reduceCtorEq, Int.reduceBEq, Int.reduceBNe]
        intro K2 x H2 ⟨hj, g1, g5, g6, gp, g2⟩ hK2 hE2
        obtain ⟨j, ok2, p6, p7⟩ := x
        simp only at hj g2 g6 gp
        simp only [go_sem, Nat.reduceAdd, Nat.reduceSub, Nat.reduceMul, Nat.reduceEqDiff, Nat.reduceLT, Nat.reduceLeDiff, Nat.reduceBEq, Nat.reduceBNe, Int.reduceToNat, Int.reduceLE, Int.reduceLT, Int.reduceNe, Int.reduceNeg, reduceCtorEq, Int.reduceBEq, Int.reduceBNe, g1, g5, encR, encI]
        rw [condK_bool]
        refine ⟨fun h => ?_, fun h => ?_⟩
        · have hh : ok2 = true ∧ (j : Int) < (y.entries.length : Int) := by simpa using h
          obtain ⟨rfl, hjj⟩ := hh
          have hj' : j < y.entries.length := by omega
          have h24 : y.entries.length ≤ 24 := by
            have := gp rfl
            simp only [issuePre, Bool.and_eq_true, decide_eq_true_eq] at this; omega
          have he : y.entries.getD j default ∈ y.entries := by simp [List.getD_eq_getElem?_getD, hj']
          rw [entriesOk_drop _ _ _ hj'] at g2
          have htn : (y.entries.take (j + 1)).map (·.number) = (y.entries.take j).map (·.number) ++ [(y.entries.getD j default).number] := map_take_succ _ hj'
          have htg : (y.entries.take (j + 1)).map (·.good) = (y.entries.take j).map (·.good) ++ [(y.entries.getD j default).good] := map_take_succ _ hj'
          rw [← htn, ← htg] at g2
          have hln : ((y.entries.take j).map (·.number)).length ≤ 24 := by simp; omega
          have hlg : ((y.entries.take j).map (·.good)).length ≤ 24 := by simp; omega
          generalize hee : y.entries.getD j default = e at *
          have hoe := hok.2.2.2.2 e he
          have hbg : e.sizes.length < 4611686018427387904 := big_of_le hoe.2.2.2.1
          have w2 : IntKind.i64.wrap ((j : Int) + 1) = (j : Int) + 1 := wrap_id (by omega)
          have w3 : IntKind.i64.wrap (r.goods - 1) = r.goods - 1 := wrap_id (by have := hgo.2; omega)
          generalize (y.entries.take j).map (·.number) = ns at *
          generalize (y.entries.take j).map (·.good) = gs at *
          have hbn : ns.length < 4611686018427387904 := by omega
          have hbs : gs.length < 4611686018427387904 := by omega
          rcases g6 with ⟨rfl, rfl, rfl, rfl⟩ | ⟨v6, v7, rfl, rfl, g7, g8⟩
          · simp only [go_sem, Nat.reduceAdd, Nat.reduceSub, Nat.reduceMul, Nat.reduceEqDiff, Nat.reduceLT, Nat.reduceLeDiff, Nat.reduceBEq, Nat.reduceBNe, Int.reduceToNat, Int.reduceLE, Int.reduceLT, Int.reduceNe, Int.reduceNeg, reduceCtorEq, Int.reduceBEq, Int.reduceBNe, @callV_spec E8 50 sTween rfl, @callV_specT E8 50 sTween rfl, @stepV_spec E8 50 sTween rfl, @effV_spec E8 50 sTween rfl, sTween, @callV_spec E8 70 sEntry rfl, @callV_specT E8 70 sEntry rfl, @stepV_spec E8 70 sEntry rfl, @effV_spec E8 70 sEntry rfl, sEntry, @callV_spec E8 47 sPlace rfl, @callV_specT E8 47 sPlace rfl, @stepV_spec E8 47 sPlace rfl, @effV_spec E8 47 sPlace rfl, sPlace, callSpec, g1, g5, encR, encI, hjj, getD_mapN encE y.entries j _ hj', hee, encE, w3, hbg, app, rowsOf, cells1, cellP, forall_eq, dL]
            refine ⟨rfl, rfl, hK2 (j + 1, isEntryOk r.goods e && !decide (e.number ∈ ([] : List Int)) && !decide (e.good ∈ ([] : List Int)), .sref ([], 21013004) (verOf H2 ([], 21013004) + 1) 1 (0 + 1) false, .sref ([], 21013009) (verOf H2 ([], 21013009) + 1) 1 (0 + 1) false) _ _ ?_ ⟨hj', ?_, ?_, .inr ⟨verOf H2 ([], 21013004) + 1, verOf H2 ([], 21013009) + 1, ?_, ?_, ?_, ?_⟩, fun _ => gp rfl, ?_⟩ (by simp only; omega)⟩
            · simp only [go_sem, Nat.reduceAdd, Nat.reduceSub, Nat.reduceMul, Nat.reduceEqDiff, Nat.reduceLT, Nat.reduceLeDiff, Nat.reduceBEq, Nat.reduceBNe, Int.reduceToNat, Int.reduceLE, Int.reduceLT, Int.reduceNe, Int.reduceNeg, reduceCtorEq, Int.reduceBEq, Int.reduceBNe, w2, Int.natCast_add, Int.natCast_one, isEntry_eq, findI_neg, List.length_nil, Nat.zero_add]
            · simp only [go_sem, Nat.reduceAdd, Nat.reduceSub, Nat.reduceMul, Nat.reduceEqDiff, Nat.reduceLT, Nat.reduceLeDiff, Nat.reduceBEq, Nat.reduceBNe, Int.reduceToNat, Int.reduceLE, Int.reduceLT, Int.reduceNe, Int.reduceNeg, reduceCtorEq, Int.reduceBEq, Int.reduceBNe, g1, encR]
            · simp only [go_sem, Nat.reduceAdd, Nat.reduceSub, Nat.reduceMul, Nat.reduceEqDiff, Nat.reduceLT, Nat.reduceLeDiff, Nat.reduceBEq, Nat.reduceBNe, Int.reduceToNat, Int.reduceLE, Int.reduceLT, Int.reduceNe, Int.reduceNeg, reduceCtorEq, Int.reduceBEq, Int.reduceBNe, g5, encI]
            · rw [htn]; simp
            · rw [htg]; simp
            · rw [htn]; simp only [go_sem, Nat.reduceAdd, Nat.reduceSub, Nat.reduceMul, Nat.reduceEqDiff, Nat.reduceLT, Nat.reduceLeDiff, Nat.reduceBEq, Nat.reduceBNe, Int.reduceToNat, Int.reduceLE, Int.reduceLT, Int.reduceNe, Int.reduceNeg, reduceCtorEq, Int.reduceBEq, Int.reduceBNe, il_append, il_one, il_nil]
            · rw [htg]; simp only [go_sem, Nat.reduceAdd, Nat.reduceSub, Nat.reduceMul, Nat.reduceEqDiff, Nat.reduceLT, Nat.reduceLeDiff, Nat.reduceBEq, Nat.reduceBNe, Int.reduceToNat, Int.reduceLE, Int.reduceLT, Int.reduceNe, Int.reduceNeg, reduceCtorEq, Int.reduceBEq, Int.reduceBNe, il_append, il_one, il_nil]
            · rw [g2]; simp only [Bool.true_and]
          · simp only [go_sem, Nat.reduceAdd, Nat.reduceSub, Nat.reduceMul, Nat.reduceEqDiff, Nat.reduceLT, Nat.reduceLeDiff, Nat.reduceBEq, Nat.reduceBNe, Int.reduceToNat, Int.reduceLE, Int.reduceLT, Int.reduceNe, Int.reduceNeg, reduceCtorEq, Int.reduceBEq, Int.reduceBNe, @callV_spec E8 50 sTween rfl, @callV_specT E8 50 sTween rfl, @stepV_spec E8 50 sTween rfl, @effV_spec E8 50 sTween rfl, sTween, @callV_spec E8 70 sEntry rfl, @callV_specT E8 70 sEntry rfl, @stepV_spec E8 70 sEntry rfl, @effV_spec E8 70 sEntry rfl, sEntry, @callV_spec E8 47 sPlace rfl, @callV_specT E8 47 sPlace rfl, @stepV_spec E8 47 sPlace rfl, @effV_spec E8 47 sPlace rfl, sPlace, callSpec, g1, g5, encR, encI, hjj, getD_mapN encE y.entries j _ hj', hee, encE, w3, hbg, app, rowsOf, cells1, cellP, forall_eq, il_length, g7, g8, hbn, hbs]
            refine ⟨by omega, rfl, by omega, rfl, hK2 (j + 1, isEntryOk r.goods e && !decide (e.number ∈ ns) && !decide (e.good ∈ gs), .sref ([], 21013004) (v6 + 1) 1 (ns.length + 1) false, .sref ([], 21013009) (v7 + 1) 1 (gs.length + 1) false) _ _ ?_ ⟨hj', ?_, ?_, .inr ⟨v6 + 1, v7 + 1, ?_, ?_, ?_, ?_⟩, fun _ => gp rfl, ?_⟩ (by simp only; omega)⟩
            · simp only [go_sem, Nat.reduceAdd, Nat.reduceSub, Nat.reduceMul, Nat.reduceEqDiff, Nat.reduceLT, Nat.reduceLeDiff, Nat.reduceBEq, Nat.reduceBNe, Int.reduceToNat, Int.reduceLE, Int.reduceLT, Int.reduceNe, Int.reduceNeg, reduceCtorEq, Int.reduceBEq, Int.reduceBNe, w2, Int.natCast_add, Int.natCast_one, isEntry_eq, findI_neg, List.length_nil, Nat.zero_add]
            · simp only [go_sem, Nat.reduceAdd, Nat.reduceSub, Nat.reduceMul, Nat.reduceEqDiff, Nat.reduceLT, Nat.reduceLeDiff, Nat.reduceBEq, Nat.reduceBNe, Int.reduceToNat, Int.reduceLE, Int.reduceLT, Int.reduceNe, Int.reduceNeg, reduceCtorEq, Int.reduceBEq, Int.reduceBNe, g1, encR]
            · simp only [go_sem, Nat.reduceAdd, Nat.reduceSub, Nat.reduceMul, Nat.reduceEqDiff, Nat.reduceLT, Nat.reduceLeDiff, Nat.reduceBEq, Nat.reduceBNe, Int.reduceToNat, Int.reduceLE, Int.reduceLT, Int.reduceNe, Int.reduceNeg, reduceCtorEq, Int.reduceBEq, Int.reduceBNe, g5, encI]
            · rw [htn]; simp
            · rw [htg]; simp
            · rw [htn]; simp only [go_sem, Nat.reduceAdd, Nat.reduceSub, Nat.reduceMul, Nat.reduceEqDiff, Nat.reduceLT, Nat.reduceLeDiff, Nat.reduceBEq, Nat.reduceBNe, Int.reduceToNat, Int.reduceLE, Int.reduceLT, Int.reduceNe, Int.reduceNeg, reduceCtorEq, Int.reduceBEq, Int.reduceBNe, il_append, il_one, il_nil]
            · rw [htg]; simp only [go_sem, Nat.reduceAdd, Nat.reduceSub, Nat.reduceMul, Nat.reduceEqDiff, Nat.reduceLT, Nat.reduceLeDiff, Nat.reduceBEq, Nat.reduceBNe, Int.reduceToNat, Int.reduceLE, Int.reduceLT, Int.reduceNe, Int.reduceNeg, reduceCtorEq, Int.reduceBEq, Int.reduceBNe, il_append, il_one, il_nil]
            · rw [g2]; simp only [Bool.true_and]
        · refine hE2 _ _ _ (by simp) ?_
          simp only [go_sem, Nat.reduceAdd, Nat.reduceSub, Nat.reduceMul, Nat.reduceEqDiff, Nat.reduceLT, Nat.reduceLeDiff, Nat.reduceBEq, Nat.reduceBNe, Int.reduceToNat, Int.reduceLE, Int.reduceLT, Int.reduceNe, Int.reduceNeg, reduceCtorEq, Int.reduceBEq, Int.reduceBNe]
          have w2 : IntKind.i64.wrap ((i : Int) + 1) = (i : Int) + 1 := wrap_id (by omega)
          refine hK (i + 1, ok2) _ _ ?_ ⟨h', g1, ?_, fun _ => hgd⟩ (by simp only; omega)
          · simp only [go_sem, Nat.reduceAdd, Nat.reduceSub, Nat.reduceMul, Nat.reduceEqDiff, Nat.reduceLT, Nat.reduceLeDiff, Nat.reduceBEq, Nat.reduceBNe, Int.reduceToNat, Int.reduceLE, Int.reduceLT, Int.reduceNe, Int.reduceNeg, reduceCtorEq, Int.reduceBEq, Int.reduceBNe, w2, Int.natCast_add, Int.natCast_one]
          · rw [hf, g2]
            cases ok2 with
            | false => rfl
            | true =>
              have hj' : j = y.entries.length := by have : ¬ ((j : Int) < (y.entries.length : Int)) := by simpa using h
                                                    omega
              subst hj'
              simp [entriesOk]
    · refine hE _ _ _ (by simp) ?_
      simp only [go_sem, Nat.reduceAdd, Nat.reduceSub, Nat.reduceMul, Nat.reduceEqDiff, Nat.reduceLT, Nat.reduceLeDiff, Nat.reduceBEq, Nat.reduceBNe, Int.reduceToNat, Int.reduceLE, Int.reduceLT, Int.reduceNe, Int.reduceNeg, reduceCtorEq, Int.reduceBEq, Int.reduceBNe]
      rw [condK_bool]
      refine ⟨fun h2 => ?_, fun h2 => ?_⟩
      · have : ok = false := by simpa using h2
        subst this
        simp only [Bool.false_and] at hf
        simp only [go_sem, Nat.reduceAdd, Nat.reduceSub, Nat.reduceMul, Nat.reduceEqDiff, Nat.reduceLT, Nat.reduceLeDiff, Nat.reduceBEq, Nat.reduceBNe, Int.reduceToNat, Int.reduceLE, Int.reduceLT, Int.reduceNe, Int.reduceNeg, reduceCtorEq, Int.reduceBEq, Int.reduceBNe, hf]
      · have : ok = true := by simpa using h2
        subst this
        have h' : i = r.issues.length := by have : ¬ ((i : Int) < (r.issues.length : Int)) := by simpa using h
                                            omega
        subst h'
        simp only [List.drop_length, List.all_nil, Bool.and_true] at hf
        simp only [go_sem, Nat.reduceAdd, Nat.reduceSub, Nat.reduceMul, Nat.reduceEqDiff, Nat.reduceLT, Nat.reduceLeDiff, Nat.reduceBEq, Nat.reduceBNe, Int.reduceToNat, Int.reduceLE, Int.reduceLT, Int.reduceNe, Int.reduceNeg, reduceCtorEq, Int.reduceBEq, Int.reduceBNe, hf]
def s21 : Spec := spec1 (fun (r : Rack) => okRack r) (fun r => .int .i64 (if rackOk r then 0 else 10))
theorem s21_ok : SpecOK Tryd.prog glB 21 s21 := spec1_ok E8_ok Tryd.func21 rfl (by kernel_rfl) fun r h => refCheck_fn r h
end Wb
/- What can be asked; lines. -/
namespace Wb
open Go Go.Proofs Enc Row
set_option linter.unusedSimpArgs false
set_option linter.unusedVariables false
set_option maxRecDepth 20000
set_option maxHeartbeats 4000000
def dRowC : List PV → Option Calc
  | [.int .i64 g, .sl rs _, .mp true 2 es] => (dL dI rs).map fun l => ⟨⟨g, l⟩, es⟩
  | _ => none
instance : Row Calc where
  row := encC
  drow := dRowC
  wk_drow r a h := by
    unfold dRowC at h
    split at h
    · simp only [Option.map_eq_some_iff] at h
      obtain ⟨l, h1, rfl⟩ := h
      exact ⟨rfl, ⟨dL_wk dI_wk h1, fun h => by cases h⟩, wk_refl _, trivial⟩
    · cases h
  drow_row x := by simp [dRowC, encC, dI_map]
theorem dec_rcalc (g : Int) (l : List Issue) (ex : Bool) (es : List (List Int × PV)) : (dec (.eref [.int .i64 g, .sl (l.map encI) ex, .mp true 2 es] 0) : Option (Rf Calc)) = some ⟨⟨⟨g, l⟩, es⟩⟩ := by
  show (dRowC [.int .i64 g, .sl (l.map encI) ex, .mp true 2 es]).map Rf.mk = _
  simp [dRowC, dI_map]
theorem dec_line (a b c d : Int) : (dec (.agg [.int .i64 a, .int .i64 b, .int .i64 c, .int .i64 d]) : Option Line) = some ⟨⟨a, b, c⟩, d⟩ := rfl
theorem dec_line' (l : Line) : (dec (.agg (encL l)) : Option Line) = some l := rfl
theorem dec_lines (l : List Line) (ex : Bool) : (dec (.sl (l.map encL) ex) : Option (List Line)) = some l := drows_rows l
def gOk (g : Int) : Prop := -9223372036854775807 ≤ g ∧ g ≤ 9223372036854775807
def lineOk (g : Int) (l : Line) : Bool := itemOk g l.item.good l.item.size l.item.colour && (decide (1 ≤ l.many) && decide (l.many ≤ 1000))
theorem line_fn (l : Line) (x : Calc) (hg : gOk x.r.goods) : Fn E8 0 114 Tryd.f114 (Tryd.f114.body.getD .skip) [.agg (encL l), .eref (encC x) 0] (.bool (!lineOk x.r.goods l)) := by
  unfold gOk at hg
  unfold Fn Tryd.f114
  simp only [go_sem, Nat.reduceAdd, Nat.reduceSub, Nat.reduceMul, Nat.reduceEqDiff, Nat.reduceLT, Nat.reduceLeDiff, Nat.reduceBEq, Nat.reduceBNe, Int.reduceToNat, Int.reduceLE, Int.reduceLT, Int.reduceNe, Int.reduceNeg, reduceCtorEq, Int.reduceBEq, Int.reduceBNe, @callV_spec E8 81 s81 rfl, @callV_specT E8 81 s81 rfl, @stepV_spec E8 81 s81 rfl, @effV_spec E8 81 s81 rfl, s81, @callV_spec E8 66 sTween rfl, @callV_specT E8 66 sTween rfl, @stepV_spec E8 66 sTween rfl, @effV_spec E8 66 sTween rfl, sTween, encL, encC, hg]
  unfold lineOk
  cases itemOk x.r.goods l.item.good l.item.size l.item.colour <;> simp
def s114 : Spec := spec2 (fun (_ : Line) (x : Rf Calc) => gOk x.v.r.goods) (fun l x => .bool (!lineOk x.v.r.goods l))
theorem s114_ok : SpecOK Tryd.prog glB 114 s114 := spec2_ok E8_ok Tryd.func114 rfl (by kernel_rfl) fun l x h => line_fn l x.v h
def E9t : List (Nat × Spec) := [(20, s20), (21, s21), (114, s114)] ++ E8t
theorem E9t_ok : AllOK E9t := ⟨⟨s20_ok, Tryd.call20⟩, ⟨s21_ok, Tryd.call21⟩, ⟨s114_ok, Tryd.call114⟩, E8t_ok⟩
noncomputable def E9 : Env := mkM E9t [] Mt
theorem E9_ok : EnvOK Tryd.prog E9 := envMOK E9t_ok trivial Mt_ok
theorem E9_ti {t : Nat} : E9.ti t = ti t := rfl
theorem E9_q0 : (E9).eqt 152 = true := rfl
theorem E9_q1 : (E9).eqt 69 = true := rfl
theorem E9_q2 : (E9).keyt 3 = true := rfl
theorem E9_q3 : (E9).keyt 108 = true := rfl
attribute [go_sem] E9_ti E9_q0 E9_q1 E9_q2 E9_q3
theorem indexL_fn (l : List Line) (ex : Bool) (p : Line → Bool) (g : Nat) (cap : PV) (s : Spec) (hs : E9.spec g = some s) (hcap : pureD 8 cap = true) (hp : ∀ f, s [.agg (encL f), cap] = some (True, .bool (p f))) (hl : big l.length) :
    Fn E9 0 128 Tryd.f128 (Tryd.f128.body.getD .skip) [.sl (l.map encL) ex, .fn g [] [cap]] (.int .i64 (findI p l 0)) := by
  unfold big at hl
  unfold Fn Tryd.f128
  simp only [go_sem, Nat.reduceAdd, Nat.reduceSub, Nat.reduceMul, Nat.reduceEqDiff, Nat.reduceLT, Nat.reduceLeDiff, Nat.reduceBEq, Nat.reduceBNe, Int.reduceToNat, Int.reduceLE, Int.reduceLT, Int.reduceNe, Int.reduceNeg, reduceCtorEq, Int.reduceBEq, Int.reduceBNe]
  refine ev_loopS [0, 1] (fun i : Nat => [(7, .int .i64 l.length), (8, .int .i64 i)]) (fun i H => i ≤ l.length ∧ findI p (l.drop i) i = findI p l 0) (fun i => l.length - i) 0 ?_ ⟨Nat.zero_le _, by simp⟩ ?_
  · simp only [go_sem, Nat.reduceAdd, Nat.reduceSub, Nat.reduceMul, Nat.reduceEqDiff, Nat.reduceLT, Nat.reduceLeDiff, Nat.reduceBEq, Nat.reduceBNe, Int.reduceToNat, Int.reduceLE, Int.reduceLT, Int.reduceNe, Int.reduceNeg, reduceCtorEq, Int.reduceBEq, Int.reduceBNe]
  · simp only [go_sem, Nat.reduceAdd, Nat.reduceSub, Nat.reduceMul, Nat.reduceEqDiff, Nat.reduceLT, Nat.reduceLeDiff, Nat.reduceBEq, Nat.reduceBNe, Int.reduceToNat, Int.reduceLE, Int.reduceLT, Int.reduceNe, Int.reduceNeg, reduceCtorEq, Int.reduceBEq, Int.reduceBNe]
    intro K i H ⟨hi, hf⟩ hK hE
    rw [condK_bool]
    refine ⟨fun h => ?_, fun h => ?_⟩
    · have h' : i < l.length := by simpa using h
      simp only [go_sem, Nat.reduceAdd, Nat.reduceSub, Nat.reduceMul, Nat.reduceEqDiff, Nat.reduceLT, Nat.reduceLeDiff, Nat.reduceBEq, Nat.reduceBNe, Int.reduceToNat, Int.reduceLE, Int.reduceLT, Int.reduceNe, Int.reduceNeg, reduceCtorEq, Int.reduceBEq, Int.reduceBNe, h, getD_map encL _ _ _ h, @callV_spec E9 g s hs]
      have e1 : List.take 4 (encL (l.getD i default)) = encL (l.getD i default) := rfl
      rw [e1, callSpec_eq (by rw [show pureD.pureLs (pureD 8) [PV.agg (encL (l.getD i default)), cap] = (pureD 8 (.agg (encL (l.getD i default))) && (pureD 8 cap && true)) from rfl, hcap]; rfl) (hp _)]
      simp only [go_sem, Nat.reduceAdd, Nat.reduceSub, Nat.reduceMul, Nat.reduceEqDiff, Nat.reduceLT, Nat.reduceLeDiff, Nat.reduceBEq, Nat.reduceBNe, Int.reduceToNat, Int.reduceLE, Int.reduceLT, Int.reduceNe, Int.reduceNeg, reduceCtorEq, Int.reduceBEq, Int.reduceBNe]
      refine ⟨⟨by simpa using h, rfl⟩, by simp [encL], ?_⟩
      rw [condK_bool]
      refine ⟨fun h2 => ?_, fun h2 => ?_⟩
      · simp only [go_sem, Nat.reduceAdd, Nat.reduceSub, Nat.reduceMul, Nat.reduceEqDiff, Nat.reduceLT, Nat.reduceLeDiff, Nat.reduceBEq, Nat.reduceBNe, Int.reduceToNat, Int.reduceLE, Int.reduceLT, Int.reduceNe, Int.reduceNeg, reduceCtorEq, Int.reduceBEq, Int.reduceBNe]
        refine hE _ _ _ (by simp) ?_
        simp only [go_sem, Nat.reduceAdd, Nat.reduceSub, Nat.reduceMul, Nat.reduceEqDiff, Nat.reduceLT, Nat.reduceLeDiff, Nat.reduceBEq, Nat.reduceBNe, Int.reduceToNat, Int.reduceLE, Int.reduceLT, Int.reduceNe, Int.reduceNeg, reduceCtorEq, Int.reduceBEq, Int.reduceBNe]
        rw [← hf, findI_drop _ h', if_pos h2]
      · simp only [go_sem, Nat.reduceAdd, Nat.reduceSub, Nat.reduceMul, Nat.reduceEqDiff, Nat.reduceLT, Nat.reduceLeDiff, Nat.reduceBEq, Nat.reduceBNe, Int.reduceToNat, Int.reduceLE, Int.reduceLT, Int.reduceNe, Int.reduceNeg, reduceCtorEq, Int.reduceBEq, Int.reduceBNe]
        refine hK (i + 1) _ _ ?_ ⟨h', ?_⟩ (by omega)
        · rw [wrap_id (by omega)]
          simp only [go_sem, Nat.reduceAdd, Nat.reduceSub, Nat.reduceMul, Nat.reduceEqDiff, Nat.reduceLT, Nat.reduceLeDiff, Nat.reduceBEq, Nat.reduceBNe, Int.reduceToNat, Int.reduceLE, Int.reduceLT, Int.reduceNe, Int.reduceNeg, reduceCtorEq, Int.reduceBEq, Int.reduceBNe, Int.natCast_add, Int.natCast_one]
        · rw [← hf, findI_drop _ h', h2]; rfl
    · refine hE _ _ _ (by simp) ?_
      simp only [go_sem, Nat.reduceAdd, Nat.reduceSub, Nat.reduceMul, Nat.reduceEqDiff, Nat.reduceLT, Nat.reduceLeDiff, Nat.reduceBEq, Nat.reduceBNe, Int.reduceToNat, Int.reduceLE, Int.reduceLT, Int.reduceNe, Int.reduceNeg, reduceCtorEq, Int.reduceBEq, Int.reduceBNe]
      have h' : i = l.length := by have : ¬ ((i : Int) < (l.length : Int)) := by simpa using h
                                   omega
      rw [← hf, h']
      simp [findI]
def predL : Nat → List PV → Option ((Line → Bool) × Prop)
  | 114, [.eref [.int .i64 g, .sl rs _, .mp true 2 es] 0] => (dL dI rs).map fun _ => (fun l => !lineOk g l, gOk g)
  | _, _ => none
def s128 : Spec := fun args => match args with
  | [.sl rs _, .fn g [] cap] => match dL dLn rs, predL g cap with
    | some l, some p => some (big l.length ∧ p.2, .int .i64 (findI p.1 l 0))
    | _, _ => none
  | _ => none
theorem s128_ok : SpecOK Tryd.prog glB 128 s128 := specOK_of E9_ok Tryd.func128 (by kernel_rfl) fun args pre r h hp => by
  unfold s128 at h
  split at h
  · split at h
    · rename_i rs ex g cap l p hl hpr
      cases h
      unfold predL at hpr
      split at hpr
      · simp only [Option.map_eq_some_iff] at hpr
        obtain ⟨li, h2, rfl⟩ := hpr
        exact ⟨[.sl (l.map encL) _, .fn 114 [] [.eref [.int .i64 _, .sl (li.map encI) false, .mp true 2 _] 0]], _, ⟨⟨dL_wk (f := dLn) (enc := encL) (fun r a h => Row.wk_drow (α := Line) r a h) hl, id⟩, ⟨rfl, trivial, ⟨⟨rfl, ⟨dL_wk dI_wk h2, fun h => by cases h⟩, rfl, trivial⟩, rfl⟩, trivial⟩, trivial⟩, rfl,
          indexL_fn l _ _ 114 _ s114 rfl rfl (fun f => by simp only [s114, spec2, dec_line', dec_rcalc]; rw [eq_true (show gOk _ from hp.2)]) hp.1⟩
      · cases hpr
    · cases h
  · cases h
def sX128 : Spec := s128
def E10t : List (Nat × Spec) := [(128, s128)] ++ E9t
theorem E10t_ok : AllOK E10t := ⟨⟨s128_ok, Tryd.call128⟩, E9t_ok⟩
noncomputable def E10 : Env := mkM E10t [] Mt
theorem E10_ok : EnvOK Tryd.prog E10 := envMOK E10t_ok trivial Mt_ok
theorem E10_ti {t : Nat} : E10.ti t = ti t := rfl
theorem E10_q0 : (E10).eqt 152 = true := rfl
theorem E10_q1 : (E10).eqt 69 = true := rfl
theorem E10_q2 : (E10).keyt 3 = true := rfl
theorem E10_q3 : (E10).keyt 108 = true := rfl
attribute [go_sem] E10_ti E10_q0 E10_q1 E10_q2 E10_q3
theorem dLn_map (l : List Line) : dL dLn (l.map encL) = some l := dL_map (α := Line) (f := dLn) (enc := encL) (fun a => rfl) l
theorem contains_fn (l : List Line) (ex : Bool) (g : Int) (li : List Issue) (es : List (List Int × PV)) (hl : big l.length) (hg : gOk g) :
    Fn E10 0 113 Tryd.f113 (Tryd.f113.body.getD .skip) [.sl (l.map encL) ex, .fn 114 [] [.eref [.int .i64 g, .sl (li.map encI) false, .mp true 2 es] 0]] (.bool (decide (findI (fun l => !lineOk g l) l 0 ≥ 0))) := by
  unfold Fn Tryd.f113
  simp only [go_sem, Nat.reduceAdd, Nat.reduceSub, Nat.reduceMul, Nat.reduceEqDiff, Nat.reduceLT, Nat.reduceLeDiff, Nat.reduceBEq, Nat.reduceBNe, Int.reduceToNat, Int.reduceLE, Int.reduceLT, Int.reduceNe, Int.reduceNeg, reduceCtorEq, Int.reduceBEq, Int.reduceBNe, @callV_spec E10 128 s128 rfl, @callV_specT E10 128 s128 rfl, @stepV_spec E10 128 s128 rfl, @effV_spec E10 128 s128 rfl, s128, predL, dLn_map, hl, hg]
def s113 : Spec := fun args => match args with
  | [.sl rs _, .fn g [] cap] => match dL dLn rs, predL g cap with
    | some l, some p => some (big l.length ∧ p.2, .bool (decide (findI p.1 l 0 ≥ 0)))
    | _, _ => none
  | _ => none
theorem s113_ok : SpecOK Tryd.prog glB 113 s113 := specOK_of E10_ok Tryd.func113 (by kernel_rfl) fun args pre r h hp => by
  unfold s113 at h
  split at h
  · split at h
    · rename_i rs ex g cap l p hl hpr
      cases h
      unfold predL at hpr
      split at hpr
      · simp only [Option.map_eq_some_iff] at hpr
        obtain ⟨li, h2, rfl⟩ := hpr
        exact ⟨[.sl (l.map encL) _, .fn 114 [] [.eref [.int .i64 _, .sl (li.map encI) false, .mp true 2 _] 0]], _, ⟨⟨dL_wk (f := dLn) (enc := encL) (fun r a h => Row.wk_drow (α := Line) r a h) hl, id⟩, ⟨rfl, trivial, ⟨⟨rfl, ⟨dL_wk dI_wk h2, fun h => by cases h⟩, rfl, trivial⟩, rfl⟩, trivial⟩, trivial⟩, rfl,
          contains_fn l _ _ li _ hp.1 hp.2⟩
      · cases hpr
    · cases h
  · cases h
def E11t : List (Nat × Spec) := [(113, s113)] ++ E10t
theorem E11t_ok : AllOK E11t := ⟨⟨s113_ok, Tryd.call113⟩, E10t_ok⟩
noncomputable def E11 : Env := mkM E11t [] Mt
theorem E11_ok : EnvOK Tryd.prog E11 := envMOK E11t_ok trivial Mt_ok
theorem E11_ti {t : Nat} : E11.ti t = ti t := rfl
theorem E11_q0 : (E11).eqt 152 = true := rfl
theorem E11_q1 : (E11).eqt 69 = true := rfl
theorem E11_q2 : (E11).keyt 3 = true := rfl
theorem E11_q3 : (E11).keyt 108 = true := rfl
attribute [go_sem] E11_ti E11_q0 E11_q1 E11_q2 E11_q3
def areLinesB (g : Int) (l : List Line) : Bool := decide ((l.length : Int) ≤ 20) && l.all (lineOk g)
theorem findI_all {α : Type} [Inhabited α] (p : α → Bool) (l : List α) : (!decide (findI (fun a => !p a) l 0 ≥ 0)) = l.all p := by
  rcases findI_find (fun a => !p a) l 0 with ⟨h1, h2⟩ | ⟨j, h1, h2, h3⟩
  · rw [h2]
    have : l.all p = true := by
      rw [List.all_eq_true]; intro a ha
      have := List.find?_eq_none.1 h1 a ha
      simpa using this
    simp [this]
  · rw [h3]
    have hp := List.find?_some h2
    have : l.all p = false := by
      rw [List.all_eq_false]
      exact ⟨_, List.mem_of_find?_eq_some h2, by simpa using hp⟩
    simp [this]
theorem areLines_fn (x : Calc) (l : List Line) (hl : big l.length) (hg : gOk x.r.goods) : Fn E11 0 93 Tryd.f93 (Tryd.f93.body.getD .skip) [.agg (encC x), .sl (l.map encL) false] (.bool (areLinesB x.r.goods l)) := by
  unfold Fn Tryd.f93
  unfold areLinesB
  rw [← findI_all]
  simp only [go_sem, Nat.reduceAdd, Nat.reduceSub, Nat.reduceMul, Nat.reduceEqDiff, Nat.reduceLT, Nat.reduceLeDiff, Nat.reduceBEq, Nat.reduceBNe, Int.reduceToNat, Int.reduceLE, Int.reduceLT, Int.reduceNe, Int.reduceNeg, reduceCtorEq, Int.reduceBEq, Int.reduceBNe, @callV_spec E11 113 s113 rfl, @callV_specT E11 113 s113 rfl, @stepV_spec E11 113 s113 rfl, @effV_spec E11 113 s113 rfl, s113, encC, callSpec, predL, dLn_map, dI_map, hl, hg]
def s93 : Spec := spec2 (fun (x : Calc) (l : List Line) => big l.length ∧ gOk x.r.goods) (fun x l => .bool (areLinesB x.r.goods l))
theorem s93_ok : SpecOK Tryd.prog glB 93 s93 := spec2_ok E11_ok Tryd.func93 rfl (by kernel_rfl) fun x l h => areLines_fn x l h.1 h.2
-- f94 sum
def sumF (r : Rack) (on : Int) : Int → List Line → Option Int
  | acc, [] => some acc
  | acc, l :: ls => match priceP r on l.item with
    | some n => sumF r on (acc + n * (l.many - l.many / 12)) ls
    | none => none
theorem sumF_drop (r : Rack) (on acc : Int) {ls : List Line} {i : Nat} (h : i < ls.length) : sumF r on acc (ls.drop i) = match priceP r on (ls.getD i default).item with
    | some n => sumF r on (acc + n * ((ls.getD i default).many - (ls.getD i default).many / 12)) (ls.drop (i + 1))
    | none => none := by
  have e : ls.getD i default = ls[i] := by simp [h]
  rw [e, List.drop_eq_getElem_cons h]
  rfl
def E12t : List (Nat × Spec) := [(93, s93)] ++ E11t
theorem E12t_ok : AllOK E12t := ⟨⟨s93_ok, Tryd.call93⟩, E11t_ok⟩
noncomputable def E12 : Env := mkM E12t [] Mt
theorem E12_ok : EnvOK Tryd.prog E12 := envMOK E12t_ok trivial Mt_ok
theorem E12_ti {t : Nat} : E12.ti t = ti t := rfl
theorem E12_q0 : (E12).eqt 152 = true := rfl
theorem E12_q1 : (E12).eqt 69 = true := rfl
theorem E12_q2 : (E12).keyt 3 = true := rfl
theorem E12_q3 : (E12).keyt 108 = true := rfl
attribute [go_sem] E12_ti E12_q0 E12_q1 E12_q2 E12_q3
def cents (r : Rack) : Prop := ∀ on x n, priceP r on x = some n → 1 ≤ n ∧ n ≤ 100000
theorem sum_fn (x : Calc) (on : Int) (ls : List Line) (hl : ls.length ≤ 20) (hs : Sane x.r) (hc : cents x.r) (hls : ∀ l ∈ ls, (0 ≤ l.item.colour ∧ l.item.colour ≤ 3) ∧ 1 ≤ l.many ∧ l.many ≤ 1000) :
    Fn E12 0 94 Tryd.f94 (Tryd.f94.body.getD .skip) [.agg (encC x), .int .i64 on, .sl (ls.map encL) false] (optPV (sumF x.r on 0 ls)) := by
  unfold Fn Tryd.f94
  simp only [go_sem, Nat.reduceAdd, Nat.reduceSub, Nat.reduceMul, Nat.reduceEqDiff, Nat.reduceLT, Nat.reduceLeDiff, Nat.reduceBEq, Nat.reduceBNe, Int.reduceToNat, Int.reduceLE, Int.reduceLT, Int.reduceNe, Int.reduceNeg, reduceCtorEq, Int.reduceBEq, Int.reduceBNe, @callV_spec E12 82 s82 rfl, @callV_specT E12 82 s82 rfl, @stepV_spec E12 82 s82 rfl, @effV_spec E12 82 s82 rfl, s82, encC]
  refine ev_loopS [1, 3, 6, 7, 13] (fun x : Nat × Int => [(8, .int .i64 x.2), (14, .int .i64 ls.length), (15, .int .i64 x.1)])
    (fun y H => y.1 ≤ ls.length ∧ H (([], 94000000) : Key) = some (.cells (encC x) 1 false) ∧ sumF x.r on 0 ls = sumF x.r on y.2 (ls.drop y.1) ∧ 0 ≤ y.2 ∧ y.2 ≤ 100000000 * y.1) (fun y => ls.length - y.1) (0, 0) ?_ ⟨Nat.zero_le _, ?_, by simp, by simp, by simp⟩ ?_
  · simp only [go_sem, Nat.reduceAdd, Nat.reduceSub, Nat.reduceMul, Nat.reduceEqDiff, Nat.reduceLT, Nat.reduceLeDiff, Nat.reduceBEq, Nat.reduceBNe, Int.reduceToNat, Int.reduceLE, Int.reduceLT, Int.reduceNe, Int.reduceNeg, reduceCtorEq, Int.reduceBEq, Int.reduceBNe]
  · simp only [go_sem, Nat.reduceAdd, Nat.reduceSub, Nat.reduceMul, Nat.reduceEqDiff, Nat.reduceLT, Nat.reduceLeDiff, Nat.reduceBEq, Nat.reduceBNe, Int.reduceToNat, Int.reduceLE, Int.reduceLT, Int.reduceNe, Int.reduceNeg, reduceCtorEq, Int.reduceBEq, Int.reduceBNe, encC]
  · simp only [go_sem, Nat.reduceAdd, Nat.reduceSub, Nat.reduceMul, Nat.reduceEqDiff, Nat.reduceLT, Nat.reduceLeDiff, Nat.reduceBEq, Nat.reduceBNe, Int.reduceToNat, Int.reduceLE, Int.reduceLT, Int.reduceNe, Int.reduceNeg, reduceCtorEq, Int.reduceBEq, Int.reduceBNe]
    intro K y H ⟨hi, h1, hf, hb1, hb2⟩ hK hE
    obtain ⟨i, acc⟩ := y
    simp only at hi hf hb1 hb2
    dsimp only
    rw [condK_bool]
    refine ⟨fun h => ?_, fun h => ?_⟩
    · have h' : i < ls.length := by simpa using h
      have hii : (i : Int) < (ls.length : Int) := by omega
      have hy : ls.getD i default ∈ ls := by simp [List.getD_eq_getElem?_getD, h']
      rw [sumF_drop _ _ _ h'] at hf
      generalize hye : ls.getD i default = l at hy hf
      have hok := hls l hy
      simp only [go_sem, Nat.reduceAdd, Nat.reduceSub, Nat.reduceMul, Nat.reduceEqDiff, Nat.reduceLT, Nat.reduceLeDiff, Nat.reduceBEq, Nat.reduceBNe, Int.reduceToNat, Int.reduceLE, Int.reduceLT, Int.reduceNe, Int.reduceNeg, reduceCtorEq, Int.reduceBEq, Int.reduceBNe, @callV_spec E12 82 s82 rfl, @callV_specT E12 82 s82 rfl, @stepV_spec E12 82 s82 rfl, @effV_spec E12 82 s82 rfl, s82, h1, encC, hii, getD_mapN encL ls i _ h', hye, encL]
      refine ⟨⟨hok.1, hs⟩, ?_⟩
      show Prg.wp True (match optPV (priceP x.r on l.item) with | PV.tnt q v => Prg.chk q (Prg.ret v) | v => Prg.ret v) _ _
      generalize hp : priceP x.r on l.item = o at hf
      cases o with
      | none =>
        simp only [go_sem, Nat.reduceAdd, Nat.reduceSub, Nat.reduceMul, Nat.reduceEqDiff, Nat.reduceLT, Nat.reduceLeDiff, Nat.reduceBEq, Nat.reduceBNe, Int.reduceToNat, Int.reduceLE, Int.reduceLT, Int.reduceNe, Int.reduceNeg, reduceCtorEq, Int.reduceBEq, Int.reduceBNe, optPV]
        refine hE _ _ _ (by simp) ?_
        simp only [go_sem, Nat.reduceAdd, Nat.reduceSub, Nat.reduceMul, Nat.reduceEqDiff, Nat.reduceLT, Nat.reduceLeDiff, Nat.reduceBEq, Nat.reduceBNe, Int.reduceToNat, Int.reduceLE, Int.reduceLT, Int.reduceNe, Int.reduceNeg, reduceCtorEq, Int.reduceBEq, Int.reduceBNe, hf, optPV]
      | some n =>
        have hn := hc on l.item n hp
        have ht : l.many.tdiv 12 = l.many / 12 := Int.tdiv_eq_ediv_of_nonneg (by omega)
        have hq : 0 ≤ l.many / 12 ∧ l.many / 12 ≤ l.many := by omega
        have hm1 : n * (l.many - l.many / 12) ≤ 100000 * 1000 := Int.mul_le_mul hn.2 (by omega) (by omega) (by omega)
        have hm0 : 0 ≤ n * (l.many - l.many / 12) := Int.mul_nonneg (by omega) (by omega)
        have w0 : IntKind.i64.wrap (l.many / 12) = l.many / 12 := wrap_id (by omega)
        have w1 : IntKind.i64.wrap (l.many - l.many / 12) = l.many - l.many / 12 := wrap_id (by omega)
        have w2 : IntKind.i64.wrap (n * (l.many - l.many / 12)) = n * (l.many - l.many / 12) := wrap_id (by omega)
        have w3 : IntKind.i64.wrap (acc + n * (l.many - l.many / 12)) = acc + n * (l.many - l.many / 12) := wrap_id (by omega)
        have w4 : IntKind.i64.wrap ((i : Int) + 1) = (i : Int) + 1 := wrap_id (by omega)
        simp only [go_sem, Nat.reduceAdd, Nat.reduceSub, Nat.reduceMul, Nat.reduceEqDiff, Nat.reduceLT, Nat.reduceLeDiff, Nat.reduceBEq, Nat.reduceBNe, Int.reduceToNat, Int.reduceLE, Int.reduceLT, Int.reduceNe, Int.reduceNeg, reduceCtorEq, Int.reduceBEq, Int.reduceBNe, optPV, ht, w0, w1, w2, w3, w4]
        refine ⟨by omega, hK (i + 1, acc + n * (l.many - l.many / 12)) _ _ ?_ ⟨h', ?_, hf, by omega, by push_cast; omega⟩ (by simp only; omega)⟩
        · simp only [go_sem, Nat.reduceAdd, Nat.reduceSub, Nat.reduceMul, Nat.reduceEqDiff, Nat.reduceLT, Nat.reduceLeDiff, Nat.reduceBEq, Nat.reduceBNe, Int.reduceToNat, Int.reduceLE, Int.reduceLT, Int.reduceNe, Int.reduceNeg, reduceCtorEq, Int.reduceBEq, Int.reduceBNe, Int.natCast_add, Int.natCast_one]
        · simp only [go_sem, Nat.reduceAdd, Nat.reduceSub, Nat.reduceMul, Nat.reduceEqDiff, Nat.reduceLT, Nat.reduceLeDiff, Nat.reduceBEq, Nat.reduceBNe, Int.reduceToNat, Int.reduceLE, Int.reduceLT, Int.reduceNe, Int.reduceNeg, reduceCtorEq, Int.reduceBEq, Int.reduceBNe, h1, encC]
    · have h' : i = ls.length := by have : ¬ ((i : Int) < (ls.length : Int)) := by simpa using h
                                    omega
      subst h'
      simp only [List.drop_length, sumF] at hf
      refine hE _ _ _ (by simp) ?_
      simp only [go_sem, Nat.reduceAdd, Nat.reduceSub, Nat.reduceMul, Nat.reduceEqDiff, Nat.reduceLT, Nat.reduceLeDiff, Nat.reduceBEq, Nat.reduceBNe, Int.reduceToNat, Int.reduceLE, Int.reduceLT, Int.reduceNe, Int.reduceNeg, reduceCtorEq, Int.reduceBEq, Int.reduceBNe, optPV, hf]
def s94 : Spec := spec3 (fun (x : Calc) (_ : Int) (ls : List Line) => ls.length ≤ 20 ∧ Sane x.r ∧ cents x.r ∧ ∀ l ∈ ls, (0 ≤ l.item.colour ∧ l.item.colour ≤ 3) ∧ 1 ≤ l.many ∧ l.many ≤ 1000) (fun x on ls => optPV (sumF x.r on 0 ls))
theorem s94_ok : SpecOK Tryd.prog glB 94 s94 := spec3_ok E12_ok Tryd.func94 rfl (by kernel_rfl) fun x on ls h => sum_fn x on ls h.1 h.2.1 h.2.2.1 h.2.2.2
end Wb
/- A rack is opened: its entries as a map, and what can be asked. -/
namespace Wb
open Go Go.Proofs Enc Row
set_option linter.unusedSimpArgs false
set_option linter.unusedVariables false
set_option maxRecDepth 20000
set_option maxHeartbeats 4000000
def E13t : List (Nat × Spec) := [(94, s94)] ++ E12t
theorem E13t_ok : AllOK E13t := ⟨⟨s94_ok, Tryd.call94⟩, E12t_ok⟩
noncomputable def E13 : Env := mkM E13t [] Mt
theorem E13_ok : EnvOK Tryd.prog E13 := envMOK E13t_ok trivial Mt_ok
theorem E13_ti {t : Nat} : E13.ti t = ti t := rfl
theorem E13_q0 : (E13).eqt 152 = true := rfl
theorem E13_q1 : (E13).eqt 69 = true := rfl
theorem E13_q2 : (E13).keyt 3 = true := rfl
theorem E13_q3 : (E13).keyt 108 = true := rfl
attribute [go_sem] E13_ti E13_q0 E13_q1 E13_q2 E13_q3
def isDaysB (d : Int × Int) : Bool := decide (0 ≤ d.1) && decide (d.1 ≤ d.2) && decide (d.2 ≤ 20000)
def isNumB (n : Int) : Bool := decide (1 ≤ n) && decide (n ≤ 9999)
def isDayB (n : Int) : Bool := decide (0 ≤ n) && decide (n ≤ 20000)
def isIssB (r : Rack) (n : Int) : Bool := decide (0 ≤ n) && decide (n ≤ (r.issues.length : Int) - 1)
def isItemB (r : Rack) (t : Item) : Bool := itemOk r.goods t.good t.size t.colour
def isFootB (d : Int × Int) : Bool := decide (1 ≤ d.1) && decide (d.1 ≤ d.2) && decide (d.2 ≤ 400)
theorem c57_fn (x : Calc) (d : Int × Int) (n : Int) : Fn E13 0 57 Tryd.f57 (Tryd.f57.body.getD .skip) [.agg (encC x), .eref [.int .i64 d.1, .int .i64 d.2] 0, .eref [.int .i64 n] 0] (.bool (isDaysB d && isNumB n)) := by
  unfold Fn Tryd.f57
  simp only [go_sem, Nat.reduceAdd, Nat.reduceSub, Nat.reduceMul, Nat.reduceEqDiff, Nat.reduceLT, Nat.reduceLeDiff, Nat.reduceBEq, Nat.reduceBNe, Int.reduceToNat, Int.reduceLE, Int.reduceLT, Int.reduceNe, Int.reduceNeg, reduceCtorEq, Int.reduceBEq, Int.reduceBNe, @callV_spec E13 58 sIsDays rfl, @callV_specT E13 58 sIsDays rfl, @stepV_spec E13 58 sIsDays rfl, @effV_spec E13 58 sIsDays rfl, sIsDays, @callV_spec E13 59 sIsNumber rfl, @callV_specT E13 59 sIsNumber rfl, @stepV_spec E13 59 sIsNumber rfl, @effV_spec E13 59 sIsNumber rfl, sIsNumber, encC, encT, isDaysB, isNumB, isDayB, isIssB, isItemB, isFootB]
def s57 : Spec := spec3 (fun (x : Calc) (d : Rf (Int × Int)) (n : Rf (Int)) => True) (fun x d n => .bool (isDaysB d.v && isNumB n.v))
theorem s57_ok : SpecOK Tryd.prog glB 57 s57 := spec3_ok E13_ok Tryd.func57 rfl (by kernel_rfl) fun x d n h => c57_fn x d.v n.v
theorem c71_fn (x : Calc) (i j n : Int) (hp : big x.r.issues.length) : Fn E13 0 71 Tryd.f71 (Tryd.f71.body.getD .skip) [.agg (encC x), .eref [.int .i64 i] 0, .eref [.int .i64 j] 0, .eref [.int .i64 n] 0] (.bool (isIssB x.r i && isIssB x.r j && isNumB n)) := by
  unfold Fn Tryd.f71
  simp only [go_sem, Nat.reduceAdd, Nat.reduceSub, Nat.reduceMul, Nat.reduceEqDiff, Nat.reduceLT, Nat.reduceLeDiff, Nat.reduceBEq, Nat.reduceBNe, Int.reduceToNat, Int.reduceLE, Int.reduceLT, Int.reduceNe, Int.reduceNeg, reduceCtorEq, Int.reduceBEq, Int.reduceBNe, @callV_spec E13 72 s72 rfl, @callV_specT E13 72 s72 rfl, @stepV_spec E13 72 s72 rfl, @effV_spec E13 72 s72 rfl, s72, @callV_spec E13 59 sIsNumber rfl, @callV_specT E13 59 sIsNumber rfl, @stepV_spec E13 59 sIsNumber rfl, @effV_spec E13 59 sIsNumber rfl, sIsNumber, encC, encT, isDaysB, isNumB, isDayB, isIssB, isItemB, isFootB, hp]
def s71 : Spec := spec4 (fun (x : Calc) (i : Rf (Int)) (j : Rf (Int)) (n : Rf (Int)) => big x.r.issues.length) (fun x i j n => .bool (isIssB x.r i.v && isIssB x.r j.v && isNumB n.v))
theorem s71_ok : SpecOK Tryd.prog glB 71 s71 := spec4_ok E13_ok Tryd.func71 rfl (by kernel_rfl) fun x i j n h => c71_fn x i.v j.v n.v h
theorem c75_fn (x : Calc) (n : Int) : Fn E13 0 75 Tryd.f75 (Tryd.f75.body.getD .skip) [.agg (encC x), .eref [.int .i64 n] 0] (.bool (isDayB n)) := by
  unfold Fn Tryd.f75
  simp only [go_sem, Nat.reduceAdd, Nat.reduceSub, Nat.reduceMul, Nat.reduceEqDiff, Nat.reduceLT, Nat.reduceLeDiff, Nat.reduceBEq, Nat.reduceBNe, Int.reduceToNat, Int.reduceLE, Int.reduceLT, Int.reduceNe, Int.reduceNeg, reduceCtorEq, Int.reduceBEq, Int.reduceBNe, @callV_spec E13 66 sTween rfl, @callV_specT E13 66 sTween rfl, @stepV_spec E13 66 sTween rfl, @effV_spec E13 66 sTween rfl, sTween, encC, encT, isDaysB, isNumB, isDayB, isIssB, isItemB, isFootB]
def s75 : Spec := spec2 (fun (x : Calc) (n : Rf (Int)) => True) (fun x n => .bool (isDayB n.v))
theorem s75_ok : SpecOK Tryd.prog glB 75 s75 := spec2_ok E13_ok Tryd.func75 rfl (by kernel_rfl) fun x n h => c75_fn x n.v
theorem c80_fn (x : Calc) (n : Int) (t : Item) (hp : gOk x.r.goods) : Fn E13 0 80 Tryd.f80 (Tryd.f80.body.getD .skip) [.agg (encC x), .eref [.int .i64 n] 0, .eref (encT t) 0] (.bool (isDayB n && isItemB x.r t)) := by
  have hp2 : -9223372036854775807 ≤ x.r.goods ∧ x.r.goods ≤ 9223372036854775807 := hp
  unfold Fn Tryd.f80
  simp only [go_sem, Nat.reduceAdd, Nat.reduceSub, Nat.reduceMul, Nat.reduceEqDiff, Nat.reduceLT, Nat.reduceLeDiff, Nat.reduceBEq, Nat.reduceBNe, Int.reduceToNat, Int.reduceLE, Int.reduceLT, Int.reduceNe, Int.reduceNeg, reduceCtorEq, Int.reduceBEq, Int.reduceBNe, @callV_spec E13 66 sTween rfl, @callV_specT E13 66 sTween rfl, @stepV_spec E13 66 sTween rfl, @effV_spec E13 66 sTween rfl, sTween, @callV_spec E13 81 s81 rfl, @callV_specT E13 81 s81 rfl, @stepV_spec E13 81 s81 rfl, @effV_spec E13 81 s81 rfl, s81, encC, encT, isDaysB, isNumB, isDayB, isIssB, isItemB, isFootB, hp2, hp2.1, hp2.2]
def s80 : Spec := spec3 (fun (x : Calc) (n : Rf (Int)) (t : Rf (Item)) => gOk x.r.goods) (fun x n t => .bool (isDayB n.v && isItemB x.r t.v))
theorem s80_ok : SpecOK Tryd.prog glB 80 s80 := spec3_ok E13_ok Tryd.func80 rfl (by kernel_rfl) fun x n t h => c80_fn x n.v t.v h
theorem c85_fn (x : Calc) (d : Int × Int) (t : Item) (hp : gOk x.r.goods) : Fn E13 0 85 Tryd.f85 (Tryd.f85.body.getD .skip) [.agg (encC x), .eref [.int .i64 d.1, .int .i64 d.2] 0, .eref (encT t) 0] (.bool (isDaysB d && isItemB x.r t)) := by
  have hp2 : -9223372036854775807 ≤ x.r.goods ∧ x.r.goods ≤ 9223372036854775807 := hp
  unfold Fn Tryd.f85
  simp only [go_sem, Nat.reduceAdd, Nat.reduceSub, Nat.reduceMul, Nat.reduceEqDiff, Nat.reduceLT, Nat.reduceLeDiff, Nat.reduceBEq, Nat.reduceBNe, Int.reduceToNat, Int.reduceLE, Int.reduceLT, Int.reduceNe, Int.reduceNeg, reduceCtorEq, Int.reduceBEq, Int.reduceBNe, @callV_spec E13 58 sIsDays rfl, @callV_specT E13 58 sIsDays rfl, @stepV_spec E13 58 sIsDays rfl, @effV_spec E13 58 sIsDays rfl, sIsDays, @callV_spec E13 81 s81 rfl, @callV_specT E13 81 s81 rfl, @stepV_spec E13 81 s81 rfl, @effV_spec E13 81 s81 rfl, s81, encC, encT, isDaysB, isNumB, isDayB, isIssB, isItemB, isFootB, hp2, hp2.1, hp2.2]
def s85 : Spec := spec3 (fun (x : Calc) (d : Rf (Int × Int)) (t : Rf (Item)) => gOk x.r.goods) (fun x d t => .bool (isDaysB d.v && isItemB x.r t.v))
theorem s85_ok : SpecOK Tryd.prog glB 85 s85 := spec3_ok E13_ok Tryd.func85 rfl (by kernel_rfl) fun x d t h => c85_fn x d.v t.v h
theorem c90_fn (x : Calc) (t : Item) (hp : gOk x.r.goods) : Fn E13 0 90 Tryd.f90 (Tryd.f90.body.getD .skip) [.agg (encC x), .eref (encT t) 0] (.bool (isItemB x.r t)) := by
  have hp2 : -9223372036854775807 ≤ x.r.goods ∧ x.r.goods ≤ 9223372036854775807 := hp
  unfold Fn Tryd.f90
  simp only [go_sem, Nat.reduceAdd, Nat.reduceSub, Nat.reduceMul, Nat.reduceEqDiff, Nat.reduceLT, Nat.reduceLeDiff, Nat.reduceBEq, Nat.reduceBNe, Int.reduceToNat, Int.reduceLE, Int.reduceLT, Int.reduceNe, Int.reduceNeg, reduceCtorEq, Int.reduceBEq, Int.reduceBNe, @callV_spec E13 81 s81 rfl, @callV_specT E13 81 s81 rfl, @stepV_spec E13 81 s81 rfl, @effV_spec E13 81 s81 rfl, s81, encC, encT, isDaysB, isNumB, isDayB, isIssB, isItemB, isFootB, hp2, hp2.1, hp2.2]
def s90 : Spec := spec2 (fun (x : Calc) (t : Rf (Item)) => gOk x.r.goods) (fun x t => .bool (isItemB x.r t.v))
theorem s90_ok : SpecOK Tryd.prog glB 90 s90 := spec2_ok E13_ok Tryd.func90 rfl (by kernel_rfl) fun x t h => c90_fn x t.v h
theorem c92_fn (x : Calc) (n : Int) (ls : List Line) (hp : gOk x.r.goods ∧ big ls.length) : Fn E13 0 92 Tryd.f92 (Tryd.f92.body.getD .skip) [.agg (encC x), .eref [.int .i64 n] 0, .eref [.sl (ls.map encL) false] 0] (.bool (isDayB n && areLinesB x.r.goods ls)) := by
  obtain ⟨hp1, hp2⟩ := hp
  unfold Fn Tryd.f92
  simp only [go_sem, Nat.reduceAdd, Nat.reduceSub, Nat.reduceMul, Nat.reduceEqDiff, Nat.reduceLT, Nat.reduceLeDiff, Nat.reduceBEq, Nat.reduceBNe, Int.reduceToNat, Int.reduceLE, Int.reduceLT, Int.reduceNe, Int.reduceNeg, reduceCtorEq, Int.reduceBEq, Int.reduceBNe, @callV_spec E13 66 sTween rfl, @callV_specT E13 66 sTween rfl, @stepV_spec E13 66 sTween rfl, @effV_spec E13 66 sTween rfl, sTween, @callV_spec E13 93 s93 rfl, @callV_specT E13 93 s93 rfl, @stepV_spec E13 93 s93 rfl, @effV_spec E13 93 s93 rfl, s93, encC, encT, isDaysB, isNumB, isDayB, isIssB, isItemB, isFootB, hp1, hp2, dec_lines]
def s92 : Spec := spec3 (fun (x : Calc) (n : Rf (Int)) (ls : Rf (List Line)) => gOk x.r.goods ∧ big ls.v.length) (fun x n ls => .bool (isDayB n.v && areLinesB x.r.goods ls.v))
theorem s92_ok : SpecOK Tryd.prog glB 92 s92 := spec3_ok E13_ok Tryd.func92 rfl (by kernel_rfl) fun x n ls h => c92_fn x n.v ls.v h
theorem c97_fn (x : Calc) (d : Int × Int) (ls : List Line) (hp : gOk x.r.goods ∧ big ls.length) : Fn E13 0 97 Tryd.f97 (Tryd.f97.body.getD .skip) [.agg (encC x), .eref [.int .i64 d.1, .int .i64 d.2] 0, .eref [.sl (ls.map encL) false] 0] (.bool (isDaysB d && areLinesB x.r.goods ls)) := by
  obtain ⟨hp1, hp2⟩ := hp
  unfold Fn Tryd.f97
  simp only [go_sem, Nat.reduceAdd, Nat.reduceSub, Nat.reduceMul, Nat.reduceEqDiff, Nat.reduceLT, Nat.reduceLeDiff, Nat.reduceBEq, Nat.reduceBNe, Int.reduceToNat, Int.reduceLE, Int.reduceLT, Int.reduceNe, Int.reduceNeg, reduceCtorEq, Int.reduceBEq, Int.reduceBNe, @callV_spec E13 58 sIsDays rfl, @callV_specT E13 58 sIsDays rfl, @stepV_spec E13 58 sIsDays rfl, @effV_spec E13 58 sIsDays rfl, sIsDays, @callV_spec E13 93 s93 rfl, @callV_specT E13 93 s93 rfl, @stepV_spec E13 93 s93 rfl, @effV_spec E13 93 s93 rfl, s93, encC, encT, isDaysB, isNumB, isDayB, isIssB, isItemB, isFootB, hp1, hp2, dec_lines]
def s97 : Spec := spec3 (fun (x : Calc) (d : Rf (Int × Int)) (ls : Rf (List Line)) => gOk x.r.goods ∧ big ls.v.length) (fun x d ls => .bool (isDaysB d.v && areLinesB x.r.goods ls.v))
theorem s97_ok : SpecOK Tryd.prog glB 97 s97 := spec3_ok E13_ok Tryd.func97 rfl (by kernel_rfl) fun x d ls h => c97_fn x d.v ls.v h
theorem c115_fn (x : Calc) (i n : Int) (d : Int × Int) (hp : big x.r.issues.length) : Fn E13 0 115 Tryd.f115 (Tryd.f115.body.getD .skip) [.agg (encC x), .eref [.int .i64 i] 0, .eref [.int .i64 n] 0, .eref [.int .i64 d.1, .int .i64 d.2] 0] (.bool (isIssB x.r i && isNumB n && isFootB d)) := by
  unfold Fn Tryd.f115
  simp only [go_sem, Nat.reduceAdd, Nat.reduceSub, Nat.reduceMul, Nat.reduceEqDiff, Nat.reduceLT, Nat.reduceLeDiff, Nat.reduceBEq, Nat.reduceBNe, Int.reduceToNat, Int.reduceLE, Int.reduceLT, Int.reduceNe, Int.reduceNeg, reduceCtorEq, Int.reduceBEq, Int.reduceBNe, @callV_spec E13 72 s72 rfl, @callV_specT E13 72 s72 rfl, @stepV_spec E13 72 s72 rfl, @effV_spec E13 72 s72 rfl, s72, @callV_spec E13 59 sIsNumber rfl, @callV_specT E13 59 sIsNumber rfl, @stepV_spec E13 59 sIsNumber rfl, @effV_spec E13 59 sIsNumber rfl, sIsNumber, @callV_spec E13 67 sProper rfl, @callV_specT E13 67 sProper rfl, @stepV_spec E13 67 sProper rfl, @effV_spec E13 67 sProper rfl, sProper, encC, encT, isDaysB, isNumB, isDayB, isIssB, isItemB, isFootB, hp]
def s115 : Spec := spec4 (fun (x : Calc) (i : Rf (Int)) (n : Rf (Int)) (d : Rf (Int × Int)) => big x.r.issues.length) (fun x i n d => .bool (isIssB x.r i.v && isNumB n.v && isFootB d.v))
theorem s115_ok : SpecOK Tryd.prog glB 115 s115 := spec4_ok E13_ok Tryd.func115 rfl (by kernel_rfl) fun x i n d h => c115_fn x i.v n.v d.v h
end Wb
/- A rack is opened. -/
namespace Wb
open Go Go.Proofs Enc Row
set_option linter.unusedSimpArgs false
set_option linter.unusedVariables false
set_option maxRecDepth 20000
set_option maxHeartbeats 4000000
def E14t : List (Nat × Spec) := [(57, s57), (71, s71), (75, s75), (80, s80), (85, s85), (90, s90), (92, s92), (97, s97), (115, s115)] ++ E13t
theorem E14t_ok : AllOK E14t := ⟨⟨s57_ok, Tryd.call57⟩, ⟨s71_ok, Tryd.call71⟩, ⟨s75_ok, Tryd.call75⟩, ⟨s80_ok, Tryd.call80⟩, ⟨s85_ok, Tryd.call85⟩, ⟨s90_ok, Tryd.call90⟩, ⟨s92_ok, Tryd.call92⟩, ⟨s97_ok, Tryd.call97⟩, ⟨s115_ok, Tryd.call115⟩, E13t_ok⟩
noncomputable def E14 : Env := mkM E14t [] Mt
theorem E14_ok : EnvOK Tryd.prog E14 := envMOK E14t_ok trivial Mt_ok
theorem E14_ti {t : Nat} : E14.ti t = ti t := rfl
theorem E14_q0 : (E14).eqt 152 = true := rfl
theorem E14_q1 : (E14).eqt 69 = true := rfl
theorem E14_q2 : (E14).keyt 3 = true := rfl
theorem E14_q3 : (E14).keyt 108 = true := rfl
attribute [go_sem] E14_ti E14_q0 E14_q1 E14_q2 E14_q3
abbrev Ents := List (List Int × PV)
def entsE (i : Int) : List Entry → Ents → Ents
  | [], m => m
  | e :: l, m => entsE i l (mset m [i, e.number] (.agg (encE e)))
def entsI : Nat → List Issue → Ents → Ents
  | _, [], m => m
  | i, y :: l, m => entsI (i + 1) l (entsE i y.entries m)
def ents (r : Rack) : Ents := entsI 0 r.issues []
theorem entsE_drop (i : Int) {l : List Entry} {j : Nat} (m : Ents) (h : j < l.length) : entsE i (l.drop j) m = entsE i (l.drop (j + 1)) (mset m [i, (l.getD j default).number] (.agg (encE (l.getD j default)))) := by
  have e : l.getD j default = l[j] := by simp [h]
  rw [e, List.drop_eq_getElem_cons h]; rfl
theorem entsI_drop {l : List Issue} {i : Nat} (m : Ents) (h : i < l.length) : entsI i (l.drop i) m = entsI (i + 1) (l.drop (i + 1)) (entsE i (l.getD i default).entries m) := by
  have e : l.getD i default = l[i] := by simp [h]
  rw [e, List.drop_eq_getElem_cons h]; rfl
def zeroC : PV := .agg [.int .i64 0, .sl [] true, .nilmap]
def openPV (r : Rack) (p : Rack → Bool) : PV :=
  if rackOk r then (if p r then .tup [.agg (encC ⟨r, ents r⟩), .int .i64 0] else .tup [zeroC, .int .i64 11]) else .tup [zeroC, .int .i64 10]
theorem callSpec_rack {s : Spec} {caps : List PV} {g : Int} {rs : List (List PV)} {K : Key} {v : Nat} {m : Ents} {ro : Bool} {pre : Prop} {b : Bool} {H : Heap} {Q : PV → Heap → Prop} (hal : allT caps) (hcl : caps.map clean = caps) (hfz : ∀ k : List PV → List Key → Prg PV, frzL (frz 8) caps k = k caps [])
    (hK : H K = some (.map true 2 m v ro)) (hp : s (.agg [.int .i64 g, .sl rs false, .mp true 2 m] :: caps) = some (pre, .bool b)) (h1 : pre) (hQ : Q (.bool b) H) :
    (callSpec s (.agg [.int .i64 g, .sl rs false, .mref K v] :: caps)).wp True Q H := by
  unfold callSpec untL
  refine ⟨fun _ => ⟨trivial, hal⟩, ?_⟩
  have e : (PV.agg [.int .i64 g, .sl rs false, .mref K v] :: caps).map clean = .agg [.int .i64 g, .sl rs false, .mref K v] :: caps := by rw [List.map_cons, hcl]; rfl
  rw [e]
  show (frz 8 (.agg [.int .i64 g, .sl rs false, .mref K v]) fun t ks => frzL (frz 8) caps fun ts ks' => _).wp True Q H
  simp only [hfz]
  show ((match H K with | some (.map ag kl es v' _) => Prg.chk (v = v') _ | _ => Prg.chk False (.ret default)) : Prg PV).wp True Q H
  rw [hK]
  refine ⟨fun _ => rfl, ?_⟩
  show (match s (.agg [.int .i64 g, .sl rs false, .mp true 2 m] :: caps) with | some (pre, r) => Prg.chk pre (if flat r then Prg.ret r else roAll _ (Prg.ret r)) | none => bad).wp True Q H
  rw [hp]
  exact ⟨fun _ => h1, hQ⟩
theorem opened_fn (r : Rack) (hr : okRack r) (g : Nat) (caps : List PV) (p : Rack → Bool) (s : Spec) (hs : E14.spec g = some s) (hal : allT caps) (hcl : caps.map clean = caps) (hfz : ∀ k : List PV → List Key → Prg PV, frzL (frz 8) caps k = k caps [])
    (pre : Prop) (hpre : rackOk r = true → pre) (hp : ∀ es : Ents, s (.agg (encC ⟨r, es⟩) :: caps) = some (pre, .bool (p r))) :
    Fn E14 0 56 Tryd.f56 (Tryd.f56.body.getD .skip) [.agg (encR r), .fn g [] caps] (openPV r p) := by
  have hr' := hr
  obtain ⟨hgo, hil, his⟩ := hr
  unfold Fn Tryd.f56
  simp only [go_sem, Nat.reduceAdd, Nat.reduceSub, Nat.reduceMul, Nat.reduceEqDiff, Nat.reduceLT, Nat.reduceLeDiff, Nat.reduceBEq, Nat.reduceBNe, Int.reduceToNat, Int.reduceLE, Int.reduceLT, Int.reduceNe, Int.reduceNeg, reduceCtorEq, Int.reduceBEq, Int.reduceBNe, @callV_spec E14 20 s20 rfl, @callV_specT E14 20 s20 rfl, @stepV_spec E14 20 s20 rfl, @effV_spec E14 20 s20 rfl, s20, encR, hr']
  rw [condK_bool]
  refine ⟨fun h => ?_, fun h => ?_⟩
  · have hk : rackOk r = false := by
      cases hk : rackOk r with
      | false => rfl
      | true => rw [hk] at h; simp at h
    simp only [go_sem, Nat.reduceAdd, Nat.reduceSub, Nat.reduceMul, Nat.reduceEqDiff, Nat.reduceLT, Nat.reduceLeDiff, Nat.reduceBEq, Nat.reduceBNe, Int.reduceToNat, Int.reduceLE, Int.reduceLT, Int.reduceNe, Int.reduceNeg, reduceCtorEq, Int.reduceBEq, Int.reduceBNe, @callV_spec E14 20 s20 rfl, @callV_specT E14 20 s20 rfl, @stepV_spec E14 20 s20 rfl, @effV_spec E14 20 s20 rfl, s20, encR, hk, openPV, zeroC]
  · have hk : rackOk r = true := by
      cases hk : rackOk r with
      | true => rfl
      | false => rw [hk] at h; simp at h
    have hp1 := hpre hk
    simp only [go_sem, Nat.reduceAdd, Nat.reduceSub, Nat.reduceMul, Nat.reduceEqDiff, Nat.reduceLT, Nat.reduceLeDiff, Nat.reduceBEq, Nat.reduceBNe, Int.reduceToNat, Int.reduceLE, Int.reduceLT, Int.reduceNe, Int.reduceNeg, reduceCtorEq, Int.reduceBEq, Int.reduceBNe, @callV_spec E14 20 s20 rfl, @callV_specT E14 20 s20 rfl, @stepV_spec E14 20 s20 rfl, @effV_spec E14 20 s20 rfl, s20, encR, hk]
    refine ev_loopS [1, 4, 7] (fun x : Nat => [(22, .sl (r.issues.map encI) false), (23, .int .i64 r.issues.length), (24, .int .i64 x)])
      (fun x H => x ≤ r.issues.length ∧ H (([], 56000001) : Key) = some (.cells [.int .i64 0, .sl [] true, .nilmap] 1 false) ∧ H (([], 56004003) : Key) = some (.cells [.int .i64 r.goods, .sl (r.issues.map encI) false, .mref ([], 56004001) 1] 1 false) ∧
        ∃ m : Ents, H (([], 56004001) : Key) = some (.map true 2 m 1 false) ∧ entsI x (r.issues.drop x) m = ents r)
      (fun x => r.issues.length - x) 0 ?_ ⟨Nat.zero_le _, ?_, ?_, [], ?_, rfl⟩ ?_
    · simp only [go_sem, Nat.reduceAdd, Nat.reduceSub, Nat.reduceMul, Nat.reduceEqDiff, Nat.reduceLT, Nat.reduceLeDiff, Nat.reduceBEq, Nat.reduceBNe, Int.reduceToNat, Int.reduceLE, Int.reduceLT, Int.reduceNe, Int.reduceNeg, reduceCtorEq, Int.reduceBEq, Int.reduceBNe]
    · simp only [go_sem, Nat.reduceAdd, Nat.reduceSub, Nat.reduceMul, Nat.reduceEqDiff, Nat.reduceLT, Nat.reduceLeDiff, Nat.reduceBEq, Nat.reduceBNe, Int.reduceToNat, Int.reduceLE, Int.reduceLT, Int.reduceNe, Int.reduceNeg, reduceCtorEq, Int.reduceBEq, Int.reduceBNe]
    · simp only [go_sem, Nat.reduceAdd, Nat.reduceSub, Nat.reduceMul, Nat.reduceEqDiff, Nat.reduceLT, Nat.reduceLeDiff, Nat.reduceBEq, Nat.reduceBNe, Int.reduceToNat, Int.reduceLE, Int.reduceLT, Int.reduceNe, Int.reduceNeg, reduceCtorEq, Int.reduceBEq, Int.reduceBNe]
    · simp only [go_sem, Nat.reduceAdd, Nat.reduceSub, Nat.reduceMul, Nat.reduceEqDiff, Nat.reduceLT, Nat.reduceLeDiff, Nat.reduceBEq, Nat.reduceBNe, Int.reduceToNat, Int.reduceLE, Int.reduceLT, Int.reduceNe, Int.reduceNeg, reduceCtorEq, Int.reduceBEq, Int.reduceBNe]
    · simp only [go_sem, Nat.reduceAdd, Nat.reduceSub, Nat.reduceMul, Nat.reduceEqDiff, Nat.reduceLT, Nat.reduceLeDiff, Nat.reduceBEq, Nat.reduceBNe, Int.reduceToNat, Int.reduceLE, Int.reduceLT, Int.reduceNe, Int.reduceNeg, reduceCtorEq, Int.reduceBEq, Int.reduceBNe]
      intro K i H ⟨hi, h1, h2, m, h3, hm⟩ hK hE
      rw [condK_bool]
      refine ⟨fun h => ?_, fun h => ?_⟩
      · have h' : i < r.issues.length := by simpa using h
        have hii : (i : Int) < (r.issues.length : Int) := by omega
        have hy : r.issues.getD i default ∈ r.issues := by simp [List.getD_eq_getElem?_getD, h']
        rw [entsI_drop m h'] at hm
        generalize hye : r.issues.getD i default = y at hy hm
        have hok := his y hy
        simp only [go_sem, Nat.reduceAdd, Nat.reduceSub, Nat.reduceMul, Nat.reduceEqDiff, Nat.reduceLT, Nat.reduceLeDiff, Nat.reduceBEq, Nat.reduceBNe, Int.reduceToNat, Int.reduceLE, Int.reduceLT, Int.reduceNe, Int.reduceNeg, reduceCtorEq, Int.reduceBEq, Int.reduceBNe, h1, h2, hii, getD_mapN encI r.issues i _ h', hye, encI]
        generalize hv9 : verOf H ([], 56007003) + 1 = v9
        refine ev_loopS [1, 4, 7, 8, 22, 23, 24, 30, 31] (fun x : Nat => [(32, .int .i64 x)])
          (fun x H => x ≤ y.entries.length ∧ H (([], 56000001) : Key) = some (.cells [.int .i64 0, .sl [] true, .nilmap] 1 false) ∧ H (([], 56004003) : Key) = some (.cells [.int .i64 r.goods, .sl (r.issues.map encI) false, .mref ([], 56004001) 1] 1 false) ∧
            ∃ m : Ents, H (([], 56004001) : Key) = some (.map true 2 m 1 false) ∧ entsI (i + 1) (r.issues.drop (i + 1)) (entsE i (y.entries.drop x) m) = ents r)
          (fun x => y.entries.length - x) 0 ?_ ⟨Nat.zero_le _, ?_, ?_, m, ?_, hm⟩ ?_
        · simp only [go_sem, Nat.reduceAdd, Nat.reduceSub, Nat.reduceMul, Nat.reduceEqDiff, Nat.reduceLT, Nat.reduceLeDiff, Nat.reduceBEq, Nat.reduceBNe, Int.reduceToNat, Int.reduceLE, Int.reduceLT, Int.reduceNe, Int.reduceNeg, reduceCtorEq, Int.reduceBEq, Int.reduceBNe]
        · simp only [go_sem, Nat.reduceAdd, Nat.reduceSub, Nat.reduceMul, Nat.reduceEqDiff, Nat.reduceLT, Nat.reduceLeDiff, Nat.reduceBEq, Nat.reduceBNe, Int.reduceToNat, Int.reduceLE, Int.reduceLT, Int.reduceNe, Int.reduceNeg, reduceCtorEq, Int.reduceBEq, Int.reduceBNe, h1]
        · simp only [go_sem, Nat.reduceAdd, Nat.reduceSub, Nat.reduceMul, Nat.reduceEqDiff, Nat.reduceLT, Nat.reduceLeDiff, Nat.reduceBEq, Nat.reduceBNe, Int.reduceToNat, Int.reduceLE, Int.reduceLT, Int.reduceNe, Int.reduceNeg, reduceCtorEq, Int.reduceBEq, Int.reduceBNe, h2]
        · simp only [go_sem, Nat.reduceAdd, Nat.reduceSub, Nat.reduceMul, Nat.reduceEqDiff, Nat.reduceLT, Nat.reduceLeDiff, Nat.reduceBEq, Nat.reduceBNe, Int.reduceToNat, Int.reduceLE, Int.reduceLT, Int.reduceNe, Int.reduceNeg, reduceCtorEq, Int.reduceBEq, Int.reduceBNe, h3]
        · simp only [go_sem, Nat.reduceAdd, Nat.reduceSub, Nat.reduceMul, Nat.reduceEqDiff, Nat.reduceLT, Nat.reduceLeDiff, Nat.reduceBEq, Nat.reduceBNe, Int.reduceToNat, Int.reduceLE, Int.reduceLT, Int.reduceNe, Int.reduceNeg, reduceCtorEq, Int.reduceBEq, Int.reduceBNe]
          intro K2 j H2 ⟨hj, g1, g2, m2, g3, gm⟩ hK2 hE2
          rw [condK_bool]
          refine ⟨fun h => ?_, fun h => ?_⟩
          · have hj' : j < y.entries.length := by simpa using h
            have hjj : (j : Int) < (y.entries.length : Int) := by omega
            have w2 : IntKind.i64.wrap ((j : Int) + 1) = (j : Int) + 1 := wrap_id (by have := hok.2.2.2.1; omega)
            rw [entsE_drop _ m2 hj'] at gm
            generalize hee : y.entries.getD j default = e at *
            simp only [go_sem, Nat.reduceAdd, Nat.reduceSub, Nat.reduceMul, Nat.reduceEqDiff, Nat.reduceLT, Nat.reduceLeDiff, Nat.reduceBEq, Nat.reduceBNe, Int.reduceToNat, Int.reduceLE, Int.reduceLT, Int.reduceNe, Int.reduceNeg, reduceCtorEq, Int.reduceBEq, Int.reduceBNe, g1, g2, g3, hjj, getD_mapN encE y.entries j _ hj', hee, encE, mapPut, keyOf, ints, w2]
            refine hK2 (j + 1) _ _ ?_ ⟨hj', ?_, ?_, mset m2 [(i : Int), e.number] (.agg (encE e)), ?_, gm⟩ (by omega)
            · simp only [go_sem, Nat.reduceAdd, Nat.reduceSub, Nat.reduceMul, Nat.reduceEqDiff, Nat.reduceLT, Nat.reduceLeDiff, Nat.reduceBEq, Nat.reduceBNe, Int.reduceToNat, Int.reduceLE, Int.reduceLT, Int.reduceNe, Int.reduceNeg, reduceCtorEq, Int.reduceBEq, Int.reduceBNe, Int.natCast_add, Int.natCast_one]
            · simp only [go_sem, Nat.reduceAdd, Nat.reduceSub, Nat.reduceMul, Nat.reduceEqDiff, Nat.reduceLT, Nat.reduceLeDiff, Nat.reduceBEq, Nat.reduceBNe, Int.reduceToNat, Int.reduceLE, Int.reduceLT, Int.reduceNe, Int.reduceNeg, reduceCtorEq, Int.reduceBEq, Int.reduceBNe, g1]
            · simp only [go_sem, Nat.reduceAdd, Nat.reduceSub, Nat.reduceMul, Nat.reduceEqDiff, Nat.reduceLT, Nat.reduceLeDiff, Nat.reduceBEq, Nat.reduceBNe, Int.reduceToNat, Int.reduceLE, Int.reduceLT, Int.reduceNe, Int.reduceNeg, reduceCtorEq, Int.reduceBEq, Int.reduceBNe, g2]
            · simp only [go_sem, Nat.reduceAdd, Nat.reduceSub, Nat.reduceMul, Nat.reduceEqDiff, Nat.reduceLT, Nat.reduceLeDiff, Nat.reduceBEq, Nat.reduceBNe, Int.reduceToNat, Int.reduceLE, Int.reduceLT, Int.reduceNe, Int.reduceNeg, reduceCtorEq, Int.reduceBEq, Int.reduceBNe, encE]
          · have hj' : j = y.entries.length := by have : ¬ ((j : Int) < (y.entries.length : Int)) := by simpa using h
                                                  omega
            subst hj'
            refine hE2 _ _ _ (by simp) ?_
            have w2 : IntKind.i64.wrap ((i : Int) + 1) = (i : Int) + 1 := wrap_id (by omega)
            simp only [go_sem, Nat.reduceAdd, Nat.reduceSub, Nat.reduceMul, Nat.reduceEqDiff, Nat.reduceLT, Nat.reduceLeDiff, Nat.reduceBEq, Nat.reduceBNe, Int.reduceToNat, Int.reduceLE, Int.reduceLT, Int.reduceNe, Int.reduceNeg, reduceCtorEq, Int.reduceBEq, Int.reduceBNe, w2]
            refine hK (i + 1) _ _ ?_ ⟨h', g1, g2, m2, g3, ?_⟩ (by omega)
            · simp only [go_sem, Nat.reduceAdd, Nat.reduceSub, Nat.reduceMul, Nat.reduceEqDiff, Nat.reduceLT, Nat.reduceLeDiff, Nat.reduceBEq, Nat.reduceBNe, Int.reduceToNat, Int.reduceLE, Int.reduceLT, Int.reduceNe, Int.reduceNeg, reduceCtorEq, Int.reduceBEq, Int.reduceBNe, Int.natCast_add, Int.natCast_one]
            · simpa [entsE] using gm
      · have h' : i = r.issues.length := by have : ¬ ((i : Int) < (r.issues.length : Int)) := by simpa using h
                                            omega
        subst h'
        simp only [List.drop_length, entsI] at hm
        subst hm
        have hps := hp (ents r)
        simp only [encC] at hps
        refine hE _ _ _ (by simp) ?_
        simp only [go_sem, Nat.reduceAdd, Nat.reduceSub, Nat.reduceMul, Nat.reduceEqDiff, Nat.reduceLT, Nat.reduceLeDiff, Nat.reduceBEq, Nat.reduceBNe, Int.reduceToNat, Int.reduceLE, Int.reduceLT, Int.reduceNe, Int.reduceNeg, reduceCtorEq, Int.reduceBEq, Int.reduceBNe, h1, h2, h3, @callV_spec E14 g s hs]
        refine callSpec_rack hal hcl hfz h3 hps hp1 ?_
        simp only [go_sem, Nat.reduceAdd, Nat.reduceSub, Nat.reduceMul, Nat.reduceEqDiff, Nat.reduceLT, Nat.reduceLeDiff, Nat.reduceBEq, Nat.reduceBNe, Int.reduceToNat, Int.reduceLE, Int.reduceLT, Int.reduceNe, Int.reduceNeg, reduceCtorEq, Int.reduceBEq, Int.reduceBNe]
        rw [condK_bool]
        refine ⟨fun h => ?_, fun h => ?_⟩
        · have hpr : p r = false := by simpa using h
          simp only [go_sem, Nat.reduceAdd, Nat.reduceSub, Nat.reduceMul, Nat.reduceEqDiff, Nat.reduceLT, Nat.reduceLeDiff, Nat.reduceBEq, Nat.reduceBNe, Int.reduceToNat, Int.reduceLE, Int.reduceLT, Int.reduceNe, Int.reduceNeg, reduceCtorEq, Int.reduceBEq, Int.reduceBNe, h1, h2, h3, openPV, hk, hpr, zeroC]
        · have hpr : p r = true := by simpa using h
          simp only [go_sem, Nat.reduceAdd, Nat.reduceSub, Nat.reduceMul, Nat.reduceEqDiff, Nat.reduceLT, Nat.reduceLeDiff, Nat.reduceBEq, Nat.reduceBNe, Int.reduceToNat, Int.reduceLE, Int.reduceLT, Int.reduceNe, Int.reduceNeg, reduceCtorEq, Int.reduceBEq, Int.reduceBNe, h1, h2, h3, openPV, hk, hpr, encC]
end Wb
/- A rack that is right; opened's specification. -/
namespace Wb
open Go Go.Proofs Enc Row
set_option linter.unusedSimpArgs false
set_option linter.unusedVariables false
set_option maxRecDepth 20000
set_option maxHeartbeats 4000000
structure GFit (f : Fit) : Prop where
  size : 1 ≤ f.size ∧ f.size ≤ 99
  foot : 1 ≤ f.lo ∧ f.lo ≤ f.hi ∧ f.hi ≤ 400
  price : 1 ≤ f.price ∧ f.price ≤ 100000
structure GEntry (g : Int) (e : Entry) : Prop where
  number : 1 ≤ e.number ∧ e.number ≤ 9999
  good : 0 ≤ e.good ∧ e.good ≤ g - 1
  colours : 1 ≤ e.colours ∧ e.colours ≤ 15
  sizes : 1 ≤ e.sizes.length ∧ e.sizes.length ≤ 8
  fits : ∀ f ∈ e.sizes, GFit f
  rising : (e.sizes.map (·.size)).Pairwise (· < ·)
structure GIssue (g : Int) (y : Issue) : Prop where
  days : 0 ≤ y.lo ∧ y.lo ≤ y.hi ∧ y.hi ≤ 20000
  held : y.lo ≤ y.held ∧ y.held ≤ 20000
  len : y.entries.length ≤ 24
  entries : ∀ e ∈ y.entries, GEntry g e
  numbers : (y.entries.map (·.number)).Nodup
  goods : (y.entries.map (·.good)).Nodup
structure GRack (r : Rack) : Prop where
  goods : 1 ≤ r.goods ∧ r.goods ≤ 24
  len : 1 ≤ r.issues.length ∧ r.issues.length ≤ 4
  issues : ∀ y ∈ r.issues, GIssue r.goods y
theorem fitsOk_good : ∀ (last : Int) (l : List Fit), 0 ≤ last → fitsOk last l = true → (∀ f ∈ l, GFit f ∧ last < f.size) ∧ (l.map (·.size)).Pairwise (· < ·)
  | _, [], _, _ => ⟨(fun f h => by cases h), List.Pairwise.nil⟩
  | last, f :: l, h0, h => by
    simp only [fitsOk, fitOk, Bool.and_eq_true, decide_eq_true_eq] at h
    obtain ⟨h1, h2⟩ := h
    obtain ⟨h3, h4⟩ := fitsOk_good f.size l (by omega) h2
    refine ⟨fun a ha => ?_, ?_⟩
    · rcases List.mem_cons.1 ha with e | e
      · subst e; exact ⟨⟨by omega, by omega, by omega⟩, by omega⟩
      · exact ⟨(h3 a e).1, by have := (h3 a e).2; omega⟩
    · rw [List.map_cons, List.pairwise_cons]
      refine ⟨fun s hs => ?_, h4⟩
      obtain ⟨a, ha, rfl⟩ := List.mem_map.1 hs
      exact (h3 a ha).2
theorem entryOk_good {g : Int} {e : Entry} (h : isEntryOk g e = true) : GEntry g e := by
  simp only [isEntryOk, isEntryB, Bool.and_eq_true, decide_eq_true_eq] at h
  obtain ⟨h1, h2⟩ := h
  obtain ⟨h3, h4⟩ := fitsOk_good 0 e.sizes (by omega) h2
  exact ⟨by omega, by omega, by omega, by omega, fun f hf => (h3 f hf).1, h4⟩
theorem entriesOk_good (g : Int) : ∀ (l : List Entry) (ns gs : List Int), entriesOk g ns gs l = true → (∀ e ∈ l, GEntry g e ∧ e.number ∉ ns ∧ e.good ∉ gs) ∧ (l.map (·.number)).Nodup ∧ (l.map (·.good)).Nodup
  | [], _, _, _ => ⟨(fun e h => by cases h), List.nodup_nil, List.nodup_nil⟩
  | e :: l, ns, gs, h => by
    simp only [entriesOk, findI_neg, ← isEntry_eq, Bool.and_eq_true, Bool.not_eq_true', decide_eq_false_iff_not] at h
    obtain ⟨⟨⟨h1, h2⟩, h3⟩, h4⟩ := h
    obtain ⟨h5, h6, h7⟩ := entriesOk_good g l _ _ h4
    refine ⟨fun a ha => ?_, ?_, ?_⟩
    · rcases List.mem_cons.1 ha with e' | e'
      · subst e'; exact ⟨entryOk_good h1, h2, h3⟩
      · obtain ⟨k1, k2, k3⟩ := h5 a e'
        exact ⟨k1, fun h => k2 (by simp [h]), fun h => k3 (by simp [h])⟩
    · rw [List.map_cons, List.nodup_cons]
      refine ⟨fun hm => ?_, h6⟩
      obtain ⟨a, ha, he⟩ := List.mem_map.1 hm
      exact (h5 a ha).2.1 (by simp [he])
    · rw [List.map_cons, List.nodup_cons]
      refine ⟨fun hm => ?_, h7⟩
      obtain ⟨a, ha, he⟩ := List.mem_map.1 hm
      exact (h5 a ha).2.2 (by simp [he])
theorem rack_good {r : Rack} (h : rackOk r = true) : GRack r := by
  simp only [rackOk, Bool.and_eq_true, decide_eq_true_eq, List.all_eq_true] at h
  obtain ⟨⟨h1, h2⟩, h3⟩ := h
  refine ⟨h1, by omega, fun y hy => ?_⟩
  have h4 := h3 y hy
  rw [issueOk_eq] at h4
  simp only [issuePre, Bool.and_eq_true, decide_eq_true_eq] at h4
  obtain ⟨h5, h6⟩ := h4
  obtain ⟨h7, h8, h9⟩ := entriesOk_good _ _ _ _ h6
  exact ⟨by omega, by omega, by omega, fun e he => (h7 e he).1, h8, h9⟩
theorem GRack.sane {r : Rack} (h : GRack r) : Sane r :=
  ⟨h.len.2, fun y hy => (h.issues y hy).len, fun y hy e he => by have := ((h.issues y hy).entries e he).sizes.2; unfold big; omega⟩
theorem GRack.gOk {r : Rack} (h : GRack r) : gOk r.goods := by have := h.goods; unfold Wb.gOk; omega
theorem leastF_mem : ∀ (l : List Int) (a : Int), leastF a l = a ∨ leastF a l ∈ l
  | [], a => .inl rfl
  | b :: l, a => by
    rw [leastF]
    rcases leastF_mem l (if b < a then b else a) with h | h
    · rw [h]; split
      · exact .inr (by simp)
      · exact .inl rfl
    · exact .inr (by simp [h])
theorem GRack.cents {r : Rack} (h : GRack r) : cents r := fun on x n hn => by
  unfold priceP at hn
  split at hn
  · cases hn
  · rename_i a l ho
    cases hn
    have hall : ∀ m ∈ offers on x r.issues, 1 ≤ m ∧ m ≤ 100000 := fun m hm => by
      unfold offers at hm
      simp only [List.mem_filterMap, List.mem_filter] at hm
      obtain ⟨y, ⟨hy, _⟩, hi⟩ := hm
      unfold inP at hi
      split at hi
      · rename_i e he
        split at hi
        · simp only [Option.map_eq_some_iff] at hi
          obtain ⟨f, hf, rfl⟩ := hi
          exact (((h.issues y hy).entries e (entryOf_mem he).1).fits f (List.mem_of_find?_eq_some hf)).price
        · cases hi
      · cases hi
    rw [ho] at hall
    rcases leastF_mem (a :: l) a with e | e
    · rw [e]; exact hall a (by simp)
    · exact hall _ e
def predO : Nat → List PV → Option ((Rack → Bool) × Prop)
  | 57, [.eref [.int .i64 a, .int .i64 b] 0, .eref [.int .i64 n] 0] => some (fun _ => isDaysB (a, b) && isNumB n, True)
  | 71, [.eref [.int .i64 i] 0, .eref [.int .i64 j] 0, .eref [.int .i64 n] 0] => some (fun r => isIssB r i && isIssB r j && isNumB n, True)
  | 75, [.eref [.int .i64 n] 0] => some (fun _ => isDayB n, True)
  | 80, [.eref [.int .i64 n] 0, .eref [.int .i64 a, .int .i64 b, .int .i64 c] 0] => some (fun r => isDayB n && isItemB r ⟨a, b, c⟩, True)
  | 85, [.eref [.int .i64 d, .int .i64 e] 0, .eref [.int .i64 a, .int .i64 b, .int .i64 c] 0] => some (fun r => isDaysB (d, e) && isItemB r ⟨a, b, c⟩, True)
  | 90, [.eref [.int .i64 a, .int .i64 b, .int .i64 c] 0] => some (fun r => isItemB r ⟨a, b, c⟩, True)
  | 92, [.eref [.int .i64 n] 0, .eref [.sl rs _] 0] => (dL dLn rs).map fun ls => (fun r => isDayB n && areLinesB r.goods ls, big ls.length)
  | 97, [.eref [.int .i64 a, .int .i64 b] 0, .eref [.sl rs _] 0] => (dL dLn rs).map fun ls => (fun r => isDaysB (a, b) && areLinesB r.goods ls, big ls.length)
  | 115, [.eref [.int .i64 i] 0, .eref [.int .i64 n] 0, .eref [.int .i64 a, .int .i64 b] 0] => some (fun r => isIssB r i && isNumB n && isFootB (a, b), True)
  | _, _ => none
def s56 : Spec := fun args => match args with
  | [p, .fn g [] cap] => match (dec p : Option Rack), predO g cap with
    | some r, some q => some (okRack r ∧ q.2, openPV r q.1)
    | _, _ => none
  | _ => none
theorem s56_ok : SpecOK Tryd.prog glB 56 s56 := specOK_of E14_ok Tryd.func56 (by kernel_rfl) fun args pre v h hp => by
  unfold s56 at h
  split at h
  · split at h
    · rename_i p g cap r q hr hq
      cases h
      obtain ⟨hok, hq2⟩ := hp
      unfold predO at hq
      split at hq
      · cases hq
        exact ⟨[.agg (encR r), .fn 57 [] _], _, ⟨Enc.wk_dec (α := Rack) _ _ hr, wk_refl _, trivial⟩, rfl, opened_fn r hok 57 _ _ s57 rfl (by simp only [allT, taint, and_self]) rfl (fun k => rfl) (True) (fun _ => trivial) (fun es => by simp only [s57, spec3, encC, dec_calc, dec_rspan, dec_rint])⟩
      · cases hq
        exact ⟨[.agg (encR r), .fn 71 [] _], _, ⟨Enc.wk_dec (α := Rack) _ _ hr, wk_refl _, trivial⟩, rfl, opened_fn r hok 71 _ _ s71 rfl (by simp only [allT, taint, and_self]) rfl (fun k => rfl) (big r.issues.length) (fun h => by have := (rack_good h).len.2; unfold big; omega) (fun es => by simp only [s71, spec4, encC, dec_calc, dec_rint])⟩
      · cases hq
        exact ⟨[.agg (encR r), .fn 75 [] _], _, ⟨Enc.wk_dec (α := Rack) _ _ hr, wk_refl _, trivial⟩, rfl, opened_fn r hok 75 _ _ s75 rfl (by simp only [allT, taint, and_self]) rfl (fun k => rfl) (True) (fun _ => trivial) (fun es => by simp only [s75, spec2, encC, dec_calc, dec_rint])⟩
      · cases hq
        exact ⟨[.agg (encR r), .fn 80 [] _], _, ⟨Enc.wk_dec (α := Rack) _ _ hr, wk_refl _, trivial⟩, rfl, opened_fn r hok 80 _ _ s80 rfl (by simp only [allT, taint, and_self]) rfl (fun k => rfl) (gOk r.goods) (fun h => (rack_good h).gOk) (fun es => by simp only [s80, spec3, encC, dec_calc, dec_rint, dec_ritem])⟩
      · cases hq
        exact ⟨[.agg (encR r), .fn 85 [] _], _, ⟨Enc.wk_dec (α := Rack) _ _ hr, wk_refl _, trivial⟩, rfl, opened_fn r hok 85 _ _ s85 rfl (by simp only [allT, taint, and_self]) rfl (fun k => rfl) (gOk r.goods) (fun h => (rack_good h).gOk) (fun es => by simp only [s85, spec3, encC, dec_calc, dec_rspan, dec_ritem])⟩
      · cases hq
        exact ⟨[.agg (encR r), .fn 90 [] _], _, ⟨Enc.wk_dec (α := Rack) _ _ hr, wk_refl _, trivial⟩, rfl, opened_fn r hok 90 _ _ s90 rfl (by simp only [allT, taint, and_self]) rfl (fun k => rfl) (gOk r.goods) (fun h => (rack_good h).gOk) (fun es => by simp only [s90, spec2, encC, dec_calc, dec_ritem])⟩
      · simp only [Option.map_eq_some_iff] at hq
        obtain ⟨ls, h2, rfl⟩ := hq
        exact ⟨[.agg (encR r), .fn 92 [] [.eref [.int .i64 _] 0, .eref [.sl (ls.map encL) false] 0]], _, ⟨Enc.wk_dec (α := Rack) _ _ hr, ⟨rfl, trivial, ⟨wkL_refl _, rfl⟩, ⟨⟨⟨dL_wk (f := dLn) (enc := encL) (fun r a h => Row.wk_drow (α := Line) r a h) h2, fun h => by cases h⟩, trivial⟩, rfl⟩, trivial⟩, trivial⟩, rfl, opened_fn r hok 92 _ _ s92 rfl (by simp only [allT, taint, and_self]) rfl (fun k => rfl) (gOk r.goods ∧ big ls.length) (fun h => ⟨(rack_good h).gOk, hq2⟩) (fun es => by simp only [s92, spec3, encC, dec_calc, dec_rint, dec_rlines])⟩
      · simp only [Option.map_eq_some_iff] at hq
        obtain ⟨ls, h2, rfl⟩ := hq
        exact ⟨[.agg (encR r), .fn 97 [] [.eref [.int .i64 _, .int .i64 _] 0, .eref [.sl (ls.map encL) false] 0]], _, ⟨Enc.wk_dec (α := Rack) _ _ hr, ⟨rfl, trivial, ⟨wkL_refl _, rfl⟩, ⟨⟨⟨dL_wk (f := dLn) (enc := encL) (fun r a h => Row.wk_drow (α := Line) r a h) h2, fun h => by cases h⟩, trivial⟩, rfl⟩, trivial⟩, trivial⟩, rfl, opened_fn r hok 97 _ _ s97 rfl (by simp only [allT, taint, and_self]) rfl (fun k => rfl) (gOk r.goods ∧ big ls.length) (fun h => ⟨(rack_good h).gOk, hq2⟩) (fun es => by simp only [s97, spec3, encC, dec_calc, dec_rspan, dec_rlines])⟩
      · cases hq
        exact ⟨[.agg (encR r), .fn 115 [] _], _, ⟨Enc.wk_dec (α := Rack) _ _ hr, wk_refl _, trivial⟩, rfl, opened_fn r hok 115 _ _ s115 rfl (by simp only [allT, taint, and_self]) rfl (fun k => rfl) (big r.issues.length) (fun h => by have := (rack_good h).len.2; unfold big; omega) (fun es => by simp only [s115, spec4, encC, dec_calc, dec_rint, dec_rspan])⟩
      · cases hq
    · cases h
  · cases h
end Wb
