import Derived.Test.YtjdljckgphbkmaaDoorB
import Derived.Test.YtjdljckgphbkmaaDoorProg
import Derived.ChangeKeysEq
import Derived.Test.YtjdljckgphbkmaaDoorO
set_option linter.unusedVariables false
set_option linter.unusedSimpArgs false
/- MADE BY PROGRAM (types.py): the type table, and that it is right. -/
namespace Wb
open Go Go.Proofs
def zrep : PV → Value → Bool
  | .int k n, .int k' n' => k == k' && n == n'
  | .bool b, .bool b' => b == b'
  | .nilfn, .nilFunc => true
  | .nilmap, .map none => true
  | .nilptr, .pointer none => true
  | .sl [] true, .slice none 0 0 => true
  | _, _ => false
def zreps : List PV → List Value → Bool
  | [], [] => true
  | p :: ps, x :: xs => zrep p x && zreps ps xs
  | _, _ => false
theorem zrep_rep {w : World} {Z : Nat → Prop} {C : Ctx} {p : PV} {x : Value} (h : zrep p x = true) : Rep w Z C p x := by
  unfold zrep at h
  split at h
  · simp at h; obtain ⟨rfl, rfl⟩ := h; exact .int
  · simp at h; subst h; exact .bool
  · exact .nilfn
  · exact .nilmap
  · exact .nilptr
  · exact .sl 0 0 0 (fun _ _ => Go.undef) rfl (Nat.le_refl _) (fun _ => rfl) (fun h => absurd rfl h) (fun _ h => by cases h) (fun i row j p a => by simp at a) (fun i row j p a => by simp at a)
  · cases h
theorem zreps_rep {w : World} {Z : Nat → Prop} {C : Ctx} : ∀ {ps : List PV} {xs : List Value}, zreps ps xs = true → RepS w Z C ps xs
  | [], [], _ => trivial
  | p :: ps, x :: xs, h => by simp [zreps] at h; exact ⟨zrep_rep h.1, zreps_rep h.2⟩
  | [], x :: xs, h => by simp [zreps] at h
  | p :: ps, [], h => by simp [zreps] at h
theorem tiok_mk {P : Program} {t : Nat} {x : TI} {d : TypeDesc} {i : TypeInfo} {z : Value} (hd : x.kind.isAgg = (d matches .struct _ | .array _ _)) (hu : P.underlying t = some d) (hi : P.info? t = some i) (hk : KindOK P t x.kind) (hs : i.size = x.size) (hb : i.bytes = x.bytes)
    (hz : i.zero = some z) (hc : z.cells.size = x.size) (hr : zreps x.zero z.cells.toList = true) (ha : x.kind.isAgg = true → ∃ arr, z = .agg arr) (hn : x.kind.isAgg = false → z.cells = #[z] ∧ x.size = 1) : TIok P t x where
  kind := hk
  info := fun _ => ⟨i, z, hi, hs, hb, hz, hc, fun w Z C => by have := (zreps_rep (w := w) (Z := Z) (C := C) hr).l; simpa using this, ha, hn⟩
  agg := fun _ => ⟨d, hu, hd⟩
theorem tiok_bad {P : Program} {t : Nat} : TIok P t default := ⟨trivial, fun h => absurd h (Nat.lt_irrefl 0), fun h => absurd h (Nat.lt_irrefl 0)⟩
def ti : Nat → TI
  | 1 => { kind := .scal, size := 1, bytes := 8, zero := [.nilfn] }
  | 2 => { kind := .scal, size := 1, bytes := 8, zero := [.int .i64 0] }
  | 3 => { kind := .scal, size := 1, bytes := 8, zero := [.int .i64 0] }
  | 4 => { kind := .boolk, size := 1, bytes := 1, zero := [.bool false] }
  | 5 => { kind := .scal, size := 1, bytes := 1, zero := [.int .u8 0] }
  | 6 => { kind := .scal, size := 1, bytes := 1, zero := [.int .u8 0] }
  | 7 => { kind := .struct [0, 1, 2, 3] [2, 3, 4, 6], size := 4, bytes := 24, zero := [.int .i64 0, .int .i64 0, .bool false, .int .u8 0] }
  | 8 => { kind := .struct [0, 1, 2, 3] [2, 3, 4, 6], size := 4, bytes := 24, zero := [.int .i64 0, .int .i64 0, .bool false, .int .u8 0] }
  | 12 => { kind := .scal, size := 1, bytes := 8, zero := [.int .u64 0] }
  | 15 => { kind := .scal, size := 1, bytes := 8, zero := [.nilptr] }
  | 16 => { kind := .scal, size := 1, bytes := 8, zero := [.nilptr] }
  | 17 => { kind := .scal, size := 1, bytes := 8, zero := [.nilptr] }
  | 18 => { kind := .struct [0] [17], size := 1, bytes := 8, zero := [.nilptr] }
  | 19 => { kind := .struct [0] [17], size := 1, bytes := 8, zero := [.nilptr] }
  | 21 => { kind := .scal, size := 1, bytes := 4, zero := [.int .i32 0] }
  | 22 => { kind := .slice 79, size := 1, bytes := 24, zero := [.sl [] true] }
  | 23 => { kind := .slice 71, size := 1, bytes := 24, zero := [.sl [] true] }
  | 24 => { kind := .slice 3, size := 1, bytes := 24, zero := [.sl [] true] }
  | 25 => { kind := .struct [0, 1, 2, 3, 4, 5, 6] [22, 23, 3, 3, 3, 3, 24], size := 7, bytes := 104, zero := [.sl [] true, .sl [] true, .int .i64 0, .int .i64 0, .int .i64 0, .int .i64 0, .sl [] true] }
  | 26 => { kind := .struct [0, 1, 2, 3, 4, 5, 6] [22, 23, 3, 3, 3, 3, 24], size := 7, bytes := 104, zero := [.sl [] true, .sl [] true, .int .i64 0, .int .i64 0, .int .i64 0, .int .i64 0, .sl [] true] }
  | 27 => { kind := .struct [0, 1] [3, 24], size := 2, bytes := 32, zero := [.int .i64 0, .sl [] true] }
  | 28 => { kind := .struct [0, 1] [3, 24], size := 2, bytes := 32, zero := [.int .i64 0, .sl [] true] }
  | 29 => { kind := .scal, size := 1, bytes := 8, zero := [.int .i64 0] }
  | 31 => { kind := .scal, size := 1, bytes := 8, zero := [.nilfn] }
  | 32 => { kind := .scal, size := 1, bytes := 8, zero := [.nilfn] }
  | 34 => { kind := .scal, size := 1, bytes := 8, zero := [.nilfn] }
  | 36 => { kind := .scal, size := 1, bytes := 8, zero := [.nilfn] }
  | 37 => { kind := .scal, size := 1, bytes := 8, zero := [.nilfn] }
  | 38 => { kind := .scal, size := 1, bytes := 8, zero := [.nilfn] }
  | 39 => { kind := .scal, size := 1, bytes := 8, zero := [.nilfn] }
  | 40 => { kind := .slice 28, size := 1, bytes := 24, zero := [.sl [] true] }
  | 41 => { kind := .scal, size := 1, bytes := 8, zero := [.nilfn] }
  | 42 => { kind := .scal, size := 1, bytes := 8, zero := [.nilfn] }
  | 43 => { kind := .scal, size := 1, bytes := 8, zero := [.nilfn] }
  | 45 => { kind := .scal, size := 1, bytes := 8, zero := [.nilfn] }
  | 47 => { kind := .scal, size := 1, bytes := 8, zero := [.nilfn] }
  | 48 => { kind := .scal, size := 1, bytes := 8, zero := [.nilfn] }
  | 49 => { kind := .scal, size := 1, bytes := 8, zero := [.nilfn] }
  | 50 => { kind := .scal, size := 1, bytes := 8, zero := [.nilfn] }
  | 51 => { kind := .scal, size := 1, bytes := 8, zero := [.nilfn] }
  | 52 => { kind := .scal, size := 1, bytes := 8, zero := [.nilfn] }
  | 53 => { kind := .scal, size := 1, bytes := 8, zero := [.nilfn] }
  | 54 => { kind := .scal, size := 1, bytes := 8, zero := [.nilfn] }
  | 55 => { kind := .scal, size := 1, bytes := 8, zero := [.nilfn] }
  | 57 => { kind := .scal, size := 1, bytes := 8, zero := [.nilfn] }
  | 58 => { kind := .scal, size := 1, bytes := 8, zero := [.nilfn] }
  | 59 => { kind := .scal, size := 1, bytes := 8, zero := [.nilfn] }
  | 60 => { kind := .scal, size := 1, bytes := 8, zero := [.nilfn] }
  | 61 => { kind := .scal, size := 1, bytes := 8, zero := [.nilfn] }
  | 62 => { kind := .arr 3 3, size := 3, bytes := 24, zero := [.int .i64 0, .int .i64 0, .int .i64 0] }
  | 63 => { kind := .scal, size := 1, bytes := 8, zero := [.nilfn] }
  | 64 => { kind := .scal, size := 1, bytes := 8, zero := [.nilfn] }
  | 65 => { kind := .scal, size := 1, bytes := 8, zero := [.nilfn] }
  | 66 => { kind := .scal, size := 1, bytes := 8, zero := [.nilfn] }
  | 67 => { kind := .arr 4 3, size := 4, bytes := 32, zero := [.int .i64 0, .int .i64 0, .int .i64 0, .int .i64 0] }
  | 68 => { kind := .scal, size := 1, bytes := 8, zero := [.nilfn] }
  | 69 => { kind := .scal, size := 1, bytes := 8, zero := [.nilfn] }
  | 70 => { kind := .struct [0, 1, 2, 3] [3, 3, 24, 3], size := 4, bytes := 48, zero := [.int .i64 0, .int .i64 0, .sl [] true, .int .i64 0] }
  | 71 => { kind := .struct [0, 1, 2, 3] [3, 3, 24, 3], size := 4, bytes := 48, zero := [.int .i64 0, .int .i64 0, .sl [] true, .int .i64 0] }
  | 73 => { kind := .scal, size := 1, bytes := 8, zero := [.nilfn] }
  | 74 => { kind := .scal, size := 1, bytes := 8, zero := [.nilfn] }
  | 75 => { kind := .scal, size := 1, bytes := 8, zero := [.nilfn] }
  | 76 => { kind := .scal, size := 1, bytes := 8, zero := [.nilfn] }
  | 77 => { kind := .slice 26, size := 1, bytes := 24, zero := [.sl [] true] }
  | 78 => { kind := .struct [0, 1, 2, 3] [3, 3, 3, 4], size := 4, bytes := 32, zero := [.int .i64 0, .int .i64 0, .int .i64 0, .bool false] }
  | 79 => { kind := .struct [0, 1, 2, 3] [3, 3, 3, 4], size := 4, bytes := 32, zero := [.int .i64 0, .int .i64 0, .int .i64 0, .bool false] }
  | 80 => { kind := .map 85 3, size := 1, bytes := 8, zero := [.nilmap] }
  | 81 => { kind := .struct [0, 7, 8] [26, 3, 80], size := 9, bytes := 120, zero := [.sl [] true, .sl [] true, .int .i64 0, .int .i64 0, .int .i64 0, .int .i64 0, .sl [] true, .int .i64 0, .nilmap] }
  | 82 => { kind := .struct [0, 7, 8] [26, 3, 80], size := 9, bytes := 120, zero := [.sl [] true, .sl [] true, .int .i64 0, .int .i64 0, .int .i64 0, .int .i64 0, .sl [] true, .int .i64 0, .nilmap] }
  | 83 => { kind := .scal, size := 1, bytes := 8, zero := [.nilfn] }
  | 84 => { kind := .struct [0, 1] [3, 3], size := 2, bytes := 16, zero := [.int .i64 0, .int .i64 0] }
  | 85 => { kind := .struct [0, 1] [3, 3], size := 2, bytes := 16, zero := [.int .i64 0, .int .i64 0] }
  | 87 => { kind := .scal, size := 1, bytes := 8, zero := [.nilfn] }
  | 88 => { kind := .scal, size := 1, bytes := 8, zero := [.nilfn] }
  | 89 => { kind := .scal, size := 1, bytes := 8, zero := [.nilfn] }
  | 90 => { kind := .scal, size := 1, bytes := 8, zero := [.nilfn] }
  | 91 => { kind := .scal, size := 1, bytes := 8, zero := [.nilfn] }
  | 92 => { kind := .scal, size := 1, bytes := 8, zero := [.nilfn] }
  | 93 => { kind := .scal, size := 1, bytes := 8, zero := [.nilfn] }
  | 94 => { kind := .slice 85, size := 1, bytes := 24, zero := [.sl [] true] }
  | 95 => { kind := .struct [0, 1] [94, 3], size := 2, bytes := 32, zero := [.sl [] true, .int .i64 0] }
  | 96 => { kind := .struct [0, 1] [94, 3], size := 2, bytes := 32, zero := [.sl [] true, .int .i64 0] }
  | 98 => { kind := .scal, size := 1, bytes := 8, zero := [.nilfn] }
  | 99 => { kind := .scal, size := 1, bytes := 8, zero := [.nilfn] }
  | 100 => { kind := .struct [0] [99], size := 1, bytes := 8, zero := [.nilfn] }
  | 101 => { kind := .struct [0] [99], size := 1, bytes := 8, zero := [.nilfn] }
  | 102 => { kind := .scal, size := 1, bytes := 8, zero := [.nilfn] }
  | 103 => { kind := .scal, size := 1, bytes := 8, zero := [.nilfn] }
  | 105 => { kind := .scal, size := 1, bytes := 8, zero := [.nilfn] }
  | 106 => { kind := .scal, size := 1, bytes := 8, zero := [.nilfn] }
  | 107 => { kind := .struct [0, 1] [3, 3], size := 2, bytes := 16, zero := [.int .i64 0, .int .i64 0] }
  | 108 => { kind := .struct [0, 1] [3, 3], size := 2, bytes := 16, zero := [.int .i64 0, .int .i64 0] }
  | 109 => { kind := .slice 108, size := 1, bytes := 24, zero := [.sl [] true] }
  | 110 => { kind := .scal, size := 1, bytes := 8, zero := [.nilfn] }
  | 111 => { kind := .arr 5 3, size := 5, bytes := 40, zero := [.int .i64 0, .int .i64 0, .int .i64 0, .int .i64 0, .int .i64 0] }
  | 112 => { kind := .arr 5 3, size := 5, bytes := 40, zero := [.int .i64 0, .int .i64 0, .int .i64 0, .int .i64 0, .int .i64 0] }
  | 113 => { kind := .struct [0, 1] [3, 112], size := 6, bytes := 48, zero := [.int .i64 0, .int .i64 0, .int .i64 0, .int .i64 0, .int .i64 0, .int .i64 0] }
  | 114 => { kind := .struct [0, 1] [3, 112], size := 6, bytes := 48, zero := [.int .i64 0, .int .i64 0, .int .i64 0, .int .i64 0, .int .i64 0, .int .i64 0] }
  | 115 => { kind := .slice 114, size := 1, bytes := 24, zero := [.sl [] true] }
  | 116 => { kind := .scal, size := 1, bytes := 8, zero := [.nilfn] }
  | 117 => { kind := .scal, size := 1, bytes := 8, zero := [.nilfn] }
  | 118 => { kind := .scal, size := 1, bytes := 8, zero := [.nilfn] }
  | 119 => { kind := .scal, size := 1, bytes := 8, zero := [.nilfn] }
  | 120 => { kind := .scal, size := 1, bytes := 8, zero := [.nilfn] }
  | 121 => { kind := .scal, size := 1, bytes := 8, zero := [.nilfn] }
  | 122 => { kind := .struct [0] [121], size := 1, bytes := 8, zero := [.nilfn] }
  | 123 => { kind := .struct [0] [121], size := 1, bytes := 8, zero := [.nilfn] }
  | 124 => { kind := .scal, size := 1, bytes := 8, zero := [.nilfn] }
  | 125 => { kind := .arr 7 24, size := 7, bytes := 168, zero := [.sl [] true, .sl [] true, .sl [] true, .sl [] true, .sl [] true, .sl [] true, .sl [] true] }
  | 126 => { kind := .arr 7 3, size := 7, bytes := 56, zero := [.int .i64 0, .int .i64 0, .int .i64 0, .int .i64 0, .int .i64 0, .int .i64 0, .int .i64 0] }
  | 127 => { kind := .scal, size := 1, bytes := 8, zero := [.nilfn] }
  | 128 => { kind := .scal, size := 1, bytes := 8, zero := [.nilfn] }
  | 129 => { kind := .arr 7 4, size := 7, bytes := 7, zero := [.bool false, .bool false, .bool false, .bool false, .bool false, .bool false, .bool false] }
  | 130 => { kind := .arr 7 4, size := 7, bytes := 7, zero := [.bool false, .bool false, .bool false, .bool false, .bool false, .bool false, .bool false] }
  | 131 => { kind := .scal, size := 1, bytes := 8, zero := [.nilfn] }
  | 133 => { kind := .scal, size := 1, bytes := 8, zero := [.nilfn] }
  | 134 => { kind := .arr 3 133, size := 3, bytes := 24, zero := [.nilfn, .nilfn, .nilfn] }
  | 135 => { kind := .map 3 96, size := 1, bytes := 8, zero := [.nilmap] }
  | 136 => { kind := .scal, size := 1, bytes := 8, zero := [.nilfn] }
  | 137 => { kind := .scal, size := 1, bytes := 8, zero := [.nilfn] }
  | 138 => { kind := .scal, size := 1, bytes := 8, zero := [.nilfn] }
  | 139 => { kind := .scal, size := 1, bytes := 8, zero := [.nilfn] }
  | 140 => { kind := .scal, size := 1, bytes := 8, zero := [.nilfn] }
  | 143 => { kind := .arr 0 16, size := 0, bytes := 0, zero := [] }
  | 144 => { kind := .struct [0] [143], size := 0, bytes := 0, zero := [] }
  | 145 => { kind := .struct [0] [143], size := 0, bytes := 0, zero := [] }
  | 146 => { kind := .scal, size := 1, bytes := 4, zero := [.int .u32 0] }
  | 147 => { kind := .scal, size := 1, bytes := 1, zero := [.int .u8 0] }
  | 148 => { kind := .scal, size := 1, bytes := 1, zero := [.int .u8 0] }
  | 149 => { kind := .scal, size := 1, bytes := 8, zero := [.nilfn] }
  | 150 => { kind := .scal, size := 1, bytes := 8, zero := [.nilptr] }
  | 151 => { kind := .scal, size := 1, bytes := 4, zero := [.int .i32 0] }
  | 152 => { kind := .scal, size := 1, bytes := 4, zero := [.int .i32 0] }
  | 153 => { kind := .struct [0, 1, 2, 3, 4, 5, 6, 7, 8, 9, 10] [12, 12, 146, 147, 5, 5, 148, 149, 150, 151, 152], size := 11, bytes := 48, zero := [.int .u64 0, .int .u64 0, .int .u32 0, .int .u8 0, .int .u8 0, .int .u8 0, .int .u8 0, .nilfn, .nilptr, .int .i32 0, .int .i32 0] }
  | 154 => { kind := .struct [0, 1, 2, 3, 4, 5, 6, 7, 8, 9, 10] [12, 12, 146, 147, 5, 5, 148, 149, 150, 151, 152], size := 11, bytes := 48, zero := [.int .u64 0, .int .u64 0, .int .u32 0, .int .u8 0, .int .u8 0, .int .u8 0, .int .u8 0, .nilfn, .nilptr, .int .i32 0, .int .i32 0] }
  | _ => default
theorem ti1 : ti 1 = { kind := .scal, size := 1, bytes := 8, zero := [.nilfn] } := rfl
theorem ti2 : ti 2 = { kind := .scal, size := 1, bytes := 8, zero := [.int .i64 0] } := rfl
theorem ti3 : ti 3 = { kind := .scal, size := 1, bytes := 8, zero := [.int .i64 0] } := rfl
theorem ti4 : ti 4 = { kind := .boolk, size := 1, bytes := 1, zero := [.bool false] } := rfl
theorem ti5 : ti 5 = { kind := .scal, size := 1, bytes := 1, zero := [.int .u8 0] } := rfl
theorem ti6 : ti 6 = { kind := .scal, size := 1, bytes := 1, zero := [.int .u8 0] } := rfl
theorem ti7 : ti 7 = { kind := .struct [0, 1, 2, 3] [2, 3, 4, 6], size := 4, bytes := 24, zero := [.int .i64 0, .int .i64 0, .bool false, .int .u8 0] } := rfl
theorem ti8 : ti 8 = { kind := .struct [0, 1, 2, 3] [2, 3, 4, 6], size := 4, bytes := 24, zero := [.int .i64 0, .int .i64 0, .bool false, .int .u8 0] } := rfl
theorem ti12 : ti 12 = { kind := .scal, size := 1, bytes := 8, zero := [.int .u64 0] } := rfl
theorem ti15 : ti 15 = { kind := .scal, size := 1, bytes := 8, zero := [.nilptr] } := rfl
theorem ti16 : ti 16 = { kind := .scal, size := 1, bytes := 8, zero := [.nilptr] } := rfl
theorem ti17 : ti 17 = { kind := .scal, size := 1, bytes := 8, zero := [.nilptr] } := rfl
theorem ti18 : ti 18 = { kind := .struct [0] [17], size := 1, bytes := 8, zero := [.nilptr] } := rfl
theorem ti19 : ti 19 = { kind := .struct [0] [17], size := 1, bytes := 8, zero := [.nilptr] } := rfl
theorem ti21 : ti 21 = { kind := .scal, size := 1, bytes := 4, zero := [.int .i32 0] } := rfl
theorem ti22 : ti 22 = { kind := .slice 79, size := 1, bytes := 24, zero := [.sl [] true] } := rfl
theorem ti23 : ti 23 = { kind := .slice 71, size := 1, bytes := 24, zero := [.sl [] true] } := rfl
theorem ti24 : ti 24 = { kind := .slice 3, size := 1, bytes := 24, zero := [.sl [] true] } := rfl
theorem ti25 : ti 25 = { kind := .struct [0, 1, 2, 3, 4, 5, 6] [22, 23, 3, 3, 3, 3, 24], size := 7, bytes := 104, zero := [.sl [] true, .sl [] true, .int .i64 0, .int .i64 0, .int .i64 0, .int .i64 0, .sl [] true] } := rfl
theorem ti26 : ti 26 = { kind := .struct [0, 1, 2, 3, 4, 5, 6] [22, 23, 3, 3, 3, 3, 24], size := 7, bytes := 104, zero := [.sl [] true, .sl [] true, .int .i64 0, .int .i64 0, .int .i64 0, .int .i64 0, .sl [] true] } := rfl
theorem ti27 : ti 27 = { kind := .struct [0, 1] [3, 24], size := 2, bytes := 32, zero := [.int .i64 0, .sl [] true] } := rfl
theorem ti28 : ti 28 = { kind := .struct [0, 1] [3, 24], size := 2, bytes := 32, zero := [.int .i64 0, .sl [] true] } := rfl
theorem ti29 : ti 29 = { kind := .scal, size := 1, bytes := 8, zero := [.int .i64 0] } := rfl
theorem ti31 : ti 31 = { kind := .scal, size := 1, bytes := 8, zero := [.nilfn] } := rfl
theorem ti32 : ti 32 = { kind := .scal, size := 1, bytes := 8, zero := [.nilfn] } := rfl
theorem ti34 : ti 34 = { kind := .scal, size := 1, bytes := 8, zero := [.nilfn] } := rfl
theorem ti36 : ti 36 = { kind := .scal, size := 1, bytes := 8, zero := [.nilfn] } := rfl
theorem ti37 : ti 37 = { kind := .scal, size := 1, bytes := 8, zero := [.nilfn] } := rfl
theorem ti38 : ti 38 = { kind := .scal, size := 1, bytes := 8, zero := [.nilfn] } := rfl
theorem ti39 : ti 39 = { kind := .scal, size := 1, bytes := 8, zero := [.nilfn] } := rfl
theorem ti40 : ti 40 = { kind := .slice 28, size := 1, bytes := 24, zero := [.sl [] true] } := rfl
theorem ti41 : ti 41 = { kind := .scal, size := 1, bytes := 8, zero := [.nilfn] } := rfl
theorem ti42 : ti 42 = { kind := .scal, size := 1, bytes := 8, zero := [.nilfn] } := rfl
theorem ti43 : ti 43 = { kind := .scal, size := 1, bytes := 8, zero := [.nilfn] } := rfl
theorem ti45 : ti 45 = { kind := .scal, size := 1, bytes := 8, zero := [.nilfn] } := rfl
theorem ti47 : ti 47 = { kind := .scal, size := 1, bytes := 8, zero := [.nilfn] } := rfl
theorem ti48 : ti 48 = { kind := .scal, size := 1, bytes := 8, zero := [.nilfn] } := rfl
theorem ti49 : ti 49 = { kind := .scal, size := 1, bytes := 8, zero := [.nilfn] } := rfl
theorem ti50 : ti 50 = { kind := .scal, size := 1, bytes := 8, zero := [.nilfn] } := rfl
theorem ti51 : ti 51 = { kind := .scal, size := 1, bytes := 8, zero := [.nilfn] } := rfl
theorem ti52 : ti 52 = { kind := .scal, size := 1, bytes := 8, zero := [.nilfn] } := rfl
theorem ti53 : ti 53 = { kind := .scal, size := 1, bytes := 8, zero := [.nilfn] } := rfl
theorem ti54 : ti 54 = { kind := .scal, size := 1, bytes := 8, zero := [.nilfn] } := rfl
theorem ti55 : ti 55 = { kind := .scal, size := 1, bytes := 8, zero := [.nilfn] } := rfl
theorem ti57 : ti 57 = { kind := .scal, size := 1, bytes := 8, zero := [.nilfn] } := rfl
theorem ti58 : ti 58 = { kind := .scal, size := 1, bytes := 8, zero := [.nilfn] } := rfl
theorem ti59 : ti 59 = { kind := .scal, size := 1, bytes := 8, zero := [.nilfn] } := rfl
theorem ti60 : ti 60 = { kind := .scal, size := 1, bytes := 8, zero := [.nilfn] } := rfl
theorem ti61 : ti 61 = { kind := .scal, size := 1, bytes := 8, zero := [.nilfn] } := rfl
theorem ti62 : ti 62 = { kind := .arr 3 3, size := 3, bytes := 24, zero := [.int .i64 0, .int .i64 0, .int .i64 0] } := rfl
theorem ti63 : ti 63 = { kind := .scal, size := 1, bytes := 8, zero := [.nilfn] } := rfl
theorem ti64 : ti 64 = { kind := .scal, size := 1, bytes := 8, zero := [.nilfn] } := rfl
theorem ti65 : ti 65 = { kind := .scal, size := 1, bytes := 8, zero := [.nilfn] } := rfl
theorem ti66 : ti 66 = { kind := .scal, size := 1, bytes := 8, zero := [.nilfn] } := rfl
theorem ti67 : ti 67 = { kind := .arr 4 3, size := 4, bytes := 32, zero := [.int .i64 0, .int .i64 0, .int .i64 0, .int .i64 0] } := rfl
theorem ti68 : ti 68 = { kind := .scal, size := 1, bytes := 8, zero := [.nilfn] } := rfl
theorem ti69 : ti 69 = { kind := .scal, size := 1, bytes := 8, zero := [.nilfn] } := rfl
theorem ti70 : ti 70 = { kind := .struct [0, 1, 2, 3] [3, 3, 24, 3], size := 4, bytes := 48, zero := [.int .i64 0, .int .i64 0, .sl [] true, .int .i64 0] } := rfl
theorem ti71 : ti 71 = { kind := .struct [0, 1, 2, 3] [3, 3, 24, 3], size := 4, bytes := 48, zero := [.int .i64 0, .int .i64 0, .sl [] true, .int .i64 0] } := rfl
theorem ti73 : ti 73 = { kind := .scal, size := 1, bytes := 8, zero := [.nilfn] } := rfl
theorem ti74 : ti 74 = { kind := .scal, size := 1, bytes := 8, zero := [.nilfn] } := rfl
theorem ti75 : ti 75 = { kind := .scal, size := 1, bytes := 8, zero := [.nilfn] } := rfl
theorem ti76 : ti 76 = { kind := .scal, size := 1, bytes := 8, zero := [.nilfn] } := rfl
theorem ti77 : ti 77 = { kind := .slice 26, size := 1, bytes := 24, zero := [.sl [] true] } := rfl
theorem ti78 : ti 78 = { kind := .struct [0, 1, 2, 3] [3, 3, 3, 4], size := 4, bytes := 32, zero := [.int .i64 0, .int .i64 0, .int .i64 0, .bool false] } := rfl
theorem ti79 : ti 79 = { kind := .struct [0, 1, 2, 3] [3, 3, 3, 4], size := 4, bytes := 32, zero := [.int .i64 0, .int .i64 0, .int .i64 0, .bool false] } := rfl
theorem ti80 : ti 80 = { kind := .map 85 3, size := 1, bytes := 8, zero := [.nilmap] } := rfl
theorem ti81 : ti 81 = { kind := .struct [0, 7, 8] [26, 3, 80], size := 9, bytes := 120, zero := [.sl [] true, .sl [] true, .int .i64 0, .int .i64 0, .int .i64 0, .int .i64 0, .sl [] true, .int .i64 0, .nilmap] } := rfl
theorem ti82 : ti 82 = { kind := .struct [0, 7, 8] [26, 3, 80], size := 9, bytes := 120, zero := [.sl [] true, .sl [] true, .int .i64 0, .int .i64 0, .int .i64 0, .int .i64 0, .sl [] true, .int .i64 0, .nilmap] } := rfl
theorem ti83 : ti 83 = { kind := .scal, size := 1, bytes := 8, zero := [.nilfn] } := rfl
theorem ti84 : ti 84 = { kind := .struct [0, 1] [3, 3], size := 2, bytes := 16, zero := [.int .i64 0, .int .i64 0] } := rfl
theorem ti85 : ti 85 = { kind := .struct [0, 1] [3, 3], size := 2, bytes := 16, zero := [.int .i64 0, .int .i64 0] } := rfl
theorem ti87 : ti 87 = { kind := .scal, size := 1, bytes := 8, zero := [.nilfn] } := rfl
theorem ti88 : ti 88 = { kind := .scal, size := 1, bytes := 8, zero := [.nilfn] } := rfl
theorem ti89 : ti 89 = { kind := .scal, size := 1, bytes := 8, zero := [.nilfn] } := rfl
theorem ti90 : ti 90 = { kind := .scal, size := 1, bytes := 8, zero := [.nilfn] } := rfl
theorem ti91 : ti 91 = { kind := .scal, size := 1, bytes := 8, zero := [.nilfn] } := rfl
theorem ti92 : ti 92 = { kind := .scal, size := 1, bytes := 8, zero := [.nilfn] } := rfl
theorem ti93 : ti 93 = { kind := .scal, size := 1, bytes := 8, zero := [.nilfn] } := rfl
theorem ti94 : ti 94 = { kind := .slice 85, size := 1, bytes := 24, zero := [.sl [] true] } := rfl
theorem ti95 : ti 95 = { kind := .struct [0, 1] [94, 3], size := 2, bytes := 32, zero := [.sl [] true, .int .i64 0] } := rfl
theorem ti96 : ti 96 = { kind := .struct [0, 1] [94, 3], size := 2, bytes := 32, zero := [.sl [] true, .int .i64 0] } := rfl
theorem ti98 : ti 98 = { kind := .scal, size := 1, bytes := 8, zero := [.nilfn] } := rfl
theorem ti99 : ti 99 = { kind := .scal, size := 1, bytes := 8, zero := [.nilfn] } := rfl
theorem ti100 : ti 100 = { kind := .struct [0] [99], size := 1, bytes := 8, zero := [.nilfn] } := rfl
theorem ti101 : ti 101 = { kind := .struct [0] [99], size := 1, bytes := 8, zero := [.nilfn] } := rfl
theorem ti102 : ti 102 = { kind := .scal, size := 1, bytes := 8, zero := [.nilfn] } := rfl
theorem ti103 : ti 103 = { kind := .scal, size := 1, bytes := 8, zero := [.nilfn] } := rfl
theorem ti105 : ti 105 = { kind := .scal, size := 1, bytes := 8, zero := [.nilfn] } := rfl
theorem ti106 : ti 106 = { kind := .scal, size := 1, bytes := 8, zero := [.nilfn] } := rfl
theorem ti107 : ti 107 = { kind := .struct [0, 1] [3, 3], size := 2, bytes := 16, zero := [.int .i64 0, .int .i64 0] } := rfl
theorem ti108 : ti 108 = { kind := .struct [0, 1] [3, 3], size := 2, bytes := 16, zero := [.int .i64 0, .int .i64 0] } := rfl
theorem ti109 : ti 109 = { kind := .slice 108, size := 1, bytes := 24, zero := [.sl [] true] } := rfl
theorem ti110 : ti 110 = { kind := .scal, size := 1, bytes := 8, zero := [.nilfn] } := rfl
theorem ti111 : ti 111 = { kind := .arr 5 3, size := 5, bytes := 40, zero := [.int .i64 0, .int .i64 0, .int .i64 0, .int .i64 0, .int .i64 0] } := rfl
theorem ti112 : ti 112 = { kind := .arr 5 3, size := 5, bytes := 40, zero := [.int .i64 0, .int .i64 0, .int .i64 0, .int .i64 0, .int .i64 0] } := rfl
theorem ti113 : ti 113 = { kind := .struct [0, 1] [3, 112], size := 6, bytes := 48, zero := [.int .i64 0, .int .i64 0, .int .i64 0, .int .i64 0, .int .i64 0, .int .i64 0] } := rfl
theorem ti114 : ti 114 = { kind := .struct [0, 1] [3, 112], size := 6, bytes := 48, zero := [.int .i64 0, .int .i64 0, .int .i64 0, .int .i64 0, .int .i64 0, .int .i64 0] } := rfl
theorem ti115 : ti 115 = { kind := .slice 114, size := 1, bytes := 24, zero := [.sl [] true] } := rfl
theorem ti116 : ti 116 = { kind := .scal, size := 1, bytes := 8, zero := [.nilfn] } := rfl
theorem ti117 : ti 117 = { kind := .scal, size := 1, bytes := 8, zero := [.nilfn] } := rfl
theorem ti118 : ti 118 = { kind := .scal, size := 1, bytes := 8, zero := [.nilfn] } := rfl
theorem ti119 : ti 119 = { kind := .scal, size := 1, bytes := 8, zero := [.nilfn] } := rfl
theorem ti120 : ti 120 = { kind := .scal, size := 1, bytes := 8, zero := [.nilfn] } := rfl
theorem ti121 : ti 121 = { kind := .scal, size := 1, bytes := 8, zero := [.nilfn] } := rfl
theorem ti122 : ti 122 = { kind := .struct [0] [121], size := 1, bytes := 8, zero := [.nilfn] } := rfl
theorem ti123 : ti 123 = { kind := .struct [0] [121], size := 1, bytes := 8, zero := [.nilfn] } := rfl
theorem ti124 : ti 124 = { kind := .scal, size := 1, bytes := 8, zero := [.nilfn] } := rfl
theorem ti125 : ti 125 = { kind := .arr 7 24, size := 7, bytes := 168, zero := [.sl [] true, .sl [] true, .sl [] true, .sl [] true, .sl [] true, .sl [] true, .sl [] true] } := rfl
theorem ti126 : ti 126 = { kind := .arr 7 3, size := 7, bytes := 56, zero := [.int .i64 0, .int .i64 0, .int .i64 0, .int .i64 0, .int .i64 0, .int .i64 0, .int .i64 0] } := rfl
theorem ti127 : ti 127 = { kind := .scal, size := 1, bytes := 8, zero := [.nilfn] } := rfl
theorem ti128 : ti 128 = { kind := .scal, size := 1, bytes := 8, zero := [.nilfn] } := rfl
theorem ti129 : ti 129 = { kind := .arr 7 4, size := 7, bytes := 7, zero := [.bool false, .bool false, .bool false, .bool false, .bool false, .bool false, .bool false] } := rfl
theorem ti130 : ti 130 = { kind := .arr 7 4, size := 7, bytes := 7, zero := [.bool false, .bool false, .bool false, .bool false, .bool false, .bool false, .bool false] } := rfl
theorem ti131 : ti 131 = { kind := .scal, size := 1, bytes := 8, zero := [.nilfn] } := rfl
theorem ti133 : ti 133 = { kind := .scal, size := 1, bytes := 8, zero := [.nilfn] } := rfl
theorem ti134 : ti 134 = { kind := .arr 3 133, size := 3, bytes := 24, zero := [.nilfn, .nilfn, .nilfn] } := rfl
theorem ti135 : ti 135 = { kind := .map 3 96, size := 1, bytes := 8, zero := [.nilmap] } := rfl
theorem ti136 : ti 136 = { kind := .scal, size := 1, bytes := 8, zero := [.nilfn] } := rfl
theorem ti137 : ti 137 = { kind := .scal, size := 1, bytes := 8, zero := [.nilfn] } := rfl
theorem ti138 : ti 138 = { kind := .scal, size := 1, bytes := 8, zero := [.nilfn] } := rfl
theorem ti139 : ti 139 = { kind := .scal, size := 1, bytes := 8, zero := [.nilfn] } := rfl
theorem ti140 : ti 140 = { kind := .scal, size := 1, bytes := 8, zero := [.nilfn] } := rfl
theorem ti143 : ti 143 = { kind := .arr 0 16, size := 0, bytes := 0, zero := [] } := rfl
theorem ti144 : ti 144 = { kind := .struct [0] [143], size := 0, bytes := 0, zero := [] } := rfl
theorem ti145 : ti 145 = { kind := .struct [0] [143], size := 0, bytes := 0, zero := [] } := rfl
theorem ti146 : ti 146 = { kind := .scal, size := 1, bytes := 4, zero := [.int .u32 0] } := rfl
theorem ti147 : ti 147 = { kind := .scal, size := 1, bytes := 1, zero := [.int .u8 0] } := rfl
theorem ti148 : ti 148 = { kind := .scal, size := 1, bytes := 1, zero := [.int .u8 0] } := rfl
theorem ti149 : ti 149 = { kind := .scal, size := 1, bytes := 8, zero := [.nilfn] } := rfl
theorem ti150 : ti 150 = { kind := .scal, size := 1, bytes := 8, zero := [.nilptr] } := rfl
theorem ti151 : ti 151 = { kind := .scal, size := 1, bytes := 4, zero := [.int .i32 0] } := rfl
theorem ti152 : ti 152 = { kind := .scal, size := 1, bytes := 4, zero := [.int .i32 0] } := rfl
theorem ti153 : ti 153 = { kind := .struct [0, 1, 2, 3, 4, 5, 6, 7, 8, 9, 10] [12, 12, 146, 147, 5, 5, 148, 149, 150, 151, 152], size := 11, bytes := 48, zero := [.int .u64 0, .int .u64 0, .int .u32 0, .int .u8 0, .int .u8 0, .int .u8 0, .int .u8 0, .nilfn, .nilptr, .int .i32 0, .int .i32 0] } := rfl
theorem ti154 : ti 154 = { kind := .struct [0, 1, 2, 3, 4, 5, 6, 7, 8, 9, 10] [12, 12, 146, 147, 5, 5, 148, 149, 150, 151, 152], size := 11, bytes := 48, zero := [.int .u64 0, .int .u64 0, .int .u32 0, .int .u8 0, .int .u8 0, .int .u8 0, .int .u8 0, .nilfn, .nilptr, .int .i32 0, .int .i32 0] } := rfl
theorem tiok1 : TIok Tryd.prog 1 (ti 1) := tiok_mk rfl Tryd.underlying1 (i := Tryd.t1) (by kernel_rfl) ⟨_, Tryd.underlying1, rfl⟩ rfl rfl rfl rfl rfl (fun h => by cases h) (fun _ => ⟨rfl, rfl⟩)
theorem tiok2 : TIok Tryd.prog 2 (ti 2) := tiok_mk rfl Tryd.underlying2 (i := Tryd.t2) (by kernel_rfl) ⟨_, Tryd.underlying2, rfl⟩ rfl rfl rfl rfl rfl (fun h => by cases h) (fun _ => ⟨rfl, rfl⟩)
theorem tiok3 : TIok Tryd.prog 3 (ti 3) := tiok_mk rfl Tryd.underlying3 (i := Tryd.t3) (by kernel_rfl) ⟨_, Tryd.underlying3, rfl⟩ rfl rfl rfl rfl rfl (fun h => by cases h) (fun _ => ⟨rfl, rfl⟩)
theorem tiok4 : TIok Tryd.prog 4 (ti 4) := tiok_mk rfl Tryd.underlying4 (i := Tryd.t4) (by kernel_rfl) Tryd.underlying4 rfl rfl rfl rfl rfl (fun h => by cases h) (fun _ => ⟨rfl, rfl⟩)
theorem tiok5 : TIok Tryd.prog 5 (ti 5) := tiok_mk rfl Tryd.underlying5 (i := Tryd.t5) (by kernel_rfl) ⟨_, Tryd.underlying5, rfl⟩ rfl rfl rfl rfl rfl (fun h => by cases h) (fun _ => ⟨rfl, rfl⟩)
theorem tiok6 : TIok Tryd.prog 6 (ti 6) := tiok_mk rfl Tryd.underlying6 (i := Tryd.t6) (by kernel_rfl) ⟨_, Tryd.underlying6, rfl⟩ rfl rfl rfl rfl rfl (fun h => by cases h) (fun _ => ⟨rfl, rfl⟩)
theorem tiok7 : TIok Tryd.prog 7 (ti 7) := tiok_mk rfl Tryd.underlying7 (i := Tryd.t7) (by kernel_rfl) ⟨_, Tryd.underlying7, rfl, rfl⟩ rfl rfl rfl rfl rfl (fun _ => ⟨_, rfl⟩) (fun h => by cases h)
theorem tiok8 : TIok Tryd.prog 8 (ti 8) := tiok_mk rfl Tryd.underlying8 (i := Tryd.t8) (by kernel_rfl) ⟨_, Tryd.underlying8, rfl, rfl⟩ rfl rfl rfl rfl rfl (fun _ => ⟨_, rfl⟩) (fun h => by cases h)
theorem tiok12 : TIok Tryd.prog 12 (ti 12) := tiok_mk rfl Tryd.underlying12 (i := Tryd.t12) (by kernel_rfl) ⟨_, Tryd.underlying12, rfl⟩ rfl rfl rfl rfl rfl (fun h => by cases h) (fun _ => ⟨rfl, rfl⟩)
theorem tiok15 : TIok Tryd.prog 15 (ti 15) := tiok_mk rfl Tryd.underlying15 (i := Tryd.t15) (by kernel_rfl) ⟨_, Tryd.underlying15, rfl⟩ rfl rfl rfl rfl rfl (fun h => by cases h) (fun _ => ⟨rfl, rfl⟩)
theorem tiok16 : TIok Tryd.prog 16 (ti 16) := tiok_mk rfl Tryd.underlying16 (i := Tryd.t16) (by kernel_rfl) ⟨_, Tryd.underlying16, rfl⟩ rfl rfl rfl rfl rfl (fun h => by cases h) (fun _ => ⟨rfl, rfl⟩)
theorem tiok17 : TIok Tryd.prog 17 (ti 17) := tiok_mk rfl Tryd.underlying17 (i := Tryd.t17) (by kernel_rfl) ⟨_, Tryd.underlying17, rfl⟩ rfl rfl rfl rfl rfl (fun h => by cases h) (fun _ => ⟨rfl, rfl⟩)
theorem tiok18 : TIok Tryd.prog 18 (ti 18) := tiok_mk rfl Tryd.underlying18 (i := Tryd.t18) (by kernel_rfl) ⟨_, Tryd.underlying18, rfl, rfl⟩ rfl rfl rfl rfl rfl (fun _ => ⟨_, rfl⟩) (fun h => by cases h)
theorem tiok19 : TIok Tryd.prog 19 (ti 19) := tiok_mk rfl Tryd.underlying19 (i := Tryd.t19) (by kernel_rfl) ⟨_, Tryd.underlying19, rfl, rfl⟩ rfl rfl rfl rfl rfl (fun _ => ⟨_, rfl⟩) (fun h => by cases h)
theorem tiok21 : TIok Tryd.prog 21 (ti 21) := tiok_mk rfl Tryd.underlying21 (i := Tryd.t21) (by kernel_rfl) ⟨_, Tryd.underlying21, rfl⟩ rfl rfl rfl rfl rfl (fun h => by cases h) (fun _ => ⟨rfl, rfl⟩)
theorem tiok22 : TIok Tryd.prog 22 (ti 22) := tiok_mk rfl Tryd.underlying22 (i := Tryd.t22) (by kernel_rfl) Tryd.underlying22 rfl rfl rfl rfl rfl (fun h => by cases h) (fun _ => ⟨rfl, rfl⟩)
theorem tiok23 : TIok Tryd.prog 23 (ti 23) := tiok_mk rfl Tryd.underlying23 (i := Tryd.t23) (by kernel_rfl) Tryd.underlying23 rfl rfl rfl rfl rfl (fun h => by cases h) (fun _ => ⟨rfl, rfl⟩)
theorem tiok24 : TIok Tryd.prog 24 (ti 24) := tiok_mk rfl Tryd.underlying24 (i := Tryd.t24) (by kernel_rfl) Tryd.underlying24 rfl rfl rfl rfl rfl (fun h => by cases h) (fun _ => ⟨rfl, rfl⟩)
theorem tiok25 : TIok Tryd.prog 25 (ti 25) := tiok_mk rfl Tryd.underlying25 (i := Tryd.t25) (by kernel_rfl) ⟨_, Tryd.underlying25, rfl, rfl⟩ rfl rfl rfl rfl rfl (fun _ => ⟨_, rfl⟩) (fun h => by cases h)
theorem tiok26 : TIok Tryd.prog 26 (ti 26) := tiok_mk rfl Tryd.underlying26 (i := Tryd.t26) (by kernel_rfl) ⟨_, Tryd.underlying26, rfl, rfl⟩ rfl rfl rfl rfl rfl (fun _ => ⟨_, rfl⟩) (fun h => by cases h)
theorem tiok27 : TIok Tryd.prog 27 (ti 27) := tiok_mk rfl Tryd.underlying27 (i := Tryd.t27) (by kernel_rfl) ⟨_, Tryd.underlying27, rfl, rfl⟩ rfl rfl rfl rfl rfl (fun _ => ⟨_, rfl⟩) (fun h => by cases h)
theorem tiok28 : TIok Tryd.prog 28 (ti 28) := tiok_mk rfl Tryd.underlying28 (i := Tryd.t28) (by kernel_rfl) ⟨_, Tryd.underlying28, rfl, rfl⟩ rfl rfl rfl rfl rfl (fun _ => ⟨_, rfl⟩) (fun h => by cases h)
theorem tiok29 : TIok Tryd.prog 29 (ti 29) := tiok_mk rfl Tryd.underlying29 (i := Tryd.t29) (by kernel_rfl) ⟨_, Tryd.underlying29, rfl⟩ rfl rfl rfl rfl rfl (fun h => by cases h) (fun _ => ⟨rfl, rfl⟩)
theorem tiok31 : TIok Tryd.prog 31 (ti 31) := tiok_mk rfl Tryd.underlying31 (i := Tryd.t31) (by kernel_rfl) ⟨_, Tryd.underlying31, rfl⟩ rfl rfl rfl rfl rfl (fun h => by cases h) (fun _ => ⟨rfl, rfl⟩)
theorem tiok32 : TIok Tryd.prog 32 (ti 32) := tiok_mk rfl Tryd.underlying32 (i := Tryd.t32) (by kernel_rfl) ⟨_, Tryd.underlying32, rfl⟩ rfl rfl rfl rfl rfl (fun h => by cases h) (fun _ => ⟨rfl, rfl⟩)
theorem tiok34 : TIok Tryd.prog 34 (ti 34) := tiok_mk rfl Tryd.underlying34 (i := Tryd.t34) (by kernel_rfl) ⟨_, Tryd.underlying34, rfl⟩ rfl rfl rfl rfl rfl (fun h => by cases h) (fun _ => ⟨rfl, rfl⟩)
theorem tiok36 : TIok Tryd.prog 36 (ti 36) := tiok_mk rfl Tryd.underlying36 (i := Tryd.t36) (by kernel_rfl) ⟨_, Tryd.underlying36, rfl⟩ rfl rfl rfl rfl rfl (fun h => by cases h) (fun _ => ⟨rfl, rfl⟩)
theorem tiok37 : TIok Tryd.prog 37 (ti 37) := tiok_mk rfl Tryd.underlying37 (i := Tryd.t37) (by kernel_rfl) ⟨_, Tryd.underlying37, rfl⟩ rfl rfl rfl rfl rfl (fun h => by cases h) (fun _ => ⟨rfl, rfl⟩)
theorem tiok38 : TIok Tryd.prog 38 (ti 38) := tiok_mk rfl Tryd.underlying38 (i := Tryd.t38) (by kernel_rfl) ⟨_, Tryd.underlying38, rfl⟩ rfl rfl rfl rfl rfl (fun h => by cases h) (fun _ => ⟨rfl, rfl⟩)
theorem tiok39 : TIok Tryd.prog 39 (ti 39) := tiok_mk rfl Tryd.underlying39 (i := Tryd.t39) (by kernel_rfl) ⟨_, Tryd.underlying39, rfl⟩ rfl rfl rfl rfl rfl (fun h => by cases h) (fun _ => ⟨rfl, rfl⟩)
theorem tiok40 : TIok Tryd.prog 40 (ti 40) := tiok_mk rfl Tryd.underlying40 (i := Tryd.t40) (by kernel_rfl) Tryd.underlying40 rfl rfl rfl rfl rfl (fun h => by cases h) (fun _ => ⟨rfl, rfl⟩)
theorem tiok41 : TIok Tryd.prog 41 (ti 41) := tiok_mk rfl Tryd.underlying41 (i := Tryd.t41) (by kernel_rfl) ⟨_, Tryd.underlying41, rfl⟩ rfl rfl rfl rfl rfl (fun h => by cases h) (fun _ => ⟨rfl, rfl⟩)
theorem tiok42 : TIok Tryd.prog 42 (ti 42) := tiok_mk rfl Tryd.underlying42 (i := Tryd.t42) (by kernel_rfl) ⟨_, Tryd.underlying42, rfl⟩ rfl rfl rfl rfl rfl (fun h => by cases h) (fun _ => ⟨rfl, rfl⟩)
theorem tiok43 : TIok Tryd.prog 43 (ti 43) := tiok_mk rfl Tryd.underlying43 (i := Tryd.t43) (by kernel_rfl) ⟨_, Tryd.underlying43, rfl⟩ rfl rfl rfl rfl rfl (fun h => by cases h) (fun _ => ⟨rfl, rfl⟩)
theorem tiok45 : TIok Tryd.prog 45 (ti 45) := tiok_mk rfl Tryd.underlying45 (i := Tryd.t45) (by kernel_rfl) ⟨_, Tryd.underlying45, rfl⟩ rfl rfl rfl rfl rfl (fun h => by cases h) (fun _ => ⟨rfl, rfl⟩)
theorem tiok47 : TIok Tryd.prog 47 (ti 47) := tiok_mk rfl Tryd.underlying47 (i := Tryd.t47) (by kernel_rfl) ⟨_, Tryd.underlying47, rfl⟩ rfl rfl rfl rfl rfl (fun h => by cases h) (fun _ => ⟨rfl, rfl⟩)
theorem tiok48 : TIok Tryd.prog 48 (ti 48) := tiok_mk rfl Tryd.underlying48 (i := Tryd.t48) (by kernel_rfl) ⟨_, Tryd.underlying48, rfl⟩ rfl rfl rfl rfl rfl (fun h => by cases h) (fun _ => ⟨rfl, rfl⟩)
theorem tiok49 : TIok Tryd.prog 49 (ti 49) := tiok_mk rfl Tryd.underlying49 (i := Tryd.t49) (by kernel_rfl) ⟨_, Tryd.underlying49, rfl⟩ rfl rfl rfl rfl rfl (fun h => by cases h) (fun _ => ⟨rfl, rfl⟩)
theorem tiok50 : TIok Tryd.prog 50 (ti 50) := tiok_mk rfl Tryd.underlying50 (i := Tryd.t50) (by kernel_rfl) ⟨_, Tryd.underlying50, rfl⟩ rfl rfl rfl rfl rfl (fun h => by cases h) (fun _ => ⟨rfl, rfl⟩)
theorem tiok51 : TIok Tryd.prog 51 (ti 51) := tiok_mk rfl Tryd.underlying51 (i := Tryd.t51) (by kernel_rfl) ⟨_, Tryd.underlying51, rfl⟩ rfl rfl rfl rfl rfl (fun h => by cases h) (fun _ => ⟨rfl, rfl⟩)
theorem tiok52 : TIok Tryd.prog 52 (ti 52) := tiok_mk rfl Tryd.underlying52 (i := Tryd.t52) (by kernel_rfl) ⟨_, Tryd.underlying52, rfl⟩ rfl rfl rfl rfl rfl (fun h => by cases h) (fun _ => ⟨rfl, rfl⟩)
theorem tiok53 : TIok Tryd.prog 53 (ti 53) := tiok_mk rfl Tryd.underlying53 (i := Tryd.t53) (by kernel_rfl) ⟨_, Tryd.underlying53, rfl⟩ rfl rfl rfl rfl rfl (fun h => by cases h) (fun _ => ⟨rfl, rfl⟩)
theorem tiok54 : TIok Tryd.prog 54 (ti 54) := tiok_mk rfl Tryd.underlying54 (i := Tryd.t54) (by kernel_rfl) ⟨_, Tryd.underlying54, rfl⟩ rfl rfl rfl rfl rfl (fun h => by cases h) (fun _ => ⟨rfl, rfl⟩)
theorem tiok55 : TIok Tryd.prog 55 (ti 55) := tiok_mk rfl Tryd.underlying55 (i := Tryd.t55) (by kernel_rfl) ⟨_, Tryd.underlying55, rfl⟩ rfl rfl rfl rfl rfl (fun h => by cases h) (fun _ => ⟨rfl, rfl⟩)
theorem tiok57 : TIok Tryd.prog 57 (ti 57) := tiok_mk rfl Tryd.underlying57 (i := Tryd.t57) (by kernel_rfl) ⟨_, Tryd.underlying57, rfl⟩ rfl rfl rfl rfl rfl (fun h => by cases h) (fun _ => ⟨rfl, rfl⟩)
theorem tiok58 : TIok Tryd.prog 58 (ti 58) := tiok_mk rfl Tryd.underlying58 (i := Tryd.t58) (by kernel_rfl) ⟨_, Tryd.underlying58, rfl⟩ rfl rfl rfl rfl rfl (fun h => by cases h) (fun _ => ⟨rfl, rfl⟩)
theorem tiok59 : TIok Tryd.prog 59 (ti 59) := tiok_mk rfl Tryd.underlying59 (i := Tryd.t59) (by kernel_rfl) ⟨_, Tryd.underlying59, rfl⟩ rfl rfl rfl rfl rfl (fun h => by cases h) (fun _ => ⟨rfl, rfl⟩)
theorem tiok60 : TIok Tryd.prog 60 (ti 60) := tiok_mk rfl Tryd.underlying60 (i := Tryd.t60) (by kernel_rfl) ⟨_, Tryd.underlying60, rfl⟩ rfl rfl rfl rfl rfl (fun h => by cases h) (fun _ => ⟨rfl, rfl⟩)
theorem tiok61 : TIok Tryd.prog 61 (ti 61) := tiok_mk rfl Tryd.underlying61 (i := Tryd.t61) (by kernel_rfl) ⟨_, Tryd.underlying61, rfl⟩ rfl rfl rfl rfl rfl (fun h => by cases h) (fun _ => ⟨rfl, rfl⟩)
theorem tiok62 : TIok Tryd.prog 62 (ti 62) := tiok_mk rfl Tryd.underlying62 (i := Tryd.t62) (by kernel_rfl) Tryd.underlying62 rfl rfl rfl rfl rfl (fun _ => ⟨_, rfl⟩) (fun h => by cases h)
theorem tiok63 : TIok Tryd.prog 63 (ti 63) := tiok_mk rfl Tryd.underlying63 (i := Tryd.t63) (by kernel_rfl) ⟨_, Tryd.underlying63, rfl⟩ rfl rfl rfl rfl rfl (fun h => by cases h) (fun _ => ⟨rfl, rfl⟩)
theorem tiok64 : TIok Tryd.prog 64 (ti 64) := tiok_mk rfl Tryd.underlying64 (i := Tryd.t64) (by kernel_rfl) ⟨_, Tryd.underlying64, rfl⟩ rfl rfl rfl rfl rfl (fun h => by cases h) (fun _ => ⟨rfl, rfl⟩)
theorem tiok65 : TIok Tryd.prog 65 (ti 65) := tiok_mk rfl Tryd.underlying65 (i := Tryd.t65) (by kernel_rfl) ⟨_, Tryd.underlying65, rfl⟩ rfl rfl rfl rfl rfl (fun h => by cases h) (fun _ => ⟨rfl, rfl⟩)
theorem tiok66 : TIok Tryd.prog 66 (ti 66) := tiok_mk rfl Tryd.underlying66 (i := Tryd.t66) (by kernel_rfl) ⟨_, Tryd.underlying66, rfl⟩ rfl rfl rfl rfl rfl (fun h => by cases h) (fun _ => ⟨rfl, rfl⟩)
theorem tiok67 : TIok Tryd.prog 67 (ti 67) := tiok_mk rfl Tryd.underlying67 (i := Tryd.t67) (by kernel_rfl) Tryd.underlying67 rfl rfl rfl rfl rfl (fun _ => ⟨_, rfl⟩) (fun h => by cases h)
theorem tiok68 : TIok Tryd.prog 68 (ti 68) := tiok_mk rfl Tryd.underlying68 (i := Tryd.t68) (by kernel_rfl) ⟨_, Tryd.underlying68, rfl⟩ rfl rfl rfl rfl rfl (fun h => by cases h) (fun _ => ⟨rfl, rfl⟩)
theorem tiok69 : TIok Tryd.prog 69 (ti 69) := tiok_mk rfl Tryd.underlying69 (i := Tryd.t69) (by kernel_rfl) ⟨_, Tryd.underlying69, rfl⟩ rfl rfl rfl rfl rfl (fun h => by cases h) (fun _ => ⟨rfl, rfl⟩)
theorem tiok70 : TIok Tryd.prog 70 (ti 70) := tiok_mk rfl Tryd.underlying70 (i := Tryd.t70) (by kernel_rfl) ⟨_, Tryd.underlying70, rfl, rfl⟩ rfl rfl rfl rfl rfl (fun _ => ⟨_, rfl⟩) (fun h => by cases h)
theorem tiok71 : TIok Tryd.prog 71 (ti 71) := tiok_mk rfl Tryd.underlying71 (i := Tryd.t71) (by kernel_rfl) ⟨_, Tryd.underlying71, rfl, rfl⟩ rfl rfl rfl rfl rfl (fun _ => ⟨_, rfl⟩) (fun h => by cases h)
theorem tiok73 : TIok Tryd.prog 73 (ti 73) := tiok_mk rfl Tryd.underlying73 (i := Tryd.t73) (by kernel_rfl) ⟨_, Tryd.underlying73, rfl⟩ rfl rfl rfl rfl rfl (fun h => by cases h) (fun _ => ⟨rfl, rfl⟩)
theorem tiok74 : TIok Tryd.prog 74 (ti 74) := tiok_mk rfl Tryd.underlying74 (i := Tryd.t74) (by kernel_rfl) ⟨_, Tryd.underlying74, rfl⟩ rfl rfl rfl rfl rfl (fun h => by cases h) (fun _ => ⟨rfl, rfl⟩)
theorem tiok75 : TIok Tryd.prog 75 (ti 75) := tiok_mk rfl Tryd.underlying75 (i := Tryd.t75) (by kernel_rfl) ⟨_, Tryd.underlying75, rfl⟩ rfl rfl rfl rfl rfl (fun h => by cases h) (fun _ => ⟨rfl, rfl⟩)
theorem tiok76 : TIok Tryd.prog 76 (ti 76) := tiok_mk rfl Tryd.underlying76 (i := Tryd.t76) (by kernel_rfl) ⟨_, Tryd.underlying76, rfl⟩ rfl rfl rfl rfl rfl (fun h => by cases h) (fun _ => ⟨rfl, rfl⟩)
theorem tiok77 : TIok Tryd.prog 77 (ti 77) := tiok_mk rfl Tryd.underlying77 (i := Tryd.t77) (by kernel_rfl) Tryd.underlying77 rfl rfl rfl rfl rfl (fun h => by cases h) (fun _ => ⟨rfl, rfl⟩)
theorem tiok78 : TIok Tryd.prog 78 (ti 78) := tiok_mk rfl Tryd.underlying78 (i := Tryd.t78) (by kernel_rfl) ⟨_, Tryd.underlying78, rfl, rfl⟩ rfl rfl rfl rfl rfl (fun _ => ⟨_, rfl⟩) (fun h => by cases h)
theorem tiok79 : TIok Tryd.prog 79 (ti 79) := tiok_mk rfl Tryd.underlying79 (i := Tryd.t79) (by kernel_rfl) ⟨_, Tryd.underlying79, rfl, rfl⟩ rfl rfl rfl rfl rfl (fun _ => ⟨_, rfl⟩) (fun h => by cases h)
theorem tiok80 : TIok Tryd.prog 80 (ti 80) := tiok_mk rfl Tryd.underlying80 (i := Tryd.t80) (by kernel_rfl) Tryd.underlying80 rfl rfl rfl rfl rfl (fun h => by cases h) (fun _ => ⟨rfl, rfl⟩)
theorem tiok81 : TIok Tryd.prog 81 (ti 81) := tiok_mk rfl Tryd.underlying81 (i := Tryd.t81) (by kernel_rfl) ⟨_, Tryd.underlying81, rfl, rfl⟩ rfl rfl rfl rfl rfl (fun _ => ⟨_, rfl⟩) (fun h => by cases h)
theorem tiok82 : TIok Tryd.prog 82 (ti 82) := tiok_mk rfl Tryd.underlying82 (i := Tryd.t82) (by kernel_rfl) ⟨_, Tryd.underlying82, rfl, rfl⟩ rfl rfl rfl rfl rfl (fun _ => ⟨_, rfl⟩) (fun h => by cases h)
theorem tiok83 : TIok Tryd.prog 83 (ti 83) := tiok_mk rfl Tryd.underlying83 (i := Tryd.t83) (by kernel_rfl) ⟨_, Tryd.underlying83, rfl⟩ rfl rfl rfl rfl rfl (fun h => by cases h) (fun _ => ⟨rfl, rfl⟩)
theorem tiok84 : TIok Tryd.prog 84 (ti 84) := tiok_mk rfl Tryd.underlying84 (i := Tryd.t84) (by kernel_rfl) ⟨_, Tryd.underlying84, rfl, rfl⟩ rfl rfl rfl rfl rfl (fun _ => ⟨_, rfl⟩) (fun h => by cases h)
theorem tiok85 : TIok Tryd.prog 85 (ti 85) := tiok_mk rfl Tryd.underlying85 (i := Tryd.t85) (by kernel_rfl) ⟨_, Tryd.underlying85, rfl, rfl⟩ rfl rfl rfl rfl rfl (fun _ => ⟨_, rfl⟩) (fun h => by cases h)
theorem tiok87 : TIok Tryd.prog 87 (ti 87) := tiok_mk rfl Tryd.underlying87 (i := Tryd.t87) (by kernel_rfl) ⟨_, Tryd.underlying87, rfl⟩ rfl rfl rfl rfl rfl (fun h => by cases h) (fun _ => ⟨rfl, rfl⟩)
theorem tiok88 : TIok Tryd.prog 88 (ti 88) := tiok_mk rfl Tryd.underlying88 (i := Tryd.t88) (by kernel_rfl) ⟨_, Tryd.underlying88, rfl⟩ rfl rfl rfl rfl rfl (fun h => by cases h) (fun _ => ⟨rfl, rfl⟩)
theorem tiok89 : TIok Tryd.prog 89 (ti 89) := tiok_mk rfl Tryd.underlying89 (i := Tryd.t89) (by kernel_rfl) ⟨_, Tryd.underlying89, rfl⟩ rfl rfl rfl rfl rfl (fun h => by cases h) (fun _ => ⟨rfl, rfl⟩)
theorem tiok90 : TIok Tryd.prog 90 (ti 90) := tiok_mk rfl Tryd.underlying90 (i := Tryd.t90) (by kernel_rfl) ⟨_, Tryd.underlying90, rfl⟩ rfl rfl rfl rfl rfl (fun h => by cases h) (fun _ => ⟨rfl, rfl⟩)
theorem tiok91 : TIok Tryd.prog 91 (ti 91) := tiok_mk rfl Tryd.underlying91 (i := Tryd.t91) (by kernel_rfl) ⟨_, Tryd.underlying91, rfl⟩ rfl rfl rfl rfl rfl (fun h => by cases h) (fun _ => ⟨rfl, rfl⟩)
theorem tiok92 : TIok Tryd.prog 92 (ti 92) := tiok_mk rfl Tryd.underlying92 (i := Tryd.t92) (by kernel_rfl) ⟨_, Tryd.underlying92, rfl⟩ rfl rfl rfl rfl rfl (fun h => by cases h) (fun _ => ⟨rfl, rfl⟩)
theorem tiok93 : TIok Tryd.prog 93 (ti 93) := tiok_mk rfl Tryd.underlying93 (i := Tryd.t93) (by kernel_rfl) ⟨_, Tryd.underlying93, rfl⟩ rfl rfl rfl rfl rfl (fun h => by cases h) (fun _ => ⟨rfl, rfl⟩)
theorem tiok94 : TIok Tryd.prog 94 (ti 94) := tiok_mk rfl Tryd.underlying94 (i := Tryd.t94) (by kernel_rfl) Tryd.underlying94 rfl rfl rfl rfl rfl (fun h => by cases h) (fun _ => ⟨rfl, rfl⟩)
theorem tiok95 : TIok Tryd.prog 95 (ti 95) := tiok_mk rfl Tryd.underlying95 (i := Tryd.t95) (by kernel_rfl) ⟨_, Tryd.underlying95, rfl, rfl⟩ rfl rfl rfl rfl rfl (fun _ => ⟨_, rfl⟩) (fun h => by cases h)
theorem tiok96 : TIok Tryd.prog 96 (ti 96) := tiok_mk rfl Tryd.underlying96 (i := Tryd.t96) (by kernel_rfl) ⟨_, Tryd.underlying96, rfl, rfl⟩ rfl rfl rfl rfl rfl (fun _ => ⟨_, rfl⟩) (fun h => by cases h)
theorem tiok98 : TIok Tryd.prog 98 (ti 98) := tiok_mk rfl Tryd.underlying98 (i := Tryd.t98) (by kernel_rfl) ⟨_, Tryd.underlying98, rfl⟩ rfl rfl rfl rfl rfl (fun h => by cases h) (fun _ => ⟨rfl, rfl⟩)
theorem tiok99 : TIok Tryd.prog 99 (ti 99) := tiok_mk rfl Tryd.underlying99 (i := Tryd.t99) (by kernel_rfl) ⟨_, Tryd.underlying99, rfl⟩ rfl rfl rfl rfl rfl (fun h => by cases h) (fun _ => ⟨rfl, rfl⟩)
theorem tiok100 : TIok Tryd.prog 100 (ti 100) := tiok_mk rfl Tryd.underlying100 (i := Tryd.t100) (by kernel_rfl) ⟨_, Tryd.underlying100, rfl, rfl⟩ rfl rfl rfl rfl rfl (fun _ => ⟨_, rfl⟩) (fun h => by cases h)
theorem tiok101 : TIok Tryd.prog 101 (ti 101) := tiok_mk rfl Tryd.underlying101 (i := Tryd.t101) (by kernel_rfl) ⟨_, Tryd.underlying101, rfl, rfl⟩ rfl rfl rfl rfl rfl (fun _ => ⟨_, rfl⟩) (fun h => by cases h)
theorem tiok102 : TIok Tryd.prog 102 (ti 102) := tiok_mk rfl Tryd.underlying102 (i := Tryd.t102) (by kernel_rfl) ⟨_, Tryd.underlying102, rfl⟩ rfl rfl rfl rfl rfl (fun h => by cases h) (fun _ => ⟨rfl, rfl⟩)
theorem tiok103 : TIok Tryd.prog 103 (ti 103) := tiok_mk rfl Tryd.underlying103 (i := Tryd.t103) (by kernel_rfl) ⟨_, Tryd.underlying103, rfl⟩ rfl rfl rfl rfl rfl (fun h => by cases h) (fun _ => ⟨rfl, rfl⟩)
theorem tiok105 : TIok Tryd.prog 105 (ti 105) := tiok_mk rfl Tryd.underlying105 (i := Tryd.t105) (by kernel_rfl) ⟨_, Tryd.underlying105, rfl⟩ rfl rfl rfl rfl rfl (fun h => by cases h) (fun _ => ⟨rfl, rfl⟩)
theorem tiok106 : TIok Tryd.prog 106 (ti 106) := tiok_mk rfl Tryd.underlying106 (i := Tryd.t106) (by kernel_rfl) ⟨_, Tryd.underlying106, rfl⟩ rfl rfl rfl rfl rfl (fun h => by cases h) (fun _ => ⟨rfl, rfl⟩)
theorem tiok107 : TIok Tryd.prog 107 (ti 107) := tiok_mk rfl Tryd.underlying107 (i := Tryd.t107) (by kernel_rfl) ⟨_, Tryd.underlying107, rfl, rfl⟩ rfl rfl rfl rfl rfl (fun _ => ⟨_, rfl⟩) (fun h => by cases h)
theorem tiok108 : TIok Tryd.prog 108 (ti 108) := tiok_mk rfl Tryd.underlying108 (i := Tryd.t108) (by kernel_rfl) ⟨_, Tryd.underlying108, rfl, rfl⟩ rfl rfl rfl rfl rfl (fun _ => ⟨_, rfl⟩) (fun h => by cases h)
theorem tiok109 : TIok Tryd.prog 109 (ti 109) := tiok_mk rfl Tryd.underlying109 (i := Tryd.t109) (by kernel_rfl) Tryd.underlying109 rfl rfl rfl rfl rfl (fun h => by cases h) (fun _ => ⟨rfl, rfl⟩)
theorem tiok110 : TIok Tryd.prog 110 (ti 110) := tiok_mk rfl Tryd.underlying110 (i := Tryd.t110) (by kernel_rfl) ⟨_, Tryd.underlying110, rfl⟩ rfl rfl rfl rfl rfl (fun h => by cases h) (fun _ => ⟨rfl, rfl⟩)
theorem tiok111 : TIok Tryd.prog 111 (ti 111) := tiok_mk rfl Tryd.underlying111 (i := Tryd.t111) (by kernel_rfl) Tryd.underlying111 rfl rfl rfl rfl rfl (fun _ => ⟨_, rfl⟩) (fun h => by cases h)
theorem tiok112 : TIok Tryd.prog 112 (ti 112) := tiok_mk rfl Tryd.underlying112 (i := Tryd.t112) (by kernel_rfl) Tryd.underlying112 rfl rfl rfl rfl rfl (fun _ => ⟨_, rfl⟩) (fun h => by cases h)
theorem tiok113 : TIok Tryd.prog 113 (ti 113) := tiok_mk rfl Tryd.underlying113 (i := Tryd.t113) (by kernel_rfl) ⟨_, Tryd.underlying113, rfl, rfl⟩ rfl rfl rfl rfl rfl (fun _ => ⟨_, rfl⟩) (fun h => by cases h)
theorem tiok114 : TIok Tryd.prog 114 (ti 114) := tiok_mk rfl Tryd.underlying114 (i := Tryd.t114) (by kernel_rfl) ⟨_, Tryd.underlying114, rfl, rfl⟩ rfl rfl rfl rfl rfl (fun _ => ⟨_, rfl⟩) (fun h => by cases h)
theorem tiok115 : TIok Tryd.prog 115 (ti 115) := tiok_mk rfl Tryd.underlying115 (i := Tryd.t115) (by kernel_rfl) Tryd.underlying115 rfl rfl rfl rfl rfl (fun h => by cases h) (fun _ => ⟨rfl, rfl⟩)
theorem tiok116 : TIok Tryd.prog 116 (ti 116) := tiok_mk rfl Tryd.underlying116 (i := Tryd.t116) (by kernel_rfl) ⟨_, Tryd.underlying116, rfl⟩ rfl rfl rfl rfl rfl (fun h => by cases h) (fun _ => ⟨rfl, rfl⟩)
theorem tiok117 : TIok Tryd.prog 117 (ti 117) := tiok_mk rfl Tryd.underlying117 (i := Tryd.t117) (by kernel_rfl) ⟨_, Tryd.underlying117, rfl⟩ rfl rfl rfl rfl rfl (fun h => by cases h) (fun _ => ⟨rfl, rfl⟩)
theorem tiok118 : TIok Tryd.prog 118 (ti 118) := tiok_mk rfl Tryd.underlying118 (i := Tryd.t118) (by kernel_rfl) ⟨_, Tryd.underlying118, rfl⟩ rfl rfl rfl rfl rfl (fun h => by cases h) (fun _ => ⟨rfl, rfl⟩)
theorem tiok119 : TIok Tryd.prog 119 (ti 119) := tiok_mk rfl Tryd.underlying119 (i := Tryd.t119) (by kernel_rfl) ⟨_, Tryd.underlying119, rfl⟩ rfl rfl rfl rfl rfl (fun h => by cases h) (fun _ => ⟨rfl, rfl⟩)
theorem tiok120 : TIok Tryd.prog 120 (ti 120) := tiok_mk rfl Tryd.underlying120 (i := Tryd.t120) (by kernel_rfl) ⟨_, Tryd.underlying120, rfl⟩ rfl rfl rfl rfl rfl (fun h => by cases h) (fun _ => ⟨rfl, rfl⟩)
theorem tiok121 : TIok Tryd.prog 121 (ti 121) := tiok_mk rfl Tryd.underlying121 (i := Tryd.t121) (by kernel_rfl) ⟨_, Tryd.underlying121, rfl⟩ rfl rfl rfl rfl rfl (fun h => by cases h) (fun _ => ⟨rfl, rfl⟩)
theorem tiok122 : TIok Tryd.prog 122 (ti 122) := tiok_mk rfl Tryd.underlying122 (i := Tryd.t122) (by kernel_rfl) ⟨_, Tryd.underlying122, rfl, rfl⟩ rfl rfl rfl rfl rfl (fun _ => ⟨_, rfl⟩) (fun h => by cases h)
theorem tiok123 : TIok Tryd.prog 123 (ti 123) := tiok_mk rfl Tryd.underlying123 (i := Tryd.t123) (by kernel_rfl) ⟨_, Tryd.underlying123, rfl, rfl⟩ rfl rfl rfl rfl rfl (fun _ => ⟨_, rfl⟩) (fun h => by cases h)
theorem tiok124 : TIok Tryd.prog 124 (ti 124) := tiok_mk rfl Tryd.underlying124 (i := Tryd.t124) (by kernel_rfl) ⟨_, Tryd.underlying124, rfl⟩ rfl rfl rfl rfl rfl (fun h => by cases h) (fun _ => ⟨rfl, rfl⟩)
theorem tiok125 : TIok Tryd.prog 125 (ti 125) := tiok_mk rfl Tryd.underlying125 (i := Tryd.t125) (by kernel_rfl) Tryd.underlying125 rfl rfl rfl rfl rfl (fun _ => ⟨_, rfl⟩) (fun h => by cases h)
theorem tiok126 : TIok Tryd.prog 126 (ti 126) := tiok_mk rfl Tryd.underlying126 (i := Tryd.t126) (by kernel_rfl) Tryd.underlying126 rfl rfl rfl rfl rfl (fun _ => ⟨_, rfl⟩) (fun h => by cases h)
theorem tiok127 : TIok Tryd.prog 127 (ti 127) := tiok_mk rfl Tryd.underlying127 (i := Tryd.t127) (by kernel_rfl) ⟨_, Tryd.underlying127, rfl⟩ rfl rfl rfl rfl rfl (fun h => by cases h) (fun _ => ⟨rfl, rfl⟩)
theorem tiok128 : TIok Tryd.prog 128 (ti 128) := tiok_mk rfl Tryd.underlying128 (i := Tryd.t128) (by kernel_rfl) ⟨_, Tryd.underlying128, rfl⟩ rfl rfl rfl rfl rfl (fun h => by cases h) (fun _ => ⟨rfl, rfl⟩)
theorem tiok129 : TIok Tryd.prog 129 (ti 129) := tiok_mk rfl Tryd.underlying129 (i := Tryd.t129) (by kernel_rfl) Tryd.underlying129 rfl rfl rfl rfl rfl (fun _ => ⟨_, rfl⟩) (fun h => by cases h)
theorem tiok130 : TIok Tryd.prog 130 (ti 130) := tiok_mk rfl Tryd.underlying130 (i := Tryd.t130) (by kernel_rfl) Tryd.underlying130 rfl rfl rfl rfl rfl (fun _ => ⟨_, rfl⟩) (fun h => by cases h)
theorem tiok131 : TIok Tryd.prog 131 (ti 131) := tiok_mk rfl Tryd.underlying131 (i := Tryd.t131) (by kernel_rfl) ⟨_, Tryd.underlying131, rfl⟩ rfl rfl rfl rfl rfl (fun h => by cases h) (fun _ => ⟨rfl, rfl⟩)
theorem tiok133 : TIok Tryd.prog 133 (ti 133) := tiok_mk rfl Tryd.underlying133 (i := Tryd.t133) (by kernel_rfl) ⟨_, Tryd.underlying133, rfl⟩ rfl rfl rfl rfl rfl (fun h => by cases h) (fun _ => ⟨rfl, rfl⟩)
theorem tiok134 : TIok Tryd.prog 134 (ti 134) := tiok_mk rfl Tryd.underlying134 (i := Tryd.t134) (by kernel_rfl) Tryd.underlying134 rfl rfl rfl rfl rfl (fun _ => ⟨_, rfl⟩) (fun h => by cases h)
theorem tiok135 : TIok Tryd.prog 135 (ti 135) := tiok_mk rfl Tryd.underlying135 (i := Tryd.t135) (by kernel_rfl) Tryd.underlying135 rfl rfl rfl rfl rfl (fun h => by cases h) (fun _ => ⟨rfl, rfl⟩)
theorem tiok136 : TIok Tryd.prog 136 (ti 136) := tiok_mk rfl Tryd.underlying136 (i := Tryd.t136) (by kernel_rfl) ⟨_, Tryd.underlying136, rfl⟩ rfl rfl rfl rfl rfl (fun h => by cases h) (fun _ => ⟨rfl, rfl⟩)
theorem tiok137 : TIok Tryd.prog 137 (ti 137) := tiok_mk rfl Tryd.underlying137 (i := Tryd.t137) (by kernel_rfl) ⟨_, Tryd.underlying137, rfl⟩ rfl rfl rfl rfl rfl (fun h => by cases h) (fun _ => ⟨rfl, rfl⟩)
theorem tiok138 : TIok Tryd.prog 138 (ti 138) := tiok_mk rfl Tryd.underlying138 (i := Tryd.t138) (by kernel_rfl) ⟨_, Tryd.underlying138, rfl⟩ rfl rfl rfl rfl rfl (fun h => by cases h) (fun _ => ⟨rfl, rfl⟩)
theorem tiok139 : TIok Tryd.prog 139 (ti 139) := tiok_mk rfl Tryd.underlying139 (i := Tryd.t139) (by kernel_rfl) ⟨_, Tryd.underlying139, rfl⟩ rfl rfl rfl rfl rfl (fun h => by cases h) (fun _ => ⟨rfl, rfl⟩)
theorem tiok140 : TIok Tryd.prog 140 (ti 140) := tiok_mk rfl Tryd.underlying140 (i := Tryd.t140) (by kernel_rfl) ⟨_, Tryd.underlying140, rfl⟩ rfl rfl rfl rfl rfl (fun h => by cases h) (fun _ => ⟨rfl, rfl⟩)
theorem tiok143 : TIok Tryd.prog 143 (ti 143) := tiok_mk rfl Tryd.underlying143 (i := Tryd.t143) (by kernel_rfl) Tryd.underlying143 rfl rfl rfl rfl rfl (fun _ => ⟨_, rfl⟩) (fun h => by cases h)
theorem tiok144 : TIok Tryd.prog 144 (ti 144) := tiok_mk rfl Tryd.underlying144 (i := Tryd.t144) (by kernel_rfl) ⟨_, Tryd.underlying144, rfl, rfl⟩ rfl rfl rfl rfl rfl (fun _ => ⟨_, rfl⟩) (fun h => by cases h)
theorem tiok145 : TIok Tryd.prog 145 (ti 145) := tiok_mk rfl Tryd.underlying145 (i := Tryd.t145) (by kernel_rfl) ⟨_, Tryd.underlying145, rfl, rfl⟩ rfl rfl rfl rfl rfl (fun _ => ⟨_, rfl⟩) (fun h => by cases h)
theorem tiok146 : TIok Tryd.prog 146 (ti 146) := tiok_mk rfl Tryd.underlying146 (i := Tryd.t146) (by kernel_rfl) ⟨_, Tryd.underlying146, rfl⟩ rfl rfl rfl rfl rfl (fun h => by cases h) (fun _ => ⟨rfl, rfl⟩)
theorem tiok147 : TIok Tryd.prog 147 (ti 147) := tiok_mk rfl Tryd.underlying147 (i := Tryd.t147) (by kernel_rfl) ⟨_, Tryd.underlying147, rfl⟩ rfl rfl rfl rfl rfl (fun h => by cases h) (fun _ => ⟨rfl, rfl⟩)
theorem tiok148 : TIok Tryd.prog 148 (ti 148) := tiok_mk rfl Tryd.underlying148 (i := Tryd.t148) (by kernel_rfl) ⟨_, Tryd.underlying148, rfl⟩ rfl rfl rfl rfl rfl (fun h => by cases h) (fun _ => ⟨rfl, rfl⟩)
theorem tiok149 : TIok Tryd.prog 149 (ti 149) := tiok_mk rfl Tryd.underlying149 (i := Tryd.t149) (by kernel_rfl) ⟨_, Tryd.underlying149, rfl⟩ rfl rfl rfl rfl rfl (fun h => by cases h) (fun _ => ⟨rfl, rfl⟩)
theorem tiok150 : TIok Tryd.prog 150 (ti 150) := tiok_mk rfl Tryd.underlying150 (i := Tryd.t150) (by kernel_rfl) ⟨_, Tryd.underlying150, rfl⟩ rfl rfl rfl rfl rfl (fun h => by cases h) (fun _ => ⟨rfl, rfl⟩)
theorem tiok151 : TIok Tryd.prog 151 (ti 151) := tiok_mk rfl Tryd.underlying151 (i := Tryd.t151) (by kernel_rfl) ⟨_, Tryd.underlying151, rfl⟩ rfl rfl rfl rfl rfl (fun h => by cases h) (fun _ => ⟨rfl, rfl⟩)
theorem tiok152 : TIok Tryd.prog 152 (ti 152) := tiok_mk rfl Tryd.underlying152 (i := Tryd.t152) (by kernel_rfl) ⟨_, Tryd.underlying152, rfl⟩ rfl rfl rfl rfl rfl (fun h => by cases h) (fun _ => ⟨rfl, rfl⟩)
theorem tiok153 : TIok Tryd.prog 153 (ti 153) := tiok_mk rfl Tryd.underlying153 (i := Tryd.t153) (by kernel_rfl) ⟨_, Tryd.underlying153, rfl, rfl⟩ rfl rfl rfl rfl rfl (fun _ => ⟨_, rfl⟩) (fun h => by cases h)
theorem tiok154 : TIok Tryd.prog 154 (ti 154) := tiok_mk rfl Tryd.underlying154 (i := Tryd.t154) (by kernel_rfl) ⟨_, Tryd.underlying154, rfl, rfl⟩ rfl rfl rfl rfl rfl (fun _ => ⟨_, rfl⟩) (fun h => by cases h)
set_option maxRecDepth 100000 in
theorem tiok : ∀ t, TIok Tryd.prog t (ti t) := by
  intro t
  unfold ti
  split
  · exact tiok1
  · exact tiok2
  · exact tiok3
  · exact tiok4
  · exact tiok5
  · exact tiok6
  · exact tiok7
  · exact tiok8
  · exact tiok12
  · exact tiok15
  · exact tiok16
  · exact tiok17
  · exact tiok18
  · exact tiok19
  · exact tiok21
  · exact tiok22
  · exact tiok23
  · exact tiok24
  · exact tiok25
  · exact tiok26
  · exact tiok27
  · exact tiok28
  · exact tiok29
  · exact tiok31
  · exact tiok32
  · exact tiok34
  · exact tiok36
  · exact tiok37
  · exact tiok38
  · exact tiok39
  · exact tiok40
  · exact tiok41
  · exact tiok42
  · exact tiok43
  · exact tiok45
  · exact tiok47
  · exact tiok48
  · exact tiok49
  · exact tiok50
  · exact tiok51
  · exact tiok52
  · exact tiok53
  · exact tiok54
  · exact tiok55
  · exact tiok57
  · exact tiok58
  · exact tiok59
  · exact tiok60
  · exact tiok61
  · exact tiok62
  · exact tiok63
  · exact tiok64
  · exact tiok65
  · exact tiok66
  · exact tiok67
  · exact tiok68
  · exact tiok69
  · exact tiok70
  · exact tiok71
  · exact tiok73
  · exact tiok74
  · exact tiok75
  · exact tiok76
  · exact tiok77
  · exact tiok78
  · exact tiok79
  · exact tiok80
  · exact tiok81
  · exact tiok82
  · exact tiok83
  · exact tiok84
  · exact tiok85
  · exact tiok87
  · exact tiok88
  · exact tiok89
  · exact tiok90
  · exact tiok91
  · exact tiok92
  · exact tiok93
  · exact tiok94
  · exact tiok95
  · exact tiok96
  · exact tiok98
  · exact tiok99
  · exact tiok100
  · exact tiok101
  · exact tiok102
  · exact tiok103
  · exact tiok105
  · exact tiok106
  · exact tiok107
  · exact tiok108
  · exact tiok109
  · exact tiok110
  · exact tiok111
  · exact tiok112
  · exact tiok113
  · exact tiok114
  · exact tiok115
  · exact tiok116
  · exact tiok117
  · exact tiok118
  · exact tiok119
  · exact tiok120
  · exact tiok121
  · exact tiok122
  · exact tiok123
  · exact tiok124
  · exact tiok125
  · exact tiok126
  · exact tiok127
  · exact tiok128
  · exact tiok129
  · exact tiok130
  · exact tiok131
  · exact tiok133
  · exact tiok134
  · exact tiok135
  · exact tiok136
  · exact tiok137
  · exact tiok138
  · exact tiok139
  · exact tiok140
  · exact tiok143
  · exact tiok144
  · exact tiok145
  · exact tiok146
  · exact tiok147
  · exact tiok148
  · exact tiok149
  · exact tiok150
  · exact tiok151
  · exact tiok152
  · exact tiok153
  · exact tiok154
  · exact tiok_bad
attribute [go_sem] ti3 ti4 ti5 ti6 ti7 ti8 ti12 ti15 ti16 ti17 ti18 ti19 ti21 ti22 ti23 ti24 ti25 ti26 ti27 ti28 ti29 ti40 ti62 ti67 ti70 ti71 ti77 ti78 ti79 ti80 ti81 ti82 ti84 ti85 ti94 ti95 ti96 ti100 ti101 ti107 ti108 ti109 ti111 ti112 ti113 ti114 ti115 ti122 ti123 ti125 ti126 ti129 ti130 ti134 ti135 ti143 ti144 ti145 ti146 ti147 ti148 ti150 ti151 ti152 ti153 ti154 ti99 ti121 ti133 ti136 ti137
end Wb
/- Types that are compared, and keys of maps. (Made by a program.) -/
namespace Wb
open Go Go.Proofs
set_option linter.unusedSimpArgs false
theorem eqint (d : Nat) (a b : Int) (w : World) : (Op.equalIn (d + 1) 3 (.int .i64 a) (.int .i64 b)).run Tryd.prog w = .ok (a == b) w := by
  unfold Op.equalIn
  rw [Sem.run_bind, run_underlying Tryd.underlying3 w, Result.andThen_ok]
  simp
theorem eqbool (d : Nat) (a b : Bool) (w : World) : (Op.equalIn (d + 1) 4 (.bool a) (.bool b)).run Tryd.prog w = .ok (a == b) w := by
  unfold Op.equalIn
  rw [Sem.run_bind, run_underlying Tryd.underlying4 w, Result.andThen_ok]
  rfl
theorem chkint (d : Nat) (e : Bool) (a : Int) (w : World) : (Instr.checkKey e (d + 1) 3 (.int .i64 a)).run Tryd.prog w = .ok () w := by
  unfold Instr.checkKey
  rw [Sem.run_bind, run_underlying Tryd.underlying3 w, Result.andThen_ok]
  rfl
theorem keyok3 : KeyOK Tryd.prog 3 1 false := by
  rintro w l l' x y h1 ⟨n, rfl, rfl⟩ ⟨m, rfl, rfl⟩ h2
  exact ⟨by rw [show Op.equal 3 (.int .i64 n) (.int .i64 m) = Op.equalIn (9999 + 1) 3 (.int .i64 n) (.int .i64 m) from rfl, eqint]; simp, fun e => chkint 9999 e n w⟩
theorem part3 (cs : Array Value) (off : Nat) (v : Value) (h : cs[off]? = some v) (w : World) : (part 3 cs off).run Tryd.prog w = .ok v w := by
  simp [part, Tryd.isAgg3, h]
theorem part4 (cs : Array Value) (off : Nat) (v : Value) (h : cs[off]? = some v) (w : World) : (part 4 cs off).run Tryd.prog w = .ok v w := by
  simp [part, Tryd.isAgg4, h]
theorem two_rep {w : World} {Z : Nat → Prop} {C : Ctx} {xs : List PV} {a : Array Value} (h : likeL xs [.int .i64 0, .int .i64 0] = true) (hr : RepL w Z C xs a) :
    ∃ p q, xs = [.int .i64 p, .int .i64 q] ∧ a = #[.int .i64 p, .int .i64 q] := by
  match xs, h with
  | [.int .i64 p, .int .i64 q], _ =>
    have h2 := hr.s
    obtain ⟨l⟩ := a
    match l, h2 with
    | [x, y], h2 =>
      obtain ⟨h3, h4, _⟩ := h2
      cases h3; cases h4
      exact ⟨p, q, rfl, rfl⟩
  | .int .i64 _ :: .int .i64 _ :: _ :: _, h => simp [likeL] at h
theorem eq85 (a b c d : Int) (w : World) : (Op.equal 85 (.agg #[.int .i64 a, .int .i64 b]) (.agg #[.int .i64 c, .int .i64 d])).run Tryd.prog w = .ok (a == c && b == d) w := by
  show (Op.equalIn (9999 + 1) 85 _ _).run _ _ = _
  unfold Op.equalIn
  rw [Sem.run_bind, run_underlying Tryd.underlying85 w, Result.andThen_ok]
  have p0 : ∀ (x y : Int) (w : World), (part 3 #[Value.int .i64 x, Value.int .i64 y] 0).run Tryd.prog w = .ok (.int .i64 x) w := fun x y w => part3 _ 0 _ rfl w
  have p1 : ∀ (x y : Int) (w : World), (part 3 #[Value.int .i64 x, Value.int .i64 y] 1).run Tryd.prog w = .ok (.int .i64 y) w := fun x y w => part3 _ 1 _ rfl w
  have hq : ∀ x y w, (Op.equalIn 9999 3 (.int .i64 x) (.int .i64 y)).run Tryd.prog w = .ok (x == y) w := fun x y w => eqint 9998 x y w
  simp only [Sem.run_bind, run_program, Result.andThen_ok, Tryd.stoodInHeld85, Bool.false_eq_true, if_false, ← Array.forIn_toList, List.forIn_cons, List.forIn_nil, ne_eq, String.reduceEq, not_false_eq_true, if_true, p0, p1, hq]
  cases hac : (a == c)
  · simp
  · simp only [Bool.not_true, Bool.false_eq_true, if_false, Sem.run_pure, Result.andThen_ok, Sem.run_bind, p1, hq]
    cases hbd : (b == d) <;> simp
theorem keyok85 : KeyOK Tryd.prog 85 2 true := by
  rintro w l l' x y h1 hx hy h2
  match l, l', h1, h2 with
  | [a, b], [c, d], _, _ =>
    have hx : x = .agg #[.int .i64 a, .int .i64 b] := hx
    have hy : y = .agg #[.int .i64 c, .int .i64 d] := hy
    subst hx; subst hy
    refine ⟨by rw [eq85]; simp, fun e => ?_⟩
    show (Instr.checkKey e (9999 + 1) 85 _).run _ _ = _
    unfold Instr.checkKey
    rw [Sem.run_bind, run_underlying Tryd.underlying85 w, Result.andThen_ok]
    have p0 : ∀ (x y : Int) (w : World), (part 3 #[Value.int .i64 x, Value.int .i64 y] 0).run Tryd.prog w = .ok (.int .i64 x) w := fun x y w => part3 _ 0 _ rfl w
    have p1 : ∀ (x y : Int) (w : World), (part 3 #[Value.int .i64 x, Value.int .i64 y] 1).run Tryd.prog w = .ok (.int .i64 y) w := fun x y w => part3 _ 1 _ rfl w
    have hq : ∀ x w, (Instr.checkKey e 9999 3 (.int .i64 x)).run Tryd.prog w = .ok () w := fun x w => chkint 9998 e x w
    simp [← Array.forIn_toList, p0, p1, hq]
theorem sev_rep {w : World} {Z : Nat → Prop} {C : Ctx} {xs : List PV} {a : Array Value} (h : likeL xs [.bool false, .bool false, .bool false, .bool false, .bool false, .bool false, .bool false] = true) (hr : RepL w Z C xs a) :
    ∃ p q r s t u v, xs = [.bool p, .bool q, .bool r, .bool s, .bool t, .bool u, .bool v] ∧ a = #[.bool p, .bool q, .bool r, .bool s, .bool t, .bool u, .bool v] := by
  match xs, h with
  | [.bool p, .bool q, .bool r, .bool s, .bool t, .bool u, .bool v], _ =>
    have h2 := hr.s
    obtain ⟨l⟩ := a
    match l, h2 with
    | [x1, x2, x3, x4, x5, x6, x7], h2 =>
      obtain ⟨a1, a2, a3, a4, a5, a6, a7, _⟩ := h2
      cases a1; cases a2; cases a3; cases a4; cases a5; cases a6; cases a7
      exact ⟨p, q, r, s, t, u, v, rfl, rfl⟩
  | .bool _ :: .bool _ :: .bool _ :: .bool _ :: .bool _ :: .bool _ :: .bool _ :: _ :: _, h => simp [likeL] at h
theorem eqok130 : EqOK Tryd.prog 130 (ti 130).zero := by
  intro w Z C xs ys a b h1 h2 h3 h4
  obtain ⟨p, q, r, s, t, u, v, rfl, rfl⟩ := sev_rep h1 h3
  obtain ⟨p', q', r', s', t', u', v', rfl, rfl⟩ := sev_rep h2 h4
  refine ⟨?_, fun op x y => ?_⟩
  · show (Op.equalIn (9999 + 1) 130 _ _).run _ _ = _
    rw [run_equalIn_array w 9999 _ _ Tryd.underlying130 (show Tryd.prog.info? 4 = some Tryd.t4 by kernel_rfl)]
    have hc : Tryd.prog.cellsOf 4 = 1 := by kernel_rfl
    have hq : ∀ x y w, (Op.equalIn 9999 4 (.bool x) (.bool y)).run Tryd.prog w = .ok (x == y) w := fun x y w => eqbool 9998 x y w
    have p0 : ∀ (p q r s t u v : Bool) (w : World), (part 4 #[Value.bool p, .bool q, .bool r, .bool s, .bool t, .bool u, .bool v] 0).run Tryd.prog w = .ok (.bool p) w := fun p q r s t u v w => part4 _ 0 _ rfl w
    have p1 : ∀ (p q r s t u v : Bool) (w : World), (part 4 #[Value.bool p, .bool q, .bool r, .bool s, .bool t, .bool u, .bool v] 1).run Tryd.prog w = .ok (.bool q) w := fun p q r s t u v w => part4 _ 1 _ rfl w
    have p2 : ∀ (p q r s t u v : Bool) (w : World), (part 4 #[Value.bool p, .bool q, .bool r, .bool s, .bool t, .bool u, .bool v] 2).run Tryd.prog w = .ok (.bool r) w := fun p q r s t u v w => part4 _ 2 _ rfl w
    have p3 : ∀ (p q r s t u v : Bool) (w : World), (part 4 #[Value.bool p, .bool q, .bool r, .bool s, .bool t, .bool u, .bool v] 3).run Tryd.prog w = .ok (.bool s) w := fun p q r s t u v w => part4 _ 3 _ rfl w
    have p4 : ∀ (p q r s t u v : Bool) (w : World), (part 4 #[Value.bool p, .bool q, .bool r, .bool s, .bool t, .bool u, .bool v] 4).run Tryd.prog w = .ok (.bool t) w := fun p q r s t u v w => part4 _ 4 _ rfl w
    have p5 : ∀ (p q r s t u v : Bool) (w : World), (part 4 #[Value.bool p, .bool q, .bool r, .bool s, .bool t, .bool u, .bool v] 5).run Tryd.prog w = .ok (.bool u) w := fun p q r s t u v w => part4 _ 5 _ rfl w
    have p6 : ∀ (p q r s t u v : Bool) (w : World), (part 4 #[Value.bool p, .bool q, .bool r, .bool s, .bool t, .bool u, .bool v] 6).run Tryd.prog w = .ok (.bool v) w := fun p q r s t u v w => part4 _ 6 _ rfl w
    rw [hc, show List.range 7 = [0, 1, 2, 3, 4, 5, 6] from rfl]
    simp only [Op.eqItems, Sem.run_bind, Nat.mul_one, p0, hq, Result.andThen_ok, eqL]
    cases p == p'
    · simp
    · simp only [Bool.not_true, Bool.false_eq_true, if_false, Sem.run_bind, p1, hq, Result.andThen_ok]
      cases q == q'
      · simp
      · simp only [Bool.not_true, Bool.false_eq_true, if_false, Sem.run_bind, p2, hq, Result.andThen_ok]
        cases r == r'
        · simp
        · simp only [Bool.not_true, Bool.false_eq_true, if_false, Sem.run_bind, p3, hq, Result.andThen_ok]
          cases s == s'
          · simp
          · simp only [Bool.not_true, Bool.false_eq_true, if_false, Sem.run_bind, p4, hq, Result.andThen_ok]
            cases t == t'
            · simp
            · simp only [Bool.not_true, Bool.false_eq_true, if_false, Sem.run_bind, p5, hq, Result.andThen_ok]
              cases u == u'
              · simp
              · simp only [Bool.not_true, Bool.false_eq_true, if_false, Sem.run_bind, p6, hq, Result.andThen_ok]
                cases v == v' <;> simp
  · unfold eqGuard
    cases op <;> simp [Tryd.eqGuardType130]
end Wb
/- The seat's environments. -/
namespace Wb
open Go Go.Proofs
def glB : Nat → Option (List PV) := fun g => if g = 0 then some [.fn 113 [] [], .fn 114 [] [], .fn 115 [] []] else none
def eqB : Nat → Bool
  | 130 => true
  | _ => false
def keyB : Nat → Bool
  | 3 => true
  | 85 => true
  | _ => false
def mkE (sp : List (Nat × Spec)) (il : List (Nat × Func)) : Env := { ti, spec := tab sp, inl := tab il, glob := glB, eqt := eqB, keyt := keyB }
theorem mkE_ti (sp : List (Nat × Spec)) (il : List (Nat × Func)) (t : Nat) : (mkE sp il).ti t = ti t := rfl
theorem mkE_glob (sp : List (Nat × Spec)) (il : List (Nat × Func)) (t : Nat) : (mkE sp il).glob t = glB t := rfl
theorem mkE_eqt (sp : List (Nat × Spec)) (il : List (Nat × Func)) (t : Nat) : (mkE sp il).eqt t = eqB t := rfl
theorem mkE_keyt (sp : List (Nat × Spec)) (il : List (Nat × Func)) (t : Nat) : (mkE sp il).keyt t = keyB t := rfl
def AllOK : List (Nat × Spec) → Prop
  | [] => True
  | p :: ps => (SpecOK Tryd.prog glB p.1 p.2 ∧ Callable Tryd.prog p.1) ∧ AllOK ps
theorem AllOK.mem : ∀ {l : List (Nat × Spec)} {p : Nat × Spec}, AllOK l → p ∈ l → SpecOK Tryd.prog glB p.1 p.2 ∧ Callable Tryd.prog p.1
  | q :: l, p, h, hp => by
    rcases List.mem_cons.1 hp with e | e
    · rw [e]; exact h.1
    · exact AllOK.mem h.2 e
theorem AllOK.append : ∀ {l m : List (Nat × Spec)}, AllOK l → AllOK m → AllOK (l ++ m)
  | [], _, _, k => k
  | _ :: _, _, h, k => ⟨h.1, AllOK.append h.2 k⟩
def InlOK : List (Nat × Func) → Prop
  | [] => True
  | p :: ps => (Tryd.prog.funcs[p.1]? = some p.2 ∧ Callable Tryd.prog p.1 ∧ okC (p.2.body.getD .skip) = true) ∧ InlOK ps
theorem InlOK.mem : ∀ {l : List (Nat × Func)} {p : Nat × Func}, InlOK l → p ∈ l → Tryd.prog.funcs[p.1]? = some p.2 ∧ Callable Tryd.prog p.1 ∧ okC (p.2.body.getD .skip) = true
  | q :: l, p, h, hp => by
    rcases List.mem_cons.1 hp with e | e
    · rw [e]; exact h.1
    · exact InlOK.mem h.2 e
theorem mixed : Tryd.prog.follows .mixedOrders = true := by kernel_rfl
theorem envOK {sp : List (Nat × Spec)} {il : List (Nat × Func)} (h : AllOK sp) (k : InlOK il) : EnvOK Tryd.prog (mkE sp il) where
  ti := tiok
  spec := fun f s hs => h.mem (tab_some hs)
  inl := fun f fn hf => by
    obtain ⟨a, b, c⟩ := k.mem (tab_some hf)
    exact ⟨a, b, fun c' hc' => by rw [hc'] at c; exact c⟩
  eqt := fun t ht => by
    change eqB t = true at ht
    unfold eqB at ht
    split at ht
    · exact eqok130
    · cases ht
  keyt := fun t ht => by
    change keyB t = true at ht
    unfold keyB at ht
    split at ht
    · exact keyok3
    · exact keyok85
    · cases ht
  mixed := mixed
  mt := fun f m h => by cases h
  eff := fun f s h => by cases h
/-- With functions that write what they are given. -/
def mkM (sp : List (Nat × Spec)) (il : List (Nat × Func)) (mt : List (Nat × MSpec)) : Env := { ti, spec := tab sp, inl := tab il, glob := glB, eqt := eqB, keyt := keyB, mt := tab mt }
def MutAll : List (Nat × MSpec) → Prop
  | [] => True
  | p :: ps => (MutOK Tryd.prog p.1 p.2 ∧ Callable Tryd.prog p.1) ∧ MutAll ps
theorem MutAll.mem : ∀ {l : List (Nat × MSpec)} {p : Nat × MSpec}, MutAll l → p ∈ l → MutOK Tryd.prog p.1 p.2 ∧ Callable Tryd.prog p.1
  | q :: l, p, h, hp => by
    rcases List.mem_cons.1 hp with e | e
    · rw [e]; exact h.1
    · exact MutAll.mem h.2 e
theorem envMOK {sp : List (Nat × Spec)} {il : List (Nat × Func)} {mt : List (Nat × MSpec)} (h : AllOK sp) (k : InlOK il) (hm : MutAll mt) : EnvOK Tryd.prog (mkM sp il mt) where
  ti := tiok
  spec := fun f s hs => h.mem (tab_some hs)
  inl := fun f fn hf => by
    obtain ⟨a, b, c⟩ := k.mem (tab_some hf)
    exact ⟨a, b, fun c' hc' => by rw [hc'] at c; exact c⟩
  eqt := (envOK (sp := []) (il := []) trivial trivial).eqt
  keyt := (envOK (sp := []) (il := []) trivial trivial).keyt
  mixed := mixed
  mt := fun f m h => hm.mem (tab_some h)
  eff := fun f s h => by cases h
/-- With functions that turn the store, known by what they turn. -/
def mkF (sp : List (Nat × Spec)) (il : List (Nat × Func)) (mt : List (Nat × MSpec)) (ef : List (Nat × ESpec)) : Env := { ti, spec := tab sp, inl := tab il, glob := glB, eqt := eqB, keyt := keyB, mt := tab mt, eff := tab ef }
def EffAll : List (Nat × ESpec) → Prop
  | [] => True
  | p :: ps => (EffOK Tryd.prog glB p.1 p.2 ∧ Callable Tryd.prog p.1) ∧ EffAll ps
theorem EffAll.mem : ∀ {l : List (Nat × ESpec)} {p : Nat × ESpec}, EffAll l → p ∈ l → EffOK Tryd.prog glB p.1 p.2 ∧ Callable Tryd.prog p.1
  | q :: l, p, h, hp => by
    rcases List.mem_cons.1 hp with e | e
    · rw [e]; exact h.1
    · exact EffAll.mem h.2 e
theorem envFOK {sp : List (Nat × Spec)} {il : List (Nat × Func)} {mt : List (Nat × MSpec)} {ef : List (Nat × ESpec)} (h : AllOK sp) (k : InlOK il) (hm : MutAll mt) (he : EffAll ef) : EnvOK Tryd.prog (mkF sp il mt ef) where
  ti := tiok
  spec := (envMOK h k hm).spec
  inl := (envMOK h k hm).inl
  eqt := (envMOK h k hm).eqt
  keyt := (envMOK h k hm).keyt
  mixed := mixed
  mt := fun f m h => hm.mem (tab_some h)
  eff := fun f s h => he.mem (tab_some h)
end Wb
/- Data as values. -/
namespace Wb
open Go Go.Proofs Enc Row
set_option linter.unusedSimpArgs false
set_option linter.unusedVariables false
structure Piece where
  size : Int
  weight : Int
  worth : Int
  alone : Bool
  deriving Inhabited, DecidableEq
structure Kind where
  room : Int
  most : Int
  zones : List Int
  step : Int
  deriving Inhabited, DecidableEq
structure PBook where
  pieces : List Piece
  kinds : List Kind
  grams : Int
  free : Int
  unit : Int
  fee : Int
  stamps : List Int
  deriving Inhabited, DecidableEq
structure Parc where
  kind : Int
  pieces : List Int
  deriving Inhabited, DecidableEq
structure Divn where
  loads : List (Int × Int)
  cost : Int
  deriving Inhabited, DecidableEq
def encP (x : Piece) : List PV := [.int .i64 x.size, .int .i64 x.weight, .int .i64 x.worth, .bool x.alone]
def encK (x : Kind) : List PV := [.int .i64 x.room, .int .i64 x.most, .sl (il x.zones) false, .int .i64 x.step]
def encB (x : PBook) : List PV := [.sl (x.pieces.map encP) false, .sl (x.kinds.map encK) false, .int .i64 x.grams, .int .i64 x.free, .int .i64 x.unit, .int .i64 x.fee, .sl (il x.stamps) false]
def encQ (x : Parc) : List PV := [.int .i64 x.kind, .sl (il x.pieces) false]
def encS (x : Int × Int) : List PV := [.int .i64 x.1, .int .i64 x.2]
def encD (x : Divn) : List PV := [.sl (x.loads.map encS) false, .int .i64 x.cost]
def dP : List PV → Option Piece
  | [.int .i64 a, .int .i64 b, .int .i64 c, .bool d] => some ⟨a, b, c, d⟩
  | _ => none
instance : Row Piece where
  row := encP
  drow := dP
  wk_drow r a h := by unfold dP at h; split at h <;> cases h; exact wkL_refl _
  drow_row _ := rfl
def dK : List PV → Option Kind
  | [.int .i64 a, .int .i64 b, .sl rs _, .int .i64 d] => (drows rs).map fun l => ⟨a, b, l, d⟩
  | _ => none
instance : Row Kind where
  row := encK
  drow := dK
  wk_drow r a h := by
    unfold dK at h
    split at h
    · simp only [Option.map_eq_some_iff] at h
      obtain ⟨l, h1, rfl⟩ := h
      exact ⟨rfl, rfl, ⟨wk_drows _ _ h1, fun h => by cases h⟩, rfl, trivial⟩
    · cases h
  drow_row x := by
    have := drows_rows x.zones
    simp only [rows] at this
    simp [dK, encK, show il x.zones = x.zones.map row from rfl, this]
def dQ : List PV → Option Parc
  | [.int .i64 a, .sl rs _] => (drows rs).map fun l => ⟨a, l⟩
  | _ => none
instance : Row Parc where
  row := encQ
  drow := dQ
  wk_drow r a h := by
    unfold dQ at h
    split at h
    · simp only [Option.map_eq_some_iff] at h
      obtain ⟨l, h1, rfl⟩ := h
      exact ⟨rfl, ⟨wk_drows _ _ h1, fun h => by cases h⟩, trivial⟩
    · cases h
  drow_row x := by
    have := drows_rows x.pieces
    simp only [rows] at this
    simp [dQ, encQ, show il x.pieces = x.pieces.map row from rfl, this]
def dSp : List PV → Option (Int × Int)
  | [.int .i64 a, .int .i64 b] => some (a, b)
  | _ => none
instance : Row (Int × Int) where
  row := encS
  drow := dSp
  wk_drow r a h := by unfold dSp at h; split at h <;> cases h; exact wkL_refl _
  drow_row _ := rfl
def dDv : List PV → Option Divn
  | [.sl rs _, .int .i64 c] => (drows rs).map fun l => ⟨l, c⟩
  | _ => none
instance : Row Divn where
  row := encD
  drow := dDv
  wk_drow r a h := by
    unfold dDv at h
    split at h
    · simp only [Option.map_eq_some_iff] at h
      obtain ⟨l, h1, rfl⟩ := h
      exact ⟨⟨wk_drows _ _ h1, fun h => by cases h⟩, rfl, trivial⟩
    · cases h
  drow_row x := by
    have := drows_rows x.loads
    simp only [rows] at this
    simp [dDv, encD, show x.loads.map encS = x.loads.map row from rfl, this]
def dAgg {α : Type} [Row α] : PV → Option α
  | .agg r => drow r
  | _ => none
/-- A struct, by value. -/
abbrev encOfRow (α : Type) [Row α] : Enc α where
  enc a := .agg (row a)
  dec := dAgg
  wk_dec p a h := by
    unfold dAgg at h
    split at h
    · exact Row.wk_drow _ _ h
    · cases h
  dec_enc a := Row.drow_row a
instance : Enc Piece := encOfRow Piece
instance : Enc Kind := encOfRow Kind
instance : Enc Parc := encOfRow Parc
instance : Enc (Int × Int) := encOfRow (Int × Int)
instance : Enc Divn := encOfRow Divn
def dB7 (ps : List (List PV)) (ks : List (List PV)) (a b c d : Int) (st : List (List PV)) : Option PBook :=
  match (drows ps : Option (List Piece)), (drows ks : Option (List Kind)), (drows st : Option (List Int)) with
  | some p, some k, some s => some ⟨p, k, a, b, c, d, s⟩
  | _, _, _ => none
theorem dB7_enc (x : PBook) : dB7 (x.pieces.map encP) (x.kinds.map encK) x.grams x.free x.unit x.fee (il x.stamps) = some x := by
  have h1 := drows_rows x.pieces
  have h2 := drows_rows x.kinds
  have h3 := drows_rows x.stamps
  unfold dB7
  rw [show x.pieces.map encP = rows x.pieces from rfl, show x.kinds.map encK = rows x.kinds from rfl, show il x.stamps = rows x.stamps from rfl, h1, h2, h3]
theorem dB7_wk {ps ks st : List (List PV)} {a b c d : Int} {x : PBook} (h : dB7 ps ks a b c d st = some x) : wk.wkR ps (x.pieces.map encP) ∧ wk.wkR ks (x.kinds.map encK) ∧ a = x.grams ∧ b = x.free ∧ c = x.unit ∧ d = x.fee ∧ wk.wkR st (il x.stamps) := by
  unfold dB7 at h
  split at h
  · rename_i p k s h1 h2 h3
    cases h
    exact ⟨wk_drows _ _ h1, wk_drows _ _ h2, rfl, rfl, rfl, rfl, wk_drows _ _ h3⟩
  · cases h
def dBk : List PV → Option PBook
  | [.sl ps _, .sl ks _, .int .i64 a, .int .i64 b, .int .i64 c, .int .i64 d, .sl st _] => dB7 ps ks a b c d st
  | _ => none
instance : Row PBook where
  row := encB
  drow := dBk
  wk_drow r x h := by
    unfold dBk at h
    split at h
    · obtain ⟨h1, h2, rfl, rfl, rfl, rfl, h3⟩ := dB7_wk h
      exact ⟨⟨h1, fun h => by cases h⟩, ⟨h2, fun h => by cases h⟩, rfl, rfl, rfl, rfl, ⟨h3, fun h => by cases h⟩, trivial⟩
    · cases h
  drow_row x := dB7_enc x
instance : Enc PBook := encOfRow PBook
/-- A book in the calculation, with its map. -/
structure Calc where
  b : PBook
  zone : Int
  es : List (List Int × PV)
def encC (x : Calc) : List PV := encB x.b ++ [.int .i64 x.zone, .mp true 2 x.es]
def dC : PV → Option Calc
  | .agg [.sl ps _, .sl ks _, .int .i64 a, .int .i64 b, .int .i64 c, .int .i64 d, .sl st _, .int .i64 z, .mp true 2 es] => (dB7 ps ks a b c d st).map fun l => ⟨l, z, es⟩
  | _ => none
instance : Enc Calc where
  enc x := .agg (encC x)
  dec := dC
  wk_dec p x h := by
    unfold dC at h
    split at h
    · simp only [Option.map_eq_some_iff] at h
      obtain ⟨l, h, rfl⟩ := h
      obtain ⟨h1, h2, rfl, rfl, rfl, rfl, h3⟩ := dB7_wk h
      exact ⟨⟨h1, fun h => by cases h⟩, ⟨h2, fun h => by cases h⟩, rfl, rfl, rfl, rfl, ⟨h3, fun h => by cases h⟩, rfl, wk_refl _, trivial⟩
    · cases h
  dec_enc x := by
    show dC (.agg (encC x)) = _
    simp only [encC, encB, List.cons_append, List.nil_append, dC, dB7_enc, Option.map_some]
/-- A variable that a function literal holds. -/
structure Rf (α : Type) where
  v : α
def dRf {α : Type} [Row α] : PV → Option (Rf α)
  | .eref r 0 => (drow r).map Rf.mk
  | _ => none
instance {α : Type} [Row α] : Enc (Rf α) where
  enc x := .eref (row x.v) 0
  dec := dRf
  wk_dec p a h := by
    unfold dRf at h
    split at h
    · simp only [Option.map_eq_some_iff] at h
      obtain ⟨l, h1, rfl⟩ := h
      exact ⟨Row.wk_drow _ _ h1, rfl⟩
    · cases h
  dec_enc x := by simp [dRf, Row.drow_row]
theorem dec_il (l : List Int) (ex : Bool) : (dec (.sl (il l) ex) : Option (List Int)) = some l := drows_rows l
theorem dec_span (a b : Int) : (dec (.agg [.int .i64 a, .int .i64 b]) : Option (Int × Int)) = some (a, b) := rfl
theorem dec_piece (f : Piece) : (dec (.agg (encP f)) : Option Piece) = some f := rfl
theorem dec_piece' (a b c : Int) (d : Bool) : (dec (.agg [.int .i64 a, .int .i64 b, .int .i64 c, .bool d]) : Option Piece) = some ⟨a, b, c, d⟩ := rfl
theorem dec_kind (f : Kind) : (dec (.agg (encK f)) : Option Kind) = some f := Row.drow_row f
theorem dec_book (f : PBook) : (dec (.agg (encB f)) : Option PBook) = some f := Row.drow_row f
theorem dec_book' (ps : List Piece) (ks : List Kind) (a b c d : Int) (st : List Int) (e1 e2 e3 : Bool) : (dec (.agg [.sl (ps.map encP) e1, .sl (ks.map encK) e2, .int .i64 a, .int .i64 b, .int .i64 c, .int .i64 d, .sl (il st) e3]) : Option PBook) = some ⟨ps, ks, a, b, c, d, st⟩ := dB7_enc ⟨ps, ks, a, b, c, d, st⟩
theorem dec_parc (k : Int) (l : List Int) (ex : Bool) : (dec (.agg [.int .i64 k, .sl (il l) ex]) : Option Parc) = some ⟨k, l⟩ := Row.drow_row (Parc.mk k l)
theorem dec_parc' (f : Parc) : (dec (.agg (encQ f)) : Option Parc) = some f := Row.drow_row f
theorem dec_calc (ps : List Piece) (ks : List Kind) (a b c d : Int) (st : List Int) (e1 e2 e3 : Bool) (z : Int) (es : List (List Int × PV)) : (dec (.agg [.sl (ps.map encP) e1, .sl (ks.map encK) e2, .int .i64 a, .int .i64 b, .int .i64 c, .int .i64 d, .sl (il st) e3, .int .i64 z, .mp true 2 es]) : Option Calc) = some ⟨⟨ps, ks, a, b, c, d, st⟩, z, es⟩ := by
  show dC _ = _
  have := dB7_enc ⟨ps, ks, a, b, c, d, st⟩
  simp only at this
  simp only [dC, this, Option.map_some]
theorem dec_divn (l : List (Int × Int)) (c : Int) (ex : Bool) : (dec (.agg [.sl (l.map encS) ex, .int .i64 c]) : Option Divn) = some ⟨l, c⟩ := Row.drow_row (Divn.mk l c)
theorem dec_rint (a : Int) : (dec (.eref [.int .i64 a] 0) : Option (Rf Int)) = some ⟨a⟩ := rfl
theorem binds_data (n : Nat) : Region.binds .any { on := n, ground := .data } = true := rfl
theorem binds_phase (n : Nat) : Region.binds .any { on := n, ground := .phase } = true := rfl
theorem binds_chain (n : Nat) : Region.binds .any { on := n, ground := .chain } = true := rfl
theorem binds_guard (n : Nat) : Region.binds .any { on := n, ground := .guard } = true := rfl
attribute [go_sem] binds_data binds_phase binds_chain binds_guard dec_il dec_span dec_piece dec_piece' dec_kind dec_book dec_book' dec_parc dec_parc' dec_calc dec_divn dec_rint
end Wb
/- Small functions: numbers, lists of numbers. -/
namespace Wb
open Go Go.Proofs Enc Row
set_option linter.unusedSimpArgs false
set_option linter.unusedVariables false
set_option maxRecDepth 20000
set_option maxHeartbeats 4000000
def big (n : Nat) : Prop := n < 4611686018427387904
def E0t : List (Nat × Spec) := []
theorem E0t_ok : AllOK E0t := trivial
def E0 : Env := mkE E0t []
theorem E0_ok : EnvOK Tryd.prog E0 := envOK E0t_ok trivial
theorem E0_ti {t : Nat} : E0.ti t = ti t := rfl
theorem E0_q0 : (E0).eqt 130 = true := rfl
theorem E0_q1 : (E0).keyt 3 = true := rfl
theorem E0_q2 : (E0).keyt 85 = true := rfl
attribute [go_sem] E0_ti E0_q0 E0_q1 E0_q2
theorem within_fn (n a b : Int) : Fn E0 0 60 Tryd.f60 (Tryd.f60.body.getD .skip) [.int .i64 n, .int .i64 a, .int .i64 b] (.bool (decide (a ≤ n) && decide (n ≤ b))) := by
  unfold Fn Tryd.f60
  simp only [go_sem, Nat.reduceAdd, Nat.reduceSub, Nat.reduceMul, Nat.reduceEqDiff, Nat.reduceLT, Nat.reduceLeDiff, Nat.reduceBEq, Nat.reduceBNe, Int.reduceToNat, Int.reduceLE, Int.reduceLT, Int.reduceNe, Int.reduceNeg, reduceCtorEq, Int.reduceBEq, Int.reduceBNe]
theorem Tween_fn (n a b : Int) : Fn E0 0 41 Tryd.f41 (Tryd.f41.body.getD .skip) [.int .i64 n, .int .i64 a, .int .i64 b] (.bool (decide (a ≤ n) && decide (n ≤ b))) := by
  unfold Fn Tryd.f41
  simp only [go_sem, Nat.reduceAdd, Nat.reduceSub, Nat.reduceMul, Nat.reduceEqDiff, Nat.reduceLT, Nat.reduceLeDiff, Nat.reduceBEq, Nat.reduceBNe, Int.reduceToNat, Int.reduceLE, Int.reduceLT, Int.reduceNe, Int.reduceNeg, reduceCtorEq, Int.reduceBEq, Int.reduceBNe]
def spinF (n m : Int) : Int := if m < 1 then 0 else n % m
theorem Spin_fn (n m : Int) (hm : m ≤ 9223372036854775807) : Fn E0 0 35 Tryd.f35 (Tryd.f35.body.getD .skip) [.int .i64 n, .int .i64 m] (.int .i64 (spinF n m)) := by
  unfold Fn Tryd.f35
  simp only [go_sem, Nat.reduceAdd, Nat.reduceSub, Nat.reduceMul, Nat.reduceEqDiff, Nat.reduceLT, Nat.reduceLeDiff, Nat.reduceBEq, Nat.reduceBNe, Int.reduceToNat, Int.reduceLE, Int.reduceLT, Int.reduceNe, Int.reduceNeg, reduceCtorEq, Int.reduceBEq, Int.reduceBNe]
  unfold spinF
  rw [condK_bool]
  refine ⟨fun h => ?_, fun h => ?_⟩
  · have h : m < 1 := by simpa using h
    simp only [go_sem, Nat.reduceAdd, Nat.reduceSub, Nat.reduceMul, Nat.reduceEqDiff, Nat.reduceLT, Nat.reduceLeDiff, Nat.reduceBEq, Nat.reduceBNe, Int.reduceToNat, Int.reduceLE, Int.reduceLT, Int.reduceNe, Int.reduceNeg, reduceCtorEq, Int.reduceBEq, Int.reduceBNe]
    simp [h]
  · have h : ¬ m < 1 := by simpa using h
    simp only [go_sem, Nat.reduceAdd, Nat.reduceSub, Nat.reduceMul, Nat.reduceEqDiff, Nat.reduceLT, Nat.reduceLeDiff, Nat.reduceBEq, Nat.reduceBNe, Int.reduceToNat, Int.reduceLE, Int.reduceLT, Int.reduceNe, Int.reduceNeg, reduceCtorEq, Int.reduceBEq, Int.reduceBNe, condK_bool]
    rw [if_neg h]
    have hb : 0 < m := by omega
    have h0 := Int.emod_nonneg n (show m ≠ 0 by omega)
    have h1 := Int.emod_lt_of_pos n hb
    have ht := @Int.tmod_eq_emod n m
    have hn : (m.natAbs : Int) = m := by omega
    refine ⟨by omega, fun h2 => ?_, fun h2 => ?_⟩
    · have h2 : n.tmod m < 0 := by simpa using h2
      rw [ht] at h2 ⊢
      split at h2
      · omega
      · rename_i hc
        rw [if_neg hc, hn]
        rw [wrap_id (by omega)]; omega
    · have h2 : ¬ n.tmod m < 0 := by simpa using h2
      rw [ht] at h2 ⊢
      split at h2
      · rename_i hc; rw [if_pos hc]; omega
      · rename_i hc
        rw [hn] at h2
        omega
theorem il_get (l : List Int) (i : Nat) : (il l).getD i [PV.int .i64 0] = [PV.int .i64 (l.getD i 0)] := il_getD l i
def findI {α : Type} (p : α → Bool) : List α → Nat → Int
  | [], _ => -1
  | a :: l, i => if p a then i else findI p l (i + 1)
theorem findI_dropZ (p : Int → Bool) {l : List Int} {i : Nat} (h : i < l.length) : findI p (l.drop i) i = if p (l.getD i 0) then (i : Int) else findI p (l.drop (i + 1)) (i + 1) := by
  rw [List.drop_eq_getElem_cons h]
  simp [findI, h]
theorem Place_fn (l : List Int) (ex : Bool) (n : Int) (hl : l.length < 4611686018427387904) : Fn E0 0 44 Tryd.f44 (Tryd.f44.body.getD .skip) [.sl (il l) ex, .int .i64 n] (.int .i64 (findI (fun a => a == n) l 0)) := by
  unfold Fn Tryd.f44
  simp only [go_sem, Nat.reduceAdd, Nat.reduceSub, Nat.reduceMul, Nat.reduceEqDiff, Nat.reduceLT, Nat.reduceLeDiff, Nat.reduceBEq, Nat.reduceBNe, Int.reduceToNat, Int.reduceLE, Int.reduceLT, Int.reduceNe, Int.reduceNeg, reduceCtorEq, Int.reduceBEq, Int.reduceBNe]
  refine ev_loop (α := Nat) (fun i => [.sl (il l) ex, .int .i64 n, .undef, .undef, .int .i64 0, .int .i64 i] ++ List.replicate 13 .undef) (fun i H => i ≤ l.length ∧ findI (fun a => a == n) (l.drop i) i = findI (fun a => a == n) l 0) (fun i => l.length - i) 0 ?_ ⟨Nat.zero_le _, by simp⟩ ?_
  · simp only [go_sem, Nat.reduceAdd, Nat.reduceSub, Nat.reduceMul, Nat.reduceEqDiff, Nat.reduceLT, Nat.reduceLeDiff, Nat.reduceBEq, Nat.reduceBNe, Int.reduceToNat, Int.reduceLE, Int.reduceLT, Int.reduceNe, Int.reduceNeg, reduceCtorEq, Int.reduceBEq, Int.reduceBNe, fg]
  · intro K i H ⟨hi, hf⟩ hK hE
    simp only [go_sem, Nat.reduceAdd, Nat.reduceSub, Nat.reduceMul, Nat.reduceEqDiff, Nat.reduceLT, Nat.reduceLeDiff, Nat.reduceBEq, Nat.reduceBNe, Int.reduceToNat, Int.reduceLE, Int.reduceLT, Int.reduceNe, Int.reduceNeg, reduceCtorEq, Int.reduceBEq, Int.reduceBNe, il_length, il_get]
    rw [condK_bool]
    refine ⟨fun h => ?_, fun h => ?_⟩
    · have h' : i < l.length := by simpa using h
      simp only [go_sem, Nat.reduceAdd, Nat.reduceSub, Nat.reduceMul, Nat.reduceEqDiff, Nat.reduceLT, Nat.reduceLeDiff, Nat.reduceBEq, Nat.reduceBNe, Int.reduceToNat, Int.reduceLE, Int.reduceLT, Int.reduceNe, Int.reduceNeg, reduceCtorEq, Int.reduceBEq, Int.reduceBNe, il_length, il_get, condK_bool]
      refine ⟨by simpa using h, fun h2 => ?_, fun h2 => ?_⟩
      · refine hE _ _ _ (by simp) ?_
        simp only [go_sem, Nat.reduceAdd, Nat.reduceSub, Nat.reduceMul, Nat.reduceEqDiff, Nat.reduceLT, Nat.reduceLeDiff, Nat.reduceBEq, Nat.reduceBNe, Int.reduceToNat, Int.reduceLE, Int.reduceLT, Int.reduceNe, Int.reduceNeg, reduceCtorEq, Int.reduceBEq, Int.reduceBNe]
        rw [← hf, findI_dropZ _ h']
        simp only [h2, beq_self_eq_true, if_true]
      · refine hK (i + 1) _ _ ?_ ⟨h', ?_⟩ (by omega)
        · rw [wrap_id (by omega)]
          simp only [go_sem, Nat.reduceAdd, Nat.reduceSub, Nat.reduceMul, Nat.reduceEqDiff, Nat.reduceLT, Nat.reduceLeDiff, Nat.reduceBEq, Nat.reduceBNe, Int.reduceToNat, Int.reduceLE, Int.reduceLT, Int.reduceNe, Int.reduceNeg, reduceCtorEq, Int.reduceBEq, Int.reduceBNe, fg, Int.natCast_add, Int.natCast_one]
        · rw [← hf, findI_dropZ _ h', h2]; rfl
    · refine hE _ _ _ (by simp) ?_
      simp only [go_sem, Nat.reduceAdd, Nat.reduceSub, Nat.reduceMul, Nat.reduceEqDiff, Nat.reduceLT, Nat.reduceLeDiff, Nat.reduceBEq, Nat.reduceBNe, Int.reduceToNat, Int.reduceLE, Int.reduceLT, Int.reduceNe, Int.reduceNeg, reduceCtorEq, Int.reduceBEq, Int.reduceBNe]
      have h' : i = l.length := by have : ¬ ((i : Int) < (l.length : Int)) := by simpa using h
                                   omega
      rw [← hf, h']
      simp [findI]
theorem take_succ_beq {a b : List Int} {i : Nat} (ha : i < a.length) (hb : i < b.length) (h : a.take i = b.take i) : (a.take (i + 1) == b.take (i + 1)) = (a.getD i 0 == b.getD i 0) := by
  rw [List.take_succ_eq_append_getElem ha, List.take_succ_eq_append_getElem hb, h]
  have e1 : a.getD i 0 = a[i] := by simp [ha]
  have e2 : b.getD i 0 = b[i] := by simp [hb]
  rw [e1, e2, Bool.eq_iff_iff]
  simp only [beq_iff_eq, List.append_cancel_left_eq, List.cons.injEq, and_true]
theorem Match_fn (a b : List Int) (ex ex' : Bool) (hl : a.length < 4611686018427387904) : Fn E0 0 22 Tryd.f22 (Tryd.f22.body.getD .skip) [.sl (il a) ex, .sl (il b) ex'] (.bool (a == b)) := by
  unfold Fn Tryd.f22
  simp only [go_sem, Nat.reduceAdd, Nat.reduceSub, Nat.reduceMul, Nat.reduceEqDiff, Nat.reduceLT, Nat.reduceLeDiff, Nat.reduceBEq, Nat.reduceBNe, Int.reduceToNat, Int.reduceLE, Int.reduceLT, Int.reduceNe, Int.reduceNeg, reduceCtorEq, Int.reduceBEq, Int.reduceBNe, il_length]
  refine ev_loop (α := Nat × Bool) (fun x => [.sl (il a) ex, .sl (il b) ex', .undef, .undef, .bool false, .bool x.2, .int .i64 x.1] ++ List.replicate 24 .undef) (fun x H => x.1 ≤ a.length ∧ (x.2 = (decide (a.length = b.length) && (a.take x.1 == b.take x.1)))) (fun x => a.length - x.1) (0, decide (a.length = b.length)) ?_ ⟨Nat.zero_le _, by simp⟩ ?_
  · simp only [go_sem, Nat.reduceAdd, Nat.reduceSub, Nat.reduceMul, Nat.reduceEqDiff, Nat.reduceLT, Nat.reduceLeDiff, Nat.reduceBEq, Nat.reduceBNe, Int.reduceToNat, Int.reduceLE, Int.reduceLT, Int.reduceNe, Int.reduceNeg, reduceCtorEq, Int.reduceBEq, Int.reduceBNe, fg]
    rw [Bool.eq_iff_iff]; simp; omega
  · intro K x H ⟨hi, hf⟩ hK hE
    obtain ⟨i, ok⟩ := x
    simp only at hi hf
    simp only [go_sem, Nat.reduceAdd, Nat.reduceSub, Nat.reduceMul, Nat.reduceEqDiff, Nat.reduceLT, Nat.reduceLeDiff, Nat.reduceBEq, Nat.reduceBNe, Int.reduceToNat, Int.reduceLE, Int.reduceLT, Int.reduceNe, Int.reduceNeg, reduceCtorEq, Int.reduceBEq, Int.reduceBNe, il_length, il_get]
    rw [condK_bool]
    refine ⟨fun h => ?_, fun h => ?_⟩
    · simp only [go_sem, Nat.reduceAdd, Nat.reduceSub, Nat.reduceMul, Nat.reduceEqDiff, Nat.reduceLT, Nat.reduceLeDiff, Nat.reduceBEq, Nat.reduceBNe, Int.reduceToNat, Int.reduceLE, Int.reduceLT, Int.reduceNe, Int.reduceNeg, reduceCtorEq, Int.reduceBEq, Int.reduceBNe, il_length, il_get]
      simp only [Bool.and_eq_true, decide_eq_true_eq] at h
      obtain ⟨h1, h2⟩ := h
      rw [h1] at hf
      have hf := hf.symm
      simp only [Bool.and_eq_true, decide_eq_true_eq, beq_iff_eq] at hf
      have h3 : i < a.length := by omega
      refine ⟨h2, by omega, hK (i + 1, a.getD i 0 == b.getD i 0) _ _ ?_ ⟨h3, ?_⟩ (by simp only; omega)⟩
      · rw [wrap_id (by omega)]
        simp only [go_sem, Nat.reduceAdd, Nat.reduceSub, Nat.reduceMul, Nat.reduceEqDiff, Nat.reduceLT, Nat.reduceLeDiff, Nat.reduceBEq, Nat.reduceBNe, Int.reduceToNat, Int.reduceLE, Int.reduceLT, Int.reduceNe, Int.reduceNeg, reduceCtorEq, Int.reduceBEq, Int.reduceBNe, fg, Int.natCast_add, Int.natCast_one]
      · rw [take_succ_beq h3 (by omega) hf.2, hf.1]; simp
    · refine hE _ _ _ (by simp) ?_
      simp only [go_sem, Nat.reduceAdd, Nat.reduceSub, Nat.reduceMul, Nat.reduceEqDiff, Nat.reduceLT, Nat.reduceLeDiff, Nat.reduceBEq, Nat.reduceBNe, Int.reduceToNat, Int.reduceLE, Int.reduceLT, Int.reduceNe, Int.reduceNeg, reduceCtorEq, Int.reduceBEq, Int.reduceBNe]
      rw [hf]
      simp only [Bool.and_eq_false_iff, decide_eq_false_iff_not] at h
      rcases h with h | h
      · rw [h] at hf
        rw [← hf]
        symm
        rw [Bool.eq_false_iff]
        intro h'
        rw [beq_iff_eq] at h'
        subst h'
        simp at hf
      · have : i = a.length := by omega
        subst this
        rw [Bool.eq_iff_iff]
        simp only [Bool.and_eq_true, decide_eq_true_eq, beq_iff_eq, List.take_length]
        constructor
        · rintro ⟨h1, h2⟩
          rw [h2, h1, List.take_length]
        · rintro rfl
          simp

end Wb
/- Sets of small numbers as bits. -/
namespace Wb
open Go Go.Proofs Enc Row
set_option linter.unusedSimpArgs false
set_option linter.unusedVariables false
set_option maxRecDepth 20000
set_option maxHeartbeats 4000000
theorem ofNat_toNat {a : Nat} (h : a < 2 ^ 62) : (BitVec.ofNat 64 a).toNat = a := by
  rw [BitVec.toNat_ofNat]; exact Nat.mod_eq_of_lt (by omega)
theorem bits_and {a b : Nat} (ha : a < 2 ^ 62) (hb : b < 2 ^ 62) : bits .and .i64 (a : Int) (b : Int) = ((a &&& b : Nat) : Int) := by
  have h : a &&& b ≤ a := Nat.and_le_left
  have e : (BitVec.ofNat 64 a &&& BitVec.ofNat 64 b).toNat = a &&& b := by rw [BitVec.toNat_and, ofNat_toNat ha, ofNat_toNat hb]
  show IntKind.i64.wrap (((BitVec.ofInt 64 (a : Int) &&& BitVec.ofInt 64 (b : Int)).toNat : Nat) : Int) = _
  rw [BitVec.ofInt_natCast, BitVec.ofInt_natCast, e]
  exact wrap_id (by omega)
theorem or_lt {a b : Nat} (ha : a < 2 ^ 62) (hb : b < 2 ^ 62) : a ||| b < 2 ^ 62 := Nat.or_lt_two_pow ha hb
theorem bits_or {a b : Nat} (ha : a < 2 ^ 62) (hb : b < 2 ^ 62) : bits .or .i64 (a : Int) (b : Int) = ((a ||| b : Nat) : Int) := by
  have h := or_lt ha hb
  have e : (BitVec.ofNat 64 a ||| BitVec.ofNat 64 b).toNat = a ||| b := by rw [BitVec.toNat_or, ofNat_toNat ha, ofNat_toNat hb]
  show IntKind.i64.wrap (((BitVec.ofInt 64 (a : Int) ||| BitVec.ofInt 64 (b : Int)).toNat : Nat) : Int) = _
  rw [BitVec.ofInt_natCast, BitVec.ofInt_natCast, e]
  exact wrap_id (by omega)
theorem shr_nat {a k : Nat} (ha : a < 2 ^ 62) : shft false .i64 (a : Int) (k : Int) = ((a >>> k : Nat) : Int) := by
  simp only [shft, Bool.false_eq_true, if_false, Int.toNat_natCast]
  rw [Int.fdiv_eq_ediv_of_nonneg _ (Int.le_of_lt (Int.pow_pos (by decide))), Nat.shiftRight_eq_div_pow]
  by_cases hk : k ≤ 64
  · rw [show min k IntKind.i64.bits = k from Nat.min_eq_left hk]
    norm_cast
  · rw [show min k IntKind.i64.bits = 64 from Nat.min_eq_right (show 64 ≤ k by omega)]
    have h1 : a / 2 ^ k = 0 := Nat.div_eq_of_lt (Nat.lt_of_lt_of_le ha (Nat.pow_le_pow_right (by decide) (by omega)))
    rw [h1]
    have h2 : a / 2 ^ 64 = 0 := Nat.div_eq_of_lt (by omega)
    have : ((a / 2 ^ 64 : Nat) : Int) = (a : Int) / 2 ^ 64 := by norm_cast
    rw [← this, h2]
theorem shl_one {k : Nat} (hk : k < 62) : shft true .i64 1 (k : Int) = ((2 ^ k : Nat) : Int) := by
  simp only [shft, if_true, Int.toNat_natCast, Int.one_mul]
  rw [show min k IntKind.i64.bits = k from Nat.min_eq_left (show k ≤ 64 by omega)]
  have : 2 ^ k < 2 ^ 62 := Nat.pow_lt_pow_right (by decide) hk
  rw [wrap_id ⟨?_, ?_⟩]
  · norm_cast
  · have : (0 : Int) < 2 ^ k := Int.pow_pos (by decide)
    omega
  · have h2 : ((2 ^ k : Nat) : Int) < ((2 ^ 62 : Nat) : Int) := Int.ofNat_lt.2 this
    rw [Int.natCast_pow] at h2
    have h3 : ((2 ^ 62 : Nat) : Int) = 4611686018427387904 := by decide
    rw [h3] at h2
    have h4 : ((2 : Nat) : Int) ^ k = (2 : Int) ^ k := rfl
    omega
theorem bit_test {a k : Nat} (ha : a < 2 ^ 62) : (bits .and .i64 (shft false .i64 (a : Int) (k : Int)) 1 == 1) = a.testBit k := by
  have h1 : a >>> k < 2 ^ 62 := Nat.lt_of_le_of_lt (by rw [Nat.shiftRight_eq_div_pow]; exact Nat.div_le_self ..) ha
  rw [shr_nat ha, show (1 : Int) = ((1 : Nat) : Int) from rfl, bits_and h1 (by decide), Nat.testBit, Nat.and_comm]
  have h2 : (a >>> k) &&& 1 = (a >>> k) % 2 := Nat.and_one_is_mod _
  rw [Bool.eq_iff_iff]
  simp only [beq_iff_eq, bne_iff_ne, ne_eq, Nat.and_comm 1, h2]
  omega
end Wb
/- Small functions, again. -/
namespace Wb
open Go Go.Proofs Enc Row
set_option linter.unusedSimpArgs false
set_option linter.unusedVariables false
set_option maxRecDepth 20000
set_option maxHeartbeats 4000000
def climbsF (below : Int) : Int → List Int → Bool
  | _, [] => true
  | before, a :: l => decide (before < a) && decide (a < below) && climbsF below a l
theorem climbs_drop {below : Int} {l : List Int} {i : Nat} (h : i < l.length) (before : Int) : climbsF below before (l.drop i) = (decide (before < l.getD i 0) && decide (l.getD i 0 < below) && climbsF below (l.getD i 0) (l.drop (i + 1))) := by
  rw [List.drop_eq_getElem_cons h]
  simp [climbsF, h]
theorem Climbs_fn (l : List Int) (ex : Bool) (n : Int) (hl : l.length < 4611686018427387904) : Fn E0 0 37 Tryd.f37 (Tryd.f37.body.getD .skip) [.sl (il l) ex, .int .i64 n] (.bool (climbsF n (-1) l)) := by
  unfold Fn Tryd.f37
  simp only [go_sem, Nat.reduceAdd, Nat.reduceSub, Nat.reduceMul, Nat.reduceEqDiff, Nat.reduceLT, Nat.reduceLeDiff, Nat.reduceBEq, Nat.reduceBNe, Int.reduceToNat, Int.reduceLE, Int.reduceLT, Int.reduceNe, Int.reduceNeg, reduceCtorEq, Int.reduceBEq, Int.reduceBNe]
  refine ev_loop (α := Nat × Int) (fun x => [.sl (il l) ex, .int .i64 n, .undef, .undef, .bool false, .int .i64 x.2, .int .i64 x.1] ++ List.replicate 24 .undef) (fun x H => x.1 ≤ l.length ∧ climbsF n (-1) l = climbsF n x.2 (l.drop x.1)) (fun x => l.length - x.1) (0, -1) ?_ ⟨Nat.zero_le _, by simp⟩ ?_
  · simp only [go_sem, Nat.reduceAdd, Nat.reduceSub, Nat.reduceMul, Nat.reduceEqDiff, Nat.reduceLT, Nat.reduceLeDiff, Nat.reduceBEq, Nat.reduceBNe, Int.reduceToNat, Int.reduceLE, Int.reduceLT, Int.reduceNe, Int.reduceNeg, reduceCtorEq, Int.reduceBEq, Int.reduceBNe, fg]
  · intro K x H ⟨hi, hf⟩ hK hE
    obtain ⟨i, b⟩ := x
    simp only at hi hf
    simp only [go_sem, Nat.reduceAdd, Nat.reduceSub, Nat.reduceMul, Nat.reduceEqDiff, Nat.reduceLT, Nat.reduceLeDiff, Nat.reduceBEq, Nat.reduceBNe, Int.reduceToNat, Int.reduceLE, Int.reduceLT, Int.reduceNe, Int.reduceNeg, reduceCtorEq, Int.reduceBEq, Int.reduceBNe, il_length, il_get]
    rw [condK_bool]
    refine ⟨fun hg => ?_, fun h => ?_⟩
    · have h2 : (i : Int) < (l.length : Int) := by simpa using hg
      have h3 : i < l.length := by omega
      have w2 : IntKind.i64.wrap ((i : Int) + 1) = (i : Int) + 1 := wrap_id (by omega)
      simp only [go_sem, Nat.reduceAdd, Nat.reduceSub, Nat.reduceMul, Nat.reduceEqDiff, Nat.reduceLT, Nat.reduceLeDiff, Nat.reduceBEq, Nat.reduceBNe, Int.reduceToNat, Int.reduceLE, Int.reduceLT, Int.reduceNe, Int.reduceNeg, reduceCtorEq, Int.reduceBEq, Int.reduceBNe, il_length, il_get]
      refine ⟨h2, fun _ => h2, ?_⟩
      rw [condK_bool]
      refine ⟨fun h4 => ?_, fun h4 => ?_⟩
      · simp only [go_sem, Nat.reduceAdd, Nat.reduceSub, Nat.reduceMul, Nat.reduceEqDiff, Nat.reduceLT, Nat.reduceLeDiff, Nat.reduceBEq, Nat.reduceBNe, Int.reduceToNat, Int.reduceLE, Int.reduceLT, Int.reduceNe, Int.reduceNeg, reduceCtorEq, Int.reduceBEq, Int.reduceBNe, il_length, il_get]
        refine hE _ _ _ (by simp) ?_
        simp only [go_sem, Nat.reduceAdd, Nat.reduceSub, Nat.reduceMul, Nat.reduceEqDiff, Nat.reduceLT, Nat.reduceLeDiff, Nat.reduceBEq, Nat.reduceBNe, Int.reduceToNat, Int.reduceLE, Int.reduceLT, Int.reduceNe, Int.reduceNeg, reduceCtorEq, Int.reduceBEq, Int.reduceBNe]
        rw [hf, climbs_drop h3]
        simp only [Bool.or_eq_true, decide_eq_true_eq] at h4
        rcases h4 with h4 | h4
        · have : ¬ b < l.getD i 0 := by omega
          simp [this, -List.getD_eq_getElem?_getD]
        · have : ¬ l.getD i 0 < n := by omega
          simp [this, -List.getD_eq_getElem?_getD]
      · simp only [go_sem, Nat.reduceAdd, Nat.reduceSub, Nat.reduceMul, Nat.reduceEqDiff, Nat.reduceLT, Nat.reduceLeDiff, Nat.reduceBEq, Nat.reduceBNe, Int.reduceToNat, Int.reduceLE, Int.reduceLT, Int.reduceNe, Int.reduceNeg, reduceCtorEq, Int.reduceBEq, Int.reduceBNe, il_length, il_get]
        refine ⟨h2, hK (i + 1, l.getD i 0) _ _ ?_ ⟨h3, ?_⟩ (by simp only; omega)⟩
        · simp only [go_sem, Nat.reduceAdd, Nat.reduceSub, Nat.reduceMul, Nat.reduceEqDiff, Nat.reduceLT, Nat.reduceLeDiff, Nat.reduceBEq, Nat.reduceBNe, Int.reduceToNat, Int.reduceLE, Int.reduceLT, Int.reduceNe, Int.reduceNeg, reduceCtorEq, Int.reduceBEq, Int.reduceBNe, fg, w2, Int.natCast_add, Int.natCast_one]
        · rw [hf, climbs_drop h3]
          simp only [Bool.or_eq_false_iff, decide_eq_false_iff_not] at h4
          have h5 : b < l.getD i 0 := by omega
          have h6 : l.getD i 0 < n := by omega
          simp only [h5, h6, decide_true, Bool.true_and]
    · refine hE _ _ _ (by simp) ?_
      simp only [go_sem, Nat.reduceAdd, Nat.reduceSub, Nat.reduceMul, Nat.reduceEqDiff, Nat.reduceLT, Nat.reduceLeDiff, Nat.reduceBEq, Nat.reduceBNe, Int.reduceToNat, Int.reduceLE, Int.reduceLT, Int.reduceNe, Int.reduceNeg, reduceCtorEq, Int.reduceBEq, Int.reduceBNe]
      have : i = l.length := by
        have : ¬ ((i : Int) < (l.length : Int)) := by simpa using h
        omega
      rw [hf, this]
      simp [climbsF]

def small (n : Int) : Prop := -4611686018427387904 ≤ n ∧ n ≤ 4611686018427387904
def sTween : Spec := spec3 (fun (_ _ _ : Int) => True) (fun n a b => .bool (decide (a ≤ n) && decide (n ≤ b)))
theorem s60_ok : SpecOK Tryd.prog glB 60 sTween := spec3_ok (n := 0) E0_ok Tryd.func60 rfl (by kernel_rfl) fun n a b _ => within_fn n a b
theorem s41_ok : SpecOK Tryd.prog glB 41 sTween := spec3_ok (n := 0) E0_ok Tryd.func41 rfl (by kernel_rfl) fun n a b _ => Tween_fn n a b
def sSpin : Spec := spec2 (fun (_ m : Int) => m ≤ 9223372036854775807) (fun n m => .int .i64 (spinF n m))
theorem s35_ok : SpecOK Tryd.prog glB 35 sSpin := spec2_ok (n := 0) E0_ok Tryd.func35 rfl (by kernel_rfl) fun n m h => Spin_fn n m h
def sPlace : Spec := spec2 (fun (l : List Int) (_ : Int) => big l.length) (fun l n => .int .i64 (findI (fun a => a == n) l 0))
theorem s44_ok : SpecOK Tryd.prog glB 44 sPlace := spec2_ok (n := 0) E0_ok Tryd.func44 rfl (by kernel_rfl) fun l n h => Place_fn l false n h
def s22 : Spec := spec2 (fun (a b : List Int) => big a.length) (fun a b => .bool (a == b))
theorem s22_ok : SpecOK Tryd.prog glB 22 s22 := spec2_ok (n := 0) E0_ok Tryd.func22 rfl (by kernel_rfl) fun a b h => Match_fn a b false false h
def s37 : Spec := spec2 (fun (l : List Int) (n : Int) => big l.length) (fun l n => .bool (climbsF n (-1) l))
theorem s37_ok : SpecOK Tryd.prog glB 37 s37 := spec2_ok (n := 0) E0_ok Tryd.func37 rfl (by kernel_rfl) fun l n h => Climbs_fn l false n h
theorem nan_fn (a : Int) : Fn E0 0 91 Tryd.f91 (Tryd.f91.body.getD .skip) [.int .i64 a] (.bool false) := by
  unfold Fn Tryd.f91
  simp only [go_sem, Nat.reduceAdd, Nat.reduceSub, Nat.reduceMul, Nat.reduceEqDiff, Nat.reduceLT, Nat.reduceLeDiff, Nat.reduceBEq, Nat.reduceBNe, Int.reduceToNat, Int.reduceLE, Int.reduceLT, Int.reduceNe, Int.reduceNeg, reduceCtorEq, Int.reduceBEq, Int.reduceBNe, bne_self_eq_false]
def s91 : Spec := spec1 (fun (_ : Int) => True) (fun _ => .bool false)
theorem s91_ok : SpecOK Tryd.prog glB 91 s91 := spec1_ok (n := 0) E0_ok Tryd.func91 rfl (by kernel_rfl) fun n _ => nan_fn n
theorem In_fn (s k : Nat) (hs : s < 2 ^ 62) : Fn E0 0 80 Tryd.f80 (Tryd.f80.body.getD .skip) [.int .i64 s, .int .i64 k] (.bool (s.testBit k)) := by
  unfold Fn Tryd.f80
  simp only [go_sem, Nat.reduceAdd, Nat.reduceSub, Nat.reduceMul, Nat.reduceEqDiff, Nat.reduceLT, Nat.reduceLeDiff, Nat.reduceBEq, Nat.reduceBNe, Int.reduceToNat, Int.reduceLE, Int.reduceLT, Int.reduceNe, Int.reduceNeg, reduceCtorEq, Int.reduceBEq, Int.reduceBNe, bit_test hs, Int.natCast_nonneg]
def s80 : Spec := spec2 (fun (s k : Int) => (0 ≤ s ∧ s < 2 ^ 62) ∧ 0 ≤ k) (fun s k => .bool (s.toNat.testBit k.toNat))
theorem s80_ok : SpecOK Tryd.prog glB 80 s80 := spec2_ok (n := 0) E0_ok Tryd.func80 rfl (by kernel_rfl) fun s k h => by
  obtain ⟨⟨h1, h2⟩, h3⟩ := h
  obtain ⟨a, rfl⟩ := Int.eq_ofNat_of_zero_le h1
  obtain ⟨b, rfl⟩ := Int.eq_ofNat_of_zero_le h3
  exact In_fn a b (by omega)
theorem piece_fn (a b c : Int) (d : Bool) : Fn E0 0 82 Tryd.f82 (Tryd.f82.body.getD .skip) [.int .i64 a, .int .i64 b, .int .i64 c, .bool d] (.agg [.int .i64 a, .int .i64 b, .int .i64 c, .bool d]) := by
  unfold Fn Tryd.f82
  simp only [go_sem, Nat.reduceAdd, Nat.reduceSub, Nat.reduceMul, Nat.reduceEqDiff, Nat.reduceLT, Nat.reduceLeDiff, Nat.reduceBEq, Nat.reduceBNe, Int.reduceToNat, Int.reduceLE, Int.reduceLT, Int.reduceNe, Int.reduceNeg, reduceCtorEq, Int.reduceBEq, Int.reduceBNe]
def s82 : Spec := spec4 (fun (_ _ _ : Int) (_ : Bool) => True) (fun a b c d => .agg [.int .i64 a, .int .i64 b, .int .i64 c, .bool d])
theorem s82_ok : SpecOK Tryd.prog glB 82 s82 := spec4_ok (n := 0) E0_ok Tryd.func82 rfl (by kernel_rfl) fun a b c d _ => piece_fn a b c d
theorem of_fn (k : Int) (l : List Int) : Fn E0 0 42 Tryd.f42 (Tryd.f42.body.getD .skip) [.int .i64 k, .sl (il l) false] (.agg [.int .i64 k, .sl (il l) false]) := by
  unfold Fn Tryd.f42
  simp only [go_sem, Nat.reduceAdd, Nat.reduceSub, Nat.reduceMul, Nat.reduceEqDiff, Nat.reduceLT, Nat.reduceLeDiff, Nat.reduceBEq, Nat.reduceBNe, Int.reduceToNat, Int.reduceLE, Int.reduceLT, Int.reduceNe, Int.reduceNeg, reduceCtorEq, Int.reduceBEq, Int.reduceBNe]
def s42 : Spec := spec2 (fun (_ : Int) (_ : List Int) => True) (fun k l => .agg [.int .i64 k, .sl (il l) false])
theorem s42_ok : SpecOK Tryd.prog glB 42 s42 := spec2_ok (n := 0) E0_ok Tryd.func42 rfl (by kernel_rfl) fun k l _ => of_fn k l
def s77 : Spec := spec0 True (.agg [.fn 93 [] []])
theorem s77_ok : SpecOK Tryd.prog glB 77 s77 := spec0_ok (n := 0) E0_ok Tryd.func77 rfl (by kernel_rfl) fun _ => by
  unfold Fn Tryd.f77
  simp only [go_sem, Nat.reduceAdd, Nat.reduceSub, Nat.reduceMul, Nat.reduceEqDiff, Nat.reduceLT, Nat.reduceLeDiff, Nat.reduceBEq, Nat.reduceBNe, Int.reduceToNat, Int.reduceLE, Int.reduceLT, Int.reduceNe, Int.reduceNeg, reduceCtorEq, Int.reduceBEq, Int.reduceBNe]
def s84 : Spec := spec0 True (.agg [.fn 94 [] []])
theorem s84_ok : SpecOK Tryd.prog glB 84 s84 := spec0_ok (n := 0) E0_ok Tryd.func84 rfl (by kernel_rfl) fun _ => by
  unfold Fn Tryd.f84
  simp only [go_sem, Nat.reduceAdd, Nat.reduceSub, Nat.reduceMul, Nat.reduceEqDiff, Nat.reduceLT, Nat.reduceLeDiff, Nat.reduceBEq, Nat.reduceBNe, Int.reduceToNat, Int.reduceLE, Int.reduceLT, Int.reduceNe, Int.reduceNeg, reduceCtorEq, Int.reduceBEq, Int.reduceBNe]
def s85 : Spec := spec0 True (.agg [.fn 95 [] []])
theorem s85_ok : SpecOK Tryd.prog glB 85 s85 := spec0_ok (n := 0) E0_ok Tryd.func85 rfl (by kernel_rfl) fun _ => by
  unfold Fn Tryd.f85
  simp only [go_sem, Nat.reduceAdd, Nat.reduceSub, Nat.reduceMul, Nat.reduceEqDiff, Nat.reduceLT, Nat.reduceLeDiff, Nat.reduceBEq, Nat.reduceBNe, Int.reduceToNat, Int.reduceLE, Int.reduceLT, Int.reduceNe, Int.reduceNeg, reduceCtorEq, Int.reduceBEq, Int.reduceBNe]
def s65 : Spec := spec0 True (.agg [.fn 88 [] []])
theorem s65_ok : SpecOK Tryd.prog glB 65 s65 := spec0_ok (n := 0) E0_ok Tryd.func65 rfl (by kernel_rfl) fun _ => by
  unfold Fn Tryd.f65
  simp only [go_sem, Nat.reduceAdd, Nat.reduceSub, Nat.reduceMul, Nat.reduceEqDiff, Nat.reduceLT, Nat.reduceLeDiff, Nat.reduceBEq, Nat.reduceBNe, Int.reduceToNat, Int.reduceLE, Int.reduceLT, Int.reduceNe, Int.reduceNeg, reduceCtorEq, Int.reduceBEq, Int.reduceBNe]
def s68 : Spec := spec0 True (.agg [.fn 89 [] []])
theorem s68_ok : SpecOK Tryd.prog glB 68 s68 := spec0_ok (n := 0) E0_ok Tryd.func68 rfl (by kernel_rfl) fun _ => by
  unfold Fn Tryd.f68
  simp only [go_sem, Nat.reduceAdd, Nat.reduceSub, Nat.reduceMul, Nat.reduceEqDiff, Nat.reduceLT, Nat.reduceLeDiff, Nat.reduceBEq, Nat.reduceBNe, Int.reduceToNat, Int.reduceLE, Int.reduceLT, Int.reduceNe, Int.reduceNeg, reduceCtorEq, Int.reduceBEq, Int.reduceBNe]
def s93 : Spec := spec1 (fun (_ : Piece) => True) (fun x => .int .i64 x.worth)
theorem s93_ok : SpecOK Tryd.prog glB 93 s93 := spec1_ok (n := 0) E0_ok Tryd.func93 rfl (by kernel_rfl) fun x _ => by
  show Fn E0 0 93 _ _ [.agg (encP x)] _
  unfold Fn Tryd.f93
  simp only [go_sem, Nat.reduceAdd, Nat.reduceSub, Nat.reduceMul, Nat.reduceEqDiff, Nat.reduceLT, Nat.reduceLeDiff, Nat.reduceBEq, Nat.reduceBNe, Int.reduceToNat, Int.reduceLE, Int.reduceLT, Int.reduceNe, Int.reduceNeg, reduceCtorEq, Int.reduceBEq, Int.reduceBNe, encP]
def s94 : Spec := spec1 (fun (_ : Piece) => True) (fun x => .int .i64 x.size)
theorem s94_ok : SpecOK Tryd.prog glB 94 s94 := spec1_ok (n := 0) E0_ok Tryd.func94 rfl (by kernel_rfl) fun x _ => by
  show Fn E0 0 94 _ _ [.agg (encP x)] _
  unfold Fn Tryd.f94
  simp only [go_sem, Nat.reduceAdd, Nat.reduceSub, Nat.reduceMul, Nat.reduceEqDiff, Nat.reduceLT, Nat.reduceLeDiff, Nat.reduceBEq, Nat.reduceBNe, Int.reduceToNat, Int.reduceLE, Int.reduceLT, Int.reduceNe, Int.reduceNeg, reduceCtorEq, Int.reduceBEq, Int.reduceBNe, encP]
def s95 : Spec := spec1 (fun (_ : Piece) => True) (fun x => .int .i64 x.weight)
theorem s95_ok : SpecOK Tryd.prog glB 95 s95 := spec1_ok (n := 0) E0_ok Tryd.func95 rfl (by kernel_rfl) fun x _ => by
  show Fn E0 0 95 _ _ [.agg (encP x)] _
  unfold Fn Tryd.f95
  simp only [go_sem, Nat.reduceAdd, Nat.reduceSub, Nat.reduceMul, Nat.reduceEqDiff, Nat.reduceLT, Nat.reduceLeDiff, Nat.reduceBEq, Nat.reduceBNe, Int.reduceToNat, Int.reduceLE, Int.reduceLT, Int.reduceNe, Int.reduceNeg, reduceCtorEq, Int.reduceBEq, Int.reduceBNe, encP]
end Wb
/- Loops over lists of numbers. -/
namespace Wb
open Go Go.Proofs Enc Row
set_option linter.unusedSimpArgs false
set_option linter.unusedVariables false
set_option maxRecDepth 20000
set_option maxHeartbeats 4000000
def E1t : List (Nat × Spec) := [(60, sTween), (41, sTween), (35, sSpin), (44, sPlace), (22, s22), (37, s37), (91, s91), (80, s80), (82, s82), (42, s42), (77, s77), (84, s84), (85, s85), (65, s65), (68, s68), (93, s93), (94, s94), (95, s95)] ++ E0t
theorem E1t_ok : AllOK E1t := AllOK.append (l := [(60, sTween), (41, sTween), (35, sSpin), (44, sPlace), (22, s22), (37, s37), (91, s91), (80, s80), (82, s82), (42, s42), (77, s77), (84, s84), (85, s85), (65, s65), (68, s68), (93, s93), (94, s94), (95, s95)]) ⟨⟨s60_ok, Tryd.call60⟩, ⟨s41_ok, Tryd.call41⟩, ⟨s35_ok, Tryd.call35⟩, ⟨s44_ok, Tryd.call44⟩, ⟨s22_ok, Tryd.call22⟩, ⟨s37_ok, Tryd.call37⟩, ⟨s91_ok, Tryd.call91⟩, ⟨s80_ok, Tryd.call80⟩, ⟨s82_ok, Tryd.call82⟩, ⟨s42_ok, Tryd.call42⟩, ⟨s77_ok, Tryd.call77⟩, ⟨s84_ok, Tryd.call84⟩, ⟨s85_ok, Tryd.call85⟩, ⟨s65_ok, Tryd.call65⟩, ⟨s68_ok, Tryd.call68⟩, ⟨s93_ok, Tryd.call93⟩, ⟨s94_ok, Tryd.call94⟩, ⟨s95_ok, Tryd.call95⟩, trivial⟩ E0t_ok
def E1 : Env := mkE E1t []
theorem E1_ok : EnvOK Tryd.prog E1 := envOK E1t_ok trivial
theorem E1_ti {t : Nat} : E1.ti t = ti t := rfl
theorem E1_q0 : (E1).eqt 130 = true := rfl
theorem E1_q1 : (E1).keyt 3 = true := rfl
theorem E1_q2 : (E1).keyt 85 = true := rfl
attribute [go_sem] E1_ti E1_q0 E1_q1 E1_q2
theorem Under_fn (n m : Int) (hn : small n) (hm : 1 ≤ m ∧ m ≤ 4611686018427387904) : Fn E1 0 81 Tryd.f81 (Tryd.f81.body.getD .skip) [.int .i64 n, .int .i64 m] (.int .i64 (n / m)) := by
  unfold small at hn
  have h0 := Int.emod_nonneg n (show m ≠ 0 by omega)
  have h1 := Int.emod_lt_of_pos n (show 0 < m by omega)
  have hs : spinF n m = n % m := if_neg (by omega)
  have w1 : IntKind.i64.wrap (n - n % m) = n - n % m := wrap_id (by omega)
  have hd : (n - n % m).tdiv m = n / m := by
    have e : n - n % m = m * (n / m) := by have := Int.emod_add_mul_ediv n m; omega
    rw [e, Int.mul_tdiv_cancel_left _ (by omega)]
  have hq : -4611686018427387904 ≤ n / m ∧ n / m ≤ 4611686018427387904 := by
    constructor
    · exact (Int.le_ediv_iff_mul_le (by omega)).2 (by
        have : (-4611686018427387904) * m ≤ -4611686018427387904 := by omega
        omega)
    · by_cases h : 0 ≤ n
      · exact Int.le_trans (Int.ediv_le_self _ h) hn.2
      · have : n / m < 0 := Int.ediv_neg_of_neg_of_pos (by omega) (by omega)
        omega
  have w2 : IntKind.i64.wrap (n / m) = n / m := wrap_id (by omega)
  unfold Fn Tryd.f81
  simp only [go_sem, Nat.reduceAdd, Nat.reduceSub, Nat.reduceMul, Nat.reduceEqDiff, Nat.reduceLT, Nat.reduceLeDiff, Nat.reduceBEq, Nat.reduceBNe, Int.reduceToNat, Int.reduceLE, Int.reduceLT, Int.reduceNe, Int.reduceNeg, reduceCtorEq, Int.reduceBEq, Int.reduceBNe, @callV_spec E1 35 sSpin rfl, @callV_specT E1 35 sSpin rfl, @stepV_spec E1 35 sSpin rfl, @effV_spec E1 35 sSpin rfl, sSpin, callSpec, hs, w1, hd, w2]
  omega
def s81 : Spec := spec2 (fun (n m : Int) => small n ∧ 1 ≤ m ∧ m ≤ 4611686018427387904) (fun n m => .int .i64 (n / m))
theorem s81_ok : SpecOK Tryd.prog glB 81 s81 := spec2_ok E1_ok Tryd.func81 rfl (by kernel_rfl) fun n m h => Under_fn n m h.1 h.2
theorem Take_fn (l : List Int) (n : Int) (hl : big l.length) : Fn E1 0 48 Tryd.f48 (Tryd.f48.body.getD .skip) [.sl (il l) false, .int .i64 n] (.int .i64 (if l.length = 0 then 0 else l.getD (spinF n l.length).toNat 0)) := by
  unfold big at hl
  unfold Fn Tryd.f48
  simp only [go_sem, Nat.reduceAdd, Nat.reduceSub, Nat.reduceMul, Nat.reduceEqDiff, Nat.reduceLT, Nat.reduceLeDiff, Nat.reduceBEq, Nat.reduceBNe, Int.reduceToNat, Int.reduceLE, Int.reduceLT, Int.reduceNe, Int.reduceNeg, reduceCtorEq, Int.reduceBEq, Int.reduceBNe, @callV_spec E1 35 sSpin rfl, @callV_specT E1 35 sSpin rfl, @stepV_spec E1 35 sSpin rfl, @effV_spec E1 35 sSpin rfl, sSpin, il_length, callSpec]
  rw [condK_bool]
  refine ⟨fun h => ?_, fun h => ?_⟩
  · have h : l.length = 0 := by simpa using h
    simp only [go_sem, Nat.reduceAdd, Nat.reduceSub, Nat.reduceMul, Nat.reduceEqDiff, Nat.reduceLT, Nat.reduceLeDiff, Nat.reduceBEq, Nat.reduceBNe, Int.reduceToNat, Int.reduceLE, Int.reduceLT, Int.reduceNe, Int.reduceNeg, reduceCtorEq, Int.reduceBEq, Int.reduceBNe, h, if_pos]
  · have h : ¬ l.length = 0 := by simpa using h
    have hs : spinF n l.length = n % l.length := if_neg (by omega)
    have h0 := Int.emod_nonneg n (show (l.length : Int) ≠ 0 by omega)
    have h1 := Int.emod_lt_of_pos n (show 0 < (l.length : Int) by omega)
    simp only [go_sem, Nat.reduceAdd, Nat.reduceSub, Nat.reduceMul, Nat.reduceEqDiff, Nat.reduceLT, Nat.reduceLeDiff, Nat.reduceBEq, Nat.reduceBNe, Int.reduceToNat, Int.reduceLE, Int.reduceLT, Int.reduceNe, Int.reduceNeg, reduceCtorEq, Int.reduceBEq, Int.reduceBNe, @callV_spec E1 35 sSpin rfl, @callV_specT E1 35 sSpin rfl, @stepV_spec E1 35 sSpin rfl, @effV_spec E1 35 sSpin rfl, sSpin, il_length, il_get, callSpec, hs, h0, h1, if_neg h]
    omega
def s48 : Spec := spec2 (fun (l : List Int) (_ : Int) => big l.length) (fun l n => .int .i64 (if l.length = 0 then 0 else l.getD (spinF n l.length).toNat 0))
theorem s48_ok : SpecOK Tryd.prog glB 48 s48 := spec2_ok E1_ok Tryd.func48 rfl (by kernel_rfl) fun l n h => Take_fn l n h
def cmpI (a b : Int) : Int := if a < b then -1 else if b < a then 1 else 0
theorem Compare_fn (a b : Int) : Fn E1 0 75 Tryd.f75 (Tryd.f75.body.getD .skip) [.int .i64 a, .int .i64 b] (.int .i64 (cmpI a b)) := by
  unfold Fn Tryd.f75 cmpI
  simp only [go_sem, Nat.reduceAdd, Nat.reduceSub, Nat.reduceMul, Nat.reduceEqDiff, Nat.reduceLT, Nat.reduceLeDiff, Nat.reduceBEq, Nat.reduceBNe, Int.reduceToNat, Int.reduceLE, Int.reduceLT, Int.reduceNe, Int.reduceNeg, reduceCtorEq, Int.reduceBEq, Int.reduceBNe, @callV_spec E1 91 s91 rfl, @callV_specT E1 91 s91 rfl, @stepV_spec E1 91 s91 rfl, @effV_spec E1 91 s91 rfl, s91, callSpec]
  rw [condK_bool]
  refine ⟨fun h => ?_, fun h => ?_⟩
  · have h : a < b := by simpa using h
    simp only [go_sem, Nat.reduceAdd, Nat.reduceSub, Nat.reduceMul, Nat.reduceEqDiff, Nat.reduceLT, Nat.reduceLeDiff, Nat.reduceBEq, Nat.reduceBNe, Int.reduceToNat, Int.reduceLE, Int.reduceLT, Int.reduceNe, Int.reduceNeg, reduceCtorEq, Int.reduceBEq, Int.reduceBNe, if_pos h]
  · have h : ¬ a < b := by simpa using h
    simp only [go_sem, Nat.reduceAdd, Nat.reduceSub, Nat.reduceMul, Nat.reduceEqDiff, Nat.reduceLT, Nat.reduceLeDiff, Nat.reduceBEq, Nat.reduceBNe, Int.reduceToNat, Int.reduceLE, Int.reduceLT, Int.reduceNe, Int.reduceNeg, reduceCtorEq, Int.reduceBEq, Int.reduceBNe, if_neg h]
    rw [condK_bool]
    refine ⟨fun h => ?_, fun h => ?_⟩
    · have h : b < a := by simpa using h
      simp only [go_sem, Nat.reduceAdd, Nat.reduceSub, Nat.reduceMul, Nat.reduceEqDiff, Nat.reduceLT, Nat.reduceLeDiff, Nat.reduceBEq, Nat.reduceBNe, Int.reduceToNat, Int.reduceLE, Int.reduceLT, Int.reduceNe, Int.reduceNeg, reduceCtorEq, Int.reduceBEq, Int.reduceBNe, if_pos h]
    · have h : ¬ b < a := by simpa using h
      simp only [go_sem, Nat.reduceAdd, Nat.reduceSub, Nat.reduceMul, Nat.reduceEqDiff, Nat.reduceLT, Nat.reduceLeDiff, Nat.reduceBEq, Nat.reduceBNe, Int.reduceToNat, Int.reduceLE, Int.reduceLT, Int.reduceNe, Int.reduceNeg, reduceCtorEq, Int.reduceBEq, Int.reduceBNe, if_neg h]
def s75 : Spec := spec2 (fun (_ _ : Int) => True) (fun a b => .int .i64 (cmpI a b))
theorem s75_ok : SpecOK Tryd.prog glB 75 s75 := spec2_ok E1_ok Tryd.func75 rfl (by kernel_rfl) fun a b _ => Compare_fn a b
theorem isZone_fn (a : Int) : Fn E1 0 61 Tryd.f61 (Tryd.f61.body.getD .skip) [.int .i64 a] (.bool (decide (0 ≤ a) && decide (a ≤ 4))) := by
  unfold Fn Tryd.f61
  simp only [go_sem, Nat.reduceAdd, Nat.reduceSub, Nat.reduceMul, Nat.reduceEqDiff, Nat.reduceLT, Nat.reduceLeDiff, Nat.reduceBEq, Nat.reduceBNe, Int.reduceToNat, Int.reduceLE, Int.reduceLT, Int.reduceNe, Int.reduceNeg, reduceCtorEq, Int.reduceBEq, Int.reduceBNe, @callV_spec E1 60 sTween rfl, @callV_specT E1 60 sTween rfl, @stepV_spec E1 60 sTween rfl, @effV_spec E1 60 sTween rfl, sTween, callSpec]
def s61 : Spec := spec1 (fun (_ : Int) => True) (fun a => .bool (decide (0 ≤ a) && decide (a ≤ 4)))
theorem s61_ok : SpecOK Tryd.prog glB 61 s61 := spec1_ok E1_ok Tryd.func61 rfl (by kernel_rfl) fun a _ => isZone_fn a
/-- The first one that is not 0. -/
def orF : List Int → Int
  | [] => 0
  | a :: l => if a = 0 then orF l else a
theorem orF_drop {l : List Int} {i : Nat} (h : i < l.length) : orF (l.drop i) = if l.getD i 0 = 0 then orF (l.drop (i + 1)) else l.getD i 0 := by
  rw [List.drop_eq_getElem_cons h]
  simp [orF, h]
theorem Or_fn (l : List Int) (hl : big l.length) : Fn E1 0 74 Tryd.f74 (Tryd.f74.body.getD .skip) [.sl (il l) false] (.int .i64 (orF l)) := by
  unfold big at hl
  unfold Fn Tryd.f74
  simp only [go_sem, Nat.reduceAdd, Nat.reduceSub, Nat.reduceMul, Nat.reduceEqDiff, Nat.reduceLT, Nat.reduceLeDiff, Nat.reduceBEq, Nat.reduceBNe, Int.reduceToNat, Int.reduceLE, Int.reduceLT, Int.reduceNe, Int.reduceNeg, reduceCtorEq, Int.reduceBEq, Int.reduceBNe, il_length]
  refine ev_loopS [0, 3, 6, 7] (fun i : Nat => [(8, .int .i64 i)]) (fun i H => i ≤ l.length ∧ orF (l.drop i) = orF l) (fun i => l.length - i) 0 ?_ ⟨Nat.zero_le _, by simp⟩ ?_
  · simp only [go_sem, Nat.reduceAdd, Nat.reduceSub, Nat.reduceMul, Nat.reduceEqDiff, Nat.reduceLT, Nat.reduceLeDiff, Nat.reduceBEq, Nat.reduceBNe, Int.reduceToNat, Int.reduceLE, Int.reduceLT, Int.reduceNe, Int.reduceNeg, reduceCtorEq, Int.reduceBEq, Int.reduceBNe]
  · simp only [go_sem, Nat.reduceAdd, Nat.reduceSub, Nat.reduceMul, Nat.reduceEqDiff, Nat.reduceLT, Nat.reduceLeDiff, Nat.reduceBEq, Nat.reduceBNe, Int.reduceToNat, Int.reduceLE, Int.reduceLT, Int.reduceNe, Int.reduceNeg, reduceCtorEq, Int.reduceBEq, Int.reduceBNe]
    intro K i H ⟨hi, hf⟩ hK hE
    rw [condK_bool]
    refine ⟨fun h => ?_, fun h => ?_⟩
    · have h' : i < l.length := by simpa using h
      have hii : (i : Int) < (l.length : Int) := by omega
      have w2 : IntKind.i64.wrap ((i : Int) + 1) = (i : Int) + 1 := wrap_id (by omega)
      simp only [go_sem, Nat.reduceAdd, Nat.reduceSub, Nat.reduceMul, Nat.reduceEqDiff, Nat.reduceLT, Nat.reduceLeDiff, Nat.reduceBEq, Nat.reduceBNe, Int.reduceToNat, Int.reduceLE, Int.reduceLT, Int.reduceNe, Int.reduceNeg, reduceCtorEq, Int.reduceBEq, Int.reduceBNe, il_length, il_get, hii]
      rw [condK_bool]
      refine ⟨fun h2 => ?_, fun h2 => ?_⟩
      · have h2 : l.getD i 0 ≠ 0 := by simpa using h2
        simp only [go_sem, Nat.reduceAdd, Nat.reduceSub, Nat.reduceMul, Nat.reduceEqDiff, Nat.reduceLT, Nat.reduceLeDiff, Nat.reduceBEq, Nat.reduceBNe, Int.reduceToNat, Int.reduceLE, Int.reduceLT, Int.reduceNe, Int.reduceNeg, reduceCtorEq, Int.reduceBEq, Int.reduceBNe]
        refine hE _ _ _ (by simp) ?_
        simp only [go_sem, Nat.reduceAdd, Nat.reduceSub, Nat.reduceMul, Nat.reduceEqDiff, Nat.reduceLT, Nat.reduceLeDiff, Nat.reduceBEq, Nat.reduceBNe, Int.reduceToNat, Int.reduceLE, Int.reduceLT, Int.reduceNe, Int.reduceNeg, reduceCtorEq, Int.reduceBEq, Int.reduceBNe]
        rw [← hf, orF_drop h', if_neg h2]
      · have h2 : l.getD i 0 = 0 := by simpa using h2
        simp only [go_sem, Nat.reduceAdd, Nat.reduceSub, Nat.reduceMul, Nat.reduceEqDiff, Nat.reduceLT, Nat.reduceLeDiff, Nat.reduceBEq, Nat.reduceBNe, Int.reduceToNat, Int.reduceLE, Int.reduceLT, Int.reduceNe, Int.reduceNeg, reduceCtorEq, Int.reduceBEq, Int.reduceBNe]
        refine hK (i + 1) _ _ ?_ ⟨h', ?_⟩ (by omega)
        · simp only [go_sem, Nat.reduceAdd, Nat.reduceSub, Nat.reduceMul, Nat.reduceEqDiff, Nat.reduceLT, Nat.reduceLeDiff, Nat.reduceBEq, Nat.reduceBNe, Int.reduceToNat, Int.reduceLE, Int.reduceLT, Int.reduceNe, Int.reduceNeg, reduceCtorEq, Int.reduceBEq, Int.reduceBNe, w2, Int.natCast_add, Int.natCast_one]
        · rw [← hf, orF_drop h', if_pos h2]
    · refine hE _ _ _ (by simp) ?_
      simp only [go_sem, Nat.reduceAdd, Nat.reduceSub, Nat.reduceMul, Nat.reduceEqDiff, Nat.reduceLT, Nat.reduceLeDiff, Nat.reduceBEq, Nat.reduceBNe, Int.reduceToNat, Int.reduceLE, Int.reduceLT, Int.reduceNe, Int.reduceNeg, reduceCtorEq, Int.reduceBEq, Int.reduceBNe]
      have h' : i = l.length := by have : ¬ ((i : Int) < (l.length : Int)) := by simpa using h
                                   omega
      rw [← hf, h']
      simp [orF]
def s74 : Spec := spec1 (fun (l : List Int) => big l.length) (fun l => .int .i64 (orF l))
theorem s74_ok : SpecOK Tryd.prog glB 74 s74 := spec1_ok E1_ok Tryd.func74 rfl (by kernel_rfl) fun l h => Or_fn l h
end Wb
/- Loops over lists of numbers, and sets. -/
namespace Wb
open Go Go.Proofs Enc Row
set_option linter.unusedSimpArgs false
set_option linter.unusedVariables false
set_option maxRecDepth 20000
set_option maxHeartbeats 4000000
def E2t : List (Nat × Spec) := [(81, s81), (48, s48), (75, s75), (61, s61), (74, s74)] ++ E1t
theorem E2t_ok : AllOK E2t := AllOK.append (l := [(81, s81), (48, s48), (75, s75), (61, s61), (74, s74)]) ⟨⟨s81_ok, Tryd.call81⟩, ⟨s48_ok, Tryd.call48⟩, ⟨s75_ok, Tryd.call75⟩, ⟨s61_ok, Tryd.call61⟩, ⟨s74_ok, Tryd.call74⟩, trivial⟩ E1t_ok
def E2 : Env := mkE E2t []
theorem E2_ok : EnvOK Tryd.prog E2 := envOK E2t_ok trivial
theorem E2_ti {t : Nat} : E2.ti t = ti t := rfl
theorem E2_q0 : (E2).eqt 130 = true := rfl
theorem E2_q1 : (E2).keyt 3 = true := rfl
theorem E2_q2 : (E2).keyt 85 = true := rfl
attribute [go_sem] E2_ti E2_q0 E2_q1 E2_q2
theorem Over_fn (n m : Int) (hn : small n) (hm : 1 ≤ m ∧ m ≤ 4611686018427387904) : Fn E2 0 49 Tryd.f49 (Tryd.f49.body.getD .skip) [.int .i64 n, .int .i64 m] (.int .i64 (-((-n) / m))) := by
  unfold small at hn
  have w1 : IntKind.i64.wrap (0 - n) = -n := by rw [wrap_id (by omega)]; omega
  have hs : small (-n) := by unfold small; omega
  have hq : -4611686018427387904 ≤ (-n) / m ∧ (-n) / m ≤ 4611686018427387904 := by
    constructor
    · exact (Int.le_ediv_iff_mul_le (by omega)).2 (by
        have : (-4611686018427387904) * m ≤ -4611686018427387904 := by omega
        omega)
    · by_cases h : 0 ≤ -n
      · exact Int.le_trans (Int.ediv_le_self _ h) (by omega)
      · have : (-n) / m < 0 := Int.ediv_neg_of_neg_of_pos (by omega) (by omega)
        omega
  have w2 : IntKind.i64.wrap (0 - (-n) / m) = -((-n) / m) := by rw [wrap_id (by omega)]; omega
  unfold Fn Tryd.f49
  simp only [go_sem, Nat.reduceAdd, Nat.reduceSub, Nat.reduceMul, Nat.reduceEqDiff, Nat.reduceLT, Nat.reduceLeDiff, Nat.reduceBEq, Nat.reduceBNe, Int.reduceToNat, Int.reduceLE, Int.reduceLT, Int.reduceNe, Int.reduceNeg, reduceCtorEq, Int.reduceBEq, Int.reduceBNe, @callV_spec E2 81 s81 rfl, @callV_specT E2 81 s81 rfl, @stepV_spec E2 81 s81 rfl, @effV_spec E2 81 s81 rfl, s81, callSpec, w1, w2, hs, hm]
def overF (n m : Int) : Int := -((-n) / m)
def s49 : Spec := spec2 (fun (n m : Int) => small n ∧ 1 ≤ m ∧ m ≤ 4611686018427387904) (fun n m => .int .i64 (overF n m))
theorem s49_ok : SpecOK Tryd.prog glB 49 s49 := spec2_ok E2_ok Tryd.func49 rfl (by kernel_rfl) fun n m h => Over_fn n m h.1 h.2
/-- The numbers of a set that are below a number. -/
def ofS (s n : Nat) : List Int := ((List.range n).filter s.testBit).map fun (k : Nat) => (k : Int)
theorem ofS_succ (s n : Nat) : ofS s (n + 1) = ofS s n ++ if s.testBit n then [(n : Int)] else [] := by
  unfold ofS
  rw [List.range_succ, List.filter_append, List.map_append]
  cases h : s.testBit n <;> simp [h]
theorem ofS_len (s n : Nat) : (ofS s n).length ≤ n := by
  unfold ofS
  rw [List.length_map]
  exact Nat.le_trans (List.length_filter_le _ _) (by simp)
theorem il_append' (a b : List Int) : il (a ++ b) = il a ++ il b := by simp [il]
theorem Of_fn (s n : Nat) (hs : s < 2 ^ 62) (hn : n ≤ 62) : Fn E2 0 46 Tryd.f46 (Tryd.f46.body.getD .skip) [.int .i64 s, .int .i64 n] (.sl (il (ofS s n)) false) := by
  unfold Fn Tryd.f46
  simp only [go_sem, Nat.reduceAdd, Nat.reduceSub, Nat.reduceMul, Nat.reduceEqDiff, Nat.reduceLT, Nat.reduceLeDiff, Nat.reduceBEq, Nat.reduceBNe, Int.reduceToNat, Int.reduceLE, Int.reduceLT, Int.reduceNe, Int.reduceNeg, reduceCtorEq, Int.reduceBEq, Int.reduceBNe]
  refine ev_loopS [0, 1, 4] (fun x : Nat × PV => [(5, x.2), (6, .int .i64 x.1)])
    (fun x H => x.1 ≤ n ∧ Own H (fun K => K = ([], 46006003)) x.2 1 (il (ofS s x.1))) (fun x => n - x.1) (0, .sl [] true) ?_ ⟨Nat.zero_le _, .nil⟩ ?_
  · simp only [go_sem, Nat.reduceAdd, Nat.reduceSub, Nat.reduceMul, Nat.reduceEqDiff, Nat.reduceLT, Nat.reduceLeDiff, Nat.reduceBEq, Nat.reduceBNe, Int.reduceToNat, Int.reduceLE, Int.reduceLT, Int.reduceNe, Int.reduceNeg, reduceCtorEq, Int.reduceBEq, Int.reduceBNe]
  · simp only [go_sem, Nat.reduceAdd, Nat.reduceSub, Nat.reduceMul, Nat.reduceEqDiff, Nat.reduceLT, Nat.reduceLeDiff, Nat.reduceBEq, Nat.reduceBNe, Int.reduceToNat, Int.reduceLE, Int.reduceLT, Int.reduceNe, Int.reduceNeg, reduceCtorEq, Int.reduceBEq, Int.reduceBNe]
    intro K x H ⟨hi, h3⟩ hK hE
    obtain ⟨i, p⟩ := x
    simp only at hi h3
    dsimp only
    obtain ⟨ex, ks, hz1, hz2, hks⟩ := h3.frz
    obtain ⟨hT, hC, hP, hV, hU⟩ := OwnTaint h3
    rw [condK_bool]
    refine ⟨fun h => ?_, fun h => ?_⟩
    · have h' : i < n := by simpa using h
      have w2 : IntKind.i64.wrap ((i : Int) + 1) = (i : Int) + 1 := wrap_id (by omega)
      have hb := ofS_len s i
      have hs2 : ((s : Int) < 2 ^ 62) = True := eq_true (by exact_mod_cast hs)
      simp only [go_sem, Nat.reduceAdd, Nat.reduceSub, Nat.reduceMul, Nat.reduceEqDiff, Nat.reduceLT, Nat.reduceLeDiff, Nat.reduceBEq, Nat.reduceBNe, Int.reduceToNat, Int.reduceLE, Int.reduceLT, Int.reduceNe, Int.reduceNeg, reduceCtorEq, Int.reduceBEq, Int.reduceBNe, @callV_spec E2 80 s80 rfl, @callV_specT E2 80 s80 rfl, @stepV_spec E2 80 s80 rfl, @effV_spec E2 80 s80 rfl, s80, callSpec, hU, hT, hC, Int.natCast_nonneg, hs2, Int.toNat_natCast]
      rw [condK_bool]
      refine ⟨fun hc => ?_, fun hc => ?_⟩
      · simp only [go_sem, Nat.reduceAdd, Nat.reduceSub, Nat.reduceMul, Nat.reduceEqDiff, Nat.reduceLT, Nat.reduceLeDiff, Nat.reduceBEq, Nat.reduceBNe, Int.reduceToNat, Int.reduceLE, Int.reduceLT, Int.reduceNe, Int.reduceNeg, reduceCtorEq, Int.reduceBEq, Int.reduceBNe, hT, hC, hP, hV, hU]
        refine app_one trivial rfl rfl (by decide) (by decide) (set_at_eq _ _ _) (h3.frame fun K hK => set_at_ne _ _ (by rw [hK]; simp)) rfl (by rw [il_length]; show ((ofS s i).length + 1) * 8 ≤ _; omega) (il_row _) ⟨rfl, rfl⟩ fun p' H' hO hF => ?_
        obtain ⟨hT', hC', hP', hV', hU'⟩ := OwnTaint hO
        simp only [go_sem, Nat.reduceAdd, Nat.reduceSub, Nat.reduceMul, Nat.reduceEqDiff, Nat.reduceLT, Nat.reduceLeDiff, Nat.reduceBEq, Nat.reduceBNe, Int.reduceToNat, Int.reduceLE, Int.reduceLT, Int.reduceNe, Int.reduceNeg, reduceCtorEq, Int.reduceBEq, Int.reduceBNe, hT', hC', hP', hV', hU']
        refine hK (i + 1, p') _ _ ?_ ⟨h', by rw [ofS_succ, if_pos hc, il_append']; exact hO⟩ (by simp only; omega)
        simp only [go_sem, Nat.reduceAdd, Nat.reduceSub, Nat.reduceMul, Nat.reduceEqDiff, Nat.reduceLT, Nat.reduceLeDiff, Nat.reduceBEq, Nat.reduceBNe, Int.reduceToNat, Int.reduceLE, Int.reduceLT, Int.reduceNe, Int.reduceNeg, reduceCtorEq, Int.reduceBEq, Int.reduceBNe, w2, Int.natCast_add, Int.natCast_one]
      · simp only [go_sem, Nat.reduceAdd, Nat.reduceSub, Nat.reduceMul, Nat.reduceEqDiff, Nat.reduceLT, Nat.reduceLeDiff, Nat.reduceBEq, Nat.reduceBNe, Int.reduceToNat, Int.reduceLE, Int.reduceLT, Int.reduceNe, Int.reduceNeg, reduceCtorEq, Int.reduceBEq, Int.reduceBNe]
        refine hK (i + 1, p) _ _ ?_ ⟨h', by rw [ofS_succ, if_neg (by simp [hc]), List.append_nil]; exact h3⟩ (by simp only; omega)
        simp only [go_sem, Nat.reduceAdd, Nat.reduceSub, Nat.reduceMul, Nat.reduceEqDiff, Nat.reduceLT, Nat.reduceLeDiff, Nat.reduceBEq, Nat.reduceBNe, Int.reduceToNat, Int.reduceLE, Int.reduceLT, Int.reduceNe, Int.reduceNeg, reduceCtorEq, Int.reduceBEq, Int.reduceBNe, w2, Int.natCast_add, Int.natCast_one]
    · have h' : i = n := by have : ¬ ((i : Int) < (n : Int)) := by simpa using h
                            omega
      subst h'
      refine hE _ _ _ (by simp) ?_
      simp only [go_sem, Nat.reduceAdd, Nat.reduceSub, Nat.reduceMul, Nat.reduceEqDiff, Nat.reduceLT, Nat.reduceLeDiff, Nat.reduceBEq, Nat.reduceBNe, Int.reduceToNat, Int.reduceLE, Int.reduceLT, Int.reduceNe, Int.reduceNeg, reduceCtorEq, Int.reduceBEq, Int.reduceBNe, hU]
      exact h3.fin
def s46 : Spec := spec2 (fun (s n : Int) => (0 ≤ s ∧ s < 2 ^ 62) ∧ (0 ≤ n ∧ n ≤ 62)) (fun s n => .sl (il (ofS s.toNat n.toNat)) false)
theorem s46_ok : SpecOK Tryd.prog glB 46 s46 := spec2_ok E2_ok Tryd.func46 rfl (by kernel_rfl) fun s n h => by
  obtain ⟨⟨h1, h2⟩, h3, h4⟩ := h
  obtain ⟨a, rfl⟩ := Int.eq_ofNat_of_zero_le h1
  obtain ⟨b, rfl⟩ := Int.eq_ofNat_of_zero_le h3
  exact Of_fn a b (by omega) (by omega)
theorem list_fn (s : Nat) (hs : s < 2 ^ 62) : Fn E2 0 69 Tryd.f69 (Tryd.f69.body.getD .skip) [.int .i64 s] (.sl (il (ofS s 7)) true) := by
  unfold Fn Tryd.f69
  simp only [go_sem, Nat.reduceAdd, Nat.reduceSub, Nat.reduceMul, Nat.reduceEqDiff, Nat.reduceLT, Nat.reduceLeDiff, Nat.reduceBEq, Nat.reduceBNe, Int.reduceToNat, Int.reduceLE, Int.reduceLT, Int.reduceNe, Int.reduceNeg, reduceCtorEq, Int.reduceBEq, Int.reduceBNe]
  refine ev_loopS [0, 2] (fun x : Nat × PV => [(3, x.2), (5, .int .i64 x.1)])
    (fun x H => x.1 ≤ 7 ∧ Own H (fun K => K = ([], 69006003)) x.2 1 (il (ofS s x.1))) (fun x => 7 - x.1) (0, .sl [] true) ?_ ⟨Nat.zero_le _, .nil⟩ ?_
  · simp only [go_sem, Nat.reduceAdd, Nat.reduceSub, Nat.reduceMul, Nat.reduceEqDiff, Nat.reduceLT, Nat.reduceLeDiff, Nat.reduceBEq, Nat.reduceBNe, Int.reduceToNat, Int.reduceLE, Int.reduceLT, Int.reduceNe, Int.reduceNeg, reduceCtorEq, Int.reduceBEq, Int.reduceBNe]
  · simp only [go_sem, Nat.reduceAdd, Nat.reduceSub, Nat.reduceMul, Nat.reduceEqDiff, Nat.reduceLT, Nat.reduceLeDiff, Nat.reduceBEq, Nat.reduceBNe, Int.reduceToNat, Int.reduceLE, Int.reduceLT, Int.reduceNe, Int.reduceNeg, reduceCtorEq, Int.reduceBEq, Int.reduceBNe]
    intro K x H ⟨hi, h3⟩ hK hE
    obtain ⟨i, p⟩ := x
    simp only at hi h3
    dsimp only
    obtain ⟨ex, ks, hz1, hz2, hks⟩ := h3.frz
    obtain ⟨hT, hC, hP, hV, hU⟩ := OwnTaint h3
    rw [condK_bool]
    refine ⟨fun h => ?_, fun h => ?_⟩
    · have h' : i < 7 := by have : (i : Int) < 7 := by simpa using h
                            omega
      have w2 : IntKind.i64.wrap ((i : Int) + 1) = (i : Int) + 1 := wrap_id (by omega)
      have hb := ofS_len s i
      simp only [go_sem, Nat.reduceAdd, Nat.reduceSub, Nat.reduceMul, Nat.reduceEqDiff, Nat.reduceLT, Nat.reduceLeDiff, Nat.reduceBEq, Nat.reduceBNe, Int.reduceToNat, Int.reduceLE, Int.reduceLT, Int.reduceNe, Int.reduceNeg, reduceCtorEq, Int.reduceBEq, Int.reduceBNe, hU, hT, hC, Int.natCast_nonneg, bit_test hs]
      rw [condK_bool]
      refine ⟨fun hc => ?_, fun hc => ?_⟩
      · simp only [go_sem, Nat.reduceAdd, Nat.reduceSub, Nat.reduceMul, Nat.reduceEqDiff, Nat.reduceLT, Nat.reduceLeDiff, Nat.reduceBEq, Nat.reduceBNe, Int.reduceToNat, Int.reduceLE, Int.reduceLT, Int.reduceNe, Int.reduceNeg, reduceCtorEq, Int.reduceBEq, Int.reduceBNe, hT, hC, hP, hV, hU]
        refine app_one trivial rfl rfl (by decide) (by decide) (set_at_eq _ _ _) (h3.frame fun K hK => set_at_ne _ _ (by rw [hK]; simp)) rfl (by rw [il_length]; show ((ofS s i).length + 1) * 8 ≤ _; omega) (il_row _) ⟨rfl, rfl⟩ fun p' H' hO hF => ?_
        obtain ⟨hT', hC', hP', hV', hU'⟩ := OwnTaint hO
        simp only [go_sem, Nat.reduceAdd, Nat.reduceSub, Nat.reduceMul, Nat.reduceEqDiff, Nat.reduceLT, Nat.reduceLeDiff, Nat.reduceBEq, Nat.reduceBNe, Int.reduceToNat, Int.reduceLE, Int.reduceLT, Int.reduceNe, Int.reduceNeg, reduceCtorEq, Int.reduceBEq, Int.reduceBNe, hT', hC', hP', hV', hU']
        refine hK (i + 1, p') _ _ ?_ ⟨h', by rw [ofS_succ, if_pos hc, il_append']; exact hO⟩ (by simp only; omega)
        simp only [go_sem, Nat.reduceAdd, Nat.reduceSub, Nat.reduceMul, Nat.reduceEqDiff, Nat.reduceLT, Nat.reduceLeDiff, Nat.reduceBEq, Nat.reduceBNe, Int.reduceToNat, Int.reduceLE, Int.reduceLT, Int.reduceNe, Int.reduceNeg, reduceCtorEq, Int.reduceBEq, Int.reduceBNe, w2, Int.natCast_add, Int.natCast_one]
      · simp only [go_sem, Nat.reduceAdd, Nat.reduceSub, Nat.reduceMul, Nat.reduceEqDiff, Nat.reduceLT, Nat.reduceLeDiff, Nat.reduceBEq, Nat.reduceBNe, Int.reduceToNat, Int.reduceLE, Int.reduceLT, Int.reduceNe, Int.reduceNeg, reduceCtorEq, Int.reduceBEq, Int.reduceBNe]
        refine hK (i + 1, p) _ _ ?_ ⟨h', by rw [ofS_succ, if_neg (by simp [hc]), List.append_nil]; exact h3⟩ (by simp only; omega)
        simp only [go_sem, Nat.reduceAdd, Nat.reduceSub, Nat.reduceMul, Nat.reduceEqDiff, Nat.reduceLT, Nat.reduceLeDiff, Nat.reduceBEq, Nat.reduceBNe, Int.reduceToNat, Int.reduceLE, Int.reduceLT, Int.reduceNe, Int.reduceNeg, reduceCtorEq, Int.reduceBEq, Int.reduceBNe, w2, Int.natCast_add, Int.natCast_one]
    · have h' : i = 7 := by have : ¬ ((i : Int) < 7) := by simpa using h
                            omega
      subst h'
      refine hE _ _ _ (by simp) ?_
      rcases h3 with ⟨ha, rfl⟩ | ⟨K2, v, h1, rfl, h2⟩
      · simp only [go_sem, Nat.reduceAdd, Nat.reduceSub, Nat.reduceMul, Nat.reduceEqDiff, Nat.reduceLT, Nat.reduceLeDiff, Nat.reduceBEq, Nat.reduceBNe, Int.reduceToNat, Int.reduceLE, Int.reduceLT, Int.reduceNe, Int.reduceNeg, reduceCtorEq, Int.reduceBEq, Int.reduceBNe, ha]
      · simp only [go_sem, Nat.reduceAdd, Nat.reduceSub, Nat.reduceMul, Nat.reduceEqDiff, Nat.reduceLT, Nat.reduceLeDiff, Nat.reduceBEq, Nat.reduceBNe, Int.reduceToNat, Int.reduceLE, Int.reduceLT, Int.reduceNe, Int.reduceNeg, reduceCtorEq, Int.reduceBEq, Int.reduceBNe, h2]
def s69 : Spec := spec1 (fun (s : Int) => 0 ≤ s ∧ s < 2 ^ 62) (fun s => .sl (il (ofS s.toNat 7)) true)
theorem s69_ok : SpecOK Tryd.prog glB 69 s69 := spec1_ok E2_ok Tryd.func69 rfl (by kernel_rfl) fun s h => by
  obtain ⟨h1, h2⟩ := h
  obtain ⟨a, rfl⟩ := Int.eq_ofNat_of_zero_le h1
  exact list_fn a (by omega)
end Wb
/- Loops over lists of numbers: sums, sets, order. -/
namespace Wb
open Go Go.Proofs Enc Row
set_option linter.unusedSimpArgs false
set_option linter.unusedVariables false
set_option maxRecDepth 20000
set_option maxHeartbeats 4000000
def putS (l : List Int) : Nat := l.foldl (fun s k => s ||| 2 ^ k.toNat) 0
theorem fold_take {α β : Type} [Inhabited β] (f : α → β → α) (a : α) {l : List β} {i : Nat} (h : i < l.length) : (l.take (i + 1)).foldl f a = f ((l.take i).foldl f a) (l.getD i default) := by
  rw [List.take_succ_eq_append_getElem h, List.foldl_append]
  simp [h]
theorem putS_lt {l : List Int} (hl : ∀ k ∈ l, 0 ≤ k ∧ k < 62) : putS l < 2 ^ 62 := by
  unfold putS
  suffices h : ∀ (l : List Int) (s : Nat), (∀ k ∈ l, 0 ≤ k ∧ k < 62) → s < 2 ^ 62 → l.foldl (fun s k => s ||| 2 ^ k.toNat) s < 2 ^ 62 from h l 0 hl (by decide)
  intro l
  induction l with
  | nil => intro s _ h; exact h
  | cons a l ih =>
    intro s h1 h2
    refine ih _ (fun k hk => h1 k (List.mem_cons_of_mem _ hk)) (or_lt h2 ?_)
    have := h1 a (List.mem_cons_self ..)
    exact Nat.pow_lt_pow_right (by decide) (by omega)
theorem Put_fn (l : List Int) (hl : ∀ k ∈ l, 0 ≤ k ∧ k < 62) (hb : big l.length) : Fn E2 0 66 Tryd.f66 (Tryd.f66.body.getD .skip) [.sl (il l) false] (.int .i64 (putS l)) := by
  unfold big at hb
  unfold Fn Tryd.f66
  simp only [go_sem, Nat.reduceAdd, Nat.reduceSub, Nat.reduceMul, Nat.reduceEqDiff, Nat.reduceLT, Nat.reduceLeDiff, Nat.reduceBEq, Nat.reduceBNe, Int.reduceToNat, Int.reduceLE, Int.reduceLT, Int.reduceNe, Int.reduceNeg, reduceCtorEq, Int.reduceBEq, Int.reduceBNe]
  refine ev_loopS [0, 2] (fun i : Nat => [(3, .int .i64 (putS (l.take i))), (4, .int .i64 i)]) (fun i H => i ≤ l.length) (fun i => l.length - i) 0 ?_ (Nat.zero_le _) ?_
  · simp only [go_sem, Nat.reduceAdd, Nat.reduceSub, Nat.reduceMul, Nat.reduceEqDiff, Nat.reduceLT, Nat.reduceLeDiff, Nat.reduceBEq, Nat.reduceBNe, Int.reduceToNat, Int.reduceLE, Int.reduceLT, Int.reduceNe, Int.reduceNeg, reduceCtorEq, Int.reduceBEq, Int.reduceBNe, List.take_zero, putS, List.foldl_nil, Int.natCast_zero]
  · simp only [go_sem, Nat.reduceAdd, Nat.reduceSub, Nat.reduceMul, Nat.reduceEqDiff, Nat.reduceLT, Nat.reduceLeDiff, Nat.reduceBEq, Nat.reduceBNe, Int.reduceToNat, Int.reduceLE, Int.reduceLT, Int.reduceNe, Int.reduceNeg, reduceCtorEq, Int.reduceBEq, Int.reduceBNe, il_length]
    intro K i H hi hK hE
    rw [condK_bool]
    refine ⟨fun h => ?_, fun h => ?_⟩
    · have h' : i < l.length := by simpa using h
      have hii : (i : Int) < (l.length : Int) := by omega
      have w2 : IntKind.i64.wrap ((i : Int) + 1) = (i : Int) + 1 := wrap_id (by omega)
      have hm : l.getD i 0 ∈ l := by simp [h']
      obtain ⟨k0, k1⟩ := hl _ hm
      obtain ⟨k, hk⟩ := Int.eq_ofNat_of_zero_le k0
      have hlt : putS (l.take i) < 2 ^ 62 := putS_lt fun k hk => hl k (List.mem_of_mem_take hk)
      have hp : putS (l.take (i + 1)) = putS (l.take i) ||| 2 ^ k := by
        unfold putS
        rw [fold_take _ _ h', show l.getD i default = l.getD i 0 from rfl, hk]; rfl
      have hs := shl_one (k := k) (by omega)
      have ho := bits_or hlt (b := 2 ^ k) (Nat.pow_lt_pow_right (by decide) (by omega))
      rw [hk] at k0
      simp only [go_sem, Nat.reduceAdd, Nat.reduceSub, Nat.reduceMul, Nat.reduceEqDiff, Nat.reduceLT, Nat.reduceLeDiff, Nat.reduceBEq, Nat.reduceBNe, Int.reduceToNat, Int.reduceLE, Int.reduceLT, Int.reduceNe, Int.reduceNeg, reduceCtorEq, Int.reduceBEq, Int.reduceBNe, il_length, il_get, hii, hk, hs, ho, k0]
      refine hK (i + 1) _ _ ?_ (by omega) (by omega)
      simp only [go_sem, Nat.reduceAdd, Nat.reduceSub, Nat.reduceMul, Nat.reduceEqDiff, Nat.reduceLT, Nat.reduceLeDiff, Nat.reduceBEq, Nat.reduceBNe, Int.reduceToNat, Int.reduceLE, Int.reduceLT, Int.reduceNe, Int.reduceNeg, reduceCtorEq, Int.reduceBEq, Int.reduceBNe, w2, hp, Int.natCast_add, Int.natCast_one]
    · have h' : i = l.length := by have : ¬ ((i : Int) < (l.length : Int)) := by simpa using h
                                   omega
      refine hE _ _ _ (by simp) ?_
      simp only [go_sem, Nat.reduceAdd, Nat.reduceSub, Nat.reduceMul, Nat.reduceEqDiff, Nat.reduceLT, Nat.reduceLeDiff, Nat.reduceBEq, Nat.reduceBNe, Int.reduceToNat, Int.reduceLE, Int.reduceLT, Int.reduceNe, Int.reduceNeg, reduceCtorEq, Int.reduceBEq, Int.reduceBNe, h', List.take_length]
def s66 : Spec := spec1 (fun (l : List Int) => (∀ k ∈ l, 0 ≤ k ∧ k < 62) ∧ big l.length) (fun l => .int .i64 (putS l))
theorem s66_ok : SpecOK Tryd.prog glB 66 s66 := spec1_ok E2_ok Tryd.func66 rfl (by kernel_rfl) fun l h => Put_fn l h.1 h.2
def sumI (l : List Int) : Int := l.foldl (· + ·) 0
theorem sumI_le {l : List Int} {b : Int} (hl : ∀ k ∈ l, 0 ≤ k ∧ k ≤ b) : 0 ≤ sumI l ∧ sumI l ≤ b * l.length := by
  unfold sumI
  suffices h : ∀ (l : List Int) (s : Int), (∀ k ∈ l, 0 ≤ k ∧ k ≤ b) → s ≤ l.foldl (· + ·) s ∧ l.foldl (· + ·) s ≤ s + b * l.length by
    have := h l 0 hl; omega
  intro l
  induction l with
  | nil => intro s _; simp
  | cons a l ih =>
    intro s h1
    have h2 := h1 a (List.mem_cons_self ..)
    have h3 := ih (s + a) fun k hk => h1 k (List.mem_cons_of_mem _ hk)
    rw [List.foldl_cons, List.length_cons, Int.natCast_add, Int.natCast_one, Int.mul_add, Int.mul_one]
    omega
theorem sum_fn (l : List Int) (ex : Bool) (hl : ∀ k ∈ l, 0 ≤ k ∧ k ≤ 1000000000) (hb : l.length ≤ 1000000) : Fn E2 0 92 Tryd.f92 (Tryd.f92.body.getD .skip) [.sl (il l) ex] (.int .i64 (sumI l)) := by
  unfold Fn Tryd.f92
  simp only [go_sem, Nat.reduceAdd, Nat.reduceSub, Nat.reduceMul, Nat.reduceEqDiff, Nat.reduceLT, Nat.reduceLeDiff, Nat.reduceBEq, Nat.reduceBNe, Int.reduceToNat, Int.reduceLE, Int.reduceLT, Int.reduceNe, Int.reduceNeg, reduceCtorEq, Int.reduceBEq, Int.reduceBNe, il_length]
  refine ev_loopS [0, 2, 6, 7] (fun i : Nat => [(3, .int .i64 (sumI (l.take i))), (8, .int .i64 i)]) (fun i H => i ≤ l.length) (fun i => l.length - i) 0 ?_ (Nat.zero_le _) ?_
  · simp only [go_sem, Nat.reduceAdd, Nat.reduceSub, Nat.reduceMul, Nat.reduceEqDiff, Nat.reduceLT, Nat.reduceLeDiff, Nat.reduceBEq, Nat.reduceBNe, Int.reduceToNat, Int.reduceLE, Int.reduceLT, Int.reduceNe, Int.reduceNeg, reduceCtorEq, Int.reduceBEq, Int.reduceBNe, List.take_zero, sumI, List.foldl_nil, Int.natCast_zero]
  · simp only [go_sem, Nat.reduceAdd, Nat.reduceSub, Nat.reduceMul, Nat.reduceEqDiff, Nat.reduceLT, Nat.reduceLeDiff, Nat.reduceBEq, Nat.reduceBNe, Int.reduceToNat, Int.reduceLE, Int.reduceLT, Int.reduceNe, Int.reduceNeg, reduceCtorEq, Int.reduceBEq, Int.reduceBNe, il_length]
    intro K i H hi hK hE
    rw [condK_bool]
    refine ⟨fun h => ?_, fun h => ?_⟩
    · have h' : i < l.length := by simpa using h
      have hii : (i : Int) < (l.length : Int) := by omega
      have w2 : IntKind.i64.wrap ((i : Int) + 1) = (i : Int) + 1 := wrap_id (by omega)
      have hm : l.getD i 0 ∈ l := by simp [h']
      have hk := hl _ hm
      have hlt := sumI_le (l := l.take i) fun k hk => hl k (List.mem_of_mem_take hk)
      have hll : (l.take i).length ≤ 1000000 := by have := List.length_take_le' i l; omega
      have hp : sumI (l.take (i + 1)) = sumI (l.take i) + l.getD i 0 := by
        unfold sumI
        rw [fold_take _ _ h', show l.getD i default = l.getD i 0 from rfl]
      have w3 : IntKind.i64.wrap (sumI (l.take i) + l.getD i 0) = sumI (l.take i) + l.getD i 0 := wrap_id (by omega)
      simp only [go_sem, Nat.reduceAdd, Nat.reduceSub, Nat.reduceMul, Nat.reduceEqDiff, Nat.reduceLT, Nat.reduceLeDiff, Nat.reduceBEq, Nat.reduceBNe, Int.reduceToNat, Int.reduceLE, Int.reduceLT, Int.reduceNe, Int.reduceNeg, reduceCtorEq, Int.reduceBEq, Int.reduceBNe, il_length, il_get, hii, w3]
      refine hK (i + 1) _ _ ?_ (by omega) (by omega)
      simp only [go_sem, Nat.reduceAdd, Nat.reduceSub, Nat.reduceMul, Nat.reduceEqDiff, Nat.reduceLT, Nat.reduceLeDiff, Nat.reduceBEq, Nat.reduceBNe, Int.reduceToNat, Int.reduceLE, Int.reduceLT, Int.reduceNe, Int.reduceNeg, reduceCtorEq, Int.reduceBEq, Int.reduceBNe, w2, hp, Int.natCast_add, Int.natCast_one]
    · have h' : i = l.length := by have : ¬ ((i : Int) < (l.length : Int)) := by simpa using h
                                   omega
      refine hE _ _ _ (by simp) ?_
      simp only [go_sem, Nat.reduceAdd, Nat.reduceSub, Nat.reduceMul, Nat.reduceEqDiff, Nat.reduceLT, Nat.reduceLeDiff, Nat.reduceBEq, Nat.reduceBNe, Int.reduceToNat, Int.reduceLE, Int.reduceLT, Int.reduceNe, Int.reduceNeg, reduceCtorEq, Int.reduceBEq, Int.reduceBNe, h', List.take_length]
def s92 : Spec := spec1 (fun (l : List Int) => (∀ k ∈ l, 0 ≤ k ∧ k ≤ 1000000000) ∧ l.length ≤ 1000000) (fun l => .int .i64 (sumI l))
theorem s92_ok : SpecOK Tryd.prog glB 92 s92 := spec1_ok E2_ok Tryd.func92 rfl (by kernel_rfl) fun l h => sum_fn l false h.1 h.2
end Wb
/- The order of lists; a list with one number more; a copy. -/
namespace Wb
open Go Go.Proofs Enc Row
set_option linter.unusedSimpArgs false
set_option linter.unusedVariables false
set_option maxRecDepth 20000
set_option maxHeartbeats 4000000
def cmpL : List Int → List Int → Int
  | [], [] => 0
  | [], _ :: _ => -1
  | _ :: _, [] => 1
  | a :: l, b :: m => if cmpI a b = 0 then cmpL l m else cmpI a b
theorem cmpL_drop {a b : List Int} {i : Nat} (h : i < a.length) (h' : i < b.length) : cmpL (a.drop i) (b.drop i) = if cmpI (a.getD i 0) (b.getD i 0) = 0 then cmpL (a.drop (i + 1)) (b.drop (i + 1)) else cmpI (a.getD i 0) (b.getD i 0) := by
  rw [List.drop_eq_getElem_cons h, List.drop_eq_getElem_cons h']
  simp [cmpL, h, h']
theorem cmpL_end {a b : List Int} {i : Nat} (h : i = a.length) (h' : i ≤ b.length) : cmpL (a.drop i) (b.drop i) = if a.length < b.length then -1 else 0 := by
  subst h
  rw [List.drop_length]
  split
  · rename_i h2
    rw [List.drop_eq_getElem_cons h2]; rfl
  · rw [List.drop_eq_nil_of_le (by omega)]; rfl
theorem cmpL_more {a b : List Int} {i : Nat} (h : i < a.length) (h' : i = b.length) : cmpL (a.drop i) (b.drop i) = 1 := by
  subst h'
  rw [List.drop_length, List.drop_eq_getElem_cons h]; rfl
theorem SCompare_fn (a b : List Int) (ha : big a.length) (hb : big b.length) : Fn E2 0 71 Tryd.f71 (Tryd.f71.body.getD .skip) [.sl (il a) false, .sl (il b) false] (.int .i64 (cmpL a b)) := by
  unfold big at ha hb
  unfold Fn Tryd.f71
  simp only [go_sem, Nat.reduceAdd, Nat.reduceSub, Nat.reduceMul, Nat.reduceEqDiff, Nat.reduceLT, Nat.reduceLeDiff, Nat.reduceBEq, Nat.reduceBNe, Int.reduceToNat, Int.reduceLE, Int.reduceLT, Int.reduceNe, Int.reduceNeg, reduceCtorEq, Int.reduceBEq, Int.reduceBNe, il_length]
  refine ev_loopS [0, 1, 4, 9, 10] (fun i : Nat => [(11, .int .i64 i)]) (fun i H => i ≤ a.length ∧ i ≤ b.length ∧ cmpL (a.drop i) (b.drop i) = cmpL a b) (fun i => a.length - i) 0 ?_ ⟨Nat.zero_le _, Nat.zero_le _, by simp⟩ ?_
  · simp only [go_sem, Nat.reduceAdd, Nat.reduceSub, Nat.reduceMul, Nat.reduceEqDiff, Nat.reduceLT, Nat.reduceLeDiff, Nat.reduceBEq, Nat.reduceBNe, Int.reduceToNat, Int.reduceLE, Int.reduceLT, Int.reduceNe, Int.reduceNeg, reduceCtorEq, Int.reduceBEq, Int.reduceBNe]
  · simp only [go_sem, Nat.reduceAdd, Nat.reduceSub, Nat.reduceMul, Nat.reduceEqDiff, Nat.reduceLT, Nat.reduceLeDiff, Nat.reduceBEq, Nat.reduceBNe, Int.reduceToNat, Int.reduceLE, Int.reduceLT, Int.reduceNe, Int.reduceNeg, reduceCtorEq, Int.reduceBEq, Int.reduceBNe]
    intro K i H ⟨hi, hj, hf⟩ hK hE
    rw [condK_bool]
    refine ⟨fun h => ?_, fun h => ?_⟩
    · have h' : i < a.length := by simpa using h
      have hii : (i : Int) < (a.length : Int) := by omega
      have w2 : IntKind.i64.wrap ((i : Int) + 1) = (i : Int) + 1 := wrap_id (by omega)
      simp only [go_sem, Nat.reduceAdd, Nat.reduceSub, Nat.reduceMul, Nat.reduceEqDiff, Nat.reduceLT, Nat.reduceLeDiff, Nat.reduceBEq, Nat.reduceBNe, Int.reduceToNat, Int.reduceLE, Int.reduceLT, Int.reduceNe, Int.reduceNeg, reduceCtorEq, Int.reduceBEq, Int.reduceBNe, il_length, il_get, hii]
      rw [condK_bool]
      refine ⟨fun h2 => ?_, fun h2 => ?_⟩
      · have h2 : i = b.length := by have : (i : Int) ≥ (b.length : Int) := by simpa using h2
                                     omega
        simp only [go_sem, Nat.reduceAdd, Nat.reduceSub, Nat.reduceMul, Nat.reduceEqDiff, Nat.reduceLT, Nat.reduceLeDiff, Nat.reduceBEq, Nat.reduceBNe, Int.reduceToNat, Int.reduceLE, Int.reduceLT, Int.reduceNe, Int.reduceNeg, reduceCtorEq, Int.reduceBEq, Int.reduceBNe]
        refine hE _ _ _ (by simp) ?_
        simp only [go_sem, Nat.reduceAdd, Nat.reduceSub, Nat.reduceMul, Nat.reduceEqDiff, Nat.reduceLT, Nat.reduceLeDiff, Nat.reduceBEq, Nat.reduceBNe, Int.reduceToNat, Int.reduceLE, Int.reduceLT, Int.reduceNe, Int.reduceNeg, reduceCtorEq, Int.reduceBEq, Int.reduceBNe]
        rw [← hf, cmpL_more h' h2]
      · have h2 : i < b.length := by have : ¬ (i : Int) ≥ (b.length : Int) := by simpa using h2
                                     omega
        have hjj : (i : Int) < (b.length : Int) := by omega
        rw [cmpL_drop h' h2] at hf
        simp only [go_sem, Nat.reduceAdd, Nat.reduceSub, Nat.reduceMul, Nat.reduceEqDiff, Nat.reduceLT, Nat.reduceLeDiff, Nat.reduceBEq, Nat.reduceBNe, Int.reduceToNat, Int.reduceLE, Int.reduceLT, Int.reduceNe, Int.reduceNeg, reduceCtorEq, Int.reduceBEq, Int.reduceBNe, @callV_spec E2 75 s75 rfl, @callV_specT E2 75 s75 rfl, @stepV_spec E2 75 s75 rfl, @effV_spec E2 75 s75 rfl, s75, callSpec, il_length, il_get, hjj]
        rw [condK_bool]
        refine ⟨fun h3 => ?_, fun h3 => ?_⟩
        · have h3 : cmpI (a.getD i 0) (b.getD i 0) ≠ 0 := by simpa using h3
          simp only [go_sem, Nat.reduceAdd, Nat.reduceSub, Nat.reduceMul, Nat.reduceEqDiff, Nat.reduceLT, Nat.reduceLeDiff, Nat.reduceBEq, Nat.reduceBNe, Int.reduceToNat, Int.reduceLE, Int.reduceLT, Int.reduceNe, Int.reduceNeg, reduceCtorEq, Int.reduceBEq, Int.reduceBNe]
          refine hE _ _ _ (by simp) ?_
          simp only [go_sem, Nat.reduceAdd, Nat.reduceSub, Nat.reduceMul, Nat.reduceEqDiff, Nat.reduceLT, Nat.reduceLeDiff, Nat.reduceBEq, Nat.reduceBNe, Int.reduceToNat, Int.reduceLE, Int.reduceLT, Int.reduceNe, Int.reduceNeg, reduceCtorEq, Int.reduceBEq, Int.reduceBNe]
          rw [← hf, if_neg h3]
        · have h3 : cmpI (a.getD i 0) (b.getD i 0) = 0 := by simpa using h3
          simp only [go_sem, Nat.reduceAdd, Nat.reduceSub, Nat.reduceMul, Nat.reduceEqDiff, Nat.reduceLT, Nat.reduceLeDiff, Nat.reduceBEq, Nat.reduceBNe, Int.reduceToNat, Int.reduceLE, Int.reduceLT, Int.reduceNe, Int.reduceNeg, reduceCtorEq, Int.reduceBEq, Int.reduceBNe]
          refine hK (i + 1) _ _ ?_ ⟨h', h2, by rw [← hf, if_pos h3]⟩ (by omega)
          simp only [go_sem, Nat.reduceAdd, Nat.reduceSub, Nat.reduceMul, Nat.reduceEqDiff, Nat.reduceLT, Nat.reduceLeDiff, Nat.reduceBEq, Nat.reduceBNe, Int.reduceToNat, Int.reduceLE, Int.reduceLT, Int.reduceNe, Int.reduceNeg, reduceCtorEq, Int.reduceBEq, Int.reduceBNe, w2, Int.natCast_add, Int.natCast_one]
    · have h' : i = a.length := by have : ¬ ((i : Int) < (a.length : Int)) := by simpa using h
                                   omega
      refine hE _ _ _ (by simp) ?_
      simp only [go_sem, Nat.reduceAdd, Nat.reduceSub, Nat.reduceMul, Nat.reduceEqDiff, Nat.reduceLT, Nat.reduceLeDiff, Nat.reduceBEq, Nat.reduceBNe, Int.reduceToNat, Int.reduceLE, Int.reduceLT, Int.reduceNe, Int.reduceNeg, reduceCtorEq, Int.reduceBEq, Int.reduceBNe, il_length]
      rw [cmpL_end h' hj] at hf
      rw [condK_bool]
      refine ⟨fun h2 => ?_, fun h2 => ?_⟩
      · have h2 : a.length < b.length := by simpa using h2
        simp only [go_sem, Nat.reduceAdd, Nat.reduceSub, Nat.reduceMul, Nat.reduceEqDiff, Nat.reduceLT, Nat.reduceLeDiff, Nat.reduceBEq, Nat.reduceBNe, Int.reduceToNat, Int.reduceLE, Int.reduceLT, Int.reduceNe, Int.reduceNeg, reduceCtorEq, Int.reduceBEq, Int.reduceBNe]
        rw [← hf, if_pos h2]
      · have h2 : ¬ a.length < b.length := by simpa using h2
        simp only [go_sem, Nat.reduceAdd, Nat.reduceSub, Nat.reduceMul, Nat.reduceEqDiff, Nat.reduceLT, Nat.reduceLeDiff, Nat.reduceBEq, Nat.reduceBNe, Int.reduceToNat, Int.reduceLE, Int.reduceLT, Int.reduceNe, Int.reduceNeg, reduceCtorEq, Int.reduceBEq, Int.reduceBNe]
        rw [← hf, if_neg h2]
def s71 : Spec := spec2 (fun (a b : List Int) => big a.length ∧ big b.length) (fun a b => .int .i64 (cmpL a b))
theorem s71_ok : SpecOK Tryd.prog glB 71 s71 := spec2_ok E2_ok Tryd.func71 rfl (by kernel_rfl) fun a b h => SCompare_fn a b h.1 h.2
theorem cmpL_neg {a b : Int} (h : cmpI a b ≠ 0) : (decide (cmpI a b < 0)) = decide (a < b) := by
  unfold cmpI at *
  split
  · rename_i h1; simp [h1]
  · rename_i h1
    rw [if_neg h1] at h
    split
    · simp [h1]
    · rename_i h2; simp [h1]
theorem cmpI_ne {a b : Int} : cmpI a b ≠ 0 ↔ a ≠ b := by
  unfold cmpI
  split
  · simp; omega
  · split <;> simp <;> omega
theorem Ahead_fn (a b : List Int) (ha : big a.length) (hb : big b.length) : Fn E2 0 50 Tryd.f50 (Tryd.f50.body.getD .skip) [.sl (il a) false, .sl (il b) false] (.bool (decide (cmpL a b < 0))) := by
  unfold big at ha hb
  unfold Fn Tryd.f50
  simp only [go_sem, Nat.reduceAdd, Nat.reduceSub, Nat.reduceMul, Nat.reduceEqDiff, Nat.reduceLT, Nat.reduceLeDiff, Nat.reduceBEq, Nat.reduceBNe, Int.reduceToNat, Int.reduceLE, Int.reduceLT, Int.reduceNe, Int.reduceNeg, reduceCtorEq, Int.reduceBEq, Int.reduceBNe, il_length]
  refine ev_loopS [0, 1] (fun i : Nat => [(5, .int .i64 i)]) (fun i H => i ≤ a.length ∧ i ≤ b.length ∧ cmpL (a.drop i) (b.drop i) = cmpL a b) (fun i => a.length - i) 0 ?_ ⟨Nat.zero_le _, Nat.zero_le _, by simp⟩ ?_
  · simp only [go_sem, Nat.reduceAdd, Nat.reduceSub, Nat.reduceMul, Nat.reduceEqDiff, Nat.reduceLT, Nat.reduceLeDiff, Nat.reduceBEq, Nat.reduceBNe, Int.reduceToNat, Int.reduceLE, Int.reduceLT, Int.reduceNe, Int.reduceNeg, reduceCtorEq, Int.reduceBEq, Int.reduceBNe]
  · simp only [go_sem, Nat.reduceAdd, Nat.reduceSub, Nat.reduceMul, Nat.reduceEqDiff, Nat.reduceLT, Nat.reduceLeDiff, Nat.reduceBEq, Nat.reduceBNe, Int.reduceToNat, Int.reduceLE, Int.reduceLT, Int.reduceNe, Int.reduceNeg, reduceCtorEq, Int.reduceBEq, Int.reduceBNe, il_length]
    intro K i H ⟨hi, hj, hf⟩ hK hE
    rw [condK_bool]
    refine ⟨fun h => ?_, fun h => ?_⟩
    · have h' : i < a.length ∧ i < b.length := by simpa using h
      obtain ⟨h', h2⟩ := h'
      have hii : (i : Int) < (a.length : Int) := by omega
      have hjj : (i : Int) < (b.length : Int) := by omega
      have w2 : IntKind.i64.wrap ((i : Int) + 1) = (i : Int) + 1 := wrap_id (by omega)
      rw [cmpL_drop h' h2] at hf
      simp only [go_sem, Nat.reduceAdd, Nat.reduceSub, Nat.reduceMul, Nat.reduceEqDiff, Nat.reduceLT, Nat.reduceLeDiff, Nat.reduceBEq, Nat.reduceBNe, Int.reduceToNat, Int.reduceLE, Int.reduceLT, Int.reduceNe, Int.reduceNeg, reduceCtorEq, Int.reduceBEq, Int.reduceBNe, il_length, il_get, hii, hjj]
      rw [condK_bool]
      refine ⟨fun h3 => ?_, fun h3 => ?_⟩
      · have h3 : a.getD i 0 ≠ b.getD i 0 := by simpa using h3
        have h4 := cmpI_ne.2 h3
        simp only [go_sem, Nat.reduceAdd, Nat.reduceSub, Nat.reduceMul, Nat.reduceEqDiff, Nat.reduceLT, Nat.reduceLeDiff, Nat.reduceBEq, Nat.reduceBNe, Int.reduceToNat, Int.reduceLE, Int.reduceLT, Int.reduceNe, Int.reduceNeg, reduceCtorEq, Int.reduceBEq, Int.reduceBNe, il_length, il_get, hii, hjj]
        refine hE _ _ _ (by simp) ?_
        simp only [go_sem, Nat.reduceAdd, Nat.reduceSub, Nat.reduceMul, Nat.reduceEqDiff, Nat.reduceLT, Nat.reduceLeDiff, Nat.reduceBEq, Nat.reduceBNe, Int.reduceToNat, Int.reduceLE, Int.reduceLT, Int.reduceNe, Int.reduceNeg, reduceCtorEq, Int.reduceBEq, Int.reduceBNe]
        rw [← hf, if_neg h4, cmpL_neg h4]
      · have h3 : a.getD i 0 = b.getD i 0 := by simpa using h3
        have h4 : cmpI (a.getD i 0) (b.getD i 0) = 0 := Decidable.byContradiction fun h => cmpI_ne.1 h h3
        simp only [go_sem, Nat.reduceAdd, Nat.reduceSub, Nat.reduceMul, Nat.reduceEqDiff, Nat.reduceLT, Nat.reduceLeDiff, Nat.reduceBEq, Nat.reduceBNe, Int.reduceToNat, Int.reduceLE, Int.reduceLT, Int.reduceNe, Int.reduceNeg, reduceCtorEq, Int.reduceBEq, Int.reduceBNe]
        refine hK (i + 1) _ _ ?_ ⟨h', h2, by rw [← hf, if_pos h4]⟩ (by omega)
        simp only [go_sem, Nat.reduceAdd, Nat.reduceSub, Nat.reduceMul, Nat.reduceEqDiff, Nat.reduceLT, Nat.reduceLeDiff, Nat.reduceBEq, Nat.reduceBNe, Int.reduceToNat, Int.reduceLE, Int.reduceLT, Int.reduceNe, Int.reduceNeg, reduceCtorEq, Int.reduceBEq, Int.reduceBNe, w2, Int.natCast_add, Int.natCast_one]
    · have h' : ¬ (i < a.length ∧ i < b.length) := by simpa using h
      refine hE _ _ _ (by simp) ?_
      simp only [go_sem, Nat.reduceAdd, Nat.reduceSub, Nat.reduceMul, Nat.reduceEqDiff, Nat.reduceLT, Nat.reduceLeDiff, Nat.reduceBEq, Nat.reduceBNe, Int.reduceToNat, Int.reduceLE, Int.reduceLT, Int.reduceNe, Int.reduceNeg, reduceCtorEq, Int.reduceBEq, Int.reduceBNe, il_length]
      by_cases h2 : i < a.length
      · rw [cmpL_more h2 (by omega)] at hf
        rw [← hf]
        have : ¬ (a.length : Int) < (b.length : Int) := by omega
        simp [this]
      · rw [cmpL_end (by omega) hj] at hf
        rw [← hf]
        by_cases h3 : a.length < b.length
        · simp [h3]
        · simp [h3]
def s50 : Spec := spec2 (fun (a b : List Int) => big a.length ∧ big b.length) (fun a b => .bool (decide (cmpL a b < 0)))
theorem s50_ok : SpecOK Tryd.prog glB 50 s50 := spec2_ok E2_ok Tryd.func50 rfl (by kernel_rfl) fun a b h => Ahead_fn a b h.1 h.2
end Wb
/- A list with one number more; a copy; the pieces of a parcel as a set. -/
namespace Wb
open Go Go.Proofs Enc Row
set_option linter.unusedSimpArgs false
set_option linter.unusedVariables false
set_option maxRecDepth 20000
set_option maxHeartbeats 4000000
theorem il_ok (l : List Int) : (∀ row ∈ il l, row.length = 1 ∧ cells1 row = true) = True := eq_true fun row h => by
  simp only [il, List.mem_map] at h
  obtain ⟨_, _, rfl⟩ := h; exact ⟨rfl, rfl⟩
theorem app_fresh {E : Env} {K K' : Key} {t e sz v : Nat} {x : PV} {xs : List (List PV)} {ro : Bool} {q : Prop} {Q : PV → Heap → Prop} {H : Heap} (hk : (E.ti t).kind = .slice e) (hsz : (E.ti e).size = sz) (h0 : 0 < sz) (hb0 : 0 < (E.ti e).bytes)
    (hb : xs.length * (E.ti e).bytes ≤ 35184372088832) (hxs : ∀ row ∈ xs, row.length = sz ∧ cells1 row = true) (hx : Rows H x sz xs) (hH : H K' = some (.rows sz [] v ro))
    (hQ : Q (.sref K (verOf H K + 1) sz xs.length false) (H.set K (.rows sz xs (verOf H K + 1) false))) : (app E K t (.sref K' v sz 0 true) x).wp q Q H := by
  subst hsz
  unfold app
  rw [hk]
  refine ⟨fun _ => h0, rowsOf_wp hx hxs ?_⟩
  simp only [Prg.wp, hH]
  refine ⟨fun _ => ⟨trivial, trivial, trivial, rfl, h0, hb0, by rw [Nat.zero_add]; exact hb⟩, fun _ => by simp, fun v => rfl, ?_⟩
  rw [List.nil_append, Nat.zero_add]
  exact hQ
theorem With_fn (l : List Int) (n : Int) (hl : l.length < 1000000000) : Fn E2 0 79 Tryd.f79 (Tryd.f79.body.getD .skip) [.sl (il l) false, .int .i64 n] (.sl (il (l ++ [n])) false) := by
  unfold Fn Tryd.f79
  simp only [go_sem, Nat.reduceAdd, Nat.reduceSub, Nat.reduceMul, Nat.reduceEqDiff, Nat.reduceLT, Nat.reduceLeDiff, Nat.reduceBEq, Nat.reduceBNe, Int.reduceToNat, Int.reduceLE, Int.reduceLT, Int.reduceNe, Int.reduceNeg, reduceCtorEq, Int.reduceBEq, Int.reduceBNe]
  refine app_fresh rfl rfl (by decide) (by decide) (by rw [il_length]; show l.length * 8 ≤ _; omega) (of_eq_true (il_ok l)) (.inl ⟨false, rfl⟩) (set_at_eq _ _ _) ?_
  simp only [go_sem, Nat.reduceAdd, Nat.reduceSub, Nat.reduceMul, Nat.reduceEqDiff, Nat.reduceLT, Nat.reduceLeDiff, Nat.reduceBEq, Nat.reduceBNe, Int.reduceToNat, Int.reduceLE, Int.reduceLT, Int.reduceNe, Int.reduceNeg, reduceCtorEq, Int.reduceBEq, Int.reduceBNe]
  refine app_one (S := fun K => K = ([], 79001002) ∨ K = ([], 79001005)) trivial rfl rfl (by decide) (by decide) (set_at_eq _ _ _) (.inr ⟨_, _, .inl rfl, rfl, by simp only [go_sem, Nat.reduceAdd, Nat.reduceSub, Nat.reduceMul, Nat.reduceEqDiff, Nat.reduceLT, Nat.reduceLeDiff, Nat.reduceBEq, Nat.reduceBNe, Int.reduceToNat, Int.reduceLE, Int.reduceLT, Int.reduceNe, Int.reduceNeg, reduceCtorEq, Int.reduceBEq, Int.reduceBNe]⟩) (.inr rfl) (by rw [il_length]; show (l.length + 1) * 8 ≤ _; omega) (il_row l) ⟨rfl, rfl⟩ fun p' H' hO hF => ?_
  obtain ⟨hT', hC', hP', hV', hU'⟩ := OwnTaint hO
  simp only [go_sem, Nat.reduceAdd, Nat.reduceSub, Nat.reduceMul, Nat.reduceEqDiff, Nat.reduceLT, Nat.reduceLeDiff, Nat.reduceBEq, Nat.reduceBNe, Int.reduceToNat, Int.reduceLE, Int.reduceLT, Int.reduceNe, Int.reduceNeg, reduceCtorEq, Int.reduceBEq, Int.reduceBNe, hT', hC', hP', hV', hU']
  rw [il_append']
  exact hO.fin
def s79 : Spec := spec2 (fun (l : List Int) (_ : Int) => l.length < 1000000000) (fun l n => .sl (il (l ++ [n])) false)
theorem s79_ok : SpecOK Tryd.prog glB 79 s79 := spec2_ok E2_ok Tryd.func79 rfl (by kernel_rfl) fun l n h => With_fn l n h
/-- Which numbers are in: an array of bools. -/
structure Bs where
  l : List Bool
def encBs (l : List Bool) : List PV := l.map fun b => .bool b
def dBl : List PV → Option (List Bool)
  | [] => some []
  | .bool b :: l => (dBl l).map (b :: ·)
  | _ => none
theorem dBl_enc : ∀ l : List Bool, dBl (encBs l) = some l
  | [] => rfl
  | b :: l => by
    have := dBl_enc l
    simp only [encBs, List.map_cons, dBl] at *
    rw [this]; rfl
theorem dBl_wk : ∀ (r : List PV) (l : List Bool), dBl r = some l → r = encBs l
  | [], l, h => by simp only [dBl] at h; cases h; rfl
  | p :: r, l, h => by
    unfold dBl at h
    split at h
    · rename_i e; cases e
    · rename_i b l' e
      cases e
      simp only [Option.map_eq_some_iff] at h
      obtain ⟨m, h1, rfl⟩ := h
      rw [dBl_wk _ _ h1]; rfl
    · cases h
def dBs : PV → Option Bs
  | .agg r => (dBl r).map Bs.mk
  | _ => none
instance : Enc Bs where
  enc x := .agg (encBs x.l)
  dec := dBs
  wk_dec p a h := by
    unfold dBs at h
    split at h
    · simp only [Option.map_eq_some_iff] at h
      obtain ⟨m, h1, rfl⟩ := h
      rw [dBl_wk _ _ h1]
      exact wkL_refl _
    · cases h
  dec_enc x := by simp [dBs, dBl_enc]
theorem dec_bs (l : List Bool) : (dec (.agg (encBs l)) : Option Bs) = some ⟨l⟩ := by
  show dBs _ = _
  simp [dBs, dBl_enc]
attribute [go_sem] dec_bs
theorem encBs_getD (l : List Bool) (i : Nat) (z : PV) (h : i < l.length) : (encBs l).getD i z = .bool (l.getD i false) := by
  simp [encBs, List.getD_eq_getElem?_getD, h]
theorem encBs_cells (l : List Bool) : cells1 (encBs l) = true := by
  induction l with
  | nil => rfl
  | cons b l ih => simp only [encBs, List.map_cons, cells1, cellP, Bool.true_and] at *; exact ih
theorem encBs_len (l : List Bool) : (encBs l).length = l.length := by simp [encBs]
def setF (l : List Bool) : Nat → Nat
  | 0 => 0
  | i + 1 => if l.getD i false then setF l i ||| 2 ^ i else setF l i
theorem setF_lt (l : List Bool) : ∀ i, i ≤ 62 → setF l i < 2 ^ i
  | 0, _ => by simp [setF]
  | i + 1, h => by
    have h1 := setF_lt l i (by omega)
    have h2 : (2 : Nat) ^ (i + 1) = 2 ^ i * 2 := rfl
    have h3 : setF l i ||| 2 ^ i < 2 ^ (i + 1) := Nat.or_lt_two_pow (by omega) (by omega)
    unfold setF
    split
    · exact h3
    · omega
theorem set_fn (l : List Bool) (hl : l.length = 7) : Fn E2 0 83 Tryd.f83 (Tryd.f83.body.getD .skip) [.agg (encBs l)] (.int .i64 (setF l 7)) := by
  unfold Fn Tryd.f83
  have ht : (encBs l).take 7 = encBs l := List.take_of_length_le (by rw [encBs_len, hl]; omega)
  simp only [go_sem, Nat.reduceAdd, Nat.reduceSub, Nat.reduceMul, Nat.reduceEqDiff, Nat.reduceLT, Nat.reduceLeDiff, Nat.reduceBEq, Nat.reduceBNe, Int.reduceToNat, Int.reduceLE, Int.reduceLT, Int.reduceNe, Int.reduceNeg, reduceCtorEq, Int.reduceBEq, Int.reduceBNe, encBs_len, encBs_cells, hl, ht]
  refine ev_loopS [1, 2, 6] (fun i : Nat => [(3, .int .i64 (setF l i)), (7, .int .i64 i)]) (fun i H => i ≤ 7) (fun i => 7 - i) 0 ?_ (Nat.zero_le _) ?_
  · simp only [go_sem, Nat.reduceAdd, Nat.reduceSub, Nat.reduceMul, Nat.reduceEqDiff, Nat.reduceLT, Nat.reduceLeDiff, Nat.reduceBEq, Nat.reduceBNe, Int.reduceToNat, Int.reduceLE, Int.reduceLT, Int.reduceNe, Int.reduceNeg, reduceCtorEq, Int.reduceBEq, Int.reduceBNe, setF, Int.natCast_zero]
  · simp only [go_sem, Nat.reduceAdd, Nat.reduceSub, Nat.reduceMul, Nat.reduceEqDiff, Nat.reduceLT, Nat.reduceLeDiff, Nat.reduceBEq, Nat.reduceBNe, Int.reduceToNat, Int.reduceLE, Int.reduceLT, Int.reduceNe, Int.reduceNeg, reduceCtorEq, Int.reduceBEq, Int.reduceBNe, Nat.mul_one]
    intro K i H hi hK hE
    rw [condK_bool]
    refine ⟨fun h => ?_, fun h => ?_⟩
    · have h' : i < 7 := by have : (i : Int) < 7 := by simpa using h
                            omega
      have hii : (i : Int) < 7 := by omega
      have w2 : IntKind.i64.wrap ((i : Int) + 1) = (i : Int) + 1 := wrap_id (by omega)
      have hg := encBs_getD l i (.bool false) (by omega)
      simp only [go_sem, Nat.reduceAdd, Nat.reduceSub, Nat.reduceMul, Nat.reduceEqDiff, Nat.reduceLT, Nat.reduceLeDiff, Nat.reduceBEq, Nat.reduceBNe, Int.reduceToNat, Int.reduceLE, Int.reduceLT, Int.reduceNe, Int.reduceNeg, reduceCtorEq, Int.reduceBEq, Int.reduceBNe, hii, encBs_len, hl, hg, Nat.mul_one]
      rw [condK_bool]
      refine ⟨fun hc => ?_, fun hc => ?_⟩
      · have hs := shl_one (k := i) (by omega)
        have hlt := setF_lt l i (by omega)
        have hq : setF l i < 2 ^ 62 := Nat.lt_of_lt_of_le hlt (Nat.pow_le_pow_right (by decide) (by omega))
        have ho := bits_or hq (b := 2 ^ i) (Nat.pow_lt_pow_right (by decide) (by omega))
        simp only [go_sem, Nat.reduceAdd, Nat.reduceSub, Nat.reduceMul, Nat.reduceEqDiff, Nat.reduceLT, Nat.reduceLeDiff, Nat.reduceBEq, Nat.reduceBNe, Int.reduceToNat, Int.reduceLE, Int.reduceLT, Int.reduceNe, Int.reduceNeg, reduceCtorEq, Int.reduceBEq, Int.reduceBNe, hs, ho, Int.natCast_nonneg]
        refine hK (i + 1) _ _ ?_ (by omega) (by omega)
        simp only [go_sem, Nat.reduceAdd, Nat.reduceSub, Nat.reduceMul, Nat.reduceEqDiff, Nat.reduceLT, Nat.reduceLeDiff, Nat.reduceBEq, Nat.reduceBNe, Int.reduceToNat, Int.reduceLE, Int.reduceLT, Int.reduceNe, Int.reduceNeg, reduceCtorEq, Int.reduceBEq, Int.reduceBNe, w2, setF, hc, if_true, Int.natCast_add, Int.natCast_one]
      · simp only [go_sem, Nat.reduceAdd, Nat.reduceSub, Nat.reduceMul, Nat.reduceEqDiff, Nat.reduceLT, Nat.reduceLeDiff, Nat.reduceBEq, Nat.reduceBNe, Int.reduceToNat, Int.reduceLE, Int.reduceLT, Int.reduceNe, Int.reduceNeg, reduceCtorEq, Int.reduceBEq, Int.reduceBNe]
        refine hK (i + 1) _ _ ?_ (by omega) (by omega)
        simp only [go_sem, Nat.reduceAdd, Nat.reduceSub, Nat.reduceMul, Nat.reduceEqDiff, Nat.reduceLT, Nat.reduceLeDiff, Nat.reduceBEq, Nat.reduceBNe, Int.reduceToNat, Int.reduceLE, Int.reduceLT, Int.reduceNe, Int.reduceNeg, reduceCtorEq, Int.reduceBEq, Int.reduceBNe, w2, setF, hc, Bool.false_eq_true, if_false, Int.natCast_add, Int.natCast_one]
    · have h' : i = 7 := by have : ¬ ((i : Int) < 7) := by simpa using h
                            omega
      subst h'
      refine hE _ _ _ (by simp) ?_
      simp only [go_sem, Nat.reduceAdd, Nat.reduceSub, Nat.reduceMul, Nat.reduceEqDiff, Nat.reduceLT, Nat.reduceLeDiff, Nat.reduceBEq, Nat.reduceBNe, Int.reduceToNat, Int.reduceLE, Int.reduceLT, Int.reduceNe, Int.reduceNeg, reduceCtorEq, Int.reduceBEq, Int.reduceBNe]
def s83 : Spec := spec1 (fun (x : Bs) => x.l.length = 7) (fun x => .int .i64 (setF x.l 7))
theorem s83_ok : SpecOK Tryd.prog glB 83 s83 := spec1_ok E2_ok Tryd.func83 rfl (by kernel_rfl) fun x h => set_fn x.l h
end Wb
/- The arguments of the seat's rows, as data. -/
namespace Wb
open Go Go.Proofs
set_option linter.unusedVariables false
def okPiece (x : Piece) : Prop := okInt x.size ∧ okInt x.weight ∧ okInt x.worth
def okInts (l : List Int) : Prop := l.length ≤ 17592186044416 ∧ ∀ a ∈ l, okInt a
def okKind (x : Kind) : Prop := okInt x.room ∧ okInt x.most ∧ okInts x.zones ∧ okInt x.step
def okPBook (x : PBook) : Prop := (x.pieces.length ≤ 17592186044416 ∧ ∀ p ∈ x.pieces, okPiece p) ∧ (x.kinds.length ≤ 17592186044416 ∧ ∀ p ∈ x.kinds, okKind p) ∧ (okInt x.grams ∧ okInt x.free ∧ okInt x.unit ∧ okInt x.fee) ∧ okInts x.stamps
def okParc (x : Parc) : Prop := okInt x.kind ∧ okInts x.pieces
theorem pI : Opens Tryd.prog 3 Int (fun n => [.int .i64 n]) okInt := opens_int Tryd.underlying3
theorem pBool : Opens Tryd.prog 4 Bool (fun b => [.bool b]) (fun _ => True) := opens_bool Tryd.underlying4
theorem pInts : Opens Tryd.prog 24 (List Int) (fun l => [.sl (il l) false]) okInts :=
  opens_slice Tryd.underlying24 (of_decide_eq_true (by kernel_rfl)) (of_decide_eq_true (by kernel_rfl)) (fun _ => by kernel_rfl) pI
theorem pPiece : Opens Tryd.prog 79 Piece encP okPiece :=
  opens_map (opens_struct Tryd.underlying79 (opF 1 pI rfl rfl (by kernel_rfl) (opF 2 pI rfl rfl (by kernel_rfl) (opF 3 pI rfl rfl (by kernel_rfl) (opF 4 pBool rfl rfl (by kernel_rfl) (opF0 (by kernel_rfl))))))) (fun x => (⟨x.1, x.2.1, x.2.2.1, x.2.2.2.1⟩ : Piece)) (fun _ => rfl) (fun a h => ⟨h.1, h.2.1, h.2.2.1⟩)
theorem pPieces : Opens Tryd.prog 22 (List Piece) (fun l => [.sl (l.map encP) false]) (fun l => l.length ≤ 17592186044416 ∧ ∀ a ∈ l, okPiece a) :=
  opens_slice Tryd.underlying22 (of_decide_eq_true (by kernel_rfl)) (of_decide_eq_true (by kernel_rfl)) (fun _ => by kernel_rfl) pPiece
theorem pKind : Opens Tryd.prog 71 Kind encK okKind :=
  opens_map (opens_struct Tryd.underlying71 (opF 1 pI rfl rfl (by kernel_rfl) (opF 2 pI rfl rfl (by kernel_rfl) (opF 3 pInts rfl rfl (by kernel_rfl) (opF 4 pI rfl rfl (by kernel_rfl) (opF0 (by kernel_rfl))))))) (fun x => (⟨x.1, x.2.1, x.2.2.1, x.2.2.2.1⟩ : Kind)) (fun _ => rfl) (fun a h => ⟨h.1, h.2.1, h.2.2.1, h.2.2.2.1⟩)
theorem pKinds : Opens Tryd.prog 23 (List Kind) (fun l => [.sl (l.map encK) false]) (fun l => l.length ≤ 17592186044416 ∧ ∀ a ∈ l, okKind a) :=
  opens_slice Tryd.underlying23 (of_decide_eq_true (by kernel_rfl)) (of_decide_eq_true (by kernel_rfl)) (fun _ => by kernel_rfl) pKind
theorem pBook : Opens Tryd.prog 26 PBook encB okPBook :=
  opens_map (opens_struct Tryd.underlying26 (opF 1 pPieces rfl rfl (by kernel_rfl) (opF 2 pKinds rfl rfl (by kernel_rfl) (opF 3 pI rfl rfl (by kernel_rfl) (opF 4 pI rfl rfl (by kernel_rfl) (opF 5 pI rfl rfl (by kernel_rfl) (opF 6 pI rfl rfl (by kernel_rfl) (opF 7 pInts rfl rfl (by kernel_rfl) (opF0 (by kernel_rfl)))))))))) (fun x => (⟨x.1, x.2.1, x.2.2.1, x.2.2.2.1, x.2.2.2.2.1, x.2.2.2.2.2.1, x.2.2.2.2.2.2.1⟩ : PBook)) (fun _ => rfl) (fun a h => ⟨h.1, h.2.1, ⟨h.2.2.1, h.2.2.2.1, h.2.2.2.2.1, h.2.2.2.2.2.1⟩, h.2.2.2.2.2.2.1⟩)
theorem pParc : Opens Tryd.prog 28 Parc encQ okParc :=
  opens_map (opens_struct Tryd.underlying28 (opF 1 pI rfl rfl (by kernel_rfl) (opF 2 pInts rfl rfl (by kernel_rfl) (opF0 (by kernel_rfl))))) (fun x => (⟨x.1, x.2.1⟩ : Parc)) (fun _ => rfl) (fun a h => ⟨h.1, h.2.1⟩)
theorem pParcs : Opens Tryd.prog 40 (List Parc) (fun l => [.sl (l.map encQ) false]) (fun l => l.length ≤ 17592186044416 ∧ ∀ a ∈ l, okParc a) :=
  opens_slice Tryd.underlying40 (of_decide_eq_true (by kernel_rfl)) (of_decide_eq_true (by kernel_rfl)) (fun _ => by kernel_rfl) pParc
def encZ (l : List Int) : List PV := l.map fun n => .int .i64 n
theorem pArr {t n : Nat} (ht : Tryd.prog.underlying t = some (.array n 3)) (hc : Tryd.prog.cellsOf t = n * Tryd.prog.cellsOf 3) : Opens Tryd.prog t (List Int) encZ (fun l => l.length = n ∧ ∀ a ∈ l, okInt a) :=
  opens_map (opens_array ht hc (fun _ => by kernel_rfl) pI) id (fun a => by unfold encZ; induction a <;> simp_all) (fun _ h => h)
end Wb
