import Derived.Test.YtaihkflmkopliaaDoorB
import Derived.Test.YtaihkflmkopliaaDoorProg
import Derived.ChangeKeysEq
import Derived.Test.YtaihkflmkopliaaDoorO
set_option linter.unusedVariables false
set_option linter.unusedSimpArgs false
/- MADE BY PROGRAM (types.py): the type table, and that it is right. -/
namespace Wb
open Go Go.Proofs
def zrep : PV → Value → Bool
  | .int k n, .int k' n' => k == k' && n == n'
  | .bool b, .bool b' => b == b'
  | .nilfn, .nilFunc => true
  | .nilmap, .map none => true
  | .nilptr, .pointer none => true
  | .sl [] true, .slice none 0 0 => true
  | _, _ => false
def zreps : List PV → List Value → Bool
  | [], [] => true
  | p :: ps, x :: xs => zrep p x && zreps ps xs
  | _, _ => false
theorem zrep_rep {w : World} {Z : Nat → Prop} {C : Ctx} {p : PV} {x : Value} (h : zrep p x = true) : Rep w Z C p x := by
  unfold zrep at h
  split at h
  · simp at h; obtain ⟨rfl, rfl⟩ := h; exact .int
  · simp at h; subst h; exact .bool
  · exact .nilfn
  · exact .nilmap
  · exact .nilptr
  · exact .sl 0 0 0 (fun _ _ => Go.undef) rfl (Nat.le_refl _) (fun _ => rfl) (fun h => absurd rfl h) (fun _ h => by cases h) (fun i row j p a => by simp at a) (fun i row j p a => by simp at a)
  · cases h
theorem zreps_rep {w : World} {Z : Nat → Prop} {C : Ctx} : ∀ {ps : List PV} {xs : List Value}, zreps ps xs = true → RepS w Z C ps xs
  | [], [], _ => trivial
  | p :: ps, x :: xs, h => by simp [zreps] at h; exact ⟨zrep_rep h.1, zreps_rep h.2⟩
  | [], x :: xs, h => by simp [zreps] at h
  | p :: ps, [], h => by simp [zreps] at h
theorem tiok_mk {P : Program} {t : Nat} {x : TI} {d : TypeDesc} {i : TypeInfo} {z : Value} (hd : x.kind.isAgg = (d matches .struct _ | .array _ _)) (hu : P.underlying t = some d) (hi : P.info? t = some i) (hk : KindOK P t x.kind) (hs : i.size = x.size) (hb : i.bytes = x.bytes)
    (hz : i.zero = some z) (hc : z.cells.size = x.size) (hr : zreps x.zero z.cells.toList = true) (ha : x.kind.isAgg = true → ∃ arr, z = .agg arr) (hn : x.kind.isAgg = false → z.cells = #[z] ∧ x.size = 1) : TIok P t x where
  kind := hk
  info := fun _ => ⟨i, z, hi, hs, hb, hz, hc, fun w Z C => by have := (zreps_rep (w := w) (Z := Z) (C := C) hr).l; simpa using this, ha, hn⟩
  agg := fun _ => ⟨d, hu, hd⟩
theorem tiok_bad {P : Program} {t : Nat} : TIok P t default := ⟨trivial, fun h => absurd h (Nat.lt_irrefl 0), fun h => absurd h (Nat.lt_irrefl 0)⟩
def ti : Nat → TI
  | 1 => { kind := .scal, size := 1, bytes := 8, zero := [.nilfn] }
  | 2 => { kind := .scal, size := 1, bytes := 8, zero := [.int .i64 0] }
  | 3 => { kind := .scal, size := 1, bytes := 8, zero := [.int .i64 0] }
  | 4 => { kind := .boolk, size := 1, bytes := 1, zero := [.bool false] }
  | 5 => { kind := .scal, size := 1, bytes := 1, zero := [.int .u8 0] }
  | 6 => { kind := .scal, size := 1, bytes := 1, zero := [.int .u8 0] }
  | 7 => { kind := .struct [0, 1, 2, 3] [2, 3, 4, 6], size := 4, bytes := 24, zero := [.int .i64 0, .int .i64 0, .bool false, .int .u8 0] }
  | 8 => { kind := .struct [0, 1, 2, 3] [2, 3, 4, 6], size := 4, bytes := 24, zero := [.int .i64 0, .int .i64 0, .bool false, .int .u8 0] }
  | 12 => { kind := .scal, size := 1, bytes := 8, zero := [.int .u64 0] }
  | 15 => { kind := .scal, size := 1, bytes := 8, zero := [.nilptr] }
  | 16 => { kind := .scal, size := 1, bytes := 8, zero := [.nilptr] }
  | 17 => { kind := .scal, size := 1, bytes := 8, zero := [.nilptr] }
  | 18 => { kind := .struct [0] [17], size := 1, bytes := 8, zero := [.nilptr] }
  | 19 => { kind := .struct [0] [17], size := 1, bytes := 8, zero := [.nilptr] }
  | 21 => { kind := .scal, size := 1, bytes := 4, zero := [.int .i32 0] }
  | 22 => { kind := .slice 64, size := 1, bytes := 24, zero := [.sl [] true] }
  | 23 => { kind := .struct [0, 1] [3, 22], size := 2, bytes := 32, zero := [.int .i64 0, .sl [] true] }
  | 24 => { kind := .struct [0, 1] [3, 22], size := 2, bytes := 32, zero := [.int .i64 0, .sl [] true] }
  | 25 => { kind := .struct [0, 1] [3, 3], size := 2, bytes := 16, zero := [.int .i64 0, .int .i64 0] }
  | 26 => { kind := .struct [0, 1] [3, 3], size := 2, bytes := 16, zero := [.int .i64 0, .int .i64 0] }
  | 27 => { kind := .arr 4 3, size := 4, bytes := 32, zero := [.int .i64 0, .int .i64 0, .int .i64 0, .int .i64 0] }
  | 28 => { kind := .slice 69, size := 1, bytes := 24, zero := [.sl [] true] }
  | 29 => { kind := .scal, size := 1, bytes := 8, zero := [.int .i64 0] }
  | 31 => { kind := .scal, size := 1, bytes := 8, zero := [.nilfn] }
  | 32 => { kind := .scal, size := 1, bytes := 8, zero := [.nilfn] }
  | 33 => { kind := .scal, size := 1, bytes := 8, zero := [.nilfn] }
  | 35 => { kind := .scal, size := 1, bytes := 8, zero := [.nilfn] }
  | 36 => { kind := .slice 3, size := 1, bytes := 24, zero := [.sl [] true] }
  | 38 => { kind := .scal, size := 1, bytes := 8, zero := [.nilfn] }
  | 39 => { kind := .scal, size := 1, bytes := 8, zero := [.nilfn] }
  | 40 => { kind := .scal, size := 1, bytes := 8, zero := [.nilfn] }
  | 41 => { kind := .scal, size := 1, bytes := 8, zero := [.nilfn] }
  | 42 => { kind := .struct [0, 1, 2] [3, 3, 3], size := 3, bytes := 24, zero := [.int .i64 0, .int .i64 0, .int .i64 0] }
  | 43 => { kind := .struct [0, 1, 2] [3, 3, 3], size := 3, bytes := 24, zero := [.int .i64 0, .int .i64 0, .int .i64 0] }
  | 44 => { kind := .scal, size := 1, bytes := 8, zero := [.nilfn] }
  | 45 => { kind := .scal, size := 1, bytes := 8, zero := [.nilfn] }
  | 46 => { kind := .scal, size := 1, bytes := 8, zero := [.nilfn] }
  | 47 => { kind := .scal, size := 1, bytes := 8, zero := [.nilfn] }
  | 48 => { kind := .slice 85, size := 1, bytes := 24, zero := [.sl [] true] }
  | 49 => { kind := .scal, size := 1, bytes := 8, zero := [.nilfn] }
  | 51 => { kind := .scal, size := 1, bytes := 8, zero := [.nilfn] }
  | 52 => { kind := .scal, size := 1, bytes := 8, zero := [.nilfn] }
  | 53 => { kind := .arr 2 3, size := 2, bytes := 16, zero := [.int .i64 0, .int .i64 0] }
  | 54 => { kind := .scal, size := 1, bytes := 8, zero := [.nilfn] }
  | 55 => { kind := .scal, size := 1, bytes := 8, zero := [.nilfn] }
  | 56 => { kind := .scal, size := 1, bytes := 8, zero := [.nilfn] }
  | 57 => { kind := .arr 5 3, size := 5, bytes := 40, zero := [.int .i64 0, .int .i64 0, .int .i64 0, .int .i64 0, .int .i64 0] }
  | 58 => { kind := .scal, size := 1, bytes := 8, zero := [.nilfn] }
  | 59 => { kind := .scal, size := 1, bytes := 8, zero := [.nilfn] }
  | 60 => { kind := .scal, size := 1, bytes := 8, zero := [.nilfn] }
  | 61 => { kind := .scal, size := 1, bytes := 8, zero := [.nilfn] }
  | 62 => { kind := .slice 67, size := 1, bytes := 24, zero := [.sl [] true] }
  | 63 => { kind := .struct [0, 2, 3] [26, 3, 62], size := 4, bytes := 48, zero := [.int .i64 0, .int .i64 0, .int .i64 0, .sl [] true] }
  | 64 => { kind := .struct [0, 2, 3] [26, 3, 62], size := 4, bytes := 48, zero := [.int .i64 0, .int .i64 0, .int .i64 0, .sl [] true] }
  | 65 => { kind := .slice 90, size := 1, bytes := 24, zero := [.sl [] true] }
  | 66 => { kind := .struct [0, 1, 2, 3] [3, 3, 3, 65], size := 4, bytes := 48, zero := [.int .i64 0, .int .i64 0, .int .i64 0, .sl [] true] }
  | 67 => { kind := .struct [0, 1, 2, 3] [3, 3, 3, 65], size := 4, bytes := 48, zero := [.int .i64 0, .int .i64 0, .int .i64 0, .sl [] true] }
  | 68 => { kind := .struct [0, 1] [3, 3], size := 2, bytes := 16, zero := [.int .i64 0, .int .i64 0] }
  | 69 => { kind := .struct [0, 1] [3, 3], size := 2, bytes := 16, zero := [.int .i64 0, .int .i64 0] }
  | 70 => { kind := .scal, size := 1, bytes := 8, zero := [.nilfn] }
  | 71 => { kind := .arr 3 3, size := 3, bytes := 24, zero := [.int .i64 0, .int .i64 0, .int .i64 0] }
  | 72 => { kind := .scal, size := 1, bytes := 8, zero := [.nilfn] }
  | 73 => { kind := .scal, size := 1, bytes := 8, zero := [.nilfn] }
  | 74 => { kind := .scal, size := 1, bytes := 8, zero := [.nilfn] }
  | 75 => { kind := .scal, size := 1, bytes := 8, zero := [.nilfn] }
  | 77 => { kind := .scal, size := 1, bytes := 8, zero := [.nilfn] }
  | 78 => { kind := .scal, size := 1, bytes := 8, zero := [.nilfn] }
  | 79 => { kind := .scal, size := 1, bytes := 8, zero := [.nilfn] }
  | 80 => { kind := .scal, size := 1, bytes := 8, zero := [.nilfn] }
  | 81 => { kind := .scal, size := 1, bytes := 8, zero := [.nilfn] }
  | 82 => { kind := .scal, size := 1, bytes := 8, zero := [.nilfn] }
  | 83 => { kind := .scal, size := 1, bytes := 8, zero := [.nilfn] }
  | 84 => { kind := .struct [0, 3] [43, 3], size := 4, bytes := 32, zero := [.int .i64 0, .int .i64 0, .int .i64 0, .int .i64 0] }
  | 85 => { kind := .struct [0, 3] [43, 3], size := 4, bytes := 32, zero := [.int .i64 0, .int .i64 0, .int .i64 0, .int .i64 0] }
  | 86 => { kind := .scal, size := 1, bytes := 8, zero := [.nilfn] }
  | 87 => { kind := .scal, size := 1, bytes := 8, zero := [.nilfn] }
  | 88 => { kind := .scal, size := 1, bytes := 8, zero := [.nilfn] }
  | 89 => { kind := .struct [0, 1, 3] [3, 26, 3], size := 4, bytes := 32, zero := [.int .i64 0, .int .i64 0, .int .i64 0, .int .i64 0] }
  | 90 => { kind := .struct [0, 1, 3] [3, 26, 3], size := 4, bytes := 32, zero := [.int .i64 0, .int .i64 0, .int .i64 0, .int .i64 0] }
  | 91 => { kind := .scal, size := 1, bytes := 8, zero := [.nilfn] }
  | 92 => { kind := .scal, size := 1, bytes := 8, zero := [.nilfn] }
  | 93 => { kind := .slice 24, size := 1, bytes := 24, zero := [.sl [] true] }
  | 94 => { kind := .scal, size := 1, bytes := 8, zero := [.nilfn] }
  | 95 => { kind := .scal, size := 1, bytes := 8, zero := [.nilfn] }
  | 96 => { kind := .map 108 67, size := 1, bytes := 8, zero := [.nilmap] }
  | 97 => { kind := .struct [0, 2] [24, 96], size := 3, bytes := 40, zero := [.int .i64 0, .sl [] true, .nilmap] }
  | 98 => { kind := .struct [0, 2] [24, 96], size := 3, bytes := 40, zero := [.int .i64 0, .sl [] true, .nilmap] }
  | 100 => { kind := .scal, size := 1, bytes := 8, zero := [.nilfn] }
  | 101 => { kind := .scal, size := 1, bytes := 8, zero := [.nilfn] }
  | 102 => { kind := .scal, size := 1, bytes := 8, zero := [.nilfn] }
  | 103 => { kind := .scal, size := 1, bytes := 8, zero := [.nilfn] }
  | 104 => { kind := .scal, size := 1, bytes := 8, zero := [.nilfn] }
  | 105 => { kind := .scal, size := 1, bytes := 8, zero := [.nilfn] }
  | 107 => { kind := .struct [0, 1] [3, 3], size := 2, bytes := 16, zero := [.int .i64 0, .int .i64 0] }
  | 108 => { kind := .struct [0, 1] [3, 3], size := 2, bytes := 16, zero := [.int .i64 0, .int .i64 0] }
  | 109 => { kind := .scal, size := 1, bytes := 8, zero := [.nilfn] }
  | 110 => { kind := .scal, size := 1, bytes := 8, zero := [.nilfn] }
  | 111 => { kind := .scal, size := 1, bytes := 8, zero := [.nilfn] }
  | 112 => { kind := .scal, size := 1, bytes := 8, zero := [.nilfn] }
  | 113 => { kind := .map 3 4, size := 1, bytes := 8, zero := [.nilmap] }
  | 114 => { kind := .scal, size := 1, bytes := 8, zero := [.nilfn] }
  | 115 => { kind := .scal, size := 1, bytes := 8, zero := [.nilfn] }
  | 116 => { kind := .scal, size := 1, bytes := 8, zero := [.nilfn] }
  | 117 => { kind := .map 3 3, size := 1, bytes := 8, zero := [.nilmap] }
  | 118 => { kind := .scal, size := 1, bytes := 8, zero := [.nilfn] }
  | 120 => { kind := .scal, size := 1, bytes := 8, zero := [.nilfn] }
  | 121 => { kind := .scal, size := 1, bytes := 8, zero := [.nilfn] }
  | 122 => { kind := .scal, size := 1, bytes := 8, zero := [.nilfn] }
  | 123 => { kind := .scal, size := 1, bytes := 8, zero := [.nilfn] }
  | 124 => { kind := .scal, size := 1, bytes := 8, zero := [.nilfn] }
  | 125 => { kind := .scal, size := 1, bytes := 8, zero := [.nilfn] }
  | 126 => { kind := .scal, size := 1, bytes := 8, zero := [.nilfn] }
  | 127 => { kind := .scal, size := 1, bytes := 8, zero := [.nilfn] }
  | 128 => { kind := .scal, size := 1, bytes := 8, zero := [.nilfn] }
  | 129 => { kind := .scal, size := 1, bytes := 8, zero := [.nilfn] }
  | 130 => { kind := .scal, size := 1, bytes := 8, zero := [.nilfn] }
  | 131 => { kind := .scal, size := 1, bytes := 8, zero := [.nilfn] }
  | 132 => { kind := .scal, size := 1, bytes := 8, zero := [.nilfn] }
  | 134 => { kind := .scal, size := 1, bytes := 8, zero := [.nilfn] }
  | 135 => { kind := .scal, size := 1, bytes := 8, zero := [.nilfn] }
  | 136 => { kind := .struct [0] [135], size := 1, bytes := 8, zero := [.nilfn] }
  | 137 => { kind := .struct [0] [135], size := 1, bytes := 8, zero := [.nilfn] }
  | 139 => { kind := .scal, size := 1, bytes := 8, zero := [.nilfn] }
  | 140 => { kind := .scal, size := 1, bytes := 8, zero := [.nilfn] }
  | 141 => { kind := .scal, size := 1, bytes := 8, zero := [.nilfn] }
  | 142 => { kind := .scal, size := 1, bytes := 8, zero := [.nilfn] }
  | 143 => { kind := .scal, size := 1, bytes := 8, zero := [.nilfn] }
  | 144 => { kind := .scal, size := 1, bytes := 8, zero := [.nilfn] }
  | 145 => { kind := .arr 2 144, size := 2, bytes := 16, zero := [.nilfn, .nilfn] }
  | 146 => { kind := .scal, size := 1, bytes := 8, zero := [.nilfn] }
  | 147 => { kind := .scal, size := 1, bytes := 8, zero := [.nilfn] }
  | 148 => { kind := .scal, size := 1, bytes := 8, zero := [.nilfn] }
  | 149 => { kind := .scal, size := 1, bytes := 8, zero := [.nilfn] }
  | 150 => { kind := .scal, size := 1, bytes := 8, zero := [.int .u64 0] }
  | 151 => { kind := .arr 4 4, size := 4, bytes := 4, zero := [.bool false, .bool false, .bool false, .bool false] }
  | 152 => { kind := .arr 4 4, size := 4, bytes := 4, zero := [.bool false, .bool false, .bool false, .bool false] }
  | 153 => { kind := .scal, size := 1, bytes := 8, zero := [.nilfn] }
  | 154 => { kind := .scal, size := 1, bytes := 8, zero := [.nilfn] }
  | 155 => { kind := .scal, size := 1, bytes := 8, zero := [.nilfn] }
  | 156 => { kind := .scal, size := 1, bytes := 8, zero := [.nilfn] }
  | 157 => { kind := .scal, size := 1, bytes := 8, zero := [.nilfn] }
  | 158 => { kind := .scal, size := 1, bytes := 8, zero := [.int .i64 0] }
  | 160 => { kind := .scal, size := 1, bytes := 8, zero := [.nilfn] }
  | 161 => { kind := .scal, size := 1, bytes := 8, zero := [.nilfn] }
  | 162 => { kind := .scal, size := 1, bytes := 8, zero := [.nilfn] }
  | 163 => { kind := .scal, size := 1, bytes := 8, zero := [.nilfn] }
  | 164 => { kind := .scal, size := 1, bytes := 8, zero := [.nilfn] }
  | 165 => { kind := .scal, size := 1, bytes := 4, zero := [.int .u32 0] }
  | 166 => { kind := .scal, size := 1, bytes := 8, zero := [.nilfn] }
  | 167 => { kind := .scal, size := 1, bytes := 8, zero := [.int .u64 0] }
  | 168 => { kind := .scal, size := 1, bytes := 8, zero := [.nilfn] }
  | 169 => { kind := .scal, size := 1, bytes := 8, zero := [.int .u64 0] }
  | 170 => { kind := .scal, size := 1, bytes := 8, zero := [.nilfn] }
  | 171 => { kind := .scal, size := 1, bytes := 8, zero := [.nilfn] }
  | 172 => { kind := .scal, size := 1, bytes := 8, zero := [.nilfn] }
  | 173 => { kind := .scal, size := 1, bytes := 8, zero := [.nilptr] }
  | 174 => { kind := .scal, size := 1, bytes := 8, zero := [.nilfn] }
  | 175 => { kind := .scal, size := 1, bytes := 8, zero := [.nilptr] }
  | 177 => { kind := .scal, size := 1, bytes := 8, zero := [.nilfn] }
  | 178 => { kind := .scal, size := 1, bytes := 8, zero := [.nilfn] }
  | 181 => { kind := .arr 0 16, size := 0, bytes := 0, zero := [] }
  | 182 => { kind := .struct [0] [181], size := 0, bytes := 0, zero := [] }
  | 183 => { kind := .struct [0] [181], size := 0, bytes := 0, zero := [] }
  | 184 => { kind := .scal, size := 1, bytes := 8, zero := [.nilfn] }
  | 185 => { kind := .scal, size := 1, bytes := 1, zero := [.int .u8 0] }
  | 186 => { kind := .scal, size := 1, bytes := 1, zero := [.int .u8 0] }
  | 187 => { kind := .scal, size := 1, bytes := 8, zero := [.nilfn] }
  | 188 => { kind := .scal, size := 1, bytes := 8, zero := [.nilptr] }
  | 189 => { kind := .scal, size := 1, bytes := 4, zero := [.int .i32 0] }
  | 190 => { kind := .scal, size := 1, bytes := 4, zero := [.int .i32 0] }
  | 191 => { kind := .struct [0, 1, 2, 3, 4, 5, 6, 7, 8, 9, 10] [12, 12, 165, 185, 5, 5, 186, 187, 188, 189, 190], size := 11, bytes := 48, zero := [.int .u64 0, .int .u64 0, .int .u32 0, .int .u8 0, .int .u8 0, .int .u8 0, .int .u8 0, .nilfn, .nilptr, .int .i32 0, .int .i32 0] }
  | 192 => { kind := .struct [0, 1, 2, 3, 4, 5, 6, 7, 8, 9, 10] [12, 12, 165, 185, 5, 5, 186, 187, 188, 189, 190], size := 11, bytes := 48, zero := [.int .u64 0, .int .u64 0, .int .u32 0, .int .u8 0, .int .u8 0, .int .u8 0, .int .u8 0, .nilfn, .nilptr, .int .i32 0, .int .i32 0] }
  | _ => default
theorem ti1 : ti 1 = { kind := .scal, size := 1, bytes := 8, zero := [.nilfn] } := rfl
theorem ti2 : ti 2 = { kind := .scal, size := 1, bytes := 8, zero := [.int .i64 0] } := rfl
theorem ti3 : ti 3 = { kind := .scal, size := 1, bytes := 8, zero := [.int .i64 0] } := rfl
theorem ti4 : ti 4 = { kind := .boolk, size := 1, bytes := 1, zero := [.bool false] } := rfl
theorem ti5 : ti 5 = { kind := .scal, size := 1, bytes := 1, zero := [.int .u8 0] } := rfl
theorem ti6 : ti 6 = { kind := .scal, size := 1, bytes := 1, zero := [.int .u8 0] } := rfl
theorem ti7 : ti 7 = { kind := .struct [0, 1, 2, 3] [2, 3, 4, 6], size := 4, bytes := 24, zero := [.int .i64 0, .int .i64 0, .bool false, .int .u8 0] } := rfl
theorem ti8 : ti 8 = { kind := .struct [0, 1, 2, 3] [2, 3, 4, 6], size := 4, bytes := 24, zero := [.int .i64 0, .int .i64 0, .bool false, .int .u8 0] } := rfl
theorem ti12 : ti 12 = { kind := .scal, size := 1, bytes := 8, zero := [.int .u64 0] } := rfl
theorem ti15 : ti 15 = { kind := .scal, size := 1, bytes := 8, zero := [.nilptr] } := rfl
theorem ti16 : ti 16 = { kind := .scal, size := 1, bytes := 8, zero := [.nilptr] } := rfl
theorem ti17 : ti 17 = { kind := .scal, size := 1, bytes := 8, zero := [.nilptr] } := rfl
theorem ti18 : ti 18 = { kind := .struct [0] [17], size := 1, bytes := 8, zero := [.nilptr] } := rfl
theorem ti19 : ti 19 = { kind := .struct [0] [17], size := 1, bytes := 8, zero := [.nilptr] } := rfl
theorem ti21 : ti 21 = { kind := .scal, size := 1, bytes := 4, zero := [.int .i32 0] } := rfl
theorem ti22 : ti 22 = { kind := .slice 64, size := 1, bytes := 24, zero := [.sl [] true] } := rfl
theorem ti23 : ti 23 = { kind := .struct [0, 1] [3, 22], size := 2, bytes := 32, zero := [.int .i64 0, .sl [] true] } := rfl
theorem ti24 : ti 24 = { kind := .struct [0, 1] [3, 22], size := 2, bytes := 32, zero := [.int .i64 0, .sl [] true] } := rfl
theorem ti25 : ti 25 = { kind := .struct [0, 1] [3, 3], size := 2, bytes := 16, zero := [.int .i64 0, .int .i64 0] } := rfl
theorem ti26 : ti 26 = { kind := .struct [0, 1] [3, 3], size := 2, bytes := 16, zero := [.int .i64 0, .int .i64 0] } := rfl
theorem ti27 : ti 27 = { kind := .arr 4 3, size := 4, bytes := 32, zero := [.int .i64 0, .int .i64 0, .int .i64 0, .int .i64 0] } := rfl
theorem ti28 : ti 28 = { kind := .slice 69, size := 1, bytes := 24, zero := [.sl [] true] } := rfl
theorem ti29 : ti 29 = { kind := .scal, size := 1, bytes := 8, zero := [.int .i64 0] } := rfl
theorem ti31 : ti 31 = { kind := .scal, size := 1, bytes := 8, zero := [.nilfn] } := rfl
theorem ti32 : ti 32 = { kind := .scal, size := 1, bytes := 8, zero := [.nilfn] } := rfl
theorem ti33 : ti 33 = { kind := .scal, size := 1, bytes := 8, zero := [.nilfn] } := rfl
theorem ti35 : ti 35 = { kind := .scal, size := 1, bytes := 8, zero := [.nilfn] } := rfl
theorem ti36 : ti 36 = { kind := .slice 3, size := 1, bytes := 24, zero := [.sl [] true] } := rfl
theorem ti38 : ti 38 = { kind := .scal, size := 1, bytes := 8, zero := [.nilfn] } := rfl
theorem ti39 : ti 39 = { kind := .scal, size := 1, bytes := 8, zero := [.nilfn] } := rfl
theorem ti40 : ti 40 = { kind := .scal, size := 1, bytes := 8, zero := [.nilfn] } := rfl
theorem ti41 : ti 41 = { kind := .scal, size := 1, bytes := 8, zero := [.nilfn] } := rfl
theorem ti42 : ti 42 = { kind := .struct [0, 1, 2] [3, 3, 3], size := 3, bytes := 24, zero := [.int .i64 0, .int .i64 0, .int .i64 0] } := rfl
theorem ti43 : ti 43 = { kind := .struct [0, 1, 2] [3, 3, 3], size := 3, bytes := 24, zero := [.int .i64 0, .int .i64 0, .int .i64 0] } := rfl
theorem ti44 : ti 44 = { kind := .scal, size := 1, bytes := 8, zero := [.nilfn] } := rfl
theorem ti45 : ti 45 = { kind := .scal, size := 1, bytes := 8, zero := [.nilfn] } := rfl
theorem ti46 : ti 46 = { kind := .scal, size := 1, bytes := 8, zero := [.nilfn] } := rfl
theorem ti47 : ti 47 = { kind := .scal, size := 1, bytes := 8, zero := [.nilfn] } := rfl
theorem ti48 : ti 48 = { kind := .slice 85, size := 1, bytes := 24, zero := [.sl [] true] } := rfl
theorem ti49 : ti 49 = { kind := .scal, size := 1, bytes := 8, zero := [.nilfn] } := rfl
theorem ti51 : ti 51 = { kind := .scal, size := 1, bytes := 8, zero := [.nilfn] } := rfl
theorem ti52 : ti 52 = { kind := .scal, size := 1, bytes := 8, zero := [.nilfn] } := rfl
theorem ti53 : ti 53 = { kind := .arr 2 3, size := 2, bytes := 16, zero := [.int .i64 0, .int .i64 0] } := rfl
theorem ti54 : ti 54 = { kind := .scal, size := 1, bytes := 8, zero := [.nilfn] } := rfl
theorem ti55 : ti 55 = { kind := .scal, size := 1, bytes := 8, zero := [.nilfn] } := rfl
theorem ti56 : ti 56 = { kind := .scal, size := 1, bytes := 8, zero := [.nilfn] } := rfl
theorem ti57 : ti 57 = { kind := .arr 5 3, size := 5, bytes := 40, zero := [.int .i64 0, .int .i64 0, .int .i64 0, .int .i64 0, .int .i64 0] } := rfl
theorem ti58 : ti 58 = { kind := .scal, size := 1, bytes := 8, zero := [.nilfn] } := rfl
theorem ti59 : ti 59 = { kind := .scal, size := 1, bytes := 8, zero := [.nilfn] } := rfl
theorem ti60 : ti 60 = { kind := .scal, size := 1, bytes := 8, zero := [.nilfn] } := rfl
theorem ti61 : ti 61 = { kind := .scal, size := 1, bytes := 8, zero := [.nilfn] } := rfl
theorem ti62 : ti 62 = { kind := .slice 67, size := 1, bytes := 24, zero := [.sl [] true] } := rfl
theorem ti63 : ti 63 = { kind := .struct [0, 2, 3] [26, 3, 62], size := 4, bytes := 48, zero := [.int .i64 0, .int .i64 0, .int .i64 0, .sl [] true] } := rfl
theorem ti64 : ti 64 = { kind := .struct [0, 2, 3] [26, 3, 62], size := 4, bytes := 48, zero := [.int .i64 0, .int .i64 0, .int .i64 0, .sl [] true] } := rfl
theorem ti65 : ti 65 = { kind := .slice 90, size := 1, bytes := 24, zero := [.sl [] true] } := rfl
theorem ti66 : ti 66 = { kind := .struct [0, 1, 2, 3] [3, 3, 3, 65], size := 4, bytes := 48, zero := [.int .i64 0, .int .i64 0, .int .i64 0, .sl [] true] } := rfl
theorem ti67 : ti 67 = { kind := .struct [0, 1, 2, 3] [3, 3, 3, 65], size := 4, bytes := 48, zero := [.int .i64 0, .int .i64 0, .int .i64 0, .sl [] true] } := rfl
theorem ti68 : ti 68 = { kind := .struct [0, 1] [3, 3], size := 2, bytes := 16, zero := [.int .i64 0, .int .i64 0] } := rfl
theorem ti69 : ti 69 = { kind := .struct [0, 1] [3, 3], size := 2, bytes := 16, zero := [.int .i64 0, .int .i64 0] } := rfl
theorem ti70 : ti 70 = { kind := .scal, size := 1, bytes := 8, zero := [.nilfn] } := rfl
theorem ti71 : ti 71 = { kind := .arr 3 3, size := 3, bytes := 24, zero := [.int .i64 0, .int .i64 0, .int .i64 0] } := rfl
theorem ti72 : ti 72 = { kind := .scal, size := 1, bytes := 8, zero := [.nilfn] } := rfl
theorem ti73 : ti 73 = { kind := .scal, size := 1, bytes := 8, zero := [.nilfn] } := rfl
theorem ti74 : ti 74 = { kind := .scal, size := 1, bytes := 8, zero := [.nilfn] } := rfl
theorem ti75 : ti 75 = { kind := .scal, size := 1, bytes := 8, zero := [.nilfn] } := rfl
theorem ti77 : ti 77 = { kind := .scal, size := 1, bytes := 8, zero := [.nilfn] } := rfl
theorem ti78 : ti 78 = { kind := .scal, size := 1, bytes := 8, zero := [.nilfn] } := rfl
theorem ti79 : ti 79 = { kind := .scal, size := 1, bytes := 8, zero := [.nilfn] } := rfl
theorem ti80 : ti 80 = { kind := .scal, size := 1, bytes := 8, zero := [.nilfn] } := rfl
theorem ti81 : ti 81 = { kind := .scal, size := 1, bytes := 8, zero := [.nilfn] } := rfl
theorem ti82 : ti 82 = { kind := .scal, size := 1, bytes := 8, zero := [.nilfn] } := rfl
theorem ti83 : ti 83 = { kind := .scal, size := 1, bytes := 8, zero := [.nilfn] } := rfl
theorem ti84 : ti 84 = { kind := .struct [0, 3] [43, 3], size := 4, bytes := 32, zero := [.int .i64 0, .int .i64 0, .int .i64 0, .int .i64 0] } := rfl
theorem ti85 : ti 85 = { kind := .struct [0, 3] [43, 3], size := 4, bytes := 32, zero := [.int .i64 0, .int .i64 0, .int .i64 0, .int .i64 0] } := rfl
theorem ti86 : ti 86 = { kind := .scal, size := 1, bytes := 8, zero := [.nilfn] } := rfl
theorem ti87 : ti 87 = { kind := .scal, size := 1, bytes := 8, zero := [.nilfn] } := rfl
theorem ti88 : ti 88 = { kind := .scal, size := 1, bytes := 8, zero := [.nilfn] } := rfl
theorem ti89 : ti 89 = { kind := .struct [0, 1, 3] [3, 26, 3], size := 4, bytes := 32, zero := [.int .i64 0, .int .i64 0, .int .i64 0, .int .i64 0] } := rfl
theorem ti90 : ti 90 = { kind := .struct [0, 1, 3] [3, 26, 3], size := 4, bytes := 32, zero := [.int .i64 0, .int .i64 0, .int .i64 0, .int .i64 0] } := rfl
theorem ti91 : ti 91 = { kind := .scal, size := 1, bytes := 8, zero := [.nilfn] } := rfl
theorem ti92 : ti 92 = { kind := .scal, size := 1, bytes := 8, zero := [.nilfn] } := rfl
theorem ti93 : ti 93 = { kind := .slice 24, size := 1, bytes := 24, zero := [.sl [] true] } := rfl
theorem ti94 : ti 94 = { kind := .scal, size := 1, bytes := 8, zero := [.nilfn] } := rfl
theorem ti95 : ti 95 = { kind := .scal, size := 1, bytes := 8, zero := [.nilfn] } := rfl
theorem ti96 : ti 96 = { kind := .map 108 67, size := 1, bytes := 8, zero := [.nilmap] } := rfl
theorem ti97 : ti 97 = { kind := .struct [0, 2] [24, 96], size := 3, bytes := 40, zero := [.int .i64 0, .sl [] true, .nilmap] } := rfl
theorem ti98 : ti 98 = { kind := .struct [0, 2] [24, 96], size := 3, bytes := 40, zero := [.int .i64 0, .sl [] true, .nilmap] } := rfl
theorem ti100 : ti 100 = { kind := .scal, size := 1, bytes := 8, zero := [.nilfn] } := rfl
theorem ti101 : ti 101 = { kind := .scal, size := 1, bytes := 8, zero := [.nilfn] } := rfl
theorem ti102 : ti 102 = { kind := .scal, size := 1, bytes := 8, zero := [.nilfn] } := rfl
theorem ti103 : ti 103 = { kind := .scal, size := 1, bytes := 8, zero := [.nilfn] } := rfl
theorem ti104 : ti 104 = { kind := .scal, size := 1, bytes := 8, zero := [.nilfn] } := rfl
theorem ti105 : ti 105 = { kind := .scal, size := 1, bytes := 8, zero := [.nilfn] } := rfl
theorem ti107 : ti 107 = { kind := .struct [0, 1] [3, 3], size := 2, bytes := 16, zero := [.int .i64 0, .int .i64 0] } := rfl
theorem ti108 : ti 108 = { kind := .struct [0, 1] [3, 3], size := 2, bytes := 16, zero := [.int .i64 0, .int .i64 0] } := rfl
theorem ti109 : ti 109 = { kind := .scal, size := 1, bytes := 8, zero := [.nilfn] } := rfl
theorem ti110 : ti 110 = { kind := .scal, size := 1, bytes := 8, zero := [.nilfn] } := rfl
theorem ti111 : ti 111 = { kind := .scal, size := 1, bytes := 8, zero := [.nilfn] } := rfl
theorem ti112 : ti 112 = { kind := .scal, size := 1, bytes := 8, zero := [.nilfn] } := rfl
theorem ti113 : ti 113 = { kind := .map 3 4, size := 1, bytes := 8, zero := [.nilmap] } := rfl
theorem ti114 : ti 114 = { kind := .scal, size := 1, bytes := 8, zero := [.nilfn] } := rfl
theorem ti115 : ti 115 = { kind := .scal, size := 1, bytes := 8, zero := [.nilfn] } := rfl
theorem ti116 : ti 116 = { kind := .scal, size := 1, bytes := 8, zero := [.nilfn] } := rfl
theorem ti117 : ti 117 = { kind := .map 3 3, size := 1, bytes := 8, zero := [.nilmap] } := rfl
theorem ti118 : ti 118 = { kind := .scal, size := 1, bytes := 8, zero := [.nilfn] } := rfl
theorem ti120 : ti 120 = { kind := .scal, size := 1, bytes := 8, zero := [.nilfn] } := rfl
theorem ti121 : ti 121 = { kind := .scal, size := 1, bytes := 8, zero := [.nilfn] } := rfl
theorem ti122 : ti 122 = { kind := .scal, size := 1, bytes := 8, zero := [.nilfn] } := rfl
theorem ti123 : ti 123 = { kind := .scal, size := 1, bytes := 8, zero := [.nilfn] } := rfl
theorem ti124 : ti 124 = { kind := .scal, size := 1, bytes := 8, zero := [.nilfn] } := rfl
theorem ti125 : ti 125 = { kind := .scal, size := 1, bytes := 8, zero := [.nilfn] } := rfl
theorem ti126 : ti 126 = { kind := .scal, size := 1, bytes := 8, zero := [.nilfn] } := rfl
theorem ti127 : ti 127 = { kind := .scal, size := 1, bytes := 8, zero := [.nilfn] } := rfl
theorem ti128 : ti 128 = { kind := .scal, size := 1, bytes := 8, zero := [.nilfn] } := rfl
theorem ti129 : ti 129 = { kind := .scal, size := 1, bytes := 8, zero := [.nilfn] } := rfl
theorem ti130 : ti 130 = { kind := .scal, size := 1, bytes := 8, zero := [.nilfn] } := rfl
theorem ti131 : ti 131 = { kind := .scal, size := 1, bytes := 8, zero := [.nilfn] } := rfl
theorem ti132 : ti 132 = { kind := .scal, size := 1, bytes := 8, zero := [.nilfn] } := rfl
theorem ti134 : ti 134 = { kind := .scal, size := 1, bytes := 8, zero := [.nilfn] } := rfl
theorem ti135 : ti 135 = { kind := .scal, size := 1, bytes := 8, zero := [.nilfn] } := rfl
theorem ti136 : ti 136 = { kind := .struct [0] [135], size := 1, bytes := 8, zero := [.nilfn] } := rfl
theorem ti137 : ti 137 = { kind := .struct [0] [135], size := 1, bytes := 8, zero := [.nilfn] } := rfl
theorem ti139 : ti 139 = { kind := .scal, size := 1, bytes := 8, zero := [.nilfn] } := rfl
theorem ti140 : ti 140 = { kind := .scal, size := 1, bytes := 8, zero := [.nilfn] } := rfl
theorem ti141 : ti 141 = { kind := .scal, size := 1, bytes := 8, zero := [.nilfn] } := rfl
theorem ti142 : ti 142 = { kind := .scal, size := 1, bytes := 8, zero := [.nilfn] } := rfl
theorem ti143 : ti 143 = { kind := .scal, size := 1, bytes := 8, zero := [.nilfn] } := rfl
theorem ti144 : ti 144 = { kind := .scal, size := 1, bytes := 8, zero := [.nilfn] } := rfl
theorem ti145 : ti 145 = { kind := .arr 2 144, size := 2, bytes := 16, zero := [.nilfn, .nilfn] } := rfl
theorem ti146 : ti 146 = { kind := .scal, size := 1, bytes := 8, zero := [.nilfn] } := rfl
theorem ti147 : ti 147 = { kind := .scal, size := 1, bytes := 8, zero := [.nilfn] } := rfl
theorem ti148 : ti 148 = { kind := .scal, size := 1, bytes := 8, zero := [.nilfn] } := rfl
theorem ti149 : ti 149 = { kind := .scal, size := 1, bytes := 8, zero := [.nilfn] } := rfl
theorem ti150 : ti 150 = { kind := .scal, size := 1, bytes := 8, zero := [.int .u64 0] } := rfl
theorem ti151 : ti 151 = { kind := .arr 4 4, size := 4, bytes := 4, zero := [.bool false, .bool false, .bool false, .bool false] } := rfl
theorem ti152 : ti 152 = { kind := .arr 4 4, size := 4, bytes := 4, zero := [.bool false, .bool false, .bool false, .bool false] } := rfl
theorem ti153 : ti 153 = { kind := .scal, size := 1, bytes := 8, zero := [.nilfn] } := rfl
theorem ti154 : ti 154 = { kind := .scal, size := 1, bytes := 8, zero := [.nilfn] } := rfl
theorem ti155 : ti 155 = { kind := .scal, size := 1, bytes := 8, zero := [.nilfn] } := rfl
theorem ti156 : ti 156 = { kind := .scal, size := 1, bytes := 8, zero := [.nilfn] } := rfl
theorem ti157 : ti 157 = { kind := .scal, size := 1, bytes := 8, zero := [.nilfn] } := rfl
theorem ti158 : ti 158 = { kind := .scal, size := 1, bytes := 8, zero := [.int .i64 0] } := rfl
theorem ti160 : ti 160 = { kind := .scal, size := 1, bytes := 8, zero := [.nilfn] } := rfl
theorem ti161 : ti 161 = { kind := .scal, size := 1, bytes := 8, zero := [.nilfn] } := rfl
theorem ti162 : ti 162 = { kind := .scal, size := 1, bytes := 8, zero := [.nilfn] } := rfl
theorem ti163 : ti 163 = { kind := .scal, size := 1, bytes := 8, zero := [.nilfn] } := rfl
theorem ti164 : ti 164 = { kind := .scal, size := 1, bytes := 8, zero := [.nilfn] } := rfl
theorem ti165 : ti 165 = { kind := .scal, size := 1, bytes := 4, zero := [.int .u32 0] } := rfl
theorem ti166 : ti 166 = { kind := .scal, size := 1, bytes := 8, zero := [.nilfn] } := rfl
theorem ti167 : ti 167 = { kind := .scal, size := 1, bytes := 8, zero := [.int .u64 0] } := rfl
theorem ti168 : ti 168 = { kind := .scal, size := 1, bytes := 8, zero := [.nilfn] } := rfl
theorem ti169 : ti 169 = { kind := .scal, size := 1, bytes := 8, zero := [.int .u64 0] } := rfl
theorem ti170 : ti 170 = { kind := .scal, size := 1, bytes := 8, zero := [.nilfn] } := rfl
theorem ti171 : ti 171 = { kind := .scal, size := 1, bytes := 8, zero := [.nilfn] } := rfl
theorem ti172 : ti 172 = { kind := .scal, size := 1, bytes := 8, zero := [.nilfn] } := rfl
theorem ti173 : ti 173 = { kind := .scal, size := 1, bytes := 8, zero := [.nilptr] } := rfl
theorem ti174 : ti 174 = { kind := .scal, size := 1, bytes := 8, zero := [.nilfn] } := rfl
theorem ti175 : ti 175 = { kind := .scal, size := 1, bytes := 8, zero := [.nilptr] } := rfl
theorem ti177 : ti 177 = { kind := .scal, size := 1, bytes := 8, zero := [.nilfn] } := rfl
theorem ti178 : ti 178 = { kind := .scal, size := 1, bytes := 8, zero := [.nilfn] } := rfl
theorem ti181 : ti 181 = { kind := .arr 0 16, size := 0, bytes := 0, zero := [] } := rfl
theorem ti182 : ti 182 = { kind := .struct [0] [181], size := 0, bytes := 0, zero := [] } := rfl
theorem ti183 : ti 183 = { kind := .struct [0] [181], size := 0, bytes := 0, zero := [] } := rfl
theorem ti184 : ti 184 = { kind := .scal, size := 1, bytes := 8, zero := [.nilfn] } := rfl
theorem ti185 : ti 185 = { kind := .scal, size := 1, bytes := 1, zero := [.int .u8 0] } := rfl
theorem ti186 : ti 186 = { kind := .scal, size := 1, bytes := 1, zero := [.int .u8 0] } := rfl
theorem ti187 : ti 187 = { kind := .scal, size := 1, bytes := 8, zero := [.nilfn] } := rfl
theorem ti188 : ti 188 = { kind := .scal, size := 1, bytes := 8, zero := [.nilptr] } := rfl
theorem ti189 : ti 189 = { kind := .scal, size := 1, bytes := 4, zero := [.int .i32 0] } := rfl
theorem ti190 : ti 190 = { kind := .scal, size := 1, bytes := 4, zero := [.int .i32 0] } := rfl
theorem ti191 : ti 191 = { kind := .struct [0, 1, 2, 3, 4, 5, 6, 7, 8, 9, 10] [12, 12, 165, 185, 5, 5, 186, 187, 188, 189, 190], size := 11, bytes := 48, zero := [.int .u64 0, .int .u64 0, .int .u32 0, .int .u8 0, .int .u8 0, .int .u8 0, .int .u8 0, .nilfn, .nilptr, .int .i32 0, .int .i32 0] } := rfl
theorem ti192 : ti 192 = { kind := .struct [0, 1, 2, 3, 4, 5, 6, 7, 8, 9, 10] [12, 12, 165, 185, 5, 5, 186, 187, 188, 189, 190], size := 11, bytes := 48, zero := [.int .u64 0, .int .u64 0, .int .u32 0, .int .u8 0, .int .u8 0, .int .u8 0, .int .u8 0, .nilfn, .nilptr, .int .i32 0, .int .i32 0] } := rfl
theorem tiok1 : TIok Tryd.prog 1 (ti 1) := tiok_mk rfl Tryd.underlying1 (i := Tryd.t1) (by kernel_rfl) ⟨_, Tryd.underlying1, rfl⟩ rfl rfl rfl rfl rfl (fun h => by cases h) (fun _ => ⟨rfl, rfl⟩)
theorem tiok2 : TIok Tryd.prog 2 (ti 2) := tiok_mk rfl Tryd.underlying2 (i := Tryd.t2) (by kernel_rfl) ⟨_, Tryd.underlying2, rfl⟩ rfl rfl rfl rfl rfl (fun h => by cases h) (fun _ => ⟨rfl, rfl⟩)
theorem tiok3 : TIok Tryd.prog 3 (ti 3) := tiok_mk rfl Tryd.underlying3 (i := Tryd.t3) (by kernel_rfl) ⟨_, Tryd.underlying3, rfl⟩ rfl rfl rfl rfl rfl (fun h => by cases h) (fun _ => ⟨rfl, rfl⟩)
theorem tiok4 : TIok Tryd.prog 4 (ti 4) := tiok_mk rfl Tryd.underlying4 (i := Tryd.t4) (by kernel_rfl) Tryd.underlying4 rfl rfl rfl rfl rfl (fun h => by cases h) (fun _ => ⟨rfl, rfl⟩)
theorem tiok5 : TIok Tryd.prog 5 (ti 5) := tiok_mk rfl Tryd.underlying5 (i := Tryd.t5) (by kernel_rfl) ⟨_, Tryd.underlying5, rfl⟩ rfl rfl rfl rfl rfl (fun h => by cases h) (fun _ => ⟨rfl, rfl⟩)
theorem tiok6 : TIok Tryd.prog 6 (ti 6) := tiok_mk rfl Tryd.underlying6 (i := Tryd.t6) (by kernel_rfl) ⟨_, Tryd.underlying6, rfl⟩ rfl rfl rfl rfl rfl (fun h => by cases h) (fun _ => ⟨rfl, rfl⟩)
theorem tiok7 : TIok Tryd.prog 7 (ti 7) := tiok_mk rfl Tryd.underlying7 (i := Tryd.t7) (by kernel_rfl) ⟨_, Tryd.underlying7, rfl, rfl⟩ rfl rfl rfl rfl rfl (fun _ => ⟨_, rfl⟩) (fun h => by cases h)
theorem tiok8 : TIok Tryd.prog 8 (ti 8) := tiok_mk rfl Tryd.underlying8 (i := Tryd.t8) (by kernel_rfl) ⟨_, Tryd.underlying8, rfl, rfl⟩ rfl rfl rfl rfl rfl (fun _ => ⟨_, rfl⟩) (fun h => by cases h)
theorem tiok12 : TIok Tryd.prog 12 (ti 12) := tiok_mk rfl Tryd.underlying12 (i := Tryd.t12) (by kernel_rfl) ⟨_, Tryd.underlying12, rfl⟩ rfl rfl rfl rfl rfl (fun h => by cases h) (fun _ => ⟨rfl, rfl⟩)
theorem tiok15 : TIok Tryd.prog 15 (ti 15) := tiok_mk rfl Tryd.underlying15 (i := Tryd.t15) (by kernel_rfl) ⟨_, Tryd.underlying15, rfl⟩ rfl rfl rfl rfl rfl (fun h => by cases h) (fun _ => ⟨rfl, rfl⟩)
theorem tiok16 : TIok Tryd.prog 16 (ti 16) := tiok_mk rfl Tryd.underlying16 (i := Tryd.t16) (by kernel_rfl) ⟨_, Tryd.underlying16, rfl⟩ rfl rfl rfl rfl rfl (fun h => by cases h) (fun _ => ⟨rfl, rfl⟩)
theorem tiok17 : TIok Tryd.prog 17 (ti 17) := tiok_mk rfl Tryd.underlying17 (i := Tryd.t17) (by kernel_rfl) ⟨_, Tryd.underlying17, rfl⟩ rfl rfl rfl rfl rfl (fun h => by cases h) (fun _ => ⟨rfl, rfl⟩)
theorem tiok18 : TIok Tryd.prog 18 (ti 18) := tiok_mk rfl Tryd.underlying18 (i := Tryd.t18) (by kernel_rfl) ⟨_, Tryd.underlying18, rfl, rfl⟩ rfl rfl rfl rfl rfl (fun _ => ⟨_, rfl⟩) (fun h => by cases h)
theorem tiok19 : TIok Tryd.prog 19 (ti 19) := tiok_mk rfl Tryd.underlying19 (i := Tryd.t19) (by kernel_rfl) ⟨_, Tryd.underlying19, rfl, rfl⟩ rfl rfl rfl rfl rfl (fun _ => ⟨_, rfl⟩) (fun h => by cases h)
theorem tiok21 : TIok Tryd.prog 21 (ti 21) := tiok_mk rfl Tryd.underlying21 (i := Tryd.t21) (by kernel_rfl) ⟨_, Tryd.underlying21, rfl⟩ rfl rfl rfl rfl rfl (fun h => by cases h) (fun _ => ⟨rfl, rfl⟩)
theorem tiok22 : TIok Tryd.prog 22 (ti 22) := tiok_mk rfl Tryd.underlying22 (i := Tryd.t22) (by kernel_rfl) Tryd.underlying22 rfl rfl rfl rfl rfl (fun h => by cases h) (fun _ => ⟨rfl, rfl⟩)
theorem tiok23 : TIok Tryd.prog 23 (ti 23) := tiok_mk rfl Tryd.underlying23 (i := Tryd.t23) (by kernel_rfl) ⟨_, Tryd.underlying23, rfl, rfl⟩ rfl rfl rfl rfl rfl (fun _ => ⟨_, rfl⟩) (fun h => by cases h)
theorem tiok24 : TIok Tryd.prog 24 (ti 24) := tiok_mk rfl Tryd.underlying24 (i := Tryd.t24) (by kernel_rfl) ⟨_, Tryd.underlying24, rfl, rfl⟩ rfl rfl rfl rfl rfl (fun _ => ⟨_, rfl⟩) (fun h => by cases h)
theorem tiok25 : TIok Tryd.prog 25 (ti 25) := tiok_mk rfl Tryd.underlying25 (i := Tryd.t25) (by kernel_rfl) ⟨_, Tryd.underlying25, rfl, rfl⟩ rfl rfl rfl rfl rfl (fun _ => ⟨_, rfl⟩) (fun h => by cases h)
theorem tiok26 : TIok Tryd.prog 26 (ti 26) := tiok_mk rfl Tryd.underlying26 (i := Tryd.t26) (by kernel_rfl) ⟨_, Tryd.underlying26, rfl, rfl⟩ rfl rfl rfl rfl rfl (fun _ => ⟨_, rfl⟩) (fun h => by cases h)
theorem tiok27 : TIok Tryd.prog 27 (ti 27) := tiok_mk rfl Tryd.underlying27 (i := Tryd.t27) (by kernel_rfl) Tryd.underlying27 rfl rfl rfl rfl rfl (fun _ => ⟨_, rfl⟩) (fun h => by cases h)
theorem tiok28 : TIok Tryd.prog 28 (ti 28) := tiok_mk rfl Tryd.underlying28 (i := Tryd.t28) (by kernel_rfl) Tryd.underlying28 rfl rfl rfl rfl rfl (fun h => by cases h) (fun _ => ⟨rfl, rfl⟩)
theorem tiok29 : TIok Tryd.prog 29 (ti 29) := tiok_mk rfl Tryd.underlying29 (i := Tryd.t29) (by kernel_rfl) ⟨_, Tryd.underlying29, rfl⟩ rfl rfl rfl rfl rfl (fun h => by cases h) (fun _ => ⟨rfl, rfl⟩)
theorem tiok31 : TIok Tryd.prog 31 (ti 31) := tiok_mk rfl Tryd.underlying31 (i := Tryd.t31) (by kernel_rfl) ⟨_, Tryd.underlying31, rfl⟩ rfl rfl rfl rfl rfl (fun h => by cases h) (fun _ => ⟨rfl, rfl⟩)
theorem tiok32 : TIok Tryd.prog 32 (ti 32) := tiok_mk rfl Tryd.underlying32 (i := Tryd.t32) (by kernel_rfl) ⟨_, Tryd.underlying32, rfl⟩ rfl rfl rfl rfl rfl (fun h => by cases h) (fun _ => ⟨rfl, rfl⟩)
theorem tiok33 : TIok Tryd.prog 33 (ti 33) := tiok_mk rfl Tryd.underlying33 (i := Tryd.t33) (by kernel_rfl) ⟨_, Tryd.underlying33, rfl⟩ rfl rfl rfl rfl rfl (fun h => by cases h) (fun _ => ⟨rfl, rfl⟩)
theorem tiok35 : TIok Tryd.prog 35 (ti 35) := tiok_mk rfl Tryd.underlying35 (i := Tryd.t35) (by kernel_rfl) ⟨_, Tryd.underlying35, rfl⟩ rfl rfl rfl rfl rfl (fun h => by cases h) (fun _ => ⟨rfl, rfl⟩)
theorem tiok36 : TIok Tryd.prog 36 (ti 36) := tiok_mk rfl Tryd.underlying36 (i := Tryd.t36) (by kernel_rfl) Tryd.underlying36 rfl rfl rfl rfl rfl (fun h => by cases h) (fun _ => ⟨rfl, rfl⟩)
theorem tiok38 : TIok Tryd.prog 38 (ti 38) := tiok_mk rfl Tryd.underlying38 (i := Tryd.t38) (by kernel_rfl) ⟨_, Tryd.underlying38, rfl⟩ rfl rfl rfl rfl rfl (fun h => by cases h) (fun _ => ⟨rfl, rfl⟩)
theorem tiok39 : TIok Tryd.prog 39 (ti 39) := tiok_mk rfl Tryd.underlying39 (i := Tryd.t39) (by kernel_rfl) ⟨_, Tryd.underlying39, rfl⟩ rfl rfl rfl rfl rfl (fun h => by cases h) (fun _ => ⟨rfl, rfl⟩)
theorem tiok40 : TIok Tryd.prog 40 (ti 40) := tiok_mk rfl Tryd.underlying40 (i := Tryd.t40) (by kernel_rfl) ⟨_, Tryd.underlying40, rfl⟩ rfl rfl rfl rfl rfl (fun h => by cases h) (fun _ => ⟨rfl, rfl⟩)
theorem tiok41 : TIok Tryd.prog 41 (ti 41) := tiok_mk rfl Tryd.underlying41 (i := Tryd.t41) (by kernel_rfl) ⟨_, Tryd.underlying41, rfl⟩ rfl rfl rfl rfl rfl (fun h => by cases h) (fun _ => ⟨rfl, rfl⟩)
theorem tiok42 : TIok Tryd.prog 42 (ti 42) := tiok_mk rfl Tryd.underlying42 (i := Tryd.t42) (by kernel_rfl) ⟨_, Tryd.underlying42, rfl, rfl⟩ rfl rfl rfl rfl rfl (fun _ => ⟨_, rfl⟩) (fun h => by cases h)
theorem tiok43 : TIok Tryd.prog 43 (ti 43) := tiok_mk rfl Tryd.underlying43 (i := Tryd.t43) (by kernel_rfl) ⟨_, Tryd.underlying43, rfl, rfl⟩ rfl rfl rfl rfl rfl (fun _ => ⟨_, rfl⟩) (fun h => by cases h)
theorem tiok44 : TIok Tryd.prog 44 (ti 44) := tiok_mk rfl Tryd.underlying44 (i := Tryd.t44) (by kernel_rfl) ⟨_, Tryd.underlying44, rfl⟩ rfl rfl rfl rfl rfl (fun h => by cases h) (fun _ => ⟨rfl, rfl⟩)
theorem tiok45 : TIok Tryd.prog 45 (ti 45) := tiok_mk rfl Tryd.underlying45 (i := Tryd.t45) (by kernel_rfl) ⟨_, Tryd.underlying45, rfl⟩ rfl rfl rfl rfl rfl (fun h => by cases h) (fun _ => ⟨rfl, rfl⟩)
theorem tiok46 : TIok Tryd.prog 46 (ti 46) := tiok_mk rfl Tryd.underlying46 (i := Tryd.t46) (by kernel_rfl) ⟨_, Tryd.underlying46, rfl⟩ rfl rfl rfl rfl rfl (fun h => by cases h) (fun _ => ⟨rfl, rfl⟩)
theorem tiok47 : TIok Tryd.prog 47 (ti 47) := tiok_mk rfl Tryd.underlying47 (i := Tryd.t47) (by kernel_rfl) ⟨_, Tryd.underlying47, rfl⟩ rfl rfl rfl rfl rfl (fun h => by cases h) (fun _ => ⟨rfl, rfl⟩)
theorem tiok48 : TIok Tryd.prog 48 (ti 48) := tiok_mk rfl Tryd.underlying48 (i := Tryd.t48) (by kernel_rfl) Tryd.underlying48 rfl rfl rfl rfl rfl (fun h => by cases h) (fun _ => ⟨rfl, rfl⟩)
theorem tiok49 : TIok Tryd.prog 49 (ti 49) := tiok_mk rfl Tryd.underlying49 (i := Tryd.t49) (by kernel_rfl) ⟨_, Tryd.underlying49, rfl⟩ rfl rfl rfl rfl rfl (fun h => by cases h) (fun _ => ⟨rfl, rfl⟩)
theorem tiok51 : TIok Tryd.prog 51 (ti 51) := tiok_mk rfl Tryd.underlying51 (i := Tryd.t51) (by kernel_rfl) ⟨_, Tryd.underlying51, rfl⟩ rfl rfl rfl rfl rfl (fun h => by cases h) (fun _ => ⟨rfl, rfl⟩)
theorem tiok52 : TIok Tryd.prog 52 (ti 52) := tiok_mk rfl Tryd.underlying52 (i := Tryd.t52) (by kernel_rfl) ⟨_, Tryd.underlying52, rfl⟩ rfl rfl rfl rfl rfl (fun h => by cases h) (fun _ => ⟨rfl, rfl⟩)
theorem tiok53 : TIok Tryd.prog 53 (ti 53) := tiok_mk rfl Tryd.underlying53 (i := Tryd.t53) (by kernel_rfl) Tryd.underlying53 rfl rfl rfl rfl rfl (fun _ => ⟨_, rfl⟩) (fun h => by cases h)
theorem tiok54 : TIok Tryd.prog 54 (ti 54) := tiok_mk rfl Tryd.underlying54 (i := Tryd.t54) (by kernel_rfl) ⟨_, Tryd.underlying54, rfl⟩ rfl rfl rfl rfl rfl (fun h => by cases h) (fun _ => ⟨rfl, rfl⟩)
theorem tiok55 : TIok Tryd.prog 55 (ti 55) := tiok_mk rfl Tryd.underlying55 (i := Tryd.t55) (by kernel_rfl) ⟨_, Tryd.underlying55, rfl⟩ rfl rfl rfl rfl rfl (fun h => by cases h) (fun _ => ⟨rfl, rfl⟩)
theorem tiok56 : TIok Tryd.prog 56 (ti 56) := tiok_mk rfl Tryd.underlying56 (i := Tryd.t56) (by kernel_rfl) ⟨_, Tryd.underlying56, rfl⟩ rfl rfl rfl rfl rfl (fun h => by cases h) (fun _ => ⟨rfl, rfl⟩)
theorem tiok57 : TIok Tryd.prog 57 (ti 57) := tiok_mk rfl Tryd.underlying57 (i := Tryd.t57) (by kernel_rfl) Tryd.underlying57 rfl rfl rfl rfl rfl (fun _ => ⟨_, rfl⟩) (fun h => by cases h)
theorem tiok58 : TIok Tryd.prog 58 (ti 58) := tiok_mk rfl Tryd.underlying58 (i := Tryd.t58) (by kernel_rfl) ⟨_, Tryd.underlying58, rfl⟩ rfl rfl rfl rfl rfl (fun h => by cases h) (fun _ => ⟨rfl, rfl⟩)
theorem tiok59 : TIok Tryd.prog 59 (ti 59) := tiok_mk rfl Tryd.underlying59 (i := Tryd.t59) (by kernel_rfl) ⟨_, Tryd.underlying59, rfl⟩ rfl rfl rfl rfl rfl (fun h => by cases h) (fun _ => ⟨rfl, rfl⟩)
theorem tiok60 : TIok Tryd.prog 60 (ti 60) := tiok_mk rfl Tryd.underlying60 (i := Tryd.t60) (by kernel_rfl) ⟨_, Tryd.underlying60, rfl⟩ rfl rfl rfl rfl rfl (fun h => by cases h) (fun _ => ⟨rfl, rfl⟩)
theorem tiok61 : TIok Tryd.prog 61 (ti 61) := tiok_mk rfl Tryd.underlying61 (i := Tryd.t61) (by kernel_rfl) ⟨_, Tryd.underlying61, rfl⟩ rfl rfl rfl rfl rfl (fun h => by cases h) (fun _ => ⟨rfl, rfl⟩)
theorem tiok62 : TIok Tryd.prog 62 (ti 62) := tiok_mk rfl Tryd.underlying62 (i := Tryd.t62) (by kernel_rfl) Tryd.underlying62 rfl rfl rfl rfl rfl (fun h => by cases h) (fun _ => ⟨rfl, rfl⟩)
theorem tiok63 : TIok Tryd.prog 63 (ti 63) := tiok_mk rfl Tryd.underlying63 (i := Tryd.t63) (by kernel_rfl) ⟨_, Tryd.underlying63, rfl, rfl⟩ rfl rfl rfl rfl rfl (fun _ => ⟨_, rfl⟩) (fun h => by cases h)
theorem tiok64 : TIok Tryd.prog 64 (ti 64) := tiok_mk rfl Tryd.underlying64 (i := Tryd.t64) (by kernel_rfl) ⟨_, Tryd.underlying64, rfl, rfl⟩ rfl rfl rfl rfl rfl (fun _ => ⟨_, rfl⟩) (fun h => by cases h)
theorem tiok65 : TIok Tryd.prog 65 (ti 65) := tiok_mk rfl Tryd.underlying65 (i := Tryd.t65) (by kernel_rfl) Tryd.underlying65 rfl rfl rfl rfl rfl (fun h => by cases h) (fun _ => ⟨rfl, rfl⟩)
theorem tiok66 : TIok Tryd.prog 66 (ti 66) := tiok_mk rfl Tryd.underlying66 (i := Tryd.t66) (by kernel_rfl) ⟨_, Tryd.underlying66, rfl, rfl⟩ rfl rfl rfl rfl rfl (fun _ => ⟨_, rfl⟩) (fun h => by cases h)
theorem tiok67 : TIok Tryd.prog 67 (ti 67) := tiok_mk rfl Tryd.underlying67 (i := Tryd.t67) (by kernel_rfl) ⟨_, Tryd.underlying67, rfl, rfl⟩ rfl rfl rfl rfl rfl (fun _ => ⟨_, rfl⟩) (fun h => by cases h)
theorem tiok68 : TIok Tryd.prog 68 (ti 68) := tiok_mk rfl Tryd.underlying68 (i := Tryd.t68) (by kernel_rfl) ⟨_, Tryd.underlying68, rfl, rfl⟩ rfl rfl rfl rfl rfl (fun _ => ⟨_, rfl⟩) (fun h => by cases h)
theorem tiok69 : TIok Tryd.prog 69 (ti 69) := tiok_mk rfl Tryd.underlying69 (i := Tryd.t69) (by kernel_rfl) ⟨_, Tryd.underlying69, rfl, rfl⟩ rfl rfl rfl rfl rfl (fun _ => ⟨_, rfl⟩) (fun h => by cases h)
theorem tiok70 : TIok Tryd.prog 70 (ti 70) := tiok_mk rfl Tryd.underlying70 (i := Tryd.t70) (by kernel_rfl) ⟨_, Tryd.underlying70, rfl⟩ rfl rfl rfl rfl rfl (fun h => by cases h) (fun _ => ⟨rfl, rfl⟩)
theorem tiok71 : TIok Tryd.prog 71 (ti 71) := tiok_mk rfl Tryd.underlying71 (i := Tryd.t71) (by kernel_rfl) Tryd.underlying71 rfl rfl rfl rfl rfl (fun _ => ⟨_, rfl⟩) (fun h => by cases h)
theorem tiok72 : TIok Tryd.prog 72 (ti 72) := tiok_mk rfl Tryd.underlying72 (i := Tryd.t72) (by kernel_rfl) ⟨_, Tryd.underlying72, rfl⟩ rfl rfl rfl rfl rfl (fun h => by cases h) (fun _ => ⟨rfl, rfl⟩)
theorem tiok73 : TIok Tryd.prog 73 (ti 73) := tiok_mk rfl Tryd.underlying73 (i := Tryd.t73) (by kernel_rfl) ⟨_, Tryd.underlying73, rfl⟩ rfl rfl rfl rfl rfl (fun h => by cases h) (fun _ => ⟨rfl, rfl⟩)
theorem tiok74 : TIok Tryd.prog 74 (ti 74) := tiok_mk rfl Tryd.underlying74 (i := Tryd.t74) (by kernel_rfl) ⟨_, Tryd.underlying74, rfl⟩ rfl rfl rfl rfl rfl (fun h => by cases h) (fun _ => ⟨rfl, rfl⟩)
theorem tiok75 : TIok Tryd.prog 75 (ti 75) := tiok_mk rfl Tryd.underlying75 (i := Tryd.t75) (by kernel_rfl) ⟨_, Tryd.underlying75, rfl⟩ rfl rfl rfl rfl rfl (fun h => by cases h) (fun _ => ⟨rfl, rfl⟩)
theorem tiok77 : TIok Tryd.prog 77 (ti 77) := tiok_mk rfl Tryd.underlying77 (i := Tryd.t77) (by kernel_rfl) ⟨_, Tryd.underlying77, rfl⟩ rfl rfl rfl rfl rfl (fun h => by cases h) (fun _ => ⟨rfl, rfl⟩)
theorem tiok78 : TIok Tryd.prog 78 (ti 78) := tiok_mk rfl Tryd.underlying78 (i := Tryd.t78) (by kernel_rfl) ⟨_, Tryd.underlying78, rfl⟩ rfl rfl rfl rfl rfl (fun h => by cases h) (fun _ => ⟨rfl, rfl⟩)
theorem tiok79 : TIok Tryd.prog 79 (ti 79) := tiok_mk rfl Tryd.underlying79 (i := Tryd.t79) (by kernel_rfl) ⟨_, Tryd.underlying79, rfl⟩ rfl rfl rfl rfl rfl (fun h => by cases h) (fun _ => ⟨rfl, rfl⟩)
theorem tiok80 : TIok Tryd.prog 80 (ti 80) := tiok_mk rfl Tryd.underlying80 (i := Tryd.t80) (by kernel_rfl) ⟨_, Tryd.underlying80, rfl⟩ rfl rfl rfl rfl rfl (fun h => by cases h) (fun _ => ⟨rfl, rfl⟩)
theorem tiok81 : TIok Tryd.prog 81 (ti 81) := tiok_mk rfl Tryd.underlying81 (i := Tryd.t81) (by kernel_rfl) ⟨_, Tryd.underlying81, rfl⟩ rfl rfl rfl rfl rfl (fun h => by cases h) (fun _ => ⟨rfl, rfl⟩)
theorem tiok82 : TIok Tryd.prog 82 (ti 82) := tiok_mk rfl Tryd.underlying82 (i := Tryd.t82) (by kernel_rfl) ⟨_, Tryd.underlying82, rfl⟩ rfl rfl rfl rfl rfl (fun h => by cases h) (fun _ => ⟨rfl, rfl⟩)
theorem tiok83 : TIok Tryd.prog 83 (ti 83) := tiok_mk rfl Tryd.underlying83 (i := Tryd.t83) (by kernel_rfl) ⟨_, Tryd.underlying83, rfl⟩ rfl rfl rfl rfl rfl (fun h => by cases h) (fun _ => ⟨rfl, rfl⟩)
theorem tiok84 : TIok Tryd.prog 84 (ti 84) := tiok_mk rfl Tryd.underlying84 (i := Tryd.t84) (by kernel_rfl) ⟨_, Tryd.underlying84, rfl, rfl⟩ rfl rfl rfl rfl rfl (fun _ => ⟨_, rfl⟩) (fun h => by cases h)
theorem tiok85 : TIok Tryd.prog 85 (ti 85) := tiok_mk rfl Tryd.underlying85 (i := Tryd.t85) (by kernel_rfl) ⟨_, Tryd.underlying85, rfl, rfl⟩ rfl rfl rfl rfl rfl (fun _ => ⟨_, rfl⟩) (fun h => by cases h)
theorem tiok86 : TIok Tryd.prog 86 (ti 86) := tiok_mk rfl Tryd.underlying86 (i := Tryd.t86) (by kernel_rfl) ⟨_, Tryd.underlying86, rfl⟩ rfl rfl rfl rfl rfl (fun h => by cases h) (fun _ => ⟨rfl, rfl⟩)
theorem tiok87 : TIok Tryd.prog 87 (ti 87) := tiok_mk rfl Tryd.underlying87 (i := Tryd.t87) (by kernel_rfl) ⟨_, Tryd.underlying87, rfl⟩ rfl rfl rfl rfl rfl (fun h => by cases h) (fun _ => ⟨rfl, rfl⟩)
theorem tiok88 : TIok Tryd.prog 88 (ti 88) := tiok_mk rfl Tryd.underlying88 (i := Tryd.t88) (by kernel_rfl) ⟨_, Tryd.underlying88, rfl⟩ rfl rfl rfl rfl rfl (fun h => by cases h) (fun _ => ⟨rfl, rfl⟩)
theorem tiok89 : TIok Tryd.prog 89 (ti 89) := tiok_mk rfl Tryd.underlying89 (i := Tryd.t89) (by kernel_rfl) ⟨_, Tryd.underlying89, rfl, rfl⟩ rfl rfl rfl rfl rfl (fun _ => ⟨_, rfl⟩) (fun h => by cases h)
theorem tiok90 : TIok Tryd.prog 90 (ti 90) := tiok_mk rfl Tryd.underlying90 (i := Tryd.t90) (by kernel_rfl) ⟨_, Tryd.underlying90, rfl, rfl⟩ rfl rfl rfl rfl rfl (fun _ => ⟨_, rfl⟩) (fun h => by cases h)
theorem tiok91 : TIok Tryd.prog 91 (ti 91) := tiok_mk rfl Tryd.underlying91 (i := Tryd.t91) (by kernel_rfl) ⟨_, Tryd.underlying91, rfl⟩ rfl rfl rfl rfl rfl (fun h => by cases h) (fun _ => ⟨rfl, rfl⟩)
theorem tiok92 : TIok Tryd.prog 92 (ti 92) := tiok_mk rfl Tryd.underlying92 (i := Tryd.t92) (by kernel_rfl) ⟨_, Tryd.underlying92, rfl⟩ rfl rfl rfl rfl rfl (fun h => by cases h) (fun _ => ⟨rfl, rfl⟩)
theorem tiok93 : TIok Tryd.prog 93 (ti 93) := tiok_mk rfl Tryd.underlying93 (i := Tryd.t93) (by kernel_rfl) Tryd.underlying93 rfl rfl rfl rfl rfl (fun h => by cases h) (fun _ => ⟨rfl, rfl⟩)
theorem tiok94 : TIok Tryd.prog 94 (ti 94) := tiok_mk rfl Tryd.underlying94 (i := Tryd.t94) (by kernel_rfl) ⟨_, Tryd.underlying94, rfl⟩ rfl rfl rfl rfl rfl (fun h => by cases h) (fun _ => ⟨rfl, rfl⟩)
theorem tiok95 : TIok Tryd.prog 95 (ti 95) := tiok_mk rfl Tryd.underlying95 (i := Tryd.t95) (by kernel_rfl) ⟨_, Tryd.underlying95, rfl⟩ rfl rfl rfl rfl rfl (fun h => by cases h) (fun _ => ⟨rfl, rfl⟩)
theorem tiok96 : TIok Tryd.prog 96 (ti 96) := tiok_mk rfl Tryd.underlying96 (i := Tryd.t96) (by kernel_rfl) Tryd.underlying96 rfl rfl rfl rfl rfl (fun h => by cases h) (fun _ => ⟨rfl, rfl⟩)
theorem tiok97 : TIok Tryd.prog 97 (ti 97) := tiok_mk rfl Tryd.underlying97 (i := Tryd.t97) (by kernel_rfl) ⟨_, Tryd.underlying97, rfl, rfl⟩ rfl rfl rfl rfl rfl (fun _ => ⟨_, rfl⟩) (fun h => by cases h)
theorem tiok98 : TIok Tryd.prog 98 (ti 98) := tiok_mk rfl Tryd.underlying98 (i := Tryd.t98) (by kernel_rfl) ⟨_, Tryd.underlying98, rfl, rfl⟩ rfl rfl rfl rfl rfl (fun _ => ⟨_, rfl⟩) (fun h => by cases h)
theorem tiok100 : TIok Tryd.prog 100 (ti 100) := tiok_mk rfl Tryd.underlying100 (i := Tryd.t100) (by kernel_rfl) ⟨_, Tryd.underlying100, rfl⟩ rfl rfl rfl rfl rfl (fun h => by cases h) (fun _ => ⟨rfl, rfl⟩)
theorem tiok101 : TIok Tryd.prog 101 (ti 101) := tiok_mk rfl Tryd.underlying101 (i := Tryd.t101) (by kernel_rfl) ⟨_, Tryd.underlying101, rfl⟩ rfl rfl rfl rfl rfl (fun h => by cases h) (fun _ => ⟨rfl, rfl⟩)
theorem tiok102 : TIok Tryd.prog 102 (ti 102) := tiok_mk rfl Tryd.underlying102 (i := Tryd.t102) (by kernel_rfl) ⟨_, Tryd.underlying102, rfl⟩ rfl rfl rfl rfl rfl (fun h => by cases h) (fun _ => ⟨rfl, rfl⟩)
theorem tiok103 : TIok Tryd.prog 103 (ti 103) := tiok_mk rfl Tryd.underlying103 (i := Tryd.t103) (by kernel_rfl) ⟨_, Tryd.underlying103, rfl⟩ rfl rfl rfl rfl rfl (fun h => by cases h) (fun _ => ⟨rfl, rfl⟩)
theorem tiok104 : TIok Tryd.prog 104 (ti 104) := tiok_mk rfl Tryd.underlying104 (i := Tryd.t104) (by kernel_rfl) ⟨_, Tryd.underlying104, rfl⟩ rfl rfl rfl rfl rfl (fun h => by cases h) (fun _ => ⟨rfl, rfl⟩)
theorem tiok105 : TIok Tryd.prog 105 (ti 105) := tiok_mk rfl Tryd.underlying105 (i := Tryd.t105) (by kernel_rfl) ⟨_, Tryd.underlying105, rfl⟩ rfl rfl rfl rfl rfl (fun h => by cases h) (fun _ => ⟨rfl, rfl⟩)
theorem tiok107 : TIok Tryd.prog 107 (ti 107) := tiok_mk rfl Tryd.underlying107 (i := Tryd.t107) (by kernel_rfl) ⟨_, Tryd.underlying107, rfl, rfl⟩ rfl rfl rfl rfl rfl (fun _ => ⟨_, rfl⟩) (fun h => by cases h)
theorem tiok108 : TIok Tryd.prog 108 (ti 108) := tiok_mk rfl Tryd.underlying108 (i := Tryd.t108) (by kernel_rfl) ⟨_, Tryd.underlying108, rfl, rfl⟩ rfl rfl rfl rfl rfl (fun _ => ⟨_, rfl⟩) (fun h => by cases h)
theorem tiok109 : TIok Tryd.prog 109 (ti 109) := tiok_mk rfl Tryd.underlying109 (i := Tryd.t109) (by kernel_rfl) ⟨_, Tryd.underlying109, rfl⟩ rfl rfl rfl rfl rfl (fun h => by cases h) (fun _ => ⟨rfl, rfl⟩)
theorem tiok110 : TIok Tryd.prog 110 (ti 110) := tiok_mk rfl Tryd.underlying110 (i := Tryd.t110) (by kernel_rfl) ⟨_, Tryd.underlying110, rfl⟩ rfl rfl rfl rfl rfl (fun h => by cases h) (fun _ => ⟨rfl, rfl⟩)
theorem tiok111 : TIok Tryd.prog 111 (ti 111) := tiok_mk rfl Tryd.underlying111 (i := Tryd.t111) (by kernel_rfl) ⟨_, Tryd.underlying111, rfl⟩ rfl rfl rfl rfl rfl (fun h => by cases h) (fun _ => ⟨rfl, rfl⟩)
theorem tiok112 : TIok Tryd.prog 112 (ti 112) := tiok_mk rfl Tryd.underlying112 (i := Tryd.t112) (by kernel_rfl) ⟨_, Tryd.underlying112, rfl⟩ rfl rfl rfl rfl rfl (fun h => by cases h) (fun _ => ⟨rfl, rfl⟩)
theorem tiok113 : TIok Tryd.prog 113 (ti 113) := tiok_mk rfl Tryd.underlying113 (i := Tryd.t113) (by kernel_rfl) Tryd.underlying113 rfl rfl rfl rfl rfl (fun h => by cases h) (fun _ => ⟨rfl, rfl⟩)
theorem tiok114 : TIok Tryd.prog 114 (ti 114) := tiok_mk rfl Tryd.underlying114 (i := Tryd.t114) (by kernel_rfl) ⟨_, Tryd.underlying114, rfl⟩ rfl rfl rfl rfl rfl (fun h => by cases h) (fun _ => ⟨rfl, rfl⟩)
theorem tiok115 : TIok Tryd.prog 115 (ti 115) := tiok_mk rfl Tryd.underlying115 (i := Tryd.t115) (by kernel_rfl) ⟨_, Tryd.underlying115, rfl⟩ rfl rfl rfl rfl rfl (fun h => by cases h) (fun _ => ⟨rfl, rfl⟩)
theorem tiok116 : TIok Tryd.prog 116 (ti 116) := tiok_mk rfl Tryd.underlying116 (i := Tryd.t116) (by kernel_rfl) ⟨_, Tryd.underlying116, rfl⟩ rfl rfl rfl rfl rfl (fun h => by cases h) (fun _ => ⟨rfl, rfl⟩)
theorem tiok117 : TIok Tryd.prog 117 (ti 117) := tiok_mk rfl Tryd.underlying117 (i := Tryd.t117) (by kernel_rfl) Tryd.underlying117 rfl rfl rfl rfl rfl (fun h => by cases h) (fun _ => ⟨rfl, rfl⟩)
theorem tiok118 : TIok Tryd.prog 118 (ti 118) := tiok_mk rfl Tryd.underlying118 (i := Tryd.t118) (by kernel_rfl) ⟨_, Tryd.underlying118, rfl⟩ rfl rfl rfl rfl rfl (fun h => by cases h) (fun _ => ⟨rfl, rfl⟩)
theorem tiok120 : TIok Tryd.prog 120 (ti 120) := tiok_mk rfl Tryd.underlying120 (i := Tryd.t120) (by kernel_rfl) ⟨_, Tryd.underlying120, rfl⟩ rfl rfl rfl rfl rfl (fun h => by cases h) (fun _ => ⟨rfl, rfl⟩)
theorem tiok121 : TIok Tryd.prog 121 (ti 121) := tiok_mk rfl Tryd.underlying121 (i := Tryd.t121) (by kernel_rfl) ⟨_, Tryd.underlying121, rfl⟩ rfl rfl rfl rfl rfl (fun h => by cases h) (fun _ => ⟨rfl, rfl⟩)
theorem tiok122 : TIok Tryd.prog 122 (ti 122) := tiok_mk rfl Tryd.underlying122 (i := Tryd.t122) (by kernel_rfl) ⟨_, Tryd.underlying122, rfl⟩ rfl rfl rfl rfl rfl (fun h => by cases h) (fun _ => ⟨rfl, rfl⟩)
theorem tiok123 : TIok Tryd.prog 123 (ti 123) := tiok_mk rfl Tryd.underlying123 (i := Tryd.t123) (by kernel_rfl) ⟨_, Tryd.underlying123, rfl⟩ rfl rfl rfl rfl rfl (fun h => by cases h) (fun _ => ⟨rfl, rfl⟩)
theorem tiok124 : TIok Tryd.prog 124 (ti 124) := tiok_mk rfl Tryd.underlying124 (i := Tryd.t124) (by kernel_rfl) ⟨_, Tryd.underlying124, rfl⟩ rfl rfl rfl rfl rfl (fun h => by cases h) (fun _ => ⟨rfl, rfl⟩)
theorem tiok125 : TIok Tryd.prog 125 (ti 125) := tiok_mk rfl Tryd.underlying125 (i := Tryd.t125) (by kernel_rfl) ⟨_, Tryd.underlying125, rfl⟩ rfl rfl rfl rfl rfl (fun h => by cases h) (fun _ => ⟨rfl, rfl⟩)
theorem tiok126 : TIok Tryd.prog 126 (ti 126) := tiok_mk rfl Tryd.underlying126 (i := Tryd.t126) (by kernel_rfl) ⟨_, Tryd.underlying126, rfl⟩ rfl rfl rfl rfl rfl (fun h => by cases h) (fun _ => ⟨rfl, rfl⟩)
theorem tiok127 : TIok Tryd.prog 127 (ti 127) := tiok_mk rfl Tryd.underlying127 (i := Tryd.t127) (by kernel_rfl) ⟨_, Tryd.underlying127, rfl⟩ rfl rfl rfl rfl rfl (fun h => by cases h) (fun _ => ⟨rfl, rfl⟩)
theorem tiok128 : TIok Tryd.prog 128 (ti 128) := tiok_mk rfl Tryd.underlying128 (i := Tryd.t128) (by kernel_rfl) ⟨_, Tryd.underlying128, rfl⟩ rfl rfl rfl rfl rfl (fun h => by cases h) (fun _ => ⟨rfl, rfl⟩)
theorem tiok129 : TIok Tryd.prog 129 (ti 129) := tiok_mk rfl Tryd.underlying129 (i := Tryd.t129) (by kernel_rfl) ⟨_, Tryd.underlying129, rfl⟩ rfl rfl rfl rfl rfl (fun h => by cases h) (fun _ => ⟨rfl, rfl⟩)
theorem tiok130 : TIok Tryd.prog 130 (ti 130) := tiok_mk rfl Tryd.underlying130 (i := Tryd.t130) (by kernel_rfl) ⟨_, Tryd.underlying130, rfl⟩ rfl rfl rfl rfl rfl (fun h => by cases h) (fun _ => ⟨rfl, rfl⟩)
theorem tiok131 : TIok Tryd.prog 131 (ti 131) := tiok_mk rfl Tryd.underlying131 (i := Tryd.t131) (by kernel_rfl) ⟨_, Tryd.underlying131, rfl⟩ rfl rfl rfl rfl rfl (fun h => by cases h) (fun _ => ⟨rfl, rfl⟩)
theorem tiok132 : TIok Tryd.prog 132 (ti 132) := tiok_mk rfl Tryd.underlying132 (i := Tryd.t132) (by kernel_rfl) ⟨_, Tryd.underlying132, rfl⟩ rfl rfl rfl rfl rfl (fun h => by cases h) (fun _ => ⟨rfl, rfl⟩)
theorem tiok134 : TIok Tryd.prog 134 (ti 134) := tiok_mk rfl Tryd.underlying134 (i := Tryd.t134) (by kernel_rfl) ⟨_, Tryd.underlying134, rfl⟩ rfl rfl rfl rfl rfl (fun h => by cases h) (fun _ => ⟨rfl, rfl⟩)
theorem tiok135 : TIok Tryd.prog 135 (ti 135) := tiok_mk rfl Tryd.underlying135 (i := Tryd.t135) (by kernel_rfl) ⟨_, Tryd.underlying135, rfl⟩ rfl rfl rfl rfl rfl (fun h => by cases h) (fun _ => ⟨rfl, rfl⟩)
theorem tiok136 : TIok Tryd.prog 136 (ti 136) := tiok_mk rfl Tryd.underlying136 (i := Tryd.t136) (by kernel_rfl) ⟨_, Tryd.underlying136, rfl, rfl⟩ rfl rfl rfl rfl rfl (fun _ => ⟨_, rfl⟩) (fun h => by cases h)
theorem tiok137 : TIok Tryd.prog 137 (ti 137) := tiok_mk rfl Tryd.underlying137 (i := Tryd.t137) (by kernel_rfl) ⟨_, Tryd.underlying137, rfl, rfl⟩ rfl rfl rfl rfl rfl (fun _ => ⟨_, rfl⟩) (fun h => by cases h)
theorem tiok139 : TIok Tryd.prog 139 (ti 139) := tiok_mk rfl Tryd.underlying139 (i := Tryd.t139) (by kernel_rfl) ⟨_, Tryd.underlying139, rfl⟩ rfl rfl rfl rfl rfl (fun h => by cases h) (fun _ => ⟨rfl, rfl⟩)
theorem tiok140 : TIok Tryd.prog 140 (ti 140) := tiok_mk rfl Tryd.underlying140 (i := Tryd.t140) (by kernel_rfl) ⟨_, Tryd.underlying140, rfl⟩ rfl rfl rfl rfl rfl (fun h => by cases h) (fun _ => ⟨rfl, rfl⟩)
theorem tiok141 : TIok Tryd.prog 141 (ti 141) := tiok_mk rfl Tryd.underlying141 (i := Tryd.t141) (by kernel_rfl) ⟨_, Tryd.underlying141, rfl⟩ rfl rfl rfl rfl rfl (fun h => by cases h) (fun _ => ⟨rfl, rfl⟩)
theorem tiok142 : TIok Tryd.prog 142 (ti 142) := tiok_mk rfl Tryd.underlying142 (i := Tryd.t142) (by kernel_rfl) ⟨_, Tryd.underlying142, rfl⟩ rfl rfl rfl rfl rfl (fun h => by cases h) (fun _ => ⟨rfl, rfl⟩)
theorem tiok143 : TIok Tryd.prog 143 (ti 143) := tiok_mk rfl Tryd.underlying143 (i := Tryd.t143) (by kernel_rfl) ⟨_, Tryd.underlying143, rfl⟩ rfl rfl rfl rfl rfl (fun h => by cases h) (fun _ => ⟨rfl, rfl⟩)
theorem tiok144 : TIok Tryd.prog 144 (ti 144) := tiok_mk rfl Tryd.underlying144 (i := Tryd.t144) (by kernel_rfl) ⟨_, Tryd.underlying144, rfl⟩ rfl rfl rfl rfl rfl (fun h => by cases h) (fun _ => ⟨rfl, rfl⟩)
theorem tiok145 : TIok Tryd.prog 145 (ti 145) := tiok_mk rfl Tryd.underlying145 (i := Tryd.t145) (by kernel_rfl) Tryd.underlying145 rfl rfl rfl rfl rfl (fun _ => ⟨_, rfl⟩) (fun h => by cases h)
theorem tiok146 : TIok Tryd.prog 146 (ti 146) := tiok_mk rfl Tryd.underlying146 (i := Tryd.t146) (by kernel_rfl) ⟨_, Tryd.underlying146, rfl⟩ rfl rfl rfl rfl rfl (fun h => by cases h) (fun _ => ⟨rfl, rfl⟩)
theorem tiok147 : TIok Tryd.prog 147 (ti 147) := tiok_mk rfl Tryd.underlying147 (i := Tryd.t147) (by kernel_rfl) ⟨_, Tryd.underlying147, rfl⟩ rfl rfl rfl rfl rfl (fun h => by cases h) (fun _ => ⟨rfl, rfl⟩)
theorem tiok148 : TIok Tryd.prog 148 (ti 148) := tiok_mk rfl Tryd.underlying148 (i := Tryd.t148) (by kernel_rfl) ⟨_, Tryd.underlying148, rfl⟩ rfl rfl rfl rfl rfl (fun h => by cases h) (fun _ => ⟨rfl, rfl⟩)
theorem tiok149 : TIok Tryd.prog 149 (ti 149) := tiok_mk rfl Tryd.underlying149 (i := Tryd.t149) (by kernel_rfl) ⟨_, Tryd.underlying149, rfl⟩ rfl rfl rfl rfl rfl (fun h => by cases h) (fun _ => ⟨rfl, rfl⟩)
theorem tiok150 : TIok Tryd.prog 150 (ti 150) := tiok_mk rfl Tryd.underlying150 (i := Tryd.t150) (by kernel_rfl) ⟨_, Tryd.underlying150, rfl⟩ rfl rfl rfl rfl rfl (fun h => by cases h) (fun _ => ⟨rfl, rfl⟩)
theorem tiok151 : TIok Tryd.prog 151 (ti 151) := tiok_mk rfl Tryd.underlying151 (i := Tryd.t151) (by kernel_rfl) Tryd.underlying151 rfl rfl rfl rfl rfl (fun _ => ⟨_, rfl⟩) (fun h => by cases h)
theorem tiok152 : TIok Tryd.prog 152 (ti 152) := tiok_mk rfl Tryd.underlying152 (i := Tryd.t152) (by kernel_rfl) Tryd.underlying152 rfl rfl rfl rfl rfl (fun _ => ⟨_, rfl⟩) (fun h => by cases h)
theorem tiok153 : TIok Tryd.prog 153 (ti 153) := tiok_mk rfl Tryd.underlying153 (i := Tryd.t153) (by kernel_rfl) ⟨_, Tryd.underlying153, rfl⟩ rfl rfl rfl rfl rfl (fun h => by cases h) (fun _ => ⟨rfl, rfl⟩)
theorem tiok154 : TIok Tryd.prog 154 (ti 154) := tiok_mk rfl Tryd.underlying154 (i := Tryd.t154) (by kernel_rfl) ⟨_, Tryd.underlying154, rfl⟩ rfl rfl rfl rfl rfl (fun h => by cases h) (fun _ => ⟨rfl, rfl⟩)
theorem tiok155 : TIok Tryd.prog 155 (ti 155) := tiok_mk rfl Tryd.underlying155 (i := Tryd.t155) (by kernel_rfl) ⟨_, Tryd.underlying155, rfl⟩ rfl rfl rfl rfl rfl (fun h => by cases h) (fun _ => ⟨rfl, rfl⟩)
theorem tiok156 : TIok Tryd.prog 156 (ti 156) := tiok_mk rfl Tryd.underlying156 (i := Tryd.t156) (by kernel_rfl) ⟨_, Tryd.underlying156, rfl⟩ rfl rfl rfl rfl rfl (fun h => by cases h) (fun _ => ⟨rfl, rfl⟩)
theorem tiok157 : TIok Tryd.prog 157 (ti 157) := tiok_mk rfl Tryd.underlying157 (i := Tryd.t157) (by kernel_rfl) ⟨_, Tryd.underlying157, rfl⟩ rfl rfl rfl rfl rfl (fun h => by cases h) (fun _ => ⟨rfl, rfl⟩)
theorem tiok158 : TIok Tryd.prog 158 (ti 158) := tiok_mk rfl Tryd.underlying158 (i := Tryd.t158) (by kernel_rfl) ⟨_, Tryd.underlying158, rfl⟩ rfl rfl rfl rfl rfl (fun h => by cases h) (fun _ => ⟨rfl, rfl⟩)
theorem tiok160 : TIok Tryd.prog 160 (ti 160) := tiok_mk rfl Tryd.underlying160 (i := Tryd.t160) (by kernel_rfl) ⟨_, Tryd.underlying160, rfl⟩ rfl rfl rfl rfl rfl (fun h => by cases h) (fun _ => ⟨rfl, rfl⟩)
theorem tiok161 : TIok Tryd.prog 161 (ti 161) := tiok_mk rfl Tryd.underlying161 (i := Tryd.t161) (by kernel_rfl) ⟨_, Tryd.underlying161, rfl⟩ rfl rfl rfl rfl rfl (fun h => by cases h) (fun _ => ⟨rfl, rfl⟩)
theorem tiok162 : TIok Tryd.prog 162 (ti 162) := tiok_mk rfl Tryd.underlying162 (i := Tryd.t162) (by kernel_rfl) ⟨_, Tryd.underlying162, rfl⟩ rfl rfl rfl rfl rfl (fun h => by cases h) (fun _ => ⟨rfl, rfl⟩)
theorem tiok163 : TIok Tryd.prog 163 (ti 163) := tiok_mk rfl Tryd.underlying163 (i := Tryd.t163) (by kernel_rfl) ⟨_, Tryd.underlying163, rfl⟩ rfl rfl rfl rfl rfl (fun h => by cases h) (fun _ => ⟨rfl, rfl⟩)
theorem tiok164 : TIok Tryd.prog 164 (ti 164) := tiok_mk rfl Tryd.underlying164 (i := Tryd.t164) (by kernel_rfl) ⟨_, Tryd.underlying164, rfl⟩ rfl rfl rfl rfl rfl (fun h => by cases h) (fun _ => ⟨rfl, rfl⟩)
theorem tiok165 : TIok Tryd.prog 165 (ti 165) := tiok_mk rfl Tryd.underlying165 (i := Tryd.t165) (by kernel_rfl) ⟨_, Tryd.underlying165, rfl⟩ rfl rfl rfl rfl rfl (fun h => by cases h) (fun _ => ⟨rfl, rfl⟩)
theorem tiok166 : TIok Tryd.prog 166 (ti 166) := tiok_mk rfl Tryd.underlying166 (i := Tryd.t166) (by kernel_rfl) ⟨_, Tryd.underlying166, rfl⟩ rfl rfl rfl rfl rfl (fun h => by cases h) (fun _ => ⟨rfl, rfl⟩)
theorem tiok167 : TIok Tryd.prog 167 (ti 167) := tiok_mk rfl Tryd.underlying167 (i := Tryd.t167) (by kernel_rfl) ⟨_, Tryd.underlying167, rfl⟩ rfl rfl rfl rfl rfl (fun h => by cases h) (fun _ => ⟨rfl, rfl⟩)
theorem tiok168 : TIok Tryd.prog 168 (ti 168) := tiok_mk rfl Tryd.underlying168 (i := Tryd.t168) (by kernel_rfl) ⟨_, Tryd.underlying168, rfl⟩ rfl rfl rfl rfl rfl (fun h => by cases h) (fun _ => ⟨rfl, rfl⟩)
theorem tiok169 : TIok Tryd.prog 169 (ti 169) := tiok_mk rfl Tryd.underlying169 (i := Tryd.t169) (by kernel_rfl) ⟨_, Tryd.underlying169, rfl⟩ rfl rfl rfl rfl rfl (fun h => by cases h) (fun _ => ⟨rfl, rfl⟩)
theorem tiok170 : TIok Tryd.prog 170 (ti 170) := tiok_mk rfl Tryd.underlying170 (i := Tryd.t170) (by kernel_rfl) ⟨_, Tryd.underlying170, rfl⟩ rfl rfl rfl rfl rfl (fun h => by cases h) (fun _ => ⟨rfl, rfl⟩)
theorem tiok171 : TIok Tryd.prog 171 (ti 171) := tiok_mk rfl Tryd.underlying171 (i := Tryd.t171) (by kernel_rfl) ⟨_, Tryd.underlying171, rfl⟩ rfl rfl rfl rfl rfl (fun h => by cases h) (fun _ => ⟨rfl, rfl⟩)
theorem tiok172 : TIok Tryd.prog 172 (ti 172) := tiok_mk rfl Tryd.underlying172 (i := Tryd.t172) (by kernel_rfl) ⟨_, Tryd.underlying172, rfl⟩ rfl rfl rfl rfl rfl (fun h => by cases h) (fun _ => ⟨rfl, rfl⟩)
theorem tiok173 : TIok Tryd.prog 173 (ti 173) := tiok_mk rfl Tryd.underlying173 (i := Tryd.t173) (by kernel_rfl) ⟨_, Tryd.underlying173, rfl⟩ rfl rfl rfl rfl rfl (fun h => by cases h) (fun _ => ⟨rfl, rfl⟩)
theorem tiok174 : TIok Tryd.prog 174 (ti 174) := tiok_mk rfl Tryd.underlying174 (i := Tryd.t174) (by kernel_rfl) ⟨_, Tryd.underlying174, rfl⟩ rfl rfl rfl rfl rfl (fun h => by cases h) (fun _ => ⟨rfl, rfl⟩)
theorem tiok175 : TIok Tryd.prog 175 (ti 175) := tiok_mk rfl Tryd.underlying175 (i := Tryd.t175) (by kernel_rfl) ⟨_, Tryd.underlying175, rfl⟩ rfl rfl rfl rfl rfl (fun h => by cases h) (fun _ => ⟨rfl, rfl⟩)
theorem tiok177 : TIok Tryd.prog 177 (ti 177) := tiok_mk rfl Tryd.underlying177 (i := Tryd.t177) (by kernel_rfl) ⟨_, Tryd.underlying177, rfl⟩ rfl rfl rfl rfl rfl (fun h => by cases h) (fun _ => ⟨rfl, rfl⟩)
theorem tiok178 : TIok Tryd.prog 178 (ti 178) := tiok_mk rfl Tryd.underlying178 (i := Tryd.t178) (by kernel_rfl) ⟨_, Tryd.underlying178, rfl⟩ rfl rfl rfl rfl rfl (fun h => by cases h) (fun _ => ⟨rfl, rfl⟩)
theorem tiok181 : TIok Tryd.prog 181 (ti 181) := tiok_mk rfl Tryd.underlying181 (i := Tryd.t181) (by kernel_rfl) Tryd.underlying181 rfl rfl rfl rfl rfl (fun _ => ⟨_, rfl⟩) (fun h => by cases h)
theorem tiok182 : TIok Tryd.prog 182 (ti 182) := tiok_mk rfl Tryd.underlying182 (i := Tryd.t182) (by kernel_rfl) ⟨_, Tryd.underlying182, rfl, rfl⟩ rfl rfl rfl rfl rfl (fun _ => ⟨_, rfl⟩) (fun h => by cases h)
theorem tiok183 : TIok Tryd.prog 183 (ti 183) := tiok_mk rfl Tryd.underlying183 (i := Tryd.t183) (by kernel_rfl) ⟨_, Tryd.underlying183, rfl, rfl⟩ rfl rfl rfl rfl rfl (fun _ => ⟨_, rfl⟩) (fun h => by cases h)
theorem tiok184 : TIok Tryd.prog 184 (ti 184) := tiok_mk rfl Tryd.underlying184 (i := Tryd.t184) (by kernel_rfl) ⟨_, Tryd.underlying184, rfl⟩ rfl rfl rfl rfl rfl (fun h => by cases h) (fun _ => ⟨rfl, rfl⟩)
theorem tiok185 : TIok Tryd.prog 185 (ti 185) := tiok_mk rfl Tryd.underlying185 (i := Tryd.t185) (by kernel_rfl) ⟨_, Tryd.underlying185, rfl⟩ rfl rfl rfl rfl rfl (fun h => by cases h) (fun _ => ⟨rfl, rfl⟩)
theorem tiok186 : TIok Tryd.prog 186 (ti 186) := tiok_mk rfl Tryd.underlying186 (i := Tryd.t186) (by kernel_rfl) ⟨_, Tryd.underlying186, rfl⟩ rfl rfl rfl rfl rfl (fun h => by cases h) (fun _ => ⟨rfl, rfl⟩)
theorem tiok187 : TIok Tryd.prog 187 (ti 187) := tiok_mk rfl Tryd.underlying187 (i := Tryd.t187) (by kernel_rfl) ⟨_, Tryd.underlying187, rfl⟩ rfl rfl rfl rfl rfl (fun h => by cases h) (fun _ => ⟨rfl, rfl⟩)
theorem tiok188 : TIok Tryd.prog 188 (ti 188) := tiok_mk rfl Tryd.underlying188 (i := Tryd.t188) (by kernel_rfl) ⟨_, Tryd.underlying188, rfl⟩ rfl rfl rfl rfl rfl (fun h => by cases h) (fun _ => ⟨rfl, rfl⟩)
theorem tiok189 : TIok Tryd.prog 189 (ti 189) := tiok_mk rfl Tryd.underlying189 (i := Tryd.t189) (by kernel_rfl) ⟨_, Tryd.underlying189, rfl⟩ rfl rfl rfl rfl rfl (fun h => by cases h) (fun _ => ⟨rfl, rfl⟩)
theorem tiok190 : TIok Tryd.prog 190 (ti 190) := tiok_mk rfl Tryd.underlying190 (i := Tryd.t190) (by kernel_rfl) ⟨_, Tryd.underlying190, rfl⟩ rfl rfl rfl rfl rfl (fun h => by cases h) (fun _ => ⟨rfl, rfl⟩)
theorem tiok191 : TIok Tryd.prog 191 (ti 191) := tiok_mk rfl Tryd.underlying191 (i := Tryd.t191) (by kernel_rfl) ⟨_, Tryd.underlying191, rfl, rfl⟩ rfl rfl rfl rfl rfl (fun _ => ⟨_, rfl⟩) (fun h => by cases h)
theorem tiok192 : TIok Tryd.prog 192 (ti 192) := tiok_mk rfl Tryd.underlying192 (i := Tryd.t192) (by kernel_rfl) ⟨_, Tryd.underlying192, rfl, rfl⟩ rfl rfl rfl rfl rfl (fun _ => ⟨_, rfl⟩) (fun h => by cases h)
set_option maxRecDepth 100000 in
theorem tiok : ∀ t, TIok Tryd.prog t (ti t) := by
  intro t
  unfold ti
  split
  · exact tiok1
  · exact tiok2
  · exact tiok3
  · exact tiok4
  · exact tiok5
  · exact tiok6
  · exact tiok7
  · exact tiok8
  · exact tiok12
  · exact tiok15
  · exact tiok16
  · exact tiok17
  · exact tiok18
  · exact tiok19
  · exact tiok21
  · exact tiok22
  · exact tiok23
  · exact tiok24
  · exact tiok25
  · exact tiok26
  · exact tiok27
  · exact tiok28
  · exact tiok29
  · exact tiok31
  · exact tiok32
  · exact tiok33
  · exact tiok35
  · exact tiok36
  · exact tiok38
  · exact tiok39
  · exact tiok40
  · exact tiok41
  · exact tiok42
  · exact tiok43
  · exact tiok44
  · exact tiok45
  · exact tiok46
  · exact tiok47
  · exact tiok48
  · exact tiok49
  · exact tiok51
  · exact tiok52
  · exact tiok53
  · exact tiok54
  · exact tiok55
  · exact tiok56
  · exact tiok57
  · exact tiok58
  · exact tiok59
  · exact tiok60
  · exact tiok61
  · exact tiok62
  · exact tiok63
  · exact tiok64
  · exact tiok65
  · exact tiok66
  · exact tiok67
  · exact tiok68
  · exact tiok69
  · exact tiok70
  · exact tiok71
  · exact tiok72
  · exact tiok73
  · exact tiok74
  · exact tiok75
  · exact tiok77
  · exact tiok78
  · exact tiok79
  · exact tiok80
  · exact tiok81
  · exact tiok82
  · exact tiok83
  · exact tiok84
  · exact tiok85
  · exact tiok86
  · exact tiok87
  · exact tiok88
  · exact tiok89
  · exact tiok90
  · exact tiok91
  · exact tiok92
  · exact tiok93
  · exact tiok94
  · exact tiok95
  · exact tiok96
  · exact tiok97
  · exact tiok98
  · exact tiok100
  · exact tiok101
  · exact tiok102
  · exact tiok103
  · exact tiok104
  · exact tiok105
  · exact tiok107
  · exact tiok108
  · exact tiok109
  · exact tiok110
  · exact tiok111
  · exact tiok112
  · exact tiok113
  · exact tiok114
  · exact tiok115
  · exact tiok116
  · exact tiok117
  · exact tiok118
  · exact tiok120
  · exact tiok121
  · exact tiok122
  · exact tiok123
  · exact tiok124
  · exact tiok125
  · exact tiok126
  · exact tiok127
  · exact tiok128
  · exact tiok129
  · exact tiok130
  · exact tiok131
  · exact tiok132
  · exact tiok134
  · exact tiok135
  · exact tiok136
  · exact tiok137
  · exact tiok139
  · exact tiok140
  · exact tiok141
  · exact tiok142
  · exact tiok143
  · exact tiok144
  · exact tiok145
  · exact tiok146
  · exact tiok147
  · exact tiok148
  · exact tiok149
  · exact tiok150
  · exact tiok151
  · exact tiok152
  · exact tiok153
  · exact tiok154
  · exact tiok155
  · exact tiok156
  · exact tiok157
  · exact tiok158
  · exact tiok160
  · exact tiok161
  · exact tiok162
  · exact tiok163
  · exact tiok164
  · exact tiok165
  · exact tiok166
  · exact tiok167
  · exact tiok168
  · exact tiok169
  · exact tiok170
  · exact tiok171
  · exact tiok172
  · exact tiok173
  · exact tiok174
  · exact tiok175
  · exact tiok177
  · exact tiok178
  · exact tiok181
  · exact tiok182
  · exact tiok183
  · exact tiok184
  · exact tiok185
  · exact tiok186
  · exact tiok187
  · exact tiok188
  · exact tiok189
  · exact tiok190
  · exact tiok191
  · exact tiok192
  · exact tiok_bad
attribute [go_sem] ti3 ti4 ti22 ti24 ti26 ti27 ti28 ti29 ti36 ti43 ti48 ti53 ti57 ti62 ti64 ti65 ti67 ti69 ti71 ti85 ti90 ti93 ti96 ti98 ti103 ti104 ti108 ti113 ti117 ti135 ti137 ti144 ti145 ti146 ti150 ti152 ti156 ti158 ti165 ti167 ti169 ti173
end Wb
/- Types that are compared, and keys of maps. (Made by a program.) -/
namespace Wb
open Go Go.Proofs
set_option linter.unusedSimpArgs false
theorem eqint (d : Nat) (a b : Int) (w : World) : (Op.equalIn (d + 1) 3 (.int .i64 a) (.int .i64 b)).run Tryd.prog w = .ok (a == b) w := by
  unfold Op.equalIn
  rw [Sem.run_bind, run_underlying Tryd.underlying3 w, Result.andThen_ok]
  simp
theorem eqbool (d : Nat) (a b : Bool) (w : World) : (Op.equalIn (d + 1) 4 (.bool a) (.bool b)).run Tryd.prog w = .ok (a == b) w := by
  unfold Op.equalIn
  rw [Sem.run_bind, run_underlying Tryd.underlying4 w, Result.andThen_ok]
  rfl
theorem chkint (d : Nat) (e : Bool) (a : Int) (w : World) : (Instr.checkKey e (d + 1) 3 (.int .i64 a)).run Tryd.prog w = .ok () w := by
  unfold Instr.checkKey
  rw [Sem.run_bind, run_underlying Tryd.underlying3 w, Result.andThen_ok]
  rfl
theorem keyok3 : KeyOK Tryd.prog 3 1 false := by
  rintro w l l' x y h1 ⟨n, rfl, rfl⟩ ⟨m, rfl, rfl⟩ h2
  exact ⟨by rw [show Op.equal 3 (.int .i64 n) (.int .i64 m) = Op.equalIn (9999 + 1) 3 (.int .i64 n) (.int .i64 m) from rfl, eqint]; simp, fun e => chkint 9999 e n w⟩
theorem part3 (cs : Array Value) (off : Nat) (v : Value) (h : cs[off]? = some v) (w : World) : (part 3 cs off).run Tryd.prog w = .ok v w := by
  simp [part, Tryd.isAgg3, h]
theorem part4 (cs : Array Value) (off : Nat) (v : Value) (h : cs[off]? = some v) (w : World) : (part 4 cs off).run Tryd.prog w = .ok v w := by
  simp [part, Tryd.isAgg4, h]
theorem two_rep {w : World} {Z : Nat → Prop} {C : Ctx} {xs : List PV} {a : Array Value} (h : likeL xs [.int .i64 0, .int .i64 0] = true) (hr : RepL w Z C xs a) :
    ∃ p q, xs = [.int .i64 p, .int .i64 q] ∧ a = #[.int .i64 p, .int .i64 q] := by
  match xs, h with
  | [.int .i64 p, .int .i64 q], _ =>
    have h2 := hr.s
    obtain ⟨l⟩ := a
    match l, h2 with
    | [x, y], h2 =>
      obtain ⟨h3, h4, _⟩ := h2
      cases h3; cases h4
      exact ⟨p, q, rfl, rfl⟩
  | .int .i64 _ :: .int .i64 _ :: _ :: _, h => simp [likeL] at h
theorem four_rep {w : World} {Z : Nat → Prop} {C : Ctx} {xs : List PV} {a : Array Value} (h : likeL xs [.bool false, .bool false, .bool false, .bool false] = true) (hr : RepL w Z C xs a) :
    ∃ p q r s, xs = [.bool p, .bool q, .bool r, .bool s] ∧ a = #[.bool p, .bool q, .bool r, .bool s] := by
  match xs, h with
  | [.bool p, .bool q, .bool r, .bool s], _ =>
    have h2 := hr.s
    obtain ⟨l⟩ := a
    match l, h2 with
    | [x, y, z, u], h2 =>
      obtain ⟨h3, h4, h5, h6, _⟩ := h2
      cases h3; cases h4; cases h5; cases h6
      exact ⟨p, q, r, s, rfl, rfl⟩
  | .bool _ :: .bool _ :: .bool _ :: .bool _ :: _ :: _, h => simp [likeL] at h
theorem eq69 (a b c d : Int) (w : World) : (Op.equal 69 (.agg #[.int .i64 a, .int .i64 b]) (.agg #[.int .i64 c, .int .i64 d])).run Tryd.prog w = .ok (a == c && b == d) w := by
  show (Op.equalIn (9999 + 1) 69 _ _).run _ _ = _
  unfold Op.equalIn
  rw [Sem.run_bind, run_underlying Tryd.underlying69 w, Result.andThen_ok]
  have p0 : ∀ (x y : Int) (w : World), (part 3 #[Value.int .i64 x, Value.int .i64 y] 0).run Tryd.prog w = .ok (.int .i64 x) w := fun x y w => part3 _ 0 _ rfl w
  have p1 : ∀ (x y : Int) (w : World), (part 3 #[Value.int .i64 x, Value.int .i64 y] 1).run Tryd.prog w = .ok (.int .i64 y) w := fun x y w => part3 _ 1 _ rfl w
  have hq : ∀ x y w, (Op.equalIn 9999 3 (.int .i64 x) (.int .i64 y)).run Tryd.prog w = .ok (x == y) w := fun x y w => eqint 9998 x y w
  simp only [Sem.run_bind, run_program, Result.andThen_ok, Tryd.stoodInHeld69, Bool.false_eq_true, if_false, ← Array.forIn_toList, List.forIn_cons, List.forIn_nil, ne_eq, String.reduceEq, not_false_eq_true, if_true, p0, p1, hq]
  cases hac : (a == c)
  · simp
  · simp only [Bool.not_true, Bool.false_eq_true, if_false, Sem.run_pure, Result.andThen_ok, Sem.run_bind, p1, hq]
    cases hbd : (b == d) <;> simp
theorem eq108 (a b c d : Int) (w : World) : (Op.equal 108 (.agg #[.int .i64 a, .int .i64 b]) (.agg #[.int .i64 c, .int .i64 d])).run Tryd.prog w = .ok (a == c && b == d) w := by
  show (Op.equalIn (9999 + 1) 108 _ _).run _ _ = _
  unfold Op.equalIn
  rw [Sem.run_bind, run_underlying Tryd.underlying108 w, Result.andThen_ok]
  have p0 : ∀ (x y : Int) (w : World), (part 3 #[Value.int .i64 x, Value.int .i64 y] 0).run Tryd.prog w = .ok (.int .i64 x) w := fun x y w => part3 _ 0 _ rfl w
  have p1 : ∀ (x y : Int) (w : World), (part 3 #[Value.int .i64 x, Value.int .i64 y] 1).run Tryd.prog w = .ok (.int .i64 y) w := fun x y w => part3 _ 1 _ rfl w
  have hq : ∀ x y w, (Op.equalIn 9999 3 (.int .i64 x) (.int .i64 y)).run Tryd.prog w = .ok (x == y) w := fun x y w => eqint 9998 x y w
  simp only [Sem.run_bind, run_program, Result.andThen_ok, Tryd.stoodInHeld108, Bool.false_eq_true, if_false, ← Array.forIn_toList, List.forIn_cons, List.forIn_nil, ne_eq, String.reduceEq, not_false_eq_true, if_true, p0, p1, hq]
  cases hac : (a == c)
  · simp
  · simp only [Bool.not_true, Bool.false_eq_true, if_false, Sem.run_pure, Result.andThen_ok, Sem.run_bind, p1, hq]
    cases hbd : (b == d) <;> simp
theorem eqok69 : EqOK Tryd.prog 69 (ti 69).zero := by
  intro w Z C xs ys a b h1 h2 h3 h4
  obtain ⟨p, q, rfl, rfl⟩ := two_rep h1 h3
  obtain ⟨r, s, rfl, rfl⟩ := two_rep h2 h4
  refine ⟨by rw [eq69]; simp [eqL], fun op x y => ?_⟩
  unfold eqGuard
  cases op <;> simp [Tryd.eqGuardType69]
theorem keyok108 : KeyOK Tryd.prog 108 2 true := by
  rintro w l l' x y h1 hx hy h2
  match l, l', h1, h2 with
  | [a, b], [c, d], _, _ =>
    have hx : x = .agg #[.int .i64 a, .int .i64 b] := hx
    have hy : y = .agg #[.int .i64 c, .int .i64 d] := hy
    subst hx; subst hy
    refine ⟨by rw [eq108]; simp, fun e => ?_⟩
    show (Instr.checkKey e (9999 + 1) 108 _).run _ _ = _
    unfold Instr.checkKey
    rw [Sem.run_bind, run_underlying Tryd.underlying108 w, Result.andThen_ok]
    have p0 : ∀ (x y : Int) (w : World), (part 3 #[Value.int .i64 x, Value.int .i64 y] 0).run Tryd.prog w = .ok (.int .i64 x) w := fun x y w => part3 _ 0 _ rfl w
    have p1 : ∀ (x y : Int) (w : World), (part 3 #[Value.int .i64 x, Value.int .i64 y] 1).run Tryd.prog w = .ok (.int .i64 y) w := fun x y w => part3 _ 1 _ rfl w
    have hq : ∀ x w, (Instr.checkKey e 9999 3 (.int .i64 x)).run Tryd.prog w = .ok () w := fun x w => chkint 9998 e x w
    simp [← Array.forIn_toList, p0, p1, hq]
theorem eqok152 : EqOK Tryd.prog 152 (ti 152).zero := by
  intro w Z C xs ys a b h1 h2 h3 h4
  obtain ⟨p, q, r, s, rfl, rfl⟩ := four_rep h1 h3
  obtain ⟨p', q', r', s', rfl, rfl⟩ := four_rep h2 h4
  refine ⟨?_, fun op x y => ?_⟩
  · show (Op.equalIn (9999 + 1) 152 _ _).run _ _ = _
    rw [run_equalIn_array w 9999 _ _ Tryd.underlying152 (show Tryd.prog.info? 4 = some Tryd.t4 by kernel_rfl)]
    have hc : Tryd.prog.cellsOf 4 = 1 := by kernel_rfl
    have hq : ∀ x y w, (Op.equalIn 9999 4 (.bool x) (.bool y)).run Tryd.prog w = .ok (x == y) w := fun x y w => eqbool 9998 x y w
    have p0 : ∀ (p q r s : Bool) (w : World), (part 4 #[Value.bool p, .bool q, .bool r, .bool s] 0).run Tryd.prog w = .ok (.bool p) w := fun p q r s w => part4 _ 0 _ rfl w
    have p1 : ∀ (p q r s : Bool) (w : World), (part 4 #[Value.bool p, .bool q, .bool r, .bool s] 1).run Tryd.prog w = .ok (.bool q) w := fun p q r s w => part4 _ 1 _ rfl w
    have p2 : ∀ (p q r s : Bool) (w : World), (part 4 #[Value.bool p, .bool q, .bool r, .bool s] 2).run Tryd.prog w = .ok (.bool r) w := fun p q r s w => part4 _ 2 _ rfl w
    have p3 : ∀ (p q r s : Bool) (w : World), (part 4 #[Value.bool p, .bool q, .bool r, .bool s] 3).run Tryd.prog w = .ok (.bool s) w := fun p q r s w => part4 _ 3 _ rfl w
    rw [hc, show List.range 4 = [0, 1, 2, 3] from rfl]
    simp only [Op.eqItems, Sem.run_bind, Nat.mul_one, p0, hq, Result.andThen_ok, eqL]
    cases p == p'
    · simp
    · simp only [Bool.not_true, Bool.false_eq_true, if_false, Sem.run_bind, p1, hq, Result.andThen_ok]
      cases q == q'
      · simp
      · simp only [Bool.not_true, Bool.false_eq_true, if_false, Sem.run_bind, p2, hq, Result.andThen_ok]
        cases r == r'
        · simp
        · simp only [Bool.not_true, Bool.false_eq_true, if_false, Sem.run_bind, p3, hq, Result.andThen_ok]
          cases s == s' <;> simp
  · unfold eqGuard
    cases op <;> simp [Tryd.eqGuardType152]
end Wb
/- The seat's environments. -/
namespace Wb
open Go Go.Proofs
def glB : Nat → Option (List PV) := fun g => if g = 0 then some [.fn 152 [] [], .fn 153 [] []] else none
def eqB : Nat → Bool
  | 69 => true
  | 152 => true
  | _ => false
def keyB : Nat → Bool
  | 3 => true
  | 108 => true
  | _ => false
def mkE (sp : List (Nat × Spec)) (il : List (Nat × Func)) : Env := { ti, spec := tab sp, inl := tab il, glob := glB, eqt := eqB, keyt := keyB }
theorem mkE_ti (sp : List (Nat × Spec)) (il : List (Nat × Func)) (t : Nat) : (mkE sp il).ti t = ti t := rfl
theorem mkE_glob (sp : List (Nat × Spec)) (il : List (Nat × Func)) (t : Nat) : (mkE sp il).glob t = glB t := rfl
theorem mkE_eqt (sp : List (Nat × Spec)) (il : List (Nat × Func)) (t : Nat) : (mkE sp il).eqt t = eqB t := rfl
theorem mkE_keyt (sp : List (Nat × Spec)) (il : List (Nat × Func)) (t : Nat) : (mkE sp il).keyt t = keyB t := rfl
def AllOK : List (Nat × Spec) → Prop
  | [] => True
  | p :: ps => (SpecOK Tryd.prog glB p.1 p.2 ∧ Callable Tryd.prog p.1) ∧ AllOK ps
theorem AllOK.mem : ∀ {l : List (Nat × Spec)} {p : Nat × Spec}, AllOK l → p ∈ l → SpecOK Tryd.prog glB p.1 p.2 ∧ Callable Tryd.prog p.1
  | q :: l, p, h, hp => by
    rcases List.mem_cons.1 hp with e | e
    · rw [e]; exact h.1
    · exact AllOK.mem h.2 e
theorem AllOK.append : ∀ {l m : List (Nat × Spec)}, AllOK l → AllOK m → AllOK (l ++ m)
  | [], _, _, k => k
  | _ :: _, _, h, k => ⟨h.1, AllOK.append h.2 k⟩
def InlOK : List (Nat × Func) → Prop
  | [] => True
  | p :: ps => (Tryd.prog.funcs[p.1]? = some p.2 ∧ Callable Tryd.prog p.1 ∧ okC (p.2.body.getD .skip) = true) ∧ InlOK ps
theorem InlOK.mem : ∀ {l : List (Nat × Func)} {p : Nat × Func}, InlOK l → p ∈ l → Tryd.prog.funcs[p.1]? = some p.2 ∧ Callable Tryd.prog p.1 ∧ okC (p.2.body.getD .skip) = true
  | q :: l, p, h, hp => by
    rcases List.mem_cons.1 hp with e | e
    · rw [e]; exact h.1
    · exact InlOK.mem h.2 e
theorem mixed : Tryd.prog.follows .mixedOrders = true := by kernel_rfl
theorem envOK {sp : List (Nat × Spec)} {il : List (Nat × Func)} (h : AllOK sp) (k : InlOK il) : EnvOK Tryd.prog (mkE sp il) where
  ti := tiok
  spec := fun f s hs => h.mem (tab_some hs)
  inl := fun f fn hf => by
    obtain ⟨a, b, c⟩ := k.mem (tab_some hf)
    exact ⟨a, b, fun c' hc' => by rw [hc'] at c; exact c⟩
  eqt := fun t ht => by
    change eqB t = true at ht
    unfold eqB at ht
    split at ht
    · exact eqok69
    · exact eqok152
    · cases ht
  keyt := fun t ht => by
    change keyB t = true at ht
    unfold keyB at ht
    split at ht
    · exact keyok3
    · exact keyok108
    · cases ht
  mixed := mixed
  mt := fun f m h => by cases h
  eff := fun f s h => by cases h
/-- With functions that write what they are given. -/
def mkM (sp : List (Nat × Spec)) (il : List (Nat × Func)) (mt : List (Nat × MSpec)) : Env := { ti, spec := tab sp, inl := tab il, glob := glB, eqt := eqB, keyt := keyB, mt := tab mt }
def MutAll : List (Nat × MSpec) → Prop
  | [] => True
  | p :: ps => (MutOK Tryd.prog p.1 p.2 ∧ Callable Tryd.prog p.1) ∧ MutAll ps
theorem MutAll.mem : ∀ {l : List (Nat × MSpec)} {p : Nat × MSpec}, MutAll l → p ∈ l → MutOK Tryd.prog p.1 p.2 ∧ Callable Tryd.prog p.1
  | q :: l, p, h, hp => by
    rcases List.mem_cons.1 hp with e | e
    · rw [e]; exact h.1
    · exact MutAll.mem h.2 e
theorem envMOK {sp : List (Nat × Spec)} {il : List (Nat × Func)} {mt : List (Nat × MSpec)} (h : AllOK sp) (k : InlOK il) (hm : MutAll mt) : EnvOK Tryd.prog (mkM sp il mt) where
  ti := tiok
  spec := fun f s hs => h.mem (tab_some hs)
  inl := fun f fn hf => by
    obtain ⟨a, b, c⟩ := k.mem (tab_some hf)
    exact ⟨a, b, fun c' hc' => by rw [hc'] at c; exact c⟩
  eqt := (envOK (sp := []) (il := []) trivial trivial).eqt
  keyt := (envOK (sp := []) (il := []) trivial trivial).keyt
  mixed := mixed
  mt := fun f m h => hm.mem (tab_some h)
  eff := fun f s h => by cases h
/-- With functions that turn the store, known by what they turn. -/
def mkF (sp : List (Nat × Spec)) (il : List (Nat × Func)) (mt : List (Nat × MSpec)) (ef : List (Nat × ESpec)) : Env := { ti, spec := tab sp, inl := tab il, glob := glB, eqt := eqB, keyt := keyB, mt := tab mt, eff := tab ef }
def EffAll : List (Nat × ESpec) → Prop
  | [] => True
  | p :: ps => (EffOK Tryd.prog glB p.1 p.2 ∧ Callable Tryd.prog p.1) ∧ EffAll ps
theorem EffAll.mem : ∀ {l : List (Nat × ESpec)} {p : Nat × ESpec}, EffAll l → p ∈ l → EffOK Tryd.prog glB p.1 p.2 ∧ Callable Tryd.prog p.1
  | q :: l, p, h, hp => by
    rcases List.mem_cons.1 hp with e | e
    · rw [e]; exact h.1
    · exact EffAll.mem h.2 e
theorem envFOK {sp : List (Nat × Spec)} {il : List (Nat × Func)} {mt : List (Nat × MSpec)} {ef : List (Nat × ESpec)} (h : AllOK sp) (k : InlOK il) (hm : MutAll mt) (he : EffAll ef) : EnvOK Tryd.prog (mkF sp il mt ef) where
  ti := tiok
  spec := (envMOK h k hm).spec
  inl := (envMOK h k hm).inl
  eqt := (envMOK h k hm).eqt
  keyt := (envMOK h k hm).keyt
  mixed := mixed
  mt := fun f m h => hm.mem (tab_some h)
  eff := fun f s h => he.mem (tab_some h)
end Wb
/- Small functions. (Made by gen_L1.py.) -/
namespace Wb
open Go Go.Proofs
set_option linter.unusedSimpArgs false
set_option linter.unusedVariables false
set_option maxRecDepth 20000
set_option maxHeartbeats 4000000

def E0t : List (Nat × Spec) := []
theorem E0t_ok : AllOK E0t := trivial
def E0 : Env := mkE E0t []
theorem E0_ok : EnvOK Tryd.prog E0 := envOK E0t_ok trivial
theorem E0_ti {t : Nat} : E0.ti t = ti t := rfl
theorem E0_q0 : (E0).eqt 152 = true := rfl
theorem E0_q1 : (E0).eqt 69 = true := rfl
theorem E0_q2 : (E0).keyt 3 = true := rfl
theorem E0_q3 : (E0).keyt 108 = true := rfl
attribute [go_sem] E0_ti E0_q0 E0_q1 E0_q2 E0_q3
theorem within_fn (n a b : Int) : Fn E0 0 66 Tryd.f66 (Tryd.f66.body.getD .skip) [.int .i64 n, .int .i64 a, .int .i64 b] (.bool (decide (a ≤ n) && decide (n ≤ b))) := by
  unfold Fn Tryd.f66
  simp only [go_sem, Nat.reduceAdd, Nat.reduceSub, Nat.reduceMul, Nat.reduceEqDiff, Nat.reduceLT, Nat.reduceLeDiff, Nat.reduceBEq, Nat.reduceBNe, Int.reduceToNat, Int.reduceLE, Int.reduceLT, Int.reduceNe, Int.reduceNeg, reduceCtorEq, Int.reduceBEq, Int.reduceBNe, E0_ti, ti3, ti4, ti24, ti26, ti43, ti90]
def sTween : Spec := fun args => match args with | [.int .i64 n, .int .i64 a, .int .i64 b] => some (True, .bool (decide (a ≤ n) && decide (n ≤ b))) | _ => none
theorem s66_ok : SpecOK Tryd.prog glB 66 sTween := specOK_of E0_ok Tryd.func66 (by kernel_rfl) fun args pre r h hp => by
  unfold sTween at h; split at h <;> cases h; exact ⟨_, _, wkL_refl _, rfl, within_fn _ _ _ ⟩
theorem Tween_fn (n a b : Int) : Fn E0 0 50 Tryd.f50 (Tryd.f50.body.getD .skip) [.int .i64 n, .int .i64 a, .int .i64 b] (.bool (decide (a ≤ n) && decide (n ≤ b))) := by
  unfold Fn Tryd.f50
  simp only [go_sem, Nat.reduceAdd, Nat.reduceSub, Nat.reduceMul, Nat.reduceEqDiff, Nat.reduceLT, Nat.reduceLeDiff, Nat.reduceBEq, Nat.reduceBNe, Int.reduceToNat, Int.reduceLE, Int.reduceLT, Int.reduceNe, Int.reduceNeg, reduceCtorEq, Int.reduceBEq, Int.reduceBNe, E0_ti, ti3, ti4, ti24, ti26, ti43, ti90]
theorem s50_ok : SpecOK Tryd.prog glB 50 sTween := specOK_of E0_ok Tryd.func50 (by kernel_rfl) fun args pre r h hp => by
  unfold sTween at h; split at h <;> cases h; exact ⟨_, _, wkL_refl _, rfl, Tween_fn _ _ _ ⟩
def spinF (n m : Int) : Int := if m < 1 then 0 else n % m
theorem Spin_fn (n m : Int) (hm : m ≤ 9223372036854775807) : Fn E0 0 43 Tryd.f43 (Tryd.f43.body.getD .skip) [.int .i64 n, .int .i64 m] (.int .i64 (spinF n m)) := by
  unfold Fn Tryd.f43
  simp only [go_sem, Nat.reduceAdd, Nat.reduceSub, Nat.reduceMul, Nat.reduceEqDiff, Nat.reduceLT, Nat.reduceLeDiff, Nat.reduceBEq, Nat.reduceBNe, Int.reduceToNat, Int.reduceLE, Int.reduceLT, Int.reduceNe, Int.reduceNeg, reduceCtorEq, Int.reduceBEq, Int.reduceBNe, E0_ti, ti3, ti4, ti24, ti26, ti43, ti90]
  unfold spinF
  rw [condK_bool]
  refine ⟨fun h => ?_, fun h => ?_⟩
  · have h : m < 1 := by simpa using h
    simp only [go_sem, Nat.reduceAdd, Nat.reduceSub, Nat.reduceMul, Nat.reduceEqDiff, Nat.reduceLT, Nat.reduceLeDiff, Nat.reduceBEq, Nat.reduceBNe, Int.reduceToNat, Int.reduceLE, Int.reduceLT, Int.reduceNe, Int.reduceNeg, reduceCtorEq, Int.reduceBEq, Int.reduceBNe, E0_ti, ti3, ti4]
    simp [h]
  · have h : ¬ m < 1 := by simpa using h
    simp only [go_sem, Nat.reduceAdd, Nat.reduceSub, Nat.reduceMul, Nat.reduceEqDiff, Nat.reduceLT, Nat.reduceLeDiff, Nat.reduceBEq, Nat.reduceBNe, Int.reduceToNat, Int.reduceLE, Int.reduceLT, Int.reduceNe, Int.reduceNeg, reduceCtorEq, Int.reduceBEq, Int.reduceBNe, E0_ti, ti3, ti4, condK_bool]
    rw [if_neg h]
    have hb : 0 < m := by omega
    have h0 := Int.emod_nonneg n (show m ≠ 0 by omega)
    have h1 := Int.emod_lt_of_pos n hb
    have ht := @Int.tmod_eq_emod n m
    have hn : (m.natAbs : Int) = m := by omega
    refine ⟨by omega, fun h2 => ?_, fun h2 => ?_⟩
    · have h2 : n.tmod m < 0 := by simpa using h2
      rw [ht] at h2 ⊢
      split at h2
      · omega
      · rename_i hc
        rw [if_neg hc, hn]
        rw [wrap_id (by omega)]; omega
    · have h2 : ¬ n.tmod m < 0 := by simpa using h2
      rw [ht] at h2 ⊢
      split at h2
      · rename_i hc; rw [if_pos hc]; omega
      · rename_i hc
        rw [hn] at h2
        omega
def sSpin : Spec := fun args => match args with | [.int .i64 n, .int .i64 m] => some (m ≤ 9223372036854775807, .int .i64 (spinF n m)) | _ => none
theorem s43_ok : SpecOK Tryd.prog glB 43 sSpin := specOK_of E0_ok Tryd.func43 (by kernel_rfl) fun args pre r h hp => by
  unfold sSpin at h; split at h <;> cases h; exact ⟨_, _, wkL_refl _, rfl, Spin_fn _ _ hp⟩
theorem To_fn (a b : Int) : Fn E0 0 44 Tryd.f44 (Tryd.f44.body.getD .skip) [.int .i64 a, .int .i64 b] (.agg [.int .i64 a, .int .i64 b]) := by
  unfold Fn Tryd.f44
  simp only [go_sem, Nat.reduceAdd, Nat.reduceSub, Nat.reduceMul, Nat.reduceEqDiff, Nat.reduceLT, Nat.reduceLeDiff, Nat.reduceBEq, Nat.reduceBNe, Int.reduceToNat, Int.reduceLE, Int.reduceLT, Int.reduceNe, Int.reduceNeg, reduceCtorEq, Int.reduceBEq, Int.reduceBNe, E0_ti, ti3, ti4, ti24, ti26, ti43, ti90]
def sTo : Spec := fun args => match args with | [.int .i64 a, .int .i64 b] => some (True, .agg [.int .i64 a, .int .i64 b]) | _ => none
theorem s44_ok : SpecOK Tryd.prog glB 44 sTo := specOK_of E0_ok Tryd.func44 (by kernel_rfl) fun args pre r h hp => by
  unfold sTo at h; split at h <;> cases h; exact ⟨_, _, wkL_refl _, rfl, To_fn _ _ ⟩
theorem isSpan_fn (a b l h : Int) : Fn E0 0 67 Tryd.f67 (Tryd.f67.body.getD .skip) [.agg [.int .i64 a, .int .i64 b], .int .i64 l, .int .i64 h] (.bool (decide (l ≤ a) && decide (a ≤ b) && decide (b ≤ h))) := by
  unfold Fn Tryd.f67
  simp only [go_sem, Nat.reduceAdd, Nat.reduceSub, Nat.reduceMul, Nat.reduceEqDiff, Nat.reduceLT, Nat.reduceLeDiff, Nat.reduceBEq, Nat.reduceBNe, Int.reduceToNat, Int.reduceLE, Int.reduceLT, Int.reduceNe, Int.reduceNeg, reduceCtorEq, Int.reduceBEq, Int.reduceBNe, E0_ti, ti3, ti4, ti24, ti26, ti43, ti90]
def sProper : Spec := fun args => match args with | [.agg [.int .i64 a, .int .i64 b], .int .i64 l, .int .i64 h] => some (True, .bool (decide (l ≤ a) && decide (a ≤ b) && decide (b ≤ h))) | _ => none
theorem s67_ok : SpecOK Tryd.prog glB 67 sProper := specOK_of E0_ok Tryd.func67 (by kernel_rfl) fun args pre r h hp => by
  unfold sProper at h; split at h <;> cases h; exact ⟨_, _, wkL_refl _, rfl, isSpan_fn _ _ _ _ ⟩
theorem Proper_fn (a b l h : Int) : Fn E0 0 69 Tryd.f69 (Tryd.f69.body.getD .skip) [.agg [.int .i64 a, .int .i64 b], .int .i64 l, .int .i64 h] (.bool (decide (l ≤ a) && decide (a ≤ b) && decide (b ≤ h))) := by
  unfold Fn Tryd.f69
  simp only [go_sem, Nat.reduceAdd, Nat.reduceSub, Nat.reduceMul, Nat.reduceEqDiff, Nat.reduceLT, Nat.reduceLeDiff, Nat.reduceBEq, Nat.reduceBNe, Int.reduceToNat, Int.reduceLE, Int.reduceLT, Int.reduceNe, Int.reduceNeg, reduceCtorEq, Int.reduceBEq, Int.reduceBNe, E0_ti, ti3, ti4, ti24, ti26, ti43, ti90]
theorem s69_ok : SpecOK Tryd.prog glB 69 sProper := specOK_of E0_ok Tryd.func69 (by kernel_rfl) fun args pre r h hp => by
  unfold sProper at h; split at h <;> cases h; exact ⟨_, _, wkL_refl _, rfl, Proper_fn _ _ _ _ ⟩
theorem Inner_fn (a b c d : Int) : Fn E0 0 103 Tryd.f103 (Tryd.f103.body.getD .skip) [.agg [.int .i64 a, .int .i64 b], .agg [.int .i64 c, .int .i64 d]] (.bool (decide (c ≤ a) && decide (b ≤ d))) := by
  unfold Fn Tryd.f103
  simp only [go_sem, Nat.reduceAdd, Nat.reduceSub, Nat.reduceMul, Nat.reduceEqDiff, Nat.reduceLT, Nat.reduceLeDiff, Nat.reduceBEq, Nat.reduceBNe, Int.reduceToNat, Int.reduceLE, Int.reduceLT, Int.reduceNe, Int.reduceNeg, reduceCtorEq, Int.reduceBEq, Int.reduceBNe, E0_ti, ti3, ti4, ti24, ti26, ti43, ti90]
def sInner : Spec := fun args => match args with | [.agg [.int .i64 a, .int .i64 b], .agg [.int .i64 c, .int .i64 d]] => some (True, .bool (decide (c ≤ a) && decide (b ≤ d))) | _ => none
theorem s103_ok : SpecOK Tryd.prog glB 103 sInner := specOK_of E0_ok Tryd.func103 (by kernel_rfl) fun args pre r h hp => by
  unfold sInner at h; split at h <;> cases h; exact ⟨_, _, wkL_refl _, rfl, Inner_fn _ _ _ _ ⟩
theorem day_fn (n : Int) : Fn E0 0 76 Tryd.f76 (Tryd.f76.body.getD .skip) [.int .i64 n] (.agg [.int .i64 n, .int .i64 n]) := by
  unfold Fn Tryd.f76
  simp only [go_sem, Nat.reduceAdd, Nat.reduceSub, Nat.reduceMul, Nat.reduceEqDiff, Nat.reduceLT, Nat.reduceLeDiff, Nat.reduceBEq, Nat.reduceBNe, Int.reduceToNat, Int.reduceLE, Int.reduceLT, Int.reduceNe, Int.reduceNeg, reduceCtorEq, Int.reduceBEq, Int.reduceBNe, E0_ti, ti3, ti4, ti24, ti26, ti43, ti90]
def sday : Spec := fun args => match args with | [.int .i64 n] => some (True, .agg [.int .i64 n, .int .i64 n]) | _ => none
theorem s76_ok : SpecOK Tryd.prog glB 76 sday := specOK_of E0_ok Tryd.func76 (by kernel_rfl) fun args pre r h hp => by
  unfold sday at h; split at h <;> cases h; exact ⟨_, _, wkL_refl _, rfl, day_fn _ ⟩
theorem thing_fn (a b c : Int) : Fn E0 0 54 Tryd.f54 (Tryd.f54.body.getD .skip) [.int .i64 a, .int .i64 b, .int .i64 c] (.agg [.int .i64 a, .int .i64 b, .int .i64 c]) := by
  unfold Fn Tryd.f54
  simp only [go_sem, Nat.reduceAdd, Nat.reduceSub, Nat.reduceMul, Nat.reduceEqDiff, Nat.reduceLT, Nat.reduceLeDiff, Nat.reduceBEq, Nat.reduceBNe, Int.reduceToNat, Int.reduceLE, Int.reduceLT, Int.reduceNe, Int.reduceNeg, reduceCtorEq, Int.reduceBEq, Int.reduceBNe, E0_ti, ti3, ti4, ti24, ti26, ti43, ti90]
def sthing : Spec := fun args => match args with | [.int .i64 a, .int .i64 b, .int .i64 c] => some (True, .agg [.int .i64 a, .int .i64 b, .int .i64 c]) | _ => none
theorem s54_ok : SpecOK Tryd.prog glB 54 sthing := specOK_of E0_ok Tryd.func54 (by kernel_rfl) fun args pre r h hp => by
  unfold sthing at h; split at h <;> cases h; exact ⟨_, _, wkL_refl _, rfl, thing_fn _ _ _ ⟩
def E1t : List (Nat × Spec) := [(66, sTween), (50, sTween), (43, sSpin), (44, sTo), (67, sProper), (69, sProper), (103, sInner), (76, sday), (54, sthing)] ++ E0t
theorem E1t_ok : AllOK E1t := AllOK.append (l := [(66, sTween), (50, sTween), (43, sSpin), (44, sTo), (67, sProper), (69, sProper), (103, sInner), (76, sday), (54, sthing)]) ⟨⟨s66_ok, Tryd.call66⟩, ⟨⟨s50_ok, Tryd.call50⟩, ⟨⟨s43_ok, Tryd.call43⟩, ⟨⟨s44_ok, Tryd.call44⟩, ⟨⟨s67_ok, Tryd.call67⟩, ⟨⟨s69_ok, Tryd.call69⟩, ⟨⟨s103_ok, Tryd.call103⟩, ⟨⟨s76_ok, Tryd.call76⟩, ⟨⟨s54_ok, Tryd.call54⟩, trivial⟩⟩⟩⟩⟩⟩⟩⟩⟩ E0t_ok
def E1 : Env := mkE E1t []
theorem E1_ok : EnvOK Tryd.prog E1 := envOK E1t_ok trivial
theorem E1_ti {t : Nat} : E1.ti t = ti t := rfl
theorem E1_q0 : (E1).eqt 152 = true := rfl
theorem E1_q1 : (E1).eqt 69 = true := rfl
theorem E1_q2 : (E1).keyt 3 = true := rfl
theorem E1_q3 : (E1).keyt 108 = true := rfl
attribute [go_sem] E1_ti E1_q0 E1_q1 E1_q2 E1_q3
theorem isDays_fn (a b : Int) : Fn E1 0 58 Tryd.f58 (Tryd.f58.body.getD .skip) [.agg [.int .i64 a, .int .i64 b]] (.bool (decide (0 ≤ a) && decide (a ≤ b) && decide (b ≤ 20000))) := by
  unfold Fn Tryd.f58
  simp only [go_sem, Nat.reduceAdd, Nat.reduceSub, Nat.reduceMul, Nat.reduceEqDiff, Nat.reduceLT, Nat.reduceLeDiff, Nat.reduceBEq, Nat.reduceBNe, Int.reduceToNat, Int.reduceLE, Int.reduceLT, Int.reduceNe, Int.reduceNeg, reduceCtorEq, Int.reduceBEq, Int.reduceBNe, E1_ti, ti3, ti4, ti24, ti26, ti43, ti90, @callV_spec E1 67 sProper rfl, @effV_spec E1 67 sProper rfl, @callV_specT E1 67 sProper rfl, @stepV_spec E1 67 sProper rfl, @effV_spec E1 67 sProper rfl, sProper, callSpec_pure, specP, pureD, pureD.pureLs]
def sIsDays : Spec := fun args => match args with | [.agg [.int .i64 a, .int .i64 b]] => some (True, .bool (decide (0 ≤ a) && decide (a ≤ b) && decide (b ≤ 20000))) | _ => none
theorem s58_ok : SpecOK Tryd.prog glB 58 sIsDays := specOK_of E1_ok Tryd.func58 (by kernel_rfl) fun args pre r h hp => by
  unfold sIsDays at h; split at h <;> cases h; exact ⟨_, _, wkL_refl _, rfl, isDays_fn _ _ ⟩
theorem isDaysR_fn (a b : Int) : Fn E1 0 62 Tryd.f62 (Tryd.f62.body.getD .skip) [.agg [.int .i64 a, .int .i64 b]] (.bool (decide (0 ≤ a) && decide (a ≤ b) && decide (b ≤ 20000))) := by
  unfold Fn Tryd.f62
  simp only [go_sem, Nat.reduceAdd, Nat.reduceSub, Nat.reduceMul, Nat.reduceEqDiff, Nat.reduceLT, Nat.reduceLeDiff, Nat.reduceBEq, Nat.reduceBNe, Int.reduceToNat, Int.reduceLE, Int.reduceLT, Int.reduceNe, Int.reduceNeg, reduceCtorEq, Int.reduceBEq, Int.reduceBNe, E1_ti, ti3, ti4, ti24, ti26, ti43, ti90, @callV_spec E1 69 sProper rfl, @effV_spec E1 69 sProper rfl, @callV_specT E1 69 sProper rfl, @stepV_spec E1 69 sProper rfl, @effV_spec E1 69 sProper rfl, sProper, callSpec_pure, specP, pureD, pureD.pureLs]
theorem s62_ok : SpecOK Tryd.prog glB 62 sIsDays := specOK_of E1_ok Tryd.func62 (by kernel_rfl) fun args pre r h hp => by
  unfold sIsDays at h; split at h <;> cases h; exact ⟨_, _, wkL_refl _, rfl, isDaysR_fn _ _ ⟩
theorem isNumber_fn (n : Int) : Fn E1 0 59 Tryd.f59 (Tryd.f59.body.getD .skip) [.int .i64 n] (.bool (decide (1 ≤ n) && decide (n ≤ 9999))) := by
  unfold Fn Tryd.f59
  simp only [go_sem, Nat.reduceAdd, Nat.reduceSub, Nat.reduceMul, Nat.reduceEqDiff, Nat.reduceLT, Nat.reduceLeDiff, Nat.reduceBEq, Nat.reduceBNe, Int.reduceToNat, Int.reduceLE, Int.reduceLT, Int.reduceNe, Int.reduceNeg, reduceCtorEq, Int.reduceBEq, Int.reduceBNe, E1_ti, ti3, ti4, ti24, ti26, ti43, ti90, @callV_spec E1 66 sTween rfl, @effV_spec E1 66 sTween rfl, @callV_specT E1 66 sTween rfl, @stepV_spec E1 66 sTween rfl, @effV_spec E1 66 sTween rfl, sTween, callSpec_pure, specP, pureD, pureD.pureLs]
def sIsNumber : Spec := fun args => match args with | [.int .i64 n] => some (True, .bool (decide (1 ≤ n) && decide (n ≤ 9999))) | _ => none
theorem s59_ok : SpecOK Tryd.prog glB 59 sIsNumber := specOK_of E1_ok Tryd.func59 (by kernel_rfl) fun args pre r h hp => by
  unfold sIsNumber at h; split at h <;> cases h; exact ⟨_, _, wkL_refl _, rfl, isNumber_fn _ ⟩
theorem isNumberR_fn (n : Int) : Fn E1 0 63 Tryd.f63 (Tryd.f63.body.getD .skip) [.int .i64 n] (.bool (decide (1 ≤ n) && decide (n ≤ 9999))) := by
  unfold Fn Tryd.f63
  simp only [go_sem, Nat.reduceAdd, Nat.reduceSub, Nat.reduceMul, Nat.reduceEqDiff, Nat.reduceLT, Nat.reduceLeDiff, Nat.reduceBEq, Nat.reduceBNe, Int.reduceToNat, Int.reduceLE, Int.reduceLT, Int.reduceNe, Int.reduceNeg, reduceCtorEq, Int.reduceBEq, Int.reduceBNe, E1_ti, ti3, ti4, ti24, ti26, ti43, ti90, @callV_spec E1 50 sTween rfl, @effV_spec E1 50 sTween rfl, @callV_specT E1 50 sTween rfl, @stepV_spec E1 50 sTween rfl, @effV_spec E1 50 sTween rfl, sTween, callSpec_pure, specP, pureD, pureD.pureLs]
theorem s63_ok : SpecOK Tryd.prog glB 63 sIsNumber := specOK_of E1_ok Tryd.func63 (by kernel_rfl) fun args pre r h hp => by
  unfold sIsNumber at h; split at h <;> cases h; exact ⟨_, _, wkL_refl _, rfl, isNumberR_fn _ ⟩
theorem isDayR_fn (n : Int) : Fn E1 0 77 Tryd.f77 (Tryd.f77.body.getD .skip) [.int .i64 n] (.bool (decide (0 ≤ n) && decide (n ≤ 20000))) := by
  unfold Fn Tryd.f77
  simp only [go_sem, Nat.reduceAdd, Nat.reduceSub, Nat.reduceMul, Nat.reduceEqDiff, Nat.reduceLT, Nat.reduceLeDiff, Nat.reduceBEq, Nat.reduceBNe, Int.reduceToNat, Int.reduceLE, Int.reduceLT, Int.reduceNe, Int.reduceNeg, reduceCtorEq, Int.reduceBEq, Int.reduceBNe, E1_ti, ti3, ti4, ti24, ti26, ti43, ti90, @callV_spec E1 50 sTween rfl, @effV_spec E1 50 sTween rfl, @callV_specT E1 50 sTween rfl, @stepV_spec E1 50 sTween rfl, @effV_spec E1 50 sTween rfl, sTween, callSpec_pure, specP, pureD, pureD.pureLs]
def sisDayR : Spec := fun args => match args with | [.int .i64 n] => some (True, .bool (decide (0 ≤ n) && decide (n ≤ 20000))) | _ => none
theorem s77_ok : SpecOK Tryd.prog glB 77 sisDayR := specOK_of E1_ok Tryd.func77 (by kernel_rfl) fun args pre r h hp => by
  unfold sisDayR at h; split at h <;> cases h; exact ⟨_, _, wkL_refl _, rfl, isDayR_fn _ ⟩
theorem Has_fn (a b n : Int) : Fn E1 0 52 Tryd.f52 (Tryd.f52.body.getD .skip) [.agg [.int .i64 a, .int .i64 b], .int .i64 n] (.bool (decide (a ≤ n) && decide (n ≤ b))) := by
  unfold Fn Tryd.f52
  simp only [go_sem, Nat.reduceAdd, Nat.reduceSub, Nat.reduceMul, Nat.reduceEqDiff, Nat.reduceLT, Nat.reduceLeDiff, Nat.reduceBEq, Nat.reduceBNe, Int.reduceToNat, Int.reduceLE, Int.reduceLT, Int.reduceNe, Int.reduceNeg, reduceCtorEq, Int.reduceBEq, Int.reduceBNe, E1_ti, ti3, ti4, ti24, ti26, ti43, ti90, @callV_spec E1 50 sTween rfl, @effV_spec E1 50 sTween rfl, @callV_specT E1 50 sTween rfl, @stepV_spec E1 50 sTween rfl, @effV_spec E1 50 sTween rfl, sTween, callSpec_pure, specP, pureD, pureD.pureLs]
def sHas : Spec := fun args => match args with | [.agg [.int .i64 a, .int .i64 b], .int .i64 n] => some (True, .bool (decide (a ≤ n) && decide (n ≤ b))) | _ => none
theorem s52_ok : SpecOK Tryd.prog glB 52 sHas := specOK_of E1_ok Tryd.func52 (by kernel_rfl) fun args pre r h hp => by
  unfold sHas at h; split at h <;> cases h; exact ⟨_, _, wkL_refl _, rfl, Has_fn _ _ _ ⟩
theorem fit_fn (s a b p : Int) : Fn E1 0 105 Tryd.f105 (Tryd.f105.body.getD .skip) [.int .i64 s, .int .i64 a, .int .i64 b, .int .i64 p] (.agg [.int .i64 s, .int .i64 a, .int .i64 b, .int .i64 p]) := by
  unfold Fn Tryd.f105
  simp only [go_sem, Nat.reduceAdd, Nat.reduceSub, Nat.reduceMul, Nat.reduceEqDiff, Nat.reduceLT, Nat.reduceLeDiff, Nat.reduceBEq, Nat.reduceBNe, Int.reduceToNat, Int.reduceLE, Int.reduceLT, Int.reduceNe, Int.reduceNeg, reduceCtorEq, Int.reduceBEq, Int.reduceBNe, E1_ti, ti3, ti4, ti24, ti26, ti43, ti90, @callV_spec E1 44 sTo rfl, @effV_spec E1 44 sTo rfl, @callV_specT E1 44 sTo rfl, @stepV_spec E1 44 sTo rfl, @effV_spec E1 44 sTo rfl, sTo, callSpec_pure, specP, pureD, pureD.pureLs]
def sfit : Spec := fun args => match args with | [.int .i64 s, .int .i64 a, .int .i64 b, .int .i64 p] => some (True, .agg [.int .i64 s, .int .i64 a, .int .i64 b, .int .i64 p]) | _ => none
theorem s105_ok : SpecOK Tryd.prog glB 105 sfit := specOK_of E1_ok Tryd.func105 (by kernel_rfl) fun args pre r h hp => by
  unfold sfit at h; split at h <;> cases h; exact ⟨_, _, wkL_refl _, rfl, fit_fn _ _ _ _ ⟩
theorem Common_fn (a b c d : Int) : Fn E1 0 64 Tryd.f64 (Tryd.f64.body.getD .skip) [.agg [.int .i64 a, .int .i64 b], .agg [.int .i64 c, .int .i64 d]] (.agg [.int .i64 (if c > a then c else a), .int .i64 (if d < b then d else b)]) := by
  unfold Fn Tryd.f64
  simp only [go_sem, Nat.reduceAdd, Nat.reduceSub, Nat.reduceMul, Nat.reduceEqDiff, Nat.reduceLT, Nat.reduceLeDiff, Nat.reduceBEq, Nat.reduceBNe, Int.reduceToNat, Int.reduceLE, Int.reduceLT, Int.reduceNe, Int.reduceNeg, reduceCtorEq, Int.reduceBEq, Int.reduceBNe, E1_ti, ti3, ti4, ti24, ti26, ti43, ti90, @callV_spec E1 44 sTo rfl, @effV_spec E1 44 sTo rfl, @callV_specT E1 44 sTo rfl, @stepV_spec E1 44 sTo rfl, @effV_spec E1 44 sTo rfl, sTo, callSpec_pure, specP, pureD, pureD.pureLs]
def sCommon : Spec := fun args => match args with | [.agg [.int .i64 a, .int .i64 b], .agg [.int .i64 c, .int .i64 d]] => some (True, .agg [.int .i64 (if c > a then c else a), .int .i64 (if d < b then d else b)]) | _ => none
theorem s64_ok : SpecOK Tryd.prog glB 64 sCommon := specOK_of E1_ok Tryd.func64 (by kernel_rfl) fun args pre r h hp => by
  unfold sCommon at h; split at h <;> cases h; exact ⟨_, _, wkL_refl _, rfl, Common_fn _ _ _ _ ⟩
end Wb
/- The data; loops over it. -/
namespace Wb
open Go Go.Proofs
set_option linter.unusedSimpArgs false
set_option linter.unusedVariables false
set_option maxRecDepth 20000
set_option maxHeartbeats 4000000
structure Fit where
  size : Int
  lo : Int
  hi : Int
  price : Int
  deriving Inhabited, DecidableEq
structure Entry where
  number : Int
  good : Int
  colours : Int
  sizes : List Fit
  deriving Inhabited, DecidableEq
structure Issue where
  lo : Int
  hi : Int
  held : Int
  entries : List Entry
  deriving Inhabited, DecidableEq
structure Rack where
  goods : Int
  issues : List Issue
  deriving Inhabited, DecidableEq
def encF (f : Fit) : List PV := [.int .i64 f.size, .int .i64 f.lo, .int .i64 f.hi, .int .i64 f.price]
def encE (e : Entry) : List PV := [.int .i64 e.number, .int .i64 e.good, .int .i64 e.colours, .sl (e.sizes.map encF) false]
def encI (i : Issue) : List PV := [.int .i64 i.lo, .int .i64 i.hi, .int .i64 i.held, .sl (i.entries.map encE) false]
theorem getD_map {α : Type} [Inhabited α] (enc : α → List PV) (l : List α) (i : Nat) (z : List PV) (h : decide ((i : Int) < (l.length : Int)) = true) : (l.map enc).getD i z = enc (l.getD i default) := by
  have h : i < l.length := by simpa using h
  simp [List.getD_eq_getElem?_getD, h]
def findI {α : Type} (p : α → Bool) : List α → Nat → Int
  | [], _ => -1
  | a :: l, i => if p a then i else findI p l (i + 1)
theorem findI_drop {α : Type} [Inhabited α] (p : α → Bool) {l : List α} {i : Nat} (h : i < l.length) : findI p (l.drop i) i = if p (l.getD i default) then (i : Int) else findI p (l.drop (i + 1)) (i + 1) := by
  rw [List.drop_eq_getElem_cons h]
  simp [findI, h]
-- f65 at
theorem at_fn (x : Issue) (n : Int) (hl : x.entries.length < 4611686018427387904) : Fn E0 0 65 Tryd.f65 (Tryd.f65.body.getD .skip) [.agg (encI x), .int .i64 n] (.int .i64 (findI (fun e => e.number == n) x.entries 0)) := by
  unfold Fn Tryd.f65
  simp only [go_sem, Nat.reduceAdd, Nat.reduceSub, Nat.reduceMul, Nat.reduceEqDiff, Nat.reduceLT, Nat.reduceLeDiff, Nat.reduceBEq, Nat.reduceBNe, Int.reduceToNat, Int.reduceLE, Int.reduceLT, Int.reduceNe, Int.reduceNeg, reduceCtorEq, Int.reduceBEq, Int.reduceBNe, E0_ti, ti3, ti4, ti62, ti64, encI]
  refine ev_loop (α := Nat) (fun i => [.undef, .int .i64 n, .ref ([], 65000000) 1 0, .undef, .int .i64 0, .int .i64 i] ++ List.replicate 16 .undef) (fun i H => i ≤ x.entries.length ∧ findI (fun e => e.number == n) (x.entries.drop i) i = findI (fun e => e.number == n) x.entries 0 ∧ H (([], 65000000) : Key) = some (.cells (encI x) 1 false)) (fun i => x.entries.length - i) 0 ?_ ⟨Nat.zero_le _, by simp, ?_⟩ ?_
  · simp only [go_sem, Nat.reduceAdd, Nat.reduceSub, Nat.reduceMul, Nat.reduceEqDiff, Nat.reduceLT, Nat.reduceLeDiff, Nat.reduceBEq, Nat.reduceBNe, Int.reduceToNat, Int.reduceLE, Int.reduceLT, Int.reduceNe, Int.reduceNeg, reduceCtorEq, Int.reduceBEq, Int.reduceBNe, fg]
  · simp only [go_sem, Nat.reduceAdd, Nat.reduceSub, Nat.reduceMul, Nat.reduceEqDiff, Nat.reduceLT, Nat.reduceLeDiff, Nat.reduceBEq, Nat.reduceBNe, Int.reduceToNat, Int.reduceLE, Int.reduceLT, Int.reduceNe, Int.reduceNeg, reduceCtorEq, Int.reduceBEq, Int.reduceBNe, encI]
  · intro K i H ⟨hi, hf, hH⟩ hK hE
    simp only [go_sem, Nat.reduceAdd, Nat.reduceSub, Nat.reduceMul, Nat.reduceEqDiff, Nat.reduceLT, Nat.reduceLeDiff, Nat.reduceBEq, Nat.reduceBNe, Int.reduceToNat, Int.reduceLE, Int.reduceLT, Int.reduceNe, Int.reduceNeg, reduceCtorEq, Int.reduceBEq, Int.reduceBNe, E0_ti, ti3, ti4, ti62, ti64, ti67, hH, encI]
    rw [condK_bool]
    refine ⟨fun h => ?_, fun h => ?_⟩
    · simp only [go_sem, Nat.reduceAdd, Nat.reduceSub, Nat.reduceMul, Nat.reduceEqDiff, Nat.reduceLT, Nat.reduceLeDiff, Nat.reduceBEq, Nat.reduceBNe, Int.reduceToNat, Int.reduceLE, Int.reduceLT, Int.reduceNe, Int.reduceNeg, reduceCtorEq, Int.reduceBEq, Int.reduceBNe, E0_ti, ti3, ti4, ti62, ti64, ti67, hH, encI, encE, getD_map _ _ _ _ h, h, condK_bool]
      have h' : i < x.entries.length := by simpa using h
      refine ⟨by simpa using h, fun h2 => ?_, fun h2 => ?_⟩
      · refine hE _ _ _ (by simp) ?_
        simp only [go_sem, Nat.reduceAdd, Nat.reduceSub, Nat.reduceMul, Nat.reduceEqDiff, Nat.reduceLT, Nat.reduceLeDiff, Nat.reduceBEq, Nat.reduceBNe, Int.reduceToNat, Int.reduceLE, Int.reduceLT, Int.reduceNe, Int.reduceNeg, reduceCtorEq, Int.reduceBEq, Int.reduceBNe, E0_ti, ti3, ti4]
        rw [← hf, findI_drop _ h']
        simp only [h2, beq_self_eq_true, if_true]
      · refine hK (i + 1) _ _ ?_ ⟨h', ?_, hH⟩ (by omega)
        · rw [wrap_id (by omega)]
          simp only [go_sem, Nat.reduceAdd, Nat.reduceSub, Nat.reduceMul, Nat.reduceEqDiff, Nat.reduceLT, Nat.reduceLeDiff, Nat.reduceBEq, Nat.reduceBNe, Int.reduceToNat, Int.reduceLE, Int.reduceLT, Int.reduceNe, Int.reduceNeg, reduceCtorEq, Int.reduceBEq, Int.reduceBNe, fg, Int.natCast_add, Int.natCast_one]
        · rw [← hf, findI_drop _ h', h2]; rfl
    · refine hE _ _ _ (by simp) ?_
      simp only [go_sem, Nat.reduceAdd, Nat.reduceSub, Nat.reduceMul, Nat.reduceEqDiff, Nat.reduceLT, Nat.reduceLeDiff, Nat.reduceBEq, Nat.reduceBNe, Int.reduceToNat, Int.reduceLE, Int.reduceLT, Int.reduceNe, Int.reduceNeg, reduceCtorEq, Int.reduceBEq, Int.reduceBNe, E0_ti, ti3, ti4]
      have h' : i = x.entries.length := by have : ¬ ((i : Int) < (x.entries.length : Int)) := by simpa using h
                                           omega
      rw [← hf, h']
      simp [findI]
-- f74 of
theorem of_fn (x : Issue) (n : Int) (hl : x.entries.length < 4611686018427387904) : Fn E0 0 74 Tryd.f74 (Tryd.f74.body.getD .skip) [.agg (encI x), .int .i64 n] (.int .i64 (findI (fun e => e.good == n) x.entries 0)) := by
  unfold Fn Tryd.f74
  simp only [go_sem, Nat.reduceAdd, Nat.reduceSub, Nat.reduceMul, Nat.reduceEqDiff, Nat.reduceLT, Nat.reduceLeDiff, Nat.reduceBEq, Nat.reduceBNe, Int.reduceToNat, Int.reduceLE, Int.reduceLT, Int.reduceNe, Int.reduceNeg, reduceCtorEq, Int.reduceBEq, Int.reduceBNe, E0_ti, ti3, ti4, ti62, ti64, encI]
  refine ev_loop (α := Nat) (fun i => [.undef, .int .i64 n, .ref ([], 74000000) 1 0, .undef, .int .i64 0, .int .i64 i] ++ List.replicate 16 .undef) (fun i H => i ≤ x.entries.length ∧ findI (fun e => e.good == n) (x.entries.drop i) i = findI (fun e => e.good == n) x.entries 0 ∧ H (([], 74000000) : Key) = some (.cells (encI x) 1 false)) (fun i => x.entries.length - i) 0 ?_ ⟨Nat.zero_le _, by simp, ?_⟩ ?_
  · simp only [go_sem, Nat.reduceAdd, Nat.reduceSub, Nat.reduceMul, Nat.reduceEqDiff, Nat.reduceLT, Nat.reduceLeDiff, Nat.reduceBEq, Nat.reduceBNe, Int.reduceToNat, Int.reduceLE, Int.reduceLT, Int.reduceNe, Int.reduceNeg, reduceCtorEq, Int.reduceBEq, Int.reduceBNe, fg]
  · simp only [go_sem, Nat.reduceAdd, Nat.reduceSub, Nat.reduceMul, Nat.reduceEqDiff, Nat.reduceLT, Nat.reduceLeDiff, Nat.reduceBEq, Nat.reduceBNe, Int.reduceToNat, Int.reduceLE, Int.reduceLT, Int.reduceNe, Int.reduceNeg, reduceCtorEq, Int.reduceBEq, Int.reduceBNe, encI]
  · intro K i H ⟨hi, hf, hH⟩ hK hE
    simp only [go_sem, Nat.reduceAdd, Nat.reduceSub, Nat.reduceMul, Nat.reduceEqDiff, Nat.reduceLT, Nat.reduceLeDiff, Nat.reduceBEq, Nat.reduceBNe, Int.reduceToNat, Int.reduceLE, Int.reduceLT, Int.reduceNe, Int.reduceNeg, reduceCtorEq, Int.reduceBEq, Int.reduceBNe, E0_ti, ti3, ti4, ti62, ti64, ti67, hH, encI]
    rw [condK_bool]
    refine ⟨fun h => ?_, fun h => ?_⟩
    · simp only [go_sem, Nat.reduceAdd, Nat.reduceSub, Nat.reduceMul, Nat.reduceEqDiff, Nat.reduceLT, Nat.reduceLeDiff, Nat.reduceBEq, Nat.reduceBNe, Int.reduceToNat, Int.reduceLE, Int.reduceLT, Int.reduceNe, Int.reduceNeg, reduceCtorEq, Int.reduceBEq, Int.reduceBNe, E0_ti, ti3, ti4, ti62, ti64, ti67, hH, encI, encE, getD_map _ _ _ _ h, h, condK_bool]
      have h' : i < x.entries.length := by simpa using h
      refine ⟨by simpa using h, fun h2 => ?_, fun h2 => ?_⟩
      · refine hE _ _ _ (by simp) ?_
        simp only [go_sem, Nat.reduceAdd, Nat.reduceSub, Nat.reduceMul, Nat.reduceEqDiff, Nat.reduceLT, Nat.reduceLeDiff, Nat.reduceBEq, Nat.reduceBNe, Int.reduceToNat, Int.reduceLE, Int.reduceLT, Int.reduceNe, Int.reduceNeg, reduceCtorEq, Int.reduceBEq, Int.reduceBNe, E0_ti, ti3, ti4]
        rw [← hf, findI_drop _ h']
        simp only [h2, beq_self_eq_true, if_true]
      · refine hK (i + 1) _ _ ?_ ⟨h', ?_, hH⟩ (by omega)
        · rw [wrap_id (by omega)]
          simp only [go_sem, Nat.reduceAdd, Nat.reduceSub, Nat.reduceMul, Nat.reduceEqDiff, Nat.reduceLT, Nat.reduceLeDiff, Nat.reduceBEq, Nat.reduceBNe, Int.reduceToNat, Int.reduceLE, Int.reduceLT, Int.reduceNe, Int.reduceNeg, reduceCtorEq, Int.reduceBEq, Int.reduceBNe, fg, Int.natCast_add, Int.natCast_one]
        · rw [← hf, findI_drop _ h', h2]; rfl
    · refine hE _ _ _ (by simp) ?_
      simp only [go_sem, Nat.reduceAdd, Nat.reduceSub, Nat.reduceMul, Nat.reduceEqDiff, Nat.reduceLT, Nat.reduceLeDiff, Nat.reduceBEq, Nat.reduceBNe, Int.reduceToNat, Int.reduceLE, Int.reduceLT, Int.reduceNe, Int.reduceNeg, reduceCtorEq, Int.reduceBEq, Int.reduceBNe, E0_ti, ti3, ti4]
      have h' : i = x.entries.length := by have : ¬ ((i : Int) < (x.entries.length : Int)) := by simpa using h
                                           omega
      rw [← hf, h']
      simp [findI]
end Wb
/- Lists of whole numbers. -/
namespace Wb
open Go Go.Proofs
set_option linter.unusedSimpArgs false
set_option linter.unusedVariables false
set_option maxRecDepth 20000
set_option maxHeartbeats 4000000
theorem il_get (l : List Int) (i : Nat) : (il l).getD i [PV.int .i64 0] = [PV.int .i64 (l.getD i 0)] := il_getD l i
theorem findI_dropZ (p : Int → Bool) {l : List Int} {i : Nat} (h : i < l.length) : findI p (l.drop i) i = if p (l.getD i 0) then (i : Int) else findI p (l.drop (i + 1)) (i + 1) := by
  rw [List.drop_eq_getElem_cons h]
  simp [findI, h]
-- f47 Place
theorem Place_fn (l : List Int) (ex : Bool) (n : Int) (hl : l.length < 4611686018427387904) : Fn E0 0 47 Tryd.f47 (Tryd.f47.body.getD .skip) [.sl (il l) ex, .int .i64 n] (.int .i64 (findI (fun a => a == n) l 0)) := by
  unfold Fn Tryd.f47
  simp only [go_sem, Nat.reduceAdd, Nat.reduceSub, Nat.reduceMul, Nat.reduceEqDiff, Nat.reduceLT, Nat.reduceLeDiff, Nat.reduceBEq, Nat.reduceBNe, Int.reduceToNat, Int.reduceLE, Int.reduceLT, Int.reduceNe, Int.reduceNeg, reduceCtorEq, Int.reduceBEq, Int.reduceBNe, E0_ti, ti3, ti4, ti36]
  refine ev_loop (α := Nat) (fun i => [.sl (il l) ex, .int .i64 n, .undef, .undef, .int .i64 0, .int .i64 i] ++ List.replicate 13 .undef) (fun i H => i ≤ l.length ∧ findI (fun a => a == n) (l.drop i) i = findI (fun a => a == n) l 0) (fun i => l.length - i) 0 ?_ ⟨Nat.zero_le _, by simp⟩ ?_
  · simp only [go_sem, Nat.reduceAdd, Nat.reduceSub, Nat.reduceMul, Nat.reduceEqDiff, Nat.reduceLT, Nat.reduceLeDiff, Nat.reduceBEq, Nat.reduceBNe, Int.reduceToNat, Int.reduceLE, Int.reduceLT, Int.reduceNe, Int.reduceNeg, reduceCtorEq, Int.reduceBEq, Int.reduceBNe, fg]
  · intro K i H ⟨hi, hf⟩ hK hE
    simp only [go_sem, Nat.reduceAdd, Nat.reduceSub, Nat.reduceMul, Nat.reduceEqDiff, Nat.reduceLT, Nat.reduceLeDiff, Nat.reduceBEq, Nat.reduceBNe, Int.reduceToNat, Int.reduceLE, Int.reduceLT, Int.reduceNe, Int.reduceNeg, reduceCtorEq, Int.reduceBEq, Int.reduceBNe, E0_ti, ti3, ti4, ti36, il_length, il_get]
    rw [condK_bool]
    refine ⟨fun h => ?_, fun h => ?_⟩
    · have h' : i < l.length := by simpa using h
      simp only [go_sem, Nat.reduceAdd, Nat.reduceSub, Nat.reduceMul, Nat.reduceEqDiff, Nat.reduceLT, Nat.reduceLeDiff, Nat.reduceBEq, Nat.reduceBNe, Int.reduceToNat, Int.reduceLE, Int.reduceLT, Int.reduceNe, Int.reduceNeg, reduceCtorEq, Int.reduceBEq, Int.reduceBNe, E0_ti, ti3, ti4, ti36, il_length, il_get, condK_bool]
      refine ⟨by simpa using h, fun h2 => ?_, fun h2 => ?_⟩
      · refine hE _ _ _ (by simp) ?_
        simp only [go_sem, Nat.reduceAdd, Nat.reduceSub, Nat.reduceMul, Nat.reduceEqDiff, Nat.reduceLT, Nat.reduceLeDiff, Nat.reduceBEq, Nat.reduceBNe, Int.reduceToNat, Int.reduceLE, Int.reduceLT, Int.reduceNe, Int.reduceNeg, reduceCtorEq, Int.reduceBEq, Int.reduceBNe, E0_ti, ti3, ti4]
        rw [← hf, findI_dropZ _ h']
        simp only [h2, beq_self_eq_true, if_true]
      · refine hK (i + 1) _ _ ?_ ⟨h', ?_⟩ (by omega)
        · rw [wrap_id (by omega)]
          simp only [go_sem, Nat.reduceAdd, Nat.reduceSub, Nat.reduceMul, Nat.reduceEqDiff, Nat.reduceLT, Nat.reduceLeDiff, Nat.reduceBEq, Nat.reduceBNe, Int.reduceToNat, Int.reduceLE, Int.reduceLT, Int.reduceNe, Int.reduceNeg, reduceCtorEq, Int.reduceBEq, Int.reduceBNe, fg, Int.natCast_add, Int.natCast_one]
        · rw [← hf, findI_dropZ _ h', h2]; rfl
    · refine hE _ _ _ (by simp) ?_
      simp only [go_sem, Nat.reduceAdd, Nat.reduceSub, Nat.reduceMul, Nat.reduceEqDiff, Nat.reduceLT, Nat.reduceLeDiff, Nat.reduceBEq, Nat.reduceBNe, Int.reduceToNat, Int.reduceLE, Int.reduceLT, Int.reduceNe, Int.reduceNeg, reduceCtorEq, Int.reduceBEq, Int.reduceBNe, E0_ti, ti3, ti4]
      have h' : i = l.length := by have : ¬ ((i : Int) < (l.length : Int)) := by simpa using h
                                   omega
      rw [← hf, h']
      simp [findI]
-- f26 Match
theorem take_succ_beq {a b : List Int} {i : Nat} (ha : i < a.length) (hb : i < b.length) (h : a.take i = b.take i) : (a.take (i + 1) == b.take (i + 1)) = (a.getD i 0 == b.getD i 0) := by
  rw [List.take_succ_eq_append_getElem ha, List.take_succ_eq_append_getElem hb, h]
  have e1 : a.getD i 0 = a[i] := by simp [ha]
  have e2 : b.getD i 0 = b[i] := by simp [hb]
  rw [e1, e2, Bool.eq_iff_iff]
  simp only [beq_iff_eq, List.append_cancel_left_eq, List.cons.injEq, and_true]
theorem Match_fn (a b : List Int) (ex ex' : Bool) (hl : a.length < 4611686018427387904) : Fn E0 0 26 Tryd.f26 (Tryd.f26.body.getD .skip) [.sl (il a) ex, .sl (il b) ex'] (.bool (a == b)) := by
  unfold Fn Tryd.f26
  simp only [go_sem, Nat.reduceAdd, Nat.reduceSub, Nat.reduceMul, Nat.reduceEqDiff, Nat.reduceLT, Nat.reduceLeDiff, Nat.reduceBEq, Nat.reduceBNe, Int.reduceToNat, Int.reduceLE, Int.reduceLT, Int.reduceNe, Int.reduceNeg, reduceCtorEq, Int.reduceBEq, Int.reduceBNe, E0_ti, ti3, ti4, ti36, il_length]
  refine ev_loop (α := Nat × Bool) (fun x => [.sl (il a) ex, .sl (il b) ex', .undef, .undef, .bool false, .bool x.2, .int .i64 x.1] ++ List.replicate 24 .undef) (fun x H => x.1 ≤ a.length ∧ (x.2 = (decide (a.length = b.length) && (a.take x.1 == b.take x.1)))) (fun x => a.length - x.1) (0, decide (a.length = b.length)) ?_ ⟨Nat.zero_le _, by simp⟩ ?_
  · simp only [go_sem, Nat.reduceAdd, Nat.reduceSub, Nat.reduceMul, Nat.reduceEqDiff, Nat.reduceLT, Nat.reduceLeDiff, Nat.reduceBEq, Nat.reduceBNe, Int.reduceToNat, Int.reduceLE, Int.reduceLT, Int.reduceNe, Int.reduceNeg, reduceCtorEq, Int.reduceBEq, Int.reduceBNe, fg]
    rw [Bool.eq_iff_iff]; simp; omega
  · intro K x H ⟨hi, hf⟩ hK hE
    obtain ⟨i, ok⟩ := x
    simp only at hi hf
    simp only [go_sem, Nat.reduceAdd, Nat.reduceSub, Nat.reduceMul, Nat.reduceEqDiff, Nat.reduceLT, Nat.reduceLeDiff, Nat.reduceBEq, Nat.reduceBNe, Int.reduceToNat, Int.reduceLE, Int.reduceLT, Int.reduceNe, Int.reduceNeg, reduceCtorEq, Int.reduceBEq, Int.reduceBNe, E0_ti, ti3, ti4, ti36, il_length, il_get]
    rw [condK_bool]
    refine ⟨fun h => ?_, fun h => ?_⟩
    · simp only [go_sem, Nat.reduceAdd, Nat.reduceSub, Nat.reduceMul, Nat.reduceEqDiff, Nat.reduceLT, Nat.reduceLeDiff, Nat.reduceBEq, Nat.reduceBNe, Int.reduceToNat, Int.reduceLE, Int.reduceLT, Int.reduceNe, Int.reduceNeg, reduceCtorEq, Int.reduceBEq, Int.reduceBNe, E0_ti, ti3, ti4, ti36, il_length, il_get]
      simp only [Bool.and_eq_true, decide_eq_true_eq] at h
      obtain ⟨h1, h2⟩ := h
      rw [h1] at hf
      have hf := hf.symm
      simp only [Bool.and_eq_true, decide_eq_true_eq, beq_iff_eq] at hf
      have h3 : i < a.length := by omega
      refine ⟨h2, by omega, hK (i + 1, a.getD i 0 == b.getD i 0) _ _ ?_ ⟨h3, ?_⟩ (by simp only; omega)⟩
      · rw [wrap_id (by omega)]
        simp only [go_sem, Nat.reduceAdd, Nat.reduceSub, Nat.reduceMul, Nat.reduceEqDiff, Nat.reduceLT, Nat.reduceLeDiff, Nat.reduceBEq, Nat.reduceBNe, Int.reduceToNat, Int.reduceLE, Int.reduceLT, Int.reduceNe, Int.reduceNeg, reduceCtorEq, Int.reduceBEq, Int.reduceBNe, fg, Int.natCast_add, Int.natCast_one]
      · rw [take_succ_beq h3 (by omega) hf.2, hf.1]; simp
    · refine hE _ _ _ (by simp) ?_
      simp only [go_sem, Nat.reduceAdd, Nat.reduceSub, Nat.reduceMul, Nat.reduceEqDiff, Nat.reduceLT, Nat.reduceLeDiff, Nat.reduceBEq, Nat.reduceBNe, Int.reduceToNat, Int.reduceLE, Int.reduceLT, Int.reduceNe, Int.reduceNeg, reduceCtorEq, Int.reduceBEq, Int.reduceBNe, E0_ti, ti3, ti4]
      rw [hf]
      simp only [Bool.and_eq_false_iff, decide_eq_false_iff_not] at h
      rcases h with h | h
      · rw [h] at hf
        rw [← hf]
        symm
        rw [Bool.eq_false_iff]
        intro h'
        rw [beq_iff_eq] at h'
        subst h'
        simp at hf
      · have : i = a.length := by omega
        subst this
        rw [Bool.eq_iff_iff]
        simp only [Bool.and_eq_true, decide_eq_true_eq, beq_iff_eq, List.take_length]
        constructor
        · rintro ⟨h1, h2⟩
          rw [h2, h1, List.take_length]
        · rintro rfl
          simp
end Wb
/- Entries. -/
namespace Wb
open Go Go.Proofs
set_option linter.unusedSimpArgs false
set_option linter.unusedVariables false
set_option maxRecDepth 20000
set_option maxHeartbeats 4000000
def fitOk (last : Int) (f : Fit) : Bool :=
  decide (last + 1 ≤ f.size) && decide (f.size ≤ 99) && (decide (1 ≤ f.lo) && decide (f.lo ≤ f.hi) && decide (f.hi ≤ 400)) && (decide (1 ≤ f.price) && decide (f.price ≤ 100000))
def fitsOk : Int → List Fit → Bool
  | _, [] => true
  | last, f :: fs => fitOk last f && fitsOk f.size fs
def entryOk (e : Entry) : Bool :=
  decide (1 ≤ e.number) && decide (e.number ≤ 9999) && (decide (1 ≤ e.colours) && decide (e.colours ≤ 15)) && (decide (1 ≤ (e.sizes.length : Int)) && decide ((e.sizes.length : Int) ≤ 8)) && fitsOk 0 e.sizes
theorem fitsOk_drop {l : List Fit} {i : Nat} (h : i < l.length) (last : Int) : fitsOk last (l.drop i) = (fitOk last (l.getD i default) && fitsOk (l.getD i default).size (l.drop (i + 1))) := by
  rw [List.drop_eq_getElem_cons h]
  simp [fitsOk, h]
theorem entry_fn (e : Entry) (hl : e.sizes.length < 4611686018427387904) : Fn E1 0 70 Tryd.f70 (Tryd.f70.body.getD .skip) [.agg (encE e)] (.bool (entryOk e)) := by
  unfold Fn Tryd.f70
  simp only [go_sem, Nat.reduceAdd, Nat.reduceSub, Nat.reduceMul, Nat.reduceEqDiff, Nat.reduceLT, Nat.reduceLeDiff, Nat.reduceBEq, Nat.reduceBNe, Int.reduceToNat, Int.reduceLE, Int.reduceLT, Int.reduceNe, Int.reduceNeg, reduceCtorEq, Int.reduceBEq, Int.reduceBNe, E1_ti, ti3, ti4, ti26, ti65, ti67, ti90, encE, @callV_spec E1 50 sTween rfl, @effV_spec E1 50 sTween rfl, @callV_spec E1 69 sProper rfl, @effV_spec E1 69 sProper rfl, callSpec_pure, specP, pureD, pureD.pureLs, sTween, sProper]
  refine ev_loop (α := Nat × Int × Bool) (fun x => [.undef, .ref ([], 70000000) 1 0, .bool false, .bool x.2.2, .int .i64 x.2.1, .int .i64 x.1] ++ List.replicate 48 .undef)
    (fun x H => x.1 ≤ e.sizes.length ∧ H (([], 70000000) : Key) = some (.cells (encE e) 1 false) ∧ entryOk e = (x.2.2 && fitsOk x.2.1 (e.sizes.drop x.1)) ∧ (x.2.2 = true → 0 ≤ x.2.1 ∧ x.2.1 ≤ 99))
    (fun x => e.sizes.length - x.1) (0, 0, decide (1 ≤ e.number) && decide (e.number ≤ 9999) && (decide (1 ≤ e.colours) && decide (e.colours ≤ 15)) && (decide (1 ≤ (e.sizes.length : Int)) && decide ((e.sizes.length : Int) ≤ 8))) ?_ ⟨Nat.zero_le _, ?_, ?_, fun _ => by simp⟩ ?_
  · simp only [go_sem, Nat.reduceAdd, Nat.reduceSub, Nat.reduceMul, Nat.reduceEqDiff, Nat.reduceLT, Nat.reduceLeDiff, Nat.reduceBEq, Nat.reduceBNe, Int.reduceToNat, Int.reduceLE, Int.reduceLT, Int.reduceNe, Int.reduceNeg, reduceCtorEq, Int.reduceBEq, Int.reduceBNe, fg]
  · simp only [go_sem, Nat.reduceAdd, Nat.reduceSub, Nat.reduceMul, Nat.reduceEqDiff, Nat.reduceLT, Nat.reduceLeDiff, Nat.reduceBEq, Nat.reduceBNe, Int.reduceToNat, Int.reduceLE, Int.reduceLT, Int.reduceNe, Int.reduceNeg, reduceCtorEq, Int.reduceBEq, Int.reduceBNe, encE]
  · simp [entryOk]
  · intro K x H ⟨hi, hH, hf, hb⟩ hK hE
    obtain ⟨i, last, ok⟩ := x
    simp only at hi hf hb
    simp only [go_sem, Nat.reduceAdd, Nat.reduceSub, Nat.reduceMul, Nat.reduceEqDiff, Nat.reduceLT, Nat.reduceLeDiff, Nat.reduceBEq, Nat.reduceBNe, Int.reduceToNat, Int.reduceLE, Int.reduceLT, Int.reduceNe, Int.reduceNeg, reduceCtorEq, Int.reduceBEq, Int.reduceBNe, E1_ti, ti3, ti4, ti26, ti65, ti67, ti90, @callV_spec E1 50 sTween rfl, @effV_spec E1 50 sTween rfl, @callV_spec E1 69 sProper rfl, @effV_spec E1 69 sProper rfl, callSpec_pure, specP, pureD, pureD.pureLs, sTween, sProper, hH, encE]
    rw [condK_bool]
    refine ⟨fun h => ?_, fun h => ?_⟩
    · have h0 := h
      simp only [Bool.and_eq_true, decide_eq_true_eq] at h0
      obtain ⟨h1, h2⟩ := h0
      have hg : decide ((i : Int) < (e.sizes.length : Int)) = true := by simpa using h2
      have h3 : i < e.sizes.length := by omega
      simp only [go_sem, Nat.reduceAdd, Nat.reduceSub, Nat.reduceMul, Nat.reduceEqDiff, Nat.reduceLT, Nat.reduceLeDiff, Nat.reduceBEq, Nat.reduceBNe, Int.reduceToNat, Int.reduceLE, Int.reduceLT, Int.reduceNe, Int.reduceNeg, reduceCtorEq, Int.reduceBEq, Int.reduceBNe, E1_ti, ti3, ti4, ti26, ti65, ti67, ti90, @callV_spec E1 50 sTween rfl, @effV_spec E1 50 sTween rfl, @callV_spec E1 69 sProper rfl, @effV_spec E1 69 sProper rfl, callSpec_pure, specP, pureD, pureD.pureLs, sTween, sProper, hH, encE, encF, getD_map _ _ _ _ hg]
      have hb := hb h1
      have w1 : IntKind.i64.wrap (last + 1) = last + 1 := wrap_id (by omega)
      have w2 : IntKind.i64.wrap ((i : Int) + 1) = (i : Int) + 1 := wrap_id (by omega)
      refine ⟨h2, hK (i + 1, (e.sizes.getD i default).size, fitOk last (e.sizes.getD i default)) _ _ ?_ ⟨h3, ?_, ?_, ?_⟩ (by simp only; omega)⟩
      · simp only [go_sem, Nat.reduceAdd, Nat.reduceSub, Nat.reduceMul, Nat.reduceEqDiff, Nat.reduceLT, Nat.reduceLeDiff, Nat.reduceBEq, Nat.reduceBNe, Int.reduceToNat, Int.reduceLE, Int.reduceLT, Int.reduceNe, Int.reduceNeg, reduceCtorEq, Int.reduceBEq, Int.reduceBNe, fg, w1, w2, fitOk, Int.natCast_add, Int.natCast_one]
      · simp only [go_sem, Nat.reduceAdd, Nat.reduceSub, Nat.reduceMul, Nat.reduceEqDiff, Nat.reduceLT, Nat.reduceLeDiff, Nat.reduceBEq, Nat.reduceBNe, Int.reduceToNat, Int.reduceLE, Int.reduceLT, Int.reduceNe, Int.reduceNeg, reduceCtorEq, Int.reduceBEq, Int.reduceBNe, hH, encE]
      · rw [hf, h1, Bool.true_and, fitsOk_drop h3]
      · intro h4
        simp only [fitOk, Bool.and_eq_true, decide_eq_true_eq] at h4 ⊢
        omega
    · refine hE _ _ _ (by simp) ?_
      simp only [go_sem, Nat.reduceAdd, Nat.reduceSub, Nat.reduceMul, Nat.reduceEqDiff, Nat.reduceLT, Nat.reduceLeDiff, Nat.reduceBEq, Nat.reduceBNe, Int.reduceToNat, Int.reduceLE, Int.reduceLT, Int.reduceNe, Int.reduceNeg, reduceCtorEq, Int.reduceBEq, Int.reduceBNe, E1_ti, ti3, ti4]
      rw [hf]
      cases ok with
      | false => rfl
      | true =>
        have : i = e.sizes.length := by
          have : ¬ ((i : Int) < (e.sizes.length : Int)) := by simpa using h
          omega
        rw [this]
        simp [fitsOk]
-- f68 isEntry
def isEntryB (goods : Int) (e : Entry) : Bool :=
  decide (1 ≤ e.number) && decide (e.number ≤ 9999) && (decide (0 ≤ e.good) && decide (e.good ≤ goods - 1)) && (decide (1 ≤ e.colours) && decide (e.colours ≤ 15)) && (decide (1 ≤ (e.sizes.length : Int)) && decide ((e.sizes.length : Int) ≤ 8))
def isEntryOk (goods : Int) (e : Entry) : Bool := isEntryB goods e && fitsOk 0 e.sizes
theorem isEntry_fn (goods : Int) (rows : List (List PV)) (ex : Bool) (e : Entry) (hl : e.sizes.length < 4611686018427387904) (hgo : -9223372036854775807 ≤ goods ∧ goods ≤ 9223372036854775807) :
    Fn E1 0 68 Tryd.f68 (Tryd.f68.body.getD .skip) [.agg [.int .i64 goods, .sl rows ex], .agg (encE e)] (.bool (isEntryOk goods e)) := by
  have w0 : IntKind.i64.wrap (goods - 1) = goods - 1 := wrap_id (by omega)
  unfold Fn Tryd.f68
  simp only [go_sem, Nat.reduceAdd, Nat.reduceSub, Nat.reduceMul, Nat.reduceEqDiff, Nat.reduceLT, Nat.reduceLeDiff, Nat.reduceBEq, Nat.reduceBNe, Int.reduceToNat, Int.reduceLE, Int.reduceLT, Int.reduceNe, Int.reduceNeg, reduceCtorEq, Int.reduceBEq, Int.reduceBNe, E1_ti, ti3, ti4, ti24, ti26, ti65, ti67, ti90, @callV_spec E1 66 sTween rfl, @effV_spec E1 66 sTween rfl, @callV_spec E1 67 sProper rfl, @effV_spec E1 67 sProper rfl, callSpec_pure, specP, pureD, pureD.pureLs, sTween, sProper, encE, w0]
  refine ev_loop (α := Nat × Int × Bool) (fun x => [.undef, .undef, .undef, .ref ([], 68000001) 1 0, .bool false, .bool x.2.2, .int .i64 x.2.1] ++ List.replicate 25 .undef ++ [.sl (e.sizes.map encF) false, .int .i64 e.sizes.length, .int .i64 x.1] ++ List.replicate 25 .undef)
    (fun x H => x.1 ≤ e.sizes.length ∧ isEntryOk goods e = (x.2.2 && fitsOk x.2.1 (e.sizes.drop x.1)) ∧ (x.2.2 = true → 0 ≤ x.2.1 ∧ x.2.1 ≤ 99))
    (fun x => e.sizes.length - x.1) (0, 0, isEntryB goods e) ?_ ⟨Nat.zero_le _, ?_, fun _ => by simp⟩ ?_
  · simp only [go_sem, Nat.reduceAdd, Nat.reduceSub, Nat.reduceMul, Nat.reduceEqDiff, Nat.reduceLT, Nat.reduceLeDiff, Nat.reduceBEq, Nat.reduceBNe, Int.reduceToNat, Int.reduceLE, Int.reduceLT, Int.reduceNe, Int.reduceNeg, reduceCtorEq, Int.reduceBEq, Int.reduceBNe, fg, isEntryB]
  · simp [isEntryOk]
  · intro K x H ⟨hi, hf, hb⟩ hK hE
    obtain ⟨i, last, ok⟩ := x
    simp only at hi hf hb
    simp only [go_sem, Nat.reduceAdd, Nat.reduceSub, Nat.reduceMul, Nat.reduceEqDiff, Nat.reduceLT, Nat.reduceLeDiff, Nat.reduceBEq, Nat.reduceBNe, Int.reduceToNat, Int.reduceLE, Int.reduceLT, Int.reduceNe, Int.reduceNeg, reduceCtorEq, Int.reduceBEq, Int.reduceBNe, E1_ti, ti3, ti4, ti24, ti26, ti65, ti67, ti90, @callV_spec E1 66 sTween rfl, @effV_spec E1 66 sTween rfl, @callV_spec E1 67 sProper rfl, @effV_spec E1 67 sProper rfl, callSpec_pure, specP, pureD, pureD.pureLs, sTween, sProper]
    rw [condK_bool]
    refine ⟨fun hg => ?_, fun h => ?_⟩
    · have h2 : (i : Int) < (e.sizes.length : Int) := by simpa using hg
      have h3 : i < e.sizes.length := by omega
      have w2 : IntKind.i64.wrap ((i : Int) + 1) = (i : Int) + 1 := wrap_id (by omega)
      simp only [go_sem, Nat.reduceAdd, Nat.reduceSub, Nat.reduceMul, Nat.reduceEqDiff, Nat.reduceLT, Nat.reduceLeDiff, Nat.reduceBEq, Nat.reduceBNe, Int.reduceToNat, Int.reduceLE, Int.reduceLT, Int.reduceNe, Int.reduceNeg, reduceCtorEq, Int.reduceBEq, Int.reduceBNe, E1_ti, ti3, ti4, ti24, ti26, ti65, ti67, ti90, @callV_spec E1 66 sTween rfl, @effV_spec E1 66 sTween rfl, @callV_spec E1 67 sProper rfl, @effV_spec E1 67 sProper rfl, callSpec_pure, specP, pureD, pureD.pureLs, sTween, sProper, encF, getD_map _ _ _ _ hg]
      refine ⟨h2, hK (i + 1, (e.sizes.getD i default).size, ok && fitOk last (e.sizes.getD i default)) _ _ ?_ ⟨h3, ?_, ?_⟩ (by simp only; omega)⟩
      · cases ok with
        | false => simp only [go_sem, Nat.reduceAdd, Nat.reduceSub, Nat.reduceMul, Nat.reduceEqDiff, Nat.reduceLT, Nat.reduceLeDiff, Nat.reduceBEq, Nat.reduceBNe, Int.reduceToNat, Int.reduceLE, Int.reduceLT, Int.reduceNe, Int.reduceNeg, reduceCtorEq, Int.reduceBEq, Int.reduceBNe, fg, w2, Int.natCast_add, Int.natCast_one]
        | true =>
          have hb := hb rfl
          have w1 : IntKind.i64.wrap (last + 1) = last + 1 := wrap_id (by omega)
          simp only [go_sem, Nat.reduceAdd, Nat.reduceSub, Nat.reduceMul, Nat.reduceEqDiff, Nat.reduceLT, Nat.reduceLeDiff, Nat.reduceBEq, Nat.reduceBNe, Int.reduceToNat, Int.reduceLE, Int.reduceLT, Int.reduceNe, Int.reduceNeg, reduceCtorEq, Int.reduceBEq, Int.reduceBNe, fg, w1, w2, fitOk, Int.natCast_add, Int.natCast_one]
      · rw [hf, fitsOk_drop h3, Bool.and_assoc]
      · intro h4
        simp only [fitOk, Bool.and_eq_true, decide_eq_true_eq] at h4 ⊢
        have hb := hb h4.1
        omega
    · refine hE _ _ _ (by simp) ?_
      simp only [go_sem, Nat.reduceAdd, Nat.reduceSub, Nat.reduceMul, Nat.reduceEqDiff, Nat.reduceLT, Nat.reduceLeDiff, Nat.reduceBEq, Nat.reduceBNe, Int.reduceToNat, Int.reduceLE, Int.reduceLT, Int.reduceNe, Int.reduceNeg, reduceCtorEq, Int.reduceBEq, Int.reduceBNe, E1_ti, ti3, ti4]
      rw [hf]
      have : i = e.sizes.length := by
        have : ¬ ((i : Int) < (e.sizes.length : Int)) := by simpa using h
        omega
      rw [this]
      simp [fitsOk]
end Wb
/- The data read back; specifications of what is done so far. -/
namespace Wb
open Go Go.Proofs
set_option linter.unusedSimpArgs false
set_option linter.unusedVariables false
set_option maxHeartbeats 4000000
def dL {α : Type} (f : List PV → Option α) : List (List PV) → Option (List α)
  | [] => some []
  | r :: rs => match f r, dL f rs with
    | some a, some bs => some (a :: bs)
    | _, _ => none
theorem dL_map {α : Type} {f : List PV → Option α} {enc : α → List PV} (h : ∀ a, f (enc a) = some a) : ∀ l : List α, dL f (l.map enc) = some l
  | [] => rfl
  | a :: l => by simp [dL, h, dL_map h l]
theorem dL_wk {α : Type} {f : List PV → Option α} {enc : α → List PV} (h : ∀ r a, f r = some a → wk.wkL r (enc a)) : ∀ {rows : List (List PV)} {l : List α}, dL f rows = some l → wk.wkR rows (l.map enc)
  | [], l, e => by simp [dL] at e; subst e; trivial
  | r :: rs, l, e => by
    simp only [dL] at e
    split at e
    · rename_i a bs e1 e2
      cases e
      exact ⟨h r a e1, dL_wk h e2⟩
    · cases e
def dZ : List PV → Option Int
  | [.int .i64 n] => some n
  | _ => none
theorem dZ_il (l : List Int) : dL dZ (il l) = some l := dL_map (α := Int) (f := dZ) (enc := fun a => [PV.int .i64 a]) (fun a => rfl) l
theorem dZ_wk {rows : List (List PV)} {l : List Int} (h : dL dZ rows = some l) : wk.wkR rows (il l) := dL_wk (enc := fun a => [PV.int .i64 a]) (fun r a e => by
  unfold dZ at e; split at e <;> cases e; exact wkL_refl _) h
def dF : List PV → Option Fit
  | [.int .i64 a, .int .i64 b, .int .i64 c, .int .i64 d] => some ⟨a, b, c, d⟩
  | _ => none
theorem dF_wk (r : List PV) (f : Fit) (h : dF r = some f) : wk.wkL r (encF f) := by
  unfold dF at h; split at h <;> cases h; exact wkL_refl _
theorem dF_map (l : List Fit) : dL dF (l.map encF) = some l := dL_map (α := Fit) (f := dF) (enc := encF) (fun a => rfl) l
def dE : List PV → Option Entry
  | [.int .i64 a, .int .i64 b, .int .i64 c, .sl rows _] => (dL dF rows).map fun l => ⟨a, b, c, l⟩
  | _ => none
theorem dE_enc (e : Entry) : dE (encE e) = some e := by simp [dE, encE, dF_map]
theorem dE_wk (r : List PV) (e : Entry) (h : dE r = some e) : wk.wkL r (encE e) := by
  unfold dE at h
  split at h
  · simp only [Option.map_eq_some_iff] at h
    obtain ⟨l, h1, rfl⟩ := h
    exact ⟨rfl, rfl, rfl, ⟨dL_wk dF_wk h1, by simp⟩, trivial⟩
  · cases h
theorem dE_map (l : List Entry) : dL dE (l.map encE) = some l := dL_map dE_enc l
def dI : List PV → Option Issue
  | [.int .i64 a, .int .i64 b, .int .i64 c, .sl rows _] => (dL dE rows).map fun l => ⟨a, b, c, l⟩
  | _ => none
theorem dI_enc (e : Issue) : dI (encI e) = some e := by simp [dI, encI, dE_map]
theorem dI_wk (r : List PV) (e : Issue) (h : dI r = some e) : wk.wkL r (encI e) := by
  unfold dI at h
  split at h
  · simp only [Option.map_eq_some_iff] at h
    obtain ⟨l, h1, rfl⟩ := h
    exact ⟨rfl, rfl, rfl, ⟨dL_wk dE_wk h1, by simp⟩, trivial⟩
  · cases h
theorem dI_map (l : List Issue) : dL dI (l.map encI) = some l := dL_map dI_enc l
def encR (r : Rack) : List PV := [.int .i64 r.goods, .sl (r.issues.map encI) false]
def dR : List PV → Option Rack
  | [.int .i64 g, .sl rows _] => (dL dI rows).map fun l => ⟨g, l⟩
  | _ => none
theorem dR_enc (r : Rack) : dR (encR r) = some r := by simp [dR, encR, dI_map]
theorem dR_wk (l : List PV) (r : Rack) (h : dR l = some r) : wk.wkL l (encR r) := by
  unfold dR at h
  split at h
  · simp only [Option.map_eq_some_iff] at h
    obtain ⟨l, h1, rfl⟩ := h
    exact ⟨rfl, ⟨dL_wk dI_wk h1, by simp⟩, trivial⟩
  · cases h

-- specifications
def sAt : Spec := fun args => match args with
  | [.agg cs, .int .i64 n] => (dI cs).map fun x => (x.entries.length < 4611686018427387904, .int .i64 (findI (fun e => e.number == n) x.entries 0))
  | _ => none
theorem s65_ok : SpecOK Tryd.prog glB 65 sAt := specOK_of E0_ok Tryd.func65 (by kernel_rfl) fun args pre r h hp => by
  unfold sAt at h
  split at h
  · simp only [Option.map_eq_some_iff] at h
    obtain ⟨x, h1, h2⟩ := h
    cases h2
    exact ⟨[.agg (encI x), .int .i64 _], _, ⟨dI_wk _ _ h1, rfl, trivial⟩, rfl, at_fn _ _ hp⟩
  · cases h
def sOf : Spec := fun args => match args with
  | [.agg cs, .int .i64 n] => (dI cs).map fun x => (x.entries.length < 4611686018427387904, .int .i64 (findI (fun e => e.good == n) x.entries 0))
  | _ => none
theorem s74_ok : SpecOK Tryd.prog glB 74 sOf := specOK_of E0_ok Tryd.func74 (by kernel_rfl) fun args pre r h hp => by
  unfold sOf at h
  split at h
  · simp only [Option.map_eq_some_iff] at h
    obtain ⟨x, h1, h2⟩ := h
    cases h2
    exact ⟨[.agg (encI x), .int .i64 _], _, ⟨dI_wk _ _ h1, rfl, trivial⟩, rfl, of_fn _ _ hp⟩
  · cases h
def sPlace : Spec := fun args => match args with
  | [.sl rows ex, .int .i64 n] => (dL dZ rows).map fun l => (l.length < 4611686018427387904, .int .i64 (findI (fun a => a == n) l 0))
  | _ => none
theorem s47_ok : SpecOK Tryd.prog glB 47 sPlace := specOK_of E0_ok Tryd.func47 (by kernel_rfl) fun args pre r h hp => by
  unfold sPlace at h
  split at h
  · simp only [Option.map_eq_some_iff] at h
    obtain ⟨x, h1, h2⟩ := h
    cases h2
    exact ⟨[.sl (il x) _, .int .i64 _], _, ⟨⟨dZ_wk h1, id⟩, rfl, trivial⟩, rfl, Place_fn _ _ _ hp⟩
  · cases h
def sEntry : Spec := fun args => match args with
  | [.agg cs] => (dE cs).map fun e => (e.sizes.length < 4611686018427387904, .bool (entryOk e))
  | _ => none
theorem s70_ok : SpecOK Tryd.prog glB 70 sEntry := specOK_of E1_ok Tryd.func70 (by kernel_rfl) fun args pre r h hp => by
  unfold sEntry at h
  split at h
  · simp only [Option.map_eq_some_iff] at h
    obtain ⟨x, h1, h2⟩ := h
    cases h2
    exact ⟨[.agg (encE x)], _, ⟨dE_wk _ _ h1, trivial⟩, rfl, entry_fn _ hp⟩
  · cases h
end Wb
/- The rack in the calculation. -/
namespace Wb
open Go Go.Proofs
set_option linter.unusedSimpArgs false
set_option linter.unusedVariables false
set_option maxRecDepth 20000
set_option maxHeartbeats 4000000
theorem getD_mapN {α : Type} [Inhabited α] (enc : α → List PV) (l : List α) (i : Nat) (z : List PV) (h : i < l.length) : (l.map enc).getD i z = enc (l.getD i default) := by
  simp [List.getD_eq_getElem?_getD, h]
-- f153 held
theorem held_fn (g : Int) (l : List Issue) (ex : Bool) (m : PV) (hm : cellP m = true) (i : Nat) (hi : i < l.length) : Fn E1 0 153 Tryd.f153 (Tryd.f153.body.getD .skip) [.agg [.int .i64 g, .sl (l.map encI) ex, m], .int .i64 i] (.agg [.int .i64 (l.getD i default).lo, .int .i64 (l.getD i default).held]) := by
  unfold Fn Tryd.f153
  simp only [go_sem, Nat.reduceAdd, Nat.reduceSub, Nat.reduceMul, Nat.reduceEqDiff, Nat.reduceLT, Nat.reduceLeDiff, Nat.reduceBEq, Nat.reduceBNe, Int.reduceToNat, Int.reduceLE, Int.reduceLT, Int.reduceNe, Int.reduceNeg, reduceCtorEq, Int.reduceBEq, Int.reduceBNe, E1_ti, ti3, ti4, ti22, ti24, ti26, ti64, ti98, getD_mapN _ _ _ _ hi, encI, hm, Int.ofNat_lt, hi]
-- f152 used
theorem used_fn (g : Int) (l : List Issue) (ex : Bool) (m : PV) (hm : cellP m = true) (i : Nat) (hi : i < l.length) : Fn E1 0 152 Tryd.f152 (Tryd.f152.body.getD .skip) [.agg [.int .i64 g, .sl (l.map encI) ex, m], .int .i64 i] (.agg [.int .i64 (l.getD i default).lo, .int .i64 (l.getD i default).hi]) := by
  unfold Fn Tryd.f152
  simp only [go_sem, Nat.reduceAdd, Nat.reduceSub, Nat.reduceMul, Nat.reduceEqDiff, Nat.reduceLT, Nat.reduceLeDiff, Nat.reduceBEq, Nat.reduceBNe, Int.reduceToNat, Int.reduceLE, Int.reduceLT, Int.reduceNe, Int.reduceNeg, reduceCtorEq, Int.reduceBEq, Int.reduceBNe, E1_ti, ti3, ti4, ti22, ti24, ti26, ti64, ti98, getD_mapN _ _ _ _ hi, encI, hm, Int.ofNat_lt, hi]
-- f72 isIssue
theorem isIssue_fn (g : Int) (rows : List (List PV)) (ex : Bool) (m : PV) (hm : cellP m = true) (n : Int) (hl : rows.length < 4611686018427387904) : Fn E1 0 72 Tryd.f72 (Tryd.f72.body.getD .skip) [.agg [.int .i64 g, .sl rows ex, m], .int .i64 n] (.bool (decide (0 ≤ n) && decide (n ≤ (rows.length : Int) - 1))) := by
  have w0 : IntKind.i64.wrap ((rows.length : Int) - 1) = (rows.length : Int) - 1 := wrap_id (by omega)
  unfold Fn Tryd.f72
  simp only [go_sem, Nat.reduceAdd, Nat.reduceSub, Nat.reduceMul, Nat.reduceEqDiff, Nat.reduceLT, Nat.reduceLeDiff, Nat.reduceBEq, Nat.reduceBNe, Int.reduceToNat, Int.reduceLE, Int.reduceLT, Int.reduceNe, Int.reduceNeg, reduceCtorEq, Int.reduceBEq, Int.reduceBNe, E1_ti, ti3, ti4, ti22, ti24, ti26, ti43, ti64, ti98, encI, @callV_spec E1 50 sTween rfl, @effV_spec E1 50 sTween rfl, @callV_spec E1 66 sTween rfl, @effV_spec E1 66 sTween rfl, callSpec_pure, specP, pureD, pureD.pureLs, sTween, hm, w0]
def itemOk (g a b c : Int) : Bool := decide (0 ≤ a) && decide (a ≤ g - 1) && (decide (1 ≤ b) && decide (b ≤ 99)) && (decide (0 ≤ c) && decide (c ≤ 3))
-- f81 rack.isItem, f83 isItem
theorem rackItem_fn (g : Int) (rows : List (List PV)) (ex : Bool) (m : PV) (hm : cellP m = true) (a b c : Int) (hg : -9223372036854775807 ≤ g ∧ g ≤ 9223372036854775807) : Fn E1 0 81 Tryd.f81 (Tryd.f81.body.getD .skip) [.agg [.int .i64 g, .sl rows ex, m], .agg [.int .i64 a, .int .i64 b, .int .i64 c]] (.bool (itemOk g a b c)) := by
  have w0 : IntKind.i64.wrap (g - 1) = g - 1 := wrap_id (by omega)
  unfold Fn Tryd.f81
  simp only [go_sem, Nat.reduceAdd, Nat.reduceSub, Nat.reduceMul, Nat.reduceEqDiff, Nat.reduceLT, Nat.reduceLeDiff, Nat.reduceBEq, Nat.reduceBNe, Int.reduceToNat, Int.reduceLE, Int.reduceLT, Int.reduceNe, Int.reduceNeg, reduceCtorEq, Int.reduceBEq, Int.reduceBNe, E1_ti, ti3, ti4, ti22, ti24, ti26, ti43, ti64, ti98, encI, @callV_spec E1 50 sTween rfl, @effV_spec E1 50 sTween rfl, @callV_spec E1 66 sTween rfl, @effV_spec E1 66 sTween rfl, callSpec_pure, specP, pureD, pureD.pureLs, sTween, hm, w0, itemOk]
theorem isItem_fn (g : Int) (rows : List (List PV)) (ex : Bool) (a b c : Int) (hg : -9223372036854775807 ≤ g ∧ g ≤ 9223372036854775807) : Fn E1 0 83 Tryd.f83 (Tryd.f83.body.getD .skip) [.agg [.int .i64 g, .sl rows ex], .agg [.int .i64 a, .int .i64 b, .int .i64 c]] (.bool (itemOk g a b c)) := by
  have w0 : IntKind.i64.wrap (g - 1) = g - 1 := wrap_id (by omega)
  unfold Fn Tryd.f83
  simp only [go_sem, Nat.reduceAdd, Nat.reduceSub, Nat.reduceMul, Nat.reduceEqDiff, Nat.reduceLT, Nat.reduceLeDiff, Nat.reduceBEq, Nat.reduceBNe, Int.reduceToNat, Int.reduceLE, Int.reduceLT, Int.reduceNe, Int.reduceNeg, reduceCtorEq, Int.reduceBEq, Int.reduceBNe, E1_ti, ti3, ti4, ti22, ti24, ti26, ti43, ti64, ti98, encI, @callV_spec E1 50 sTween rfl, @effV_spec E1 50 sTween rfl, @callV_spec E1 66 sTween rfl, @effV_spec E1 66 sTween rfl, callSpec_pure, specP, pureD, pureD.pureLs, sTween, w0, itemOk]
-- f46 Climbs
def climbsF (below : Int) : Int → List Int → Bool
  | _, [] => true
  | before, a :: l => decide (before < a) && decide (a < below) && climbsF below a l
theorem climbs_drop {below : Int} {l : List Int} {i : Nat} (h : i < l.length) (before : Int) : climbsF below before (l.drop i) = (decide (before < l.getD i 0) && decide (l.getD i 0 < below) && climbsF below (l.getD i 0) (l.drop (i + 1))) := by
  rw [List.drop_eq_getElem_cons h]
  simp [climbsF, h]
theorem Climbs_fn (l : List Int) (ex : Bool) (n : Int) (hl : l.length < 4611686018427387904) : Fn E0 0 46 Tryd.f46 (Tryd.f46.body.getD .skip) [.sl (il l) ex, .int .i64 n] (.bool (climbsF n (-1) l)) := by
  unfold Fn Tryd.f46
  simp only [go_sem, Nat.reduceAdd, Nat.reduceSub, Nat.reduceMul, Nat.reduceEqDiff, Nat.reduceLT, Nat.reduceLeDiff, Nat.reduceBEq, Nat.reduceBNe, Int.reduceToNat, Int.reduceLE, Int.reduceLT, Int.reduceNe, Int.reduceNeg, reduceCtorEq, Int.reduceBEq, Int.reduceBNe, E0_ti, ti3, ti4, ti36]
  refine ev_loop (α := Nat × Int) (fun x => [.sl (il l) ex, .int .i64 n, .undef, .undef, .bool false, .int .i64 x.2, .int .i64 x.1] ++ List.replicate 24 .undef) (fun x H => x.1 ≤ l.length ∧ climbsF n (-1) l = climbsF n x.2 (l.drop x.1)) (fun x => l.length - x.1) (0, -1) ?_ ⟨Nat.zero_le _, by simp⟩ ?_
  · simp only [go_sem, Nat.reduceAdd, Nat.reduceSub, Nat.reduceMul, Nat.reduceEqDiff, Nat.reduceLT, Nat.reduceLeDiff, Nat.reduceBEq, Nat.reduceBNe, Int.reduceToNat, Int.reduceLE, Int.reduceLT, Int.reduceNe, Int.reduceNeg, reduceCtorEq, Int.reduceBEq, Int.reduceBNe, fg]
  · intro K x H ⟨hi, hf⟩ hK hE
    obtain ⟨i, b⟩ := x
    simp only at hi hf
    simp only [go_sem, Nat.reduceAdd, Nat.reduceSub, Nat.reduceMul, Nat.reduceEqDiff, Nat.reduceLT, Nat.reduceLeDiff, Nat.reduceBEq, Nat.reduceBNe, Int.reduceToNat, Int.reduceLE, Int.reduceLT, Int.reduceNe, Int.reduceNeg, reduceCtorEq, Int.reduceBEq, Int.reduceBNe, E0_ti, ti3, ti4, ti36, il_length, il_get]
    rw [condK_bool]
    refine ⟨fun hg => ?_, fun h => ?_⟩
    · have h2 : (i : Int) < (l.length : Int) := by simpa using hg
      have h3 : i < l.length := by omega
      have w2 : IntKind.i64.wrap ((i : Int) + 1) = (i : Int) + 1 := wrap_id (by omega)
      simp only [go_sem, Nat.reduceAdd, Nat.reduceSub, Nat.reduceMul, Nat.reduceEqDiff, Nat.reduceLT, Nat.reduceLeDiff, Nat.reduceBEq, Nat.reduceBNe, Int.reduceToNat, Int.reduceLE, Int.reduceLT, Int.reduceNe, Int.reduceNeg, reduceCtorEq, Int.reduceBEq, Int.reduceBNe, E0_ti, ti3, ti4, ti36, il_length, il_get]
      refine ⟨h2, fun _ => h2, ?_⟩
      rw [condK_bool]
      refine ⟨fun h4 => ?_, fun h4 => ?_⟩
      · simp only [go_sem, Nat.reduceAdd, Nat.reduceSub, Nat.reduceMul, Nat.reduceEqDiff, Nat.reduceLT, Nat.reduceLeDiff, Nat.reduceBEq, Nat.reduceBNe, Int.reduceToNat, Int.reduceLE, Int.reduceLT, Int.reduceNe, Int.reduceNeg, reduceCtorEq, Int.reduceBEq, Int.reduceBNe, E0_ti, ti3, ti4, ti36, il_length, il_get]
        refine hE _ _ _ (by simp) ?_
        simp only [go_sem, Nat.reduceAdd, Nat.reduceSub, Nat.reduceMul, Nat.reduceEqDiff, Nat.reduceLT, Nat.reduceLeDiff, Nat.reduceBEq, Nat.reduceBNe, Int.reduceToNat, Int.reduceLE, Int.reduceLT, Int.reduceNe, Int.reduceNeg, reduceCtorEq, Int.reduceBEq, Int.reduceBNe, E0_ti, ti3, ti4]
        rw [hf, climbs_drop h3]
        simp only [Bool.or_eq_true, decide_eq_true_eq] at h4
        rcases h4 with h4 | h4
        · have : ¬ b < l.getD i 0 := by omega
          simp [this, -List.getD_eq_getElem?_getD]
        · have : ¬ l.getD i 0 < n := by omega
          simp [this, -List.getD_eq_getElem?_getD]
      · simp only [go_sem, Nat.reduceAdd, Nat.reduceSub, Nat.reduceMul, Nat.reduceEqDiff, Nat.reduceLT, Nat.reduceLeDiff, Nat.reduceBEq, Nat.reduceBNe, Int.reduceToNat, Int.reduceLE, Int.reduceLT, Int.reduceNe, Int.reduceNeg, reduceCtorEq, Int.reduceBEq, Int.reduceBNe, E0_ti, ti3, ti4, ti36, il_length, il_get]
        refine ⟨h2, hK (i + 1, l.getD i 0) _ _ ?_ ⟨h3, ?_⟩ (by simp only; omega)⟩
        · simp only [go_sem, Nat.reduceAdd, Nat.reduceSub, Nat.reduceMul, Nat.reduceEqDiff, Nat.reduceLT, Nat.reduceLeDiff, Nat.reduceBEq, Nat.reduceBNe, Int.reduceToNat, Int.reduceLE, Int.reduceLT, Int.reduceNe, Int.reduceNeg, reduceCtorEq, Int.reduceBEq, Int.reduceBNe, fg, w2, Int.natCast_add, Int.natCast_one]
        · rw [hf, climbs_drop h3]
          simp only [Bool.or_eq_false_iff, decide_eq_false_iff_not] at h4
          have h5 : b < l.getD i 0 := by omega
          have h6 : l.getD i 0 < n := by omega
          simp only [h5, h6, decide_true, Bool.true_and]
    · refine hE _ _ _ (by simp) ?_
      simp only [go_sem, Nat.reduceAdd, Nat.reduceSub, Nat.reduceMul, Nat.reduceEqDiff, Nat.reduceLT, Nat.reduceLeDiff, Nat.reduceBEq, Nat.reduceBNe, Int.reduceToNat, Int.reduceLE, Int.reduceLT, Int.reduceNe, Int.reduceNeg, reduceCtorEq, Int.reduceBEq, Int.reduceBNe, E0_ti, ti3, ti4]
      have : i = l.length := by
        have : ¬ ((i : Int) < (l.length : Int)) := by simpa using h
        omega
      rw [hf, this]
      simp [climbsF]
end Wb
/- Bits of a set; the number of a span that any number chooses. -/
namespace Wb
open Go Go.Proofs
set_option linter.unusedSimpArgs false
set_option linter.unusedVariables false
set_option maxRecDepth 20000
set_option maxHeartbeats 4000000
def inF (a k : Int) : Bool := bits BinOp.and .i64 (shft false .i64 a k) 1 == 1
theorem In_fn (a k : Int) (hk : 0 ≤ k) : Fn E0 0 104 Tryd.f104 (Tryd.f104.body.getD .skip) [.int .i64 a, .int .i64 k] (.bool (inF a k)) := by
  unfold Fn Tryd.f104
  simp only [go_sem, Nat.reduceAdd, Nat.reduceSub, Nat.reduceMul, Nat.reduceEqDiff, Nat.reduceLT, Nat.reduceLeDiff, Nat.reduceBEq, Nat.reduceBNe, Int.reduceToNat, Int.reduceLE, Int.reduceLT, Int.reduceNe, Int.reduceNeg, reduceCtorEq, Int.reduceBEq, Int.reduceBNe, E0_ti, ti3, ti4, hk, inF]
def sIn : Spec := fun args => match args with | [.int .i64 a, .int .i64 k] => some (0 ≤ k, .bool (inF a k)) | _ => none
theorem s104_ok : SpecOK Tryd.prog glB 104 sIn := specOK_of E0_ok Tryd.func104 (by kernel_rfl) fun args pre r h hp => by
  unfold sIn at h; split at h <;> cases h; exact ⟨_, _, wkL_refl _, rfl, In_fn _ _ hp⟩
theorem Lot_fn (a b n : Int) (ha : 0 ≤ a ∧ a ≤ 1000000000) (hb : 0 ≤ b ∧ b ≤ 1000000000) : Fn E1 0 45 Tryd.f45 (Tryd.f45.body.getD .skip) [.agg [.int .i64 a, .int .i64 b], .int .i64 n] (.int .i64 (if b ≤ a then a else a + spinF n (b - a + 1))) := by
  unfold Fn Tryd.f45
  simp only [go_sem, Nat.reduceAdd, Nat.reduceSub, Nat.reduceMul, Nat.reduceEqDiff, Nat.reduceLT, Nat.reduceLeDiff, Nat.reduceBEq, Nat.reduceBNe, Int.reduceToNat, Int.reduceLE, Int.reduceLT, Int.reduceNe, Int.reduceNeg, reduceCtorEq, Int.reduceBEq, Int.reduceBNe, E1_ti, ti3, ti4, ti26]
  rw [condK_bool]
  refine ⟨fun h => ?_, fun h => ?_⟩
  · simp only [go_sem, Nat.reduceAdd, Nat.reduceSub, Nat.reduceMul, Nat.reduceEqDiff, Nat.reduceLT, Nat.reduceLeDiff, Nat.reduceBEq, Nat.reduceBNe, Int.reduceToNat, Int.reduceLE, Int.reduceLT, Int.reduceNe, Int.reduceNeg, reduceCtorEq, Int.reduceBEq, Int.reduceBNe, E1_ti, ti3, ti4, ti26]
    have : b ≤ a := by simpa using h
    rw [if_pos this]
  · have hba : ¬ b ≤ a := by simpa using h
    have w1 : IntKind.i64.wrap (b - a) = b - a := wrap_id (by omega)
    have w2 : IntKind.i64.wrap (b - a + 1) = b - a + 1 := wrap_id (by omega)
    have c : decide (b - a + 1 < 1) = false := by simp; omega
    simp only [go_sem, Nat.reduceAdd, Nat.reduceSub, Nat.reduceMul, Nat.reduceEqDiff, Nat.reduceLT, Nat.reduceLeDiff, Nat.reduceBEq, Nat.reduceBNe, Int.reduceToNat, Int.reduceLE, Int.reduceLT, Int.reduceNe, Int.reduceNeg, reduceCtorEq, Int.reduceBEq, Int.reduceBNe, E1_ti, ti3, ti4, ti26, w1, w2, c, @stepV_spec E1 43 sSpin rfl, @effV_spec E1 43 sSpin rfl, callSpec_pure, specP, pureD, pureD.pureLs, sSpin]
    have hs : 0 ≤ spinF n (b - a + 1) ∧ spinF n (b - a + 1) ≤ b - a := by
      unfold spinF
      rw [if_neg (by omega)]
      have h0 := Int.emod_nonneg n (show b - a + 1 ≠ 0 by omega)
      have h1 := Int.emod_lt_of_pos n (show 0 < b - a + 1 by omega)
      omega
    refine ⟨by omega, ?_⟩
    rw [wrap_id (by omega), if_neg hba]
end Wb
/- Racks: when they are right. -/
namespace Wb
open Go Go.Proofs
def entriesOk (goods : Int) : List Int → List Int → List Entry → Bool
  | _, _, [] => true
  | ns, gs, e :: es => entryOk e && (decide (0 ≤ e.good) && decide (e.good ≤ goods - 1)) && decide (findI (fun a => a == e.number) ns 0 < 0) && decide (findI (fun a => a == e.good) gs 0 < 0) && entriesOk goods (ns ++ [e.number]) (gs ++ [e.good]) es
def issueOk (goods : Int) (x : Issue) : Bool :=
  (decide (0 ≤ x.lo) && decide (x.lo ≤ x.hi) && decide (x.hi ≤ 20000)) && (decide (x.lo ≤ x.held) && decide (x.held ≤ 20000)) && decide ((x.entries.length : Int) ≤ 24) && entriesOk goods [] [] x.entries
def rackOk (r : Rack) : Bool :=
  (decide (1 ≤ r.goods) && decide (r.goods ≤ 24)) && (decide (1 ≤ (r.issues.length : Int)) && decide ((r.issues.length : Int) ≤ 4)) && r.issues.all (issueOk r.goods)
end Wb
/- The arguments of the seat's rows, as data. -/
namespace Wb
open Go Go.Proofs
set_option linter.unusedVariables false
structure Item where
  good : Int
  size : Int
  colour : Int
  deriving Inhabited, DecidableEq
structure Line where
  item : Item
  many : Int
  deriving Inhabited, DecidableEq
def encT (x : Item) : List PV := [.int .i64 x.good, .int .i64 x.size, .int .i64 x.colour]
def encL (x : Line) : List PV := [.int .i64 x.item.good, .int .i64 x.item.size, .int .i64 x.item.colour, .int .i64 x.many]
def encS (x : Int × Int) : List PV := [.int .i64 x.1, .int .i64 x.2]
def okS (x : Int × Int) : Prop := okInt x.1 ∧ okInt x.2
def okFit (f : Fit) : Prop := okInt f.size ∧ okInt f.lo ∧ okInt f.hi ∧ okInt f.price
def okEntry (e : Entry) : Prop := okInt e.number ∧ okInt e.good ∧ okInt e.colours ∧ e.sizes.length ≤ 17592186044416 ∧ ∀ f ∈ e.sizes, okFit f
def okIssue (x : Issue) : Prop := okInt x.lo ∧ okInt x.hi ∧ okInt x.held ∧ x.entries.length ≤ 17592186044416 ∧ ∀ f ∈ x.entries, okEntry f
def okRack (x : Rack) : Prop := okInt x.goods ∧ x.issues.length ≤ 17592186044416 ∧ ∀ f ∈ x.issues, okIssue f
def okItem (x : Item) : Prop := okInt x.good ∧ okInt x.size ∧ okInt x.colour
def okLine (x : Line) : Prop := okItem x.item ∧ okInt x.many
theorem pI : Opens Tryd.prog 3 Int (fun n => [.int .i64 n]) okInt := opens_int Tryd.underlying3
theorem pS : Opens Tryd.prog 26 (Int × Int) encS okS :=
  opens_map (opens_struct Tryd.underlying26 (opF 1 pI rfl rfl (by kernel_rfl) (opF 2 pI rfl rfl (by kernel_rfl) (opF0 (by kernel_rfl))))) (fun x => (x.1, x.2.1)) (fun _ => rfl) (fun a h => ⟨h.1, h.2.1⟩)
theorem pFit : Opens Tryd.prog 90 Fit encF okFit :=
  opens_map (opens_struct Tryd.underlying90 (opF 1 pI rfl rfl (by kernel_rfl) (opF 3 pS rfl rfl (by kernel_rfl) (opF 4 pI rfl rfl (by kernel_rfl) (opF0 (by kernel_rfl)))))) (fun x => (⟨x.1, x.2.1.1, x.2.1.2, x.2.2.1⟩ : Fit)) (fun _ => rfl) (fun a h => ⟨h.1, h.2.1.1, h.2.1.2, h.2.2.1⟩)
theorem pFits : Opens Tryd.prog 65 (List Fit) (fun l => [.sl (l.map encF) false]) (fun l => l.length ≤ 17592186044416 ∧ ∀ a ∈ l, okFit a) :=
  opens_slice Tryd.underlying65 (of_decide_eq_true (by kernel_rfl)) (of_decide_eq_true (by kernel_rfl)) (fun _ => by kernel_rfl) pFit
theorem pEntry : Opens Tryd.prog 67 Entry encE okEntry :=
  opens_map (opens_struct Tryd.underlying67 (opF 1 pI rfl rfl (by kernel_rfl) (opF 2 pI rfl rfl (by kernel_rfl) (opF 3 pI rfl rfl (by kernel_rfl) (opF 4 pFits rfl rfl (by kernel_rfl) (opF0 (by kernel_rfl))))))) (fun x => (⟨x.1, x.2.1, x.2.2.1, x.2.2.2.1⟩ : Entry)) (fun _ => rfl) (fun a h => ⟨h.1, h.2.1, h.2.2.1, h.2.2.2.1.1, h.2.2.2.1.2⟩)
theorem pEntries : Opens Tryd.prog 62 (List Entry) (fun l => [.sl (l.map encE) false]) (fun l => l.length ≤ 17592186044416 ∧ ∀ a ∈ l, okEntry a) :=
  opens_slice Tryd.underlying62 (of_decide_eq_true (by kernel_rfl)) (of_decide_eq_true (by kernel_rfl)) (fun _ => by kernel_rfl) pEntry
theorem pIssue : Opens Tryd.prog 64 Issue encI okIssue :=
  opens_map (opens_struct Tryd.underlying64 (opF 2 pS rfl rfl (by kernel_rfl) (opF 3 pI rfl rfl (by kernel_rfl) (opF 4 pEntries rfl rfl (by kernel_rfl) (opF0 (by kernel_rfl)))))) (fun x => (⟨x.1.1, x.1.2, x.2.1, x.2.2.1⟩ : Issue)) (fun _ => rfl) (fun a h => ⟨h.1.1, h.1.2, h.2.1, h.2.2.1.1, h.2.2.1.2⟩)
theorem pIssues : Opens Tryd.prog 22 (List Issue) (fun l => [.sl (l.map encI) false]) (fun l => l.length ≤ 17592186044416 ∧ ∀ a ∈ l, okIssue a) :=
  opens_slice Tryd.underlying22 (of_decide_eq_true (by kernel_rfl)) (of_decide_eq_true (by kernel_rfl)) (fun _ => by kernel_rfl) pIssue
theorem pRack : Opens Tryd.prog 24 Rack encR okRack :=
  opens_map (opens_struct Tryd.underlying24 (opF 1 pI rfl rfl (by kernel_rfl) (opF 2 pIssues rfl rfl (by kernel_rfl) (opF0 (by kernel_rfl))))) (fun x => (⟨x.1, x.2.1⟩ : Rack)) (fun _ => rfl) (fun a h => ⟨h.1, h.2.1.1, h.2.1.2⟩)
theorem pItem : Opens Tryd.prog 43 Item encT okItem :=
  opens_map (opens_struct Tryd.underlying43 (opF 1 pI rfl rfl (by kernel_rfl) (opF 2 pI rfl rfl (by kernel_rfl) (opF 3 pI rfl rfl (by kernel_rfl) (opF0 (by kernel_rfl)))))) (fun x => (⟨x.1, x.2.1, x.2.2.1⟩ : Item)) (fun _ => rfl) (fun a h => ⟨h.1, h.2.1, h.2.2.1⟩)
theorem pLine : Opens Tryd.prog 85 Line encL okLine :=
  opens_map (opens_struct Tryd.underlying85 (opF 3 pItem rfl rfl (by kernel_rfl) (opF 4 pI rfl rfl (by kernel_rfl) (opF0 (by kernel_rfl))))) (fun x => (⟨x.1, x.2.1⟩ : Line)) (fun _ => rfl) (fun a h => ⟨h.1, h.2.1⟩)
theorem pLines : Opens Tryd.prog 48 (List Line) (fun l => [.sl (l.map encL) false]) (fun l => l.length ≤ 17592186044416 ∧ ∀ a ∈ l, okLine a) :=
  opens_slice Tryd.underlying48 (of_decide_eq_true (by kernel_rfl)) (of_decide_eq_true (by kernel_rfl)) (fun _ => by kernel_rfl) pLine
theorem pInts : Opens Tryd.prog 36 (List Int) (fun l => [.sl (il l) false]) (fun l => l.length ≤ 17592186044416 ∧ ∀ a ∈ l, okInt a) :=
  opens_slice Tryd.underlying36 (of_decide_eq_true (by kernel_rfl)) (of_decide_eq_true (by kernel_rfl)) (fun _ => by kernel_rfl) pI
def encZ (l : List Int) : List PV := l.map fun n => .int .i64 n
theorem pArr {t n : Nat} (ht : Tryd.prog.underlying t = some (.array n 3)) (hc : Tryd.prog.cellsOf t = n * Tryd.prog.cellsOf 3) : Opens Tryd.prog t (List Int) encZ (fun l => l.length = n ∧ ∀ a ∈ l, okInt a) :=
  opens_map (opens_array ht hc (fun _ => by kernel_rfl) pI) id (fun a => by unfold encZ; induction a <;> simp_all) (fun _ h => h)
end Wb
/- Data as values; what is known of the functions so far. -/
namespace Wb
open Go Go.Proofs Enc Row
set_option linter.unusedSimpArgs false
set_option linter.unusedVariables false
set_option maxHeartbeats 4000000
instance : Row Fit where
  row := encF
  drow := dF
  wk_drow := dF_wk
  drow_row _ := rfl
instance : Row Entry where
  row := encE
  drow := dE
  wk_drow := dE_wk
  drow_row := dE_enc
instance : Row Issue where
  row := encI
  drow := dI
  wk_drow := dI_wk
  drow_row := dI_enc
def dT : List PV → Option Item
  | [.int .i64 a, .int .i64 b, .int .i64 c] => some ⟨a, b, c⟩
  | _ => none
instance : Row Item where
  row := encT
  drow := dT
  wk_drow r a h := by unfold dT at h; split at h <;> cases h; exact wkL_refl _
  drow_row _ := rfl
def dLn : List PV → Option Line
  | [.int .i64 a, .int .i64 b, .int .i64 c, .int .i64 d] => some ⟨⟨a, b, c⟩, d⟩
  | _ => none
instance : Row Line where
  row := encL
  drow := dLn
  wk_drow r a h := by unfold dLn at h; split at h <;> cases h; exact wkL_refl _
  drow_row _ := rfl
def dSp : List PV → Option (Int × Int)
  | [.int .i64 a, .int .i64 b] => some (a, b)
  | _ => none
instance : Row (Int × Int) where
  row := encS
  drow := dSp
  wk_drow r a h := by unfold dSp at h; split at h <;> cases h; exact wkL_refl _
  drow_row _ := rfl
def dAgg {α : Type} [Row α] : PV → Option α
  | .agg r => drow r
  | _ => none
/-- A struct, by value. -/
abbrev encOfRow (α : Type) [Row α] : Enc α where
  enc a := .agg (row a)
  dec := dAgg
  wk_dec p a h := by
    unfold dAgg at h
    split at h
    · exact Row.wk_drow _ _ h
    · cases h
  dec_enc a := Row.drow_row a
instance : Enc Fit := encOfRow Fit
instance : Enc Entry := encOfRow Entry
instance : Enc Issue := encOfRow Issue
instance : Enc Item := encOfRow Item
instance : Enc Line := encOfRow Line
instance : Enc (Int × Int) := encOfRow (Int × Int)
def dRk : PV → Option Rack
  | .agg r => dR r
  | _ => none
instance : Enc Rack where
  enc r := .agg (encR r)
  dec := dRk
  wk_dec p a h := by
    unfold dRk at h
    split at h
    · exact dR_wk _ _ h
    · cases h
  dec_enc a := dR_enc a
/-- A rack in the calculation, with its map. -/
structure Calc where
  r : Rack
  es : List (List Int × PV)
def encC (x : Calc) : List PV := [.int .i64 x.r.goods, .sl (x.r.issues.map encI) false, .mp true 2 x.es]
def dC : PV → Option Calc
  | .agg [.int .i64 g, .sl rs _, .mp true 2 es] => (dL dI rs).map fun l => ⟨⟨g, l⟩, es⟩
  | _ => none
instance : Enc Calc where
  enc x := .agg (encC x)
  dec := dC
  wk_dec p a h := by
    unfold dC at h
    split at h
    · simp only [Option.map_eq_some_iff] at h
      obtain ⟨l, h1, rfl⟩ := h
      exact ⟨rfl, ⟨dL_wk dI_wk h1, fun h => by cases h⟩, wk_refl _, trivial⟩
    · cases h
  dec_enc x := by simp [dC, encC, dI_map]
/-- A variable that a function literal holds. -/
structure Rf (α : Type) where
  v : α
def dRf {α : Type} [Row α] : PV → Option (Rf α)
  | .eref r 0 => (drow r).map Rf.mk
  | _ => none
instance {α : Type} [Row α] : Enc (Rf α) where
  enc x := .eref (row x.v) 0
  dec := dRf
  wk_dec p a h := by
    unfold dRf at h
    split at h
    · simp only [Option.map_eq_some_iff] at h
      obtain ⟨l, h1, rfl⟩ := h
      exact ⟨Row.wk_drow _ _ h1, rfl⟩
    · cases h
  dec_enc x := by simp [dRf, Row.drow_row]
def dRl {α : Type} [Row α] : List PV → Option (List α)
  | [.sl rs _] => drows rs
  | _ => none
instance {α : Type} [Row α] : Row (List α) where
  row l := [.sl (rows l) false]
  drow := dRl
  wk_drow r a h := by
    unfold dRl at h
    split at h
    · exact ⟨⟨wk_drows _ _ h, fun h => by cases h⟩, trivial⟩
    · cases h
  drow_row l := drows_rows l
theorem dec_il (l : List Int) (ex : Bool) : (dec (.sl (il l) ex) : Option (List Int)) = some l := drows_rows l
theorem dec_span (a b : Int) : (dec (.agg [.int .i64 a, .int .i64 b]) : Option (Int × Int)) = some (a, b) := rfl
theorem dec_fit (f : Fit) : (dec (.agg (encF f)) : Option Fit) = some f := rfl
theorem dec_entry (f : Entry) : (dec (.agg (encE f)) : Option Entry) = some f := dE_enc f
theorem dec_issue (f : Issue) : (dec (.agg (encI f)) : Option Issue) = some f := dI_enc f
theorem dec_rack (f : Rack) : (dec (.agg (encR f)) : Option Rack) = some f := dR_enc f
theorem dec_item (a b c : Int) : (dec (.agg [.int .i64 a, .int .i64 b, .int .i64 c]) : Option Item) = some ⟨a, b, c⟩ := rfl
theorem dec_calc (g : Int) (l : List Issue) (ex : Bool) (es : List (List Int × PV)) : (dec (.agg [.int .i64 g, .sl (l.map encI) ex, .mp true 2 es]) : Option Calc) = some ⟨⟨g, l⟩, es⟩ := by
  show dC _ = _
  simp [dC, dI_map]
theorem dec_fits (l : List Fit) (ex : Bool) : (dec (.sl (l.map encF) ex) : Option (List Fit)) = some l := drows_rows l
theorem dec_entries (l : List Entry) (ex : Bool) : (dec (.sl (l.map encE) ex) : Option (List Entry)) = some l := drows_rows l
theorem dec_issues (l : List Issue) (ex : Bool) : (dec (.sl (l.map encI) ex) : Option (List Issue)) = some l := drows_rows l
theorem dec_rint (a : Int) : (dec (.eref [.int .i64 a] 0) : Option (Rf Int)) = some ⟨a⟩ := rfl
theorem dec_rspan (a b : Int) : (dec (.eref [.int .i64 a, .int .i64 b] 0) : Option (Rf (Int × Int))) = some ⟨(a, b)⟩ := rfl
theorem dec_ritem (a b c : Int) : (dec (.eref [.int .i64 a, .int .i64 b, .int .i64 c] 0) : Option (Rf Item)) = some ⟨⟨a, b, c⟩⟩ := rfl
theorem dec_rlines (l : List Line) (ex : Bool) : (dec (.eref [.sl (l.map encL) ex] 0) : Option (Rf (List Line))) = some ⟨l⟩ := by
  show (dRl [.sl (rows l) ex]).map Rf.mk = _
  simp [dRl, drows_rows]

theorem dec_entry' (a b c : Int) (l : List Fit) (ex : Bool) : (dec (.agg [.int .i64 a, .int .i64 b, .int .i64 c, .sl (l.map encF) ex]) : Option Entry) = some ⟨a, b, c, l⟩ := by
  show dE [.int .i64 a, .int .i64 b, .int .i64 c, .sl (l.map encF) ex] = _
  simp [dE, dF_map]
theorem dec_rack' (g : Int) (l : List Issue) (ex : Bool) : (dec (.agg [.int .i64 g, .sl (l.map encI) ex]) : Option Rack) = some ⟨g, l⟩ := by
  show dRk _ = _
  simp [dRk, dR, dI_map]
theorem dec_issue' (a b c : Int) (l : List Entry) (ex : Bool) : (dec (.agg [.int .i64 a, .int .i64 b, .int .i64 c, .sl (l.map encE) ex]) : Option Issue) = some ⟨a, b, c, l⟩ := by
  show dI [.int .i64 a, .int .i64 b, .int .i64 c, .sl (l.map encE) ex] = _
  simp [dI, dE_map]
theorem dec_fit' (a b c d : Int) : (dec (.agg [.int .i64 a, .int .i64 b, .int .i64 c, .int .i64 d]) : Option Fit) = some ⟨a, b, c, d⟩ := rfl
theorem dE_ex (a b c : Int) (l : List Fit) (ex : Bool) : dE [.int .i64 a, .int .i64 b, .int .i64 c, .sl (l.map encF) ex] = some ⟨a, b, c, l⟩ := by simp [dE, dF_map]
theorem dI_ex (a b c : Int) (l : List Entry) (ex : Bool) : dI [.int .i64 a, .int .i64 b, .int .i64 c, .sl (l.map encE) ex] = some ⟨a, b, c, l⟩ := by simp [dI, dE_map]
/-! ### Specifications -/
def big (n : Nat) : Prop := n < 4611686018427387904
def s26 : Spec := spec2 (fun (a b : List Int) => big a.length) (fun a b => .bool (a == b))
theorem s26_ok : SpecOK Tryd.prog glB 26 s26 := spec2_ok E0_ok Tryd.func26 rfl (by kernel_rfl) fun a b h => Match_fn a b false false h
def s45 : Spec := spec2 (fun (a : Int × Int) (n : Int) => (0 ≤ a.1 ∧ a.1 ≤ 1000000000) ∧ (0 ≤ a.2 ∧ a.2 ≤ 1000000000)) (fun a n => .int .i64 (if a.2 ≤ a.1 then a.1 else a.1 + spinF n (a.2 - a.1 + 1)))
theorem s45_ok : SpecOK Tryd.prog glB 45 s45 := spec2_ok E1_ok Tryd.func45 rfl (by kernel_rfl) fun a n h => Lot_fn a.1 a.2 n h.1 h.2
def s46 : Spec := spec2 (fun (l : List Int) (n : Int) => big l.length) (fun l n => .bool (climbsF n (-1) l))
theorem s46_ok : SpecOK Tryd.prog glB 46 s46 := spec2_ok E0_ok Tryd.func46 rfl (by kernel_rfl) fun l n h => Climbs_fn l false n h
def s152 : Spec := spec2 (fun (x : Calc) (n : Int) => 0 ≤ n ∧ n < x.r.issues.length) (fun x n => .agg [.int .i64 (x.r.issues.getD n.toNat default).lo, .int .i64 (x.r.issues.getD n.toNat default).hi])
theorem s152_ok : SpecOK Tryd.prog glB 152 s152 := spec2_ok E1_ok Tryd.func152 rfl (by kernel_rfl) fun x n h => by
  obtain ⟨h2, h3⟩ := h
  obtain ⟨k, rfl⟩ := Int.eq_ofNat_of_zero_le h2
  exact used_fn _ _ false (.mp true 2 x.es) rfl k (by omega)
def s153 : Spec := spec2 (fun (x : Calc) (n : Int) => 0 ≤ n ∧ n < x.r.issues.length) (fun x n => .agg [.int .i64 (x.r.issues.getD n.toNat default).lo, .int .i64 (x.r.issues.getD n.toNat default).held])
theorem s153_ok : SpecOK Tryd.prog glB 153 s153 := spec2_ok E1_ok Tryd.func153 rfl (by kernel_rfl) fun x n h => by
  obtain ⟨h2, h3⟩ := h
  obtain ⟨k, rfl⟩ := Int.eq_ofNat_of_zero_le h2
  exact held_fn _ _ false (.mp true 2 x.es) rfl k (by omega)
def s72 : Spec := spec2 (fun (x : Calc) (n : Int) => big x.r.issues.length) (fun x n => .bool (decide (0 ≤ n) && decide (n ≤ (x.r.issues.length : Int) - 1)))
theorem s72_ok : SpecOK Tryd.prog glB 72 s72 := spec2_ok E1_ok Tryd.func72 rfl (by kernel_rfl) fun x n h => by
  have := isIssue_fn x.r.goods (x.r.issues.map encI) false (.mp true 2 x.es) rfl n (by simpa [big] using h)
  rw [List.length_map] at this
  exact this
def s81 : Spec := spec2 (fun (x : Calc) (t : Item) => (-9223372036854775807 ≤ x.r.goods ∧ x.r.goods ≤ 9223372036854775807)) (fun x t => .bool (itemOk x.r.goods t.good t.size t.colour))
theorem s81_ok : SpecOK Tryd.prog glB 81 s81 := spec2_ok E1_ok Tryd.func81 rfl (by kernel_rfl) fun x t h => rackItem_fn x.r.goods _ false (.mp true 2 x.es) rfl _ _ _ h
def s83 : Spec := spec2 (fun (x : Rack) (t : Item) => (-9223372036854775807 ≤ x.goods ∧ x.goods ≤ 9223372036854775807)) (fun x t => .bool (itemOk x.goods t.good t.size t.colour))
theorem s83_ok : SpecOK Tryd.prog glB 83 s83 := spec2_ok E1_ok Tryd.func83 rfl (by kernel_rfl) fun x t h => isItem_fn x.goods _ false _ _ _ h
def E2t : List (Nat × Spec) := [(58, sIsDays), (62, sIsDays), (59, sIsNumber), (63, sIsNumber), (77, sisDayR), (52, sHas), (105, sfit), (64, sCommon), (65, sAt), (74, sOf), (47, sPlace), (70, sEntry), (104, sIn), (26, s26), (45, s45), (46, s46), (152, s152), (153, s153), (72, s72), (81, s81), (83, s83)] ++ E1t
theorem E2t_ok : AllOK E2t := ⟨⟨s58_ok, Tryd.call58⟩, ⟨s62_ok, Tryd.call62⟩, ⟨s59_ok, Tryd.call59⟩, ⟨s63_ok, Tryd.call63⟩, ⟨s77_ok, Tryd.call77⟩, ⟨s52_ok, Tryd.call52⟩, ⟨s105_ok, Tryd.call105⟩, ⟨s64_ok, Tryd.call64⟩, ⟨s65_ok, Tryd.call65⟩, ⟨s74_ok, Tryd.call74⟩, ⟨s47_ok, Tryd.call47⟩, ⟨s70_ok, Tryd.call70⟩, ⟨s104_ok, Tryd.call104⟩, ⟨s26_ok, Tryd.call26⟩, ⟨s45_ok, Tryd.call45⟩, ⟨s46_ok, Tryd.call46⟩, ⟨s152_ok, Tryd.call152⟩, ⟨s153_ok, Tryd.call153⟩, ⟨s72_ok, Tryd.call72⟩, ⟨s81_ok, Tryd.call81⟩, ⟨s83_ok, Tryd.call83⟩, E1t_ok⟩
def E2 : Env := mkE E2t []
theorem E2_ok : EnvOK Tryd.prog E2 := envOK E2t_ok trivial
theorem E2_ti {t : Nat} : E2.ti t = ti t := rfl
theorem E2_q0 : (E2).eqt 152 = true := rfl
theorem E2_q1 : (E2).eqt 69 = true := rfl
theorem E2_q2 : (E2).keyt 3 = true := rfl
theorem E2_q3 : (E2).keyt 108 = true := rfl
attribute [go_sem] E2_ti E2_q0 E2_q1 E2_q2 E2_q3
attribute [go_sem] dI_enc dE_enc dR_enc dF_map dE_map dI_map dZ_il dec_il dec_span dec_fit dec_entry dec_issue dec_rack dec_item dec_calc dec_fits dec_entries dec_issues dec_rint dec_rspan dec_ritem dec_rlines dec_rack' dec_entry' dec_issue' dec_fit' dE_ex dI_ex
end Wb
