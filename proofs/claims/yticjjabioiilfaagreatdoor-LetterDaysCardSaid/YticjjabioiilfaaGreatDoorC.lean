import Derived.Test.YticjjabioiilfaaGreatDoorB
import Derived.Test.YticjjabioiilfaaGreatDoorProg
import Derived.Test.YticjjabioiilfaaGreatDoorF
import Derived.Test.YticjjabioiilfaaGreatDoorO
set_option linter.unusedVariables false
set_option linter.unusedSimpArgs false
namespace Wb
open Go Go.Proofs
set_option maxRecDepth 100000
set_option maxHeartbeats 40000000
def zrep : PV → Value → Bool
 | .int k n, .int k' n' => k == k' && n == n'
 | .bool b, .bool b' => b == b'
 | .nilfn, .nilFunc => true
 | .nilmap, .map none => true
 | .nilptr, .pointer none => true
 | .sl [] true, .slice none 0 0 => true
 | _, _ => false
def zreps : List PV → List Value → Bool
 | [], [] => true
 | p :: ps, x :: xs => zrep p x && zreps ps xs
 | _, _ => false
theorem zrep_rep {w : World} {Z : Nat → Prop} {C : Ctx} {p : PV} {x : Value} (h : zrep p x = true) : Rep w Z C p x := by
 unfold zrep at h
 split at h
 ·simp at h; obtain ⟨rfl, rfl⟩ := h; exact .int
 ·simp at h; subst h; exact .bool
 ·exact .nilfn
 ·exact .nilmap
 ·exact .nilptr
 ·exact .sl 0 0 0 (fun _ _ => Go.undef) rfl (Nat.le_refl _) (fun _ => rfl) (fun h => absurd rfl h) (fun _ h => by cases h) (fun i row j p a => by simp at a) (fun i row j p a => by simp at a)
 ·cases h
theorem zreps_rep {w : World} {Z : Nat → Prop} {C : Ctx} : ∀ {ps : List PV} {xs : List Value}, zreps ps xs = true → RepS w Z C ps xs
 | [], [], _ => trivial
 | p :: ps, x :: xs, h => by simp [zreps] at h; exact ⟨zrep_rep h.1, zreps_rep h.2⟩
 | [], x :: xs, h => by simp [zreps] at h
 | p :: ps, [], h => by simp [zreps] at h
theorem tiok_mk {P : Program} {t : Nat} {x : TI} {d : TypeDesc} {i : TypeInfo} {z : Value} (hd : x.kind.isAgg = (d matches .struct _ | .array _ _)) (hu : P.underlying t = some d) (hi : P.info? t = some i) (hk : KindOK P t x.kind) (hs : i.size = x.size) (hb : i.bytes = x.bytes)
    (hz : i.zero = some z) (hc : z.cells.size = x.size) (hr : zreps x.zero z.cells.toList = true) (ha : x.kind.isAgg = true → ∃ arr, z = .agg arr) (hn : x.kind.isAgg = false → z.cells = #[z] ∧ x.size = 1) : TIok P t x where
 kind := hk
 info := fun _ => ⟨i, z, hi, hs, hb, hz, hc, fun w Z C => by have := (zreps_rep (w := w) (Z := Z) (C := C) hr).l; simpa using this, ha, hn⟩
 agg := fun _ => ⟨d, hu, hd⟩
theorem tS {P : Program} {t : Nat} {x : TI} {d : TypeDesc} (i : TypeInfo) {z : Value} (hm : (d matches .struct _ | .array _ _) = false) (hu : P.underlying t = some d) (hi : P.info? t = some i) (hk : x.kind = .scal) (hs : i.size = x.size) (hb : i.bytes = x.bytes) (hz : i.zero = some z) (hc : z.cells = #[z]) (h1 : x.size = 1) (hr : zreps x.zero [z] = true) : TIok P t x :=
 tiok_mk (by rw [hk, hm]; rfl) hu hi (by rw [hk]; exact ⟨_, hu, hm⟩) hs hb hz (by rw [hc, h1]; rfl) (by rw [hc]; exact hr) (fun h => by rw [hk] at h; cases h) (fun _ => ⟨hc, h1⟩)
theorem tiok_bad {P : Program} {t : Nat} : TIok P t default := ⟨trivial, fun h => absurd h (Nat.lt_irrefl 0), fun h => absurd h (Nat.lt_irrefl 0)⟩
def ti : Nat → TI
 | 1 => { kind := .scal, size := 1, bytes := 8, zero := [.nilfn] }
 | 2 => { kind := .scal, size := 1, bytes := 8, zero := [.int .i64 0] }
 | 3 => { kind := .scal, size := 1, bytes := 8, zero := [.int .i64 0] }
 | 4 => { kind := .boolk, size := 1, bytes := 1, zero := [.bool false] }
 | 5 => { kind := .scal, size := 1, bytes := 1, zero := [.int .u8 0] }
 | 6 => { kind := .scal, size := 1, bytes := 1, zero := [.int .u8 0] }
 | 7 => { kind := .struct [0, 1, 2, 3] [2, 3, 4, 6], size := 4, bytes := 24, zero := [.int .i64 0, .int .i64 0, .bool false, .int .u8 0] }
 | 8 => { kind := .struct [0, 1, 2, 3] [2, 3, 4, 6], size := 4, bytes := 24, zero := [.int .i64 0, .int .i64 0, .bool false, .int .u8 0] }
 | 12 => { kind := .scal, size := 1, bytes := 8, zero := [.int .u64 0] }
 | 15 => { kind := .scal, size := 1, bytes := 8, zero := [.nilptr] }
 | 16 => { kind := .scal, size := 1, bytes := 8, zero := [.nilptr] }
 | 17 => { kind := .scal, size := 1, bytes := 8, zero := [.nilptr] }
 | 18 => { kind := .struct [0] [17], size := 1, bytes := 8, zero := [.nilptr] }
 | 19 => { kind := .struct [0] [17], size := 1, bytes := 8, zero := [.nilptr] }
 | 21 => { kind := .scal, size := 1, bytes := 4, zero := [.int .i32 0] }
 | 22 => { kind := .slice 85, size := 1, bytes := 24, zero := [.sl [] true] }
 | 23 => { kind := .struct [0, 1] [3, 22], size := 2, bytes := 32, zero := [.int .i64 0, .sl [] true] }
 | 24 => { kind := .struct [0, 1] [3, 22], size := 2, bytes := 32, zero := [.int .i64 0, .sl [] true] }
 | 25 => { kind := .struct [0, 1] [3, 3], size := 2, bytes := 16, zero := [.int .i64 0, .int .i64 0] }
 | 26 => { kind := .struct [0, 1] [3, 3], size := 2, bytes := 16, zero := [.int .i64 0, .int .i64 0] }
 | 27 => { kind := .slice 49, size := 1, bytes := 24, zero := [.sl [] true] }
 | 28 => { kind := .struct [0, 2, 4, 5] [24, 26, 27, 26], size := 7, bytes := 88, zero := [.int .i64 0, .sl [] true, .int .i64 0, .int .i64 0, .sl [] true, .int .i64 0, .int .i64 0] }
 | 29 => { kind := .struct [0, 2, 4, 5] [24, 26, 27, 26], size := 7, bytes := 88, zero := [.int .i64 0, .sl [] true, .int .i64 0, .int .i64 0, .sl [] true, .int .i64 0, .int .i64 0] }
 | 30 => { kind := .arr 2 3, size := 2, bytes := 16, zero := [.int .i64 0, .int .i64 0] }
 | 31 => { kind := .scal, size := 1, bytes := 8, zero := [.nilfn] }
 | 32 => { kind := .scal, size := 1, bytes := 8, zero := [.nilfn] }
 | 33 => { kind := .slice 41, size := 1, bytes := 24, zero := [.sl [] true] }
 | 34 => { kind := .scal, size := 1, bytes := 8, zero := [.int .i64 0] }
 | 36 => { kind := .scal, size := 1, bytes := 8, zero := [.nilfn] }
 | 37 => { kind := .scal, size := 1, bytes := 8, zero := [.nilfn] }
 | 38 => { kind := .scal, size := 1, bytes := 8, zero := [.nilfn] }
 | 40 => { kind := .scal, size := 1, bytes := 8, zero := [.nilfn] }
 | 41 => { kind := .slice 79, size := 1, bytes := 24, zero := [.sl [] true] }
 | 43 => { kind := .scal, size := 1, bytes := 8, zero := [.nilfn] }
 | 44 => { kind := .scal, size := 1, bytes := 8, zero := [.nilfn] }
 | 45 => { kind := .scal, size := 1, bytes := 8, zero := [.nilfn] }
 | 46 => { kind := .slice 29, size := 1, bytes := 24, zero := [.sl [] true] }
 | 47 => { kind := .slice 3, size := 1, bytes := 24, zero := [.sl [] true] }
 | 48 => { kind := .struct [0, 1, 2, 4, 5] [47, 47, 26, 3, 26], size := 7, bytes := 88, zero := [.sl [] true, .sl [] true, .int .i64 0, .int .i64 0, .int .i64 0, .int .i64 0, .int .i64 0] }
 | 49 => { kind := .struct [0, 1, 2, 4, 5] [47, 47, 26, 3, 26], size := 7, bytes := 88, zero := [.sl [] true, .sl [] true, .int .i64 0, .int .i64 0, .int .i64 0, .int .i64 0, .int .i64 0] }
 | 51 => { kind := .scal, size := 1, bytes := 8, zero := [.nilfn] }
 | 52 => { kind := .slice 77, size := 1, bytes := 24, zero := [.sl [] true] }
 | 54 => { kind := .scal, size := 1, bytes := 8, zero := [.nilfn] }
 | 56 => { kind := .scal, size := 1, bytes := 8, zero := [.nilfn] }
 | 57 => { kind := .slice 65, size := 1, bytes := 24, zero := [.sl [] true] }
 | 59 => { kind := .scal, size := 1, bytes := 8, zero := [.nilfn] }
 | 60 => { kind := .scal, size := 1, bytes := 8, zero := [.nilfn] }
 | 61 => { kind := .scal, size := 1, bytes := 8, zero := [.nilfn] }
 | 62 => { kind := .scal, size := 1, bytes := 8, zero := [.nilfn] }
 | 63 => { kind := .scal, size := 1, bytes := 8, zero := [.nilfn] }
 | 64 => { kind := .struct [0, 1] [3, 3], size := 2, bytes := 16, zero := [.int .i64 0, .int .i64 0] }
 | 65 => { kind := .struct [0, 1] [3, 3], size := 2, bytes := 16, zero := [.int .i64 0, .int .i64 0] }
 | 66 => { kind := .scal, size := 1, bytes := 8, zero := [.nilfn] }
 | 67 => { kind := .scal, size := 1, bytes := 8, zero := [.nilfn] }
 | 68 => { kind := .scal, size := 1, bytes := 8, zero := [.nilfn] }
 | 69 => { kind := .scal, size := 1, bytes := 8, zero := [.nilfn] }
 | 70 => { kind := .scal, size := 1, bytes := 8, zero := [.nilfn] }
 | 72 => { kind := .scal, size := 1, bytes := 8, zero := [.nilfn] }
 | 73 => { kind := .scal, size := 1, bytes := 8, zero := [.nilfn] }
 | 74 => { kind := .scal, size := 1, bytes := 8, zero := [.nilfn] }
 | 75 => { kind := .scal, size := 1, bytes := 8, zero := [.nilfn] }
 | 76 => { kind := .struct [0, 1, 2] [3, 3, 3], size := 3, bytes := 24, zero := [.int .i64 0, .int .i64 0, .int .i64 0] }
 | 77 => { kind := .struct [0, 1, 2] [3, 3, 3], size := 3, bytes := 24, zero := [.int .i64 0, .int .i64 0, .int .i64 0] }
 | 78 => { kind := .struct [0, 3] [77, 3], size := 4, bytes := 32, zero := [.int .i64 0, .int .i64 0, .int .i64 0, .int .i64 0] }
 | 79 => { kind := .struct [0, 3] [77, 3], size := 4, bytes := 32, zero := [.int .i64 0, .int .i64 0, .int .i64 0, .int .i64 0] }
 | 80 => { kind := .scal, size := 1, bytes := 8, zero := [.nilfn] }
 | 81 => { kind := .scal, size := 1, bytes := 8, zero := [.nilfn] }
 | 82 => { kind := .scal, size := 1, bytes := 8, zero := [.nilfn] }
 | 83 => { kind := .slice 102, size := 1, bytes := 24, zero := [.sl [] true] }
 | 84 => { kind := .struct [0, 2, 3] [26, 3, 83], size := 4, bytes := 48, zero := [.int .i64 0, .int .i64 0, .int .i64 0, .sl [] true] }
 | 85 => { kind := .struct [0, 2, 3] [26, 3, 83], size := 4, bytes := 48, zero := [.int .i64 0, .int .i64 0, .int .i64 0, .sl [] true] }
 | 86 => { kind := .scal, size := 1, bytes := 8, zero := [.nilfn] }
 | 87 => { kind := .arr 3 3, size := 3, bytes := 24, zero := [.int .i64 0, .int .i64 0, .int .i64 0] }
 | 88 => { kind := .scal, size := 1, bytes := 8, zero := [.nilfn] }
 | 89 => { kind := .scal, size := 1, bytes := 8, zero := [.nilfn] }
 | 90 => { kind := .scal, size := 1, bytes := 8, zero := [.nilfn] }
 | 91 => { kind := .scal, size := 1, bytes := 8, zero := [.nilfn] }
 | 92 => { kind := .scal, size := 1, bytes := 8, zero := [.nilfn] }
 | 93 => { kind := .scal, size := 1, bytes := 8, zero := [.nilfn] }
 | 94 => { kind := .scal, size := 1, bytes := 8, zero := [.nilfn] }
 | 95 => { kind := .slice 4, size := 1, bytes := 24, zero := [.sl [] true] }
 | 96 => { kind := .scal, size := 1, bytes := 8, zero := [.nilfn] }
 | 97 => { kind := .scal, size := 1, bytes := 8, zero := [.nilfn] }
 | 98 => { kind := .scal, size := 1, bytes := 8, zero := [.nilfn] }
 | 99 => { kind := .scal, size := 1, bytes := 8, zero := [.nilfn] }
 | 100 => { kind := .slice 104, size := 1, bytes := 24, zero := [.sl [] true] }
 | 101 => { kind := .struct [0, 1, 2, 3] [3, 3, 3, 100], size := 4, bytes := 48, zero := [.int .i64 0, .int .i64 0, .int .i64 0, .sl [] true] }
 | 102 => { kind := .struct [0, 1, 2, 3] [3, 3, 3, 100], size := 4, bytes := 48, zero := [.int .i64 0, .int .i64 0, .int .i64 0, .sl [] true] }
 | 103 => { kind := .struct [0, 1, 3] [3, 26, 3], size := 4, bytes := 32, zero := [.int .i64 0, .int .i64 0, .int .i64 0, .int .i64 0] }
 | 104 => { kind := .struct [0, 1, 3] [3, 26, 3], size := 4, bytes := 32, zero := [.int .i64 0, .int .i64 0, .int .i64 0, .int .i64 0] }
 | 105 => { kind := .scal, size := 1, bytes := 8, zero := [.nilfn] }
 | 106 => { kind := .scal, size := 1, bytes := 8, zero := [.nilfn] }
 | 107 => { kind := .map 169 41, size := 1, bytes := 8, zero := [.nilmap] }
 | 108 => { kind := .struct [0, 7] [29, 107], size := 8, bytes := 96, zero := [.int .i64 0, .sl [] true, .int .i64 0, .int .i64 0, .sl [] true, .int .i64 0, .int .i64 0, .nilmap] }
 | 109 => { kind := .struct [0, 7] [29, 107], size := 8, bytes := 96, zero := [.int .i64 0, .sl [] true, .int .i64 0, .int .i64 0, .sl [] true, .int .i64 0, .int .i64 0, .nilmap] }
 | 110 => { kind := .slice 114, size := 1, bytes := 24, zero := [.sl [] true] }
 | 112 => { kind := .scal, size := 1, bytes := 8, zero := [.nilfn] }
 | 113 => { kind := .arr 2 79, size := 8, bytes := 64, zero := [.int .i64 0, .int .i64 0, .int .i64 0, .int .i64 0, .int .i64 0, .int .i64 0, .int .i64 0, .int .i64 0] }
 | 114 => { kind := .arr 2 79, size := 8, bytes := 64, zero := [.int .i64 0, .int .i64 0, .int .i64 0, .int .i64 0, .int .i64 0, .int .i64 0, .int .i64 0, .int .i64 0] }
 | 115 => { kind := .scal, size := 1, bytes := 8, zero := [.nilfn] }
 | 116 => { kind := .scal, size := 1, bytes := 8, zero := [.nilfn] }
 | 118 => { kind := .scal, size := 1, bytes := 8, zero := [.nilfn] }
 | 119 => { kind := .struct [0, 2] [26, 26], size := 4, bytes := 32, zero := [.int .i64 0, .int .i64 0, .int .i64 0, .int .i64 0] }
 | 120 => { kind := .struct [0, 2] [26, 26], size := 4, bytes := 32, zero := [.int .i64 0, .int .i64 0, .int .i64 0, .int .i64 0] }
 | 122 => { kind := .map 114 120, size := 1, bytes := 8, zero := [.nilmap] }
 | 123 => { kind := .scal, size := 1, bytes := 8, zero := [.nilfn] }
 | 124 => { kind := .scal, size := 1, bytes := 8, zero := [.nilfn] }
 | 125 => { kind := .scal, size := 1, bytes := 8, zero := [.nilfn] }
 | 126 => { kind := .scal, size := 1, bytes := 8, zero := [.nilfn] }
 | 127 => { kind := .scal, size := 1, bytes := 8, zero := [.nilfn] }
 | 128 => { kind := .scal, size := 1, bytes := 8, zero := [.nilfn] }
 | 129 => { kind := .arr 4 3, size := 4, bytes := 32, zero := [.int .i64 0, .int .i64 0, .int .i64 0, .int .i64 0] }
 | 130 => { kind := .scal, size := 1, bytes := 8, zero := [.nilfn] }
 | 131 => { kind := .arr 4 130, size := 4, bytes := 32, zero := [.nilfn, .nilfn, .nilfn, .nilfn] }
 | 132 => { kind := .scal, size := 1, bytes := 8, zero := [.nilfn] }
 | 133 => { kind := .scal, size := 1, bytes := 8, zero := [.nilfn] }
 | 135 => { kind := .scal, size := 1, bytes := 8, zero := [.nilfn] }
 | 136 => { kind := .scal, size := 1, bytes := 8, zero := [.nilfn] }
 | 137 => { kind := .slice 142, size := 1, bytes := 24, zero := [.sl [] true] }
 | 138 => { kind := .scal, size := 1, bytes := 8, zero := [.nilfn] }
 | 140 => { kind := .scal, size := 1, bytes := 8, zero := [.nilfn] }
 | 141 => { kind := .struct [0, 1, 2] [41, 47, 47], size := 3, bytes := 72, zero := [.sl [] true, .sl [] true, .sl [] true] }
 | 142 => { kind := .struct [0, 1, 2] [41, 47, 47], size := 3, bytes := 72, zero := [.sl [] true, .sl [] true, .sl [] true] }
 | 143 => { kind := .scal, size := 1, bytes := 8, zero := [.nilfn] }
 | 144 => { kind := .scal, size := 1, bytes := 8, zero := [.nilfn] }
 | 145 => { kind := .scal, size := 1, bytes := 8, zero := [.nilfn] }
 | 146 => { kind := .slice 26, size := 1, bytes := 24, zero := [.sl [] true] }
 | 147 => { kind := .scal, size := 1, bytes := 8, zero := [.nilfn] }
 | 148 => { kind := .scal, size := 1, bytes := 8, zero := [.nilfn] }
 | 149 => { kind := .scal, size := 1, bytes := 8, zero := [.nilfn] }
 | 150 => { kind := .arr 7 3, size := 7, bytes := 56, zero := [.int .i64 0, .int .i64 0, .int .i64 0, .int .i64 0, .int .i64 0, .int .i64 0, .int .i64 0] }
 | 151 => { kind := .scal, size := 1, bytes := 8, zero := [.nilfn] }
 | 152 => { kind := .scal, size := 1, bytes := 8, zero := [.nilfn] }
 | 153 => { kind := .map 193 102, size := 1, bytes := 8, zero := [.nilmap] }
 | 154 => { kind := .struct [0, 2] [24, 153], size := 3, bytes := 40, zero := [.int .i64 0, .sl [] true, .nilmap] }
 | 155 => { kind := .struct [0, 2] [24, 153], size := 3, bytes := 40, zero := [.int .i64 0, .sl [] true, .nilmap] }
 | 157 => { kind := .scal, size := 1, bytes := 8, zero := [.nilfn] }
 | 158 => { kind := .scal, size := 1, bytes := 8, zero := [.nilfn] }
 | 159 => { kind := .scal, size := 1, bytes := 8, zero := [.nilfn] }
 | 161 => { kind := .scal, size := 1, bytes := 8, zero := [.nilfn] }
 | 162 => { kind := .scal, size := 1, bytes := 8, zero := [.nilfn] }
 | 163 => { kind := .scal, size := 1, bytes := 8, zero := [.nilfn] }
 | 164 => { kind := .map 3 4, size := 1, bytes := 8, zero := [.nilmap] }
 | 165 => { kind := .scal, size := 1, bytes := 8, zero := [.nilfn] }
 | 166 => { kind := .scal, size := 1, bytes := 8, zero := [.nilfn] }
 | 167 => { kind := .scal, size := 1, bytes := 8, zero := [.nilfn] }
 | 168 => { kind := .struct [0, 1] [3, 3], size := 2, bytes := 16, zero := [.int .i64 0, .int .i64 0] }
 | 169 => { kind := .struct [0, 1] [3, 3], size := 2, bytes := 16, zero := [.int .i64 0, .int .i64 0] }
 | 170 => { kind := .scal, size := 1, bytes := 8, zero := [.nilfn] }
 | 171 => { kind := .scal, size := 1, bytes := 8, zero := [.nilfn] }
 | 172 => { kind := .scal, size := 1, bytes := 8, zero := [.nilfn] }
 | 173 => { kind := .scal, size := 1, bytes := 8, zero := [.nilfn] }
 | 174 => { kind := .scal, size := 1, bytes := 8, zero := [.nilfn] }
 | 175 => { kind := .scal, size := 1, bytes := 8, zero := [.nilfn] }
 | 176 => { kind := .scal, size := 1, bytes := 8, zero := [.nilfn] }
 | 177 => { kind := .scal, size := 1, bytes := 8, zero := [.int .u64 0] }
 | 178 => { kind := .scal, size := 1, bytes := 8, zero := [.nilfn] }
 | 179 => { kind := .map 180 4, size := 1, bytes := 8, zero := [.nilmap] }
 | 180 => { kind := .arr 8 3, size := 8, bytes := 64, zero := [.int .i64 0, .int .i64 0, .int .i64 0, .int .i64 0, .int .i64 0, .int .i64 0, .int .i64 0, .int .i64 0] }
 | 181 => { kind := .arr 10 4, size := 10, bytes := 10, zero := [.bool false, .bool false, .bool false, .bool false, .bool false, .bool false, .bool false, .bool false, .bool false, .bool false] }
 | 182 => { kind := .arr 10 4, size := 10, bytes := 10, zero := [.bool false, .bool false, .bool false, .bool false, .bool false, .bool false, .bool false, .bool false, .bool false, .bool false] }
 | 183 => { kind := .scal, size := 1, bytes := 8, zero := [.nilfn] }
 | 184 => { kind := .scal, size := 1, bytes := 8, zero := [.nilfn] }
 | 185 => { kind := .slice 186, size := 1, bytes := 24, zero := [.sl [] true] }
 | 186 => { kind := .slice 189, size := 1, bytes := 24, zero := [.sl [] true] }
 | 187 => { kind := .scal, size := 1, bytes := 8, zero := [.nilfn] }
 | 188 => { kind := .struct [0, 4, 5] [79, 3, 47], size := 6, bytes := 64, zero := [.int .i64 0, .int .i64 0, .int .i64 0, .int .i64 0, .int .i64 0, .sl [] true] }
 | 189 => { kind := .struct [0, 4, 5] [79, 3, 47], size := 6, bytes := 64, zero := [.int .i64 0, .int .i64 0, .int .i64 0, .int .i64 0, .int .i64 0, .sl [] true] }
 | 190 => { kind := .scal, size := 1, bytes := 8, zero := [.nilfn] }
 | 191 => { kind := .scal, size := 1, bytes := 8, zero := [.nilfn] }
 | 192 => { kind := .struct [0, 1] [3, 3], size := 2, bytes := 16, zero := [.int .i64 0, .int .i64 0] }
 | 193 => { kind := .struct [0, 1] [3, 3], size := 2, bytes := 16, zero := [.int .i64 0, .int .i64 0] }
 | 194 => { kind := .scal, size := 1, bytes := 8, zero := [.nilfn] }
 | 195 => { kind := .scal, size := 1, bytes := 8, zero := [.nilfn] }
 | 196 => { kind := .scal, size := 1, bytes := 8, zero := [.nilfn] }
 | 197 => { kind := .scal, size := 1, bytes := 8, zero := [.nilfn] }
 | 198 => { kind := .scal, size := 1, bytes := 8, zero := [.nilfn] }
 | 199 => { kind := .scal, size := 1, bytes := 8, zero := [.nilfn] }
 | 200 => { kind := .struct [0] [199], size := 1, bytes := 8, zero := [.nilfn] }
 | 201 => { kind := .struct [0] [199], size := 1, bytes := 8, zero := [.nilfn] }
 | 202 => { kind := .scal, size := 1, bytes := 8, zero := [.nilfn] }
 | 203 => { kind := .scal, size := 1, bytes := 8, zero := [.nilfn] }
 | 204 => { kind := .struct [0] [49], size := 7, bytes := 88, zero := [.sl [] true, .sl [] true, .int .i64 0, .int .i64 0, .int .i64 0, .int .i64 0, .int .i64 0] }
 | 205 => { kind := .struct [0] [49], size := 7, bytes := 88, zero := [.sl [] true, .sl [] true, .int .i64 0, .int .i64 0, .int .i64 0, .int .i64 0, .int .i64 0] }
 | 206 => { kind := .scal, size := 1, bytes := 8, zero := [.nilfn] }
 | 207 => { kind := .scal, size := 1, bytes := 8, zero := [.nilfn] }
 | 208 => { kind := .scal, size := 1, bytes := 8, zero := [.nilfn] }
 | 209 => { kind := .scal, size := 1, bytes := 8, zero := [.nilfn] }
 | 210 => { kind := .scal, size := 1, bytes := 8, zero := [.nilfn] }
 | 211 => { kind := .scal, size := 1, bytes := 8, zero := [.nilfn] }
 | 212 => { kind := .scal, size := 1, bytes := 8, zero := [.int .i64 0] }
 | 214 => { kind := .scal, size := 1, bytes := 8, zero := [.nilfn] }
 | 215 => { kind := .scal, size := 1, bytes := 8, zero := [.nilfn] }
 | 216 => { kind := .scal, size := 1, bytes := 8, zero := [.nilfn] }
 | 217 => { kind := .scal, size := 1, bytes := 8, zero := [.nilfn] }
 | 218 => { kind := .scal, size := 1, bytes := 8, zero := [.nilfn] }
 | 219 => { kind := .scal, size := 1, bytes := 4, zero := [.int .u32 0] }
 | 220 => { kind := .scal, size := 1, bytes := 8, zero := [.nilfn] }
 | 221 => { kind := .scal, size := 1, bytes := 8, zero := [.int .u64 0] }
 | 222 => { kind := .scal, size := 1, bytes := 8, zero := [.nilfn] }
 | 223 => { kind := .scal, size := 1, bytes := 8, zero := [.nilfn] }
 | 224 => { kind := .scal, size := 1, bytes := 8, zero := [.nilfn] }
 | 225 => { kind := .scal, size := 1, bytes := 8, zero := [.nilfn] }
 | 226 => { kind := .scal, size := 1, bytes := 8, zero := [.nilfn] }
 | 227 => { kind := .scal, size := 1, bytes := 8, zero := [.nilfn] }
 | 228 => { kind := .scal, size := 1, bytes := 8, zero := [.int .u64 0] }
 | 229 => { kind := .scal, size := 1, bytes := 8, zero := [.nilfn] }
 | 230 => { kind := .scal, size := 1, bytes := 8, zero := [.nilfn] }
 | 231 => { kind := .scal, size := 1, bytes := 8, zero := [.nilfn] }
 | 232 => { kind := .scal, size := 1, bytes := 8, zero := [.nilptr] }
 | 233 => { kind := .scal, size := 1, bytes := 8, zero := [.nilfn] }
 | 234 => { kind := .scal, size := 1, bytes := 8, zero := [.nilfn] }
 | 235 => { kind := .scal, size := 1, bytes := 8, zero := [.nilfn] }
 | 236 => { kind := .scal, size := 1, bytes := 8, zero := [.nilfn] }
 | 237 => { kind := .scal, size := 1, bytes := 8, zero := [.nilfn] }
 | 238 => { kind := .scal, size := 1, bytes := 8, zero := [.nilfn] }
 | 239 => { kind := .arr 2 238, size := 2, bytes := 16, zero := [.nilfn, .nilfn] }
 | 241 => { kind := .scal, size := 1, bytes := 8, zero := [.nilfn] }
 | 242 => { kind := .arr 4 4, size := 4, bytes := 4, zero := [.bool false, .bool false, .bool false, .bool false] }
 | 243 => { kind := .arr 4 4, size := 4, bytes := 4, zero := [.bool false, .bool false, .bool false, .bool false] }
 | 244 => { kind := .scal, size := 1, bytes := 8, zero := [.nilfn] }
 | 245 => { kind := .scal, size := 1, bytes := 8, zero := [.nilfn] }
 | 246 => { kind := .struct [0] [203], size := 1, bytes := 8, zero := [.nilfn] }
 | 247 => { kind := .struct [0] [203], size := 1, bytes := 8, zero := [.nilfn] }
 | 248 => { kind := .scal, size := 1, bytes := 8, zero := [.nilfn] }
 | 249 => { kind := .scal, size := 1, bytes := 8, zero := [.nilfn] }
 | 250 => { kind := .scal, size := 1, bytes := 8, zero := [.nilfn] }
 | 251 => { kind := .scal, size := 1, bytes := 8, zero := [.nilfn] }
 | 252 => { kind := .scal, size := 1, bytes := 8, zero := [.nilfn] }
 | 253 => { kind := .scal, size := 1, bytes := 8, zero := [.nilfn] }
 | 254 => { kind := .scal, size := 1, bytes := 8, zero := [.nilfn] }
 | 255 => { kind := .scal, size := 1, bytes := 8, zero := [.nilfn] }
 | 256 => { kind := .scal, size := 1, bytes := 8, zero := [.nilfn] }
 | 257 => { kind := .scal, size := 1, bytes := 8, zero := [.nilfn] }
 | 258 => { kind := .scal, size := 1, bytes := 8, zero := [.nilfn] }
 | 259 => { kind := .scal, size := 1, bytes := 8, zero := [.nilptr] }
 | 261 => { kind := .scal, size := 1, bytes := 8, zero := [.nilfn] }
 | 262 => { kind := .scal, size := 1, bytes := 8, zero := [.nilfn] }
 | 263 => { kind := .scal, size := 1, bytes := 8, zero := [.nilfn] }
 | 264 => { kind := .scal, size := 1, bytes := 8, zero := [.nilfn] }
 | 265 => { kind := .scal, size := 1, bytes := 8, zero := [.nilfn] }
 | 266 => { kind := .scal, size := 1, bytes := 8, zero := [.nilfn] }
 | 267 => { kind := .scal, size := 1, bytes := 8, zero := [.nilfn] }
 | 268 => { kind := .scal, size := 1, bytes := 8, zero := [.nilfn] }
 | 269 => { kind := .scal, size := 1, bytes := 8, zero := [.nilfn] }
 | 270 => { kind := .scal, size := 1, bytes := 8, zero := [.nilfn] }
 | 271 => { kind := .scal, size := 1, bytes := 8, zero := [.nilfn] }
 | 272 => { kind := .scal, size := 1, bytes := 8, zero := [.nilfn] }
 | 275 => { kind := .arr 0 16, size := 0, bytes := 0, zero := [] }
 | 276 => { kind := .struct [0] [275], size := 0, bytes := 0, zero := [] }
 | 277 => { kind := .struct [0] [275], size := 0, bytes := 0, zero := [] }
 | 278 => { kind := .scal, size := 1, bytes := 1, zero := [.int .u8 0] }
 | 279 => { kind := .scal, size := 1, bytes := 1, zero := [.int .u8 0] }
 | 280 => { kind := .scal, size := 1, bytes := 8, zero := [.nilfn] }
 | 281 => { kind := .scal, size := 1, bytes := 8, zero := [.nilptr] }
 | 282 => { kind := .scal, size := 1, bytes := 4, zero := [.int .i32 0] }
 | 283 => { kind := .scal, size := 1, bytes := 4, zero := [.int .i32 0] }
 | 286 => { kind := .scal, size := 1, bytes := 8, zero := [.nilfn] }
 | _ => default
theorem ti1 : ti 1 = { kind := .scal, size := 1, bytes := 8, zero := [.nilfn] } := rfl
theorem ti2 : ti 2 = { kind := .scal, size := 1, bytes := 8, zero := [.int .i64 0] } := rfl
theorem ti3 : ti 3 = { kind := .scal, size := 1, bytes := 8, zero := [.int .i64 0] } := rfl
theorem ti4 : ti 4 = { kind := .boolk, size := 1, bytes := 1, zero := [.bool false] } := rfl
theorem ti5 : ti 5 = { kind := .scal, size := 1, bytes := 1, zero := [.int .u8 0] } := rfl
theorem ti6 : ti 6 = { kind := .scal, size := 1, bytes := 1, zero := [.int .u8 0] } := rfl
theorem ti7 : ti 7 = { kind := .struct [0, 1, 2, 3] [2, 3, 4, 6], size := 4, bytes := 24, zero := [.int .i64 0, .int .i64 0, .bool false, .int .u8 0] } := rfl
theorem ti8 : ti 8 = { kind := .struct [0, 1, 2, 3] [2, 3, 4, 6], size := 4, bytes := 24, zero := [.int .i64 0, .int .i64 0, .bool false, .int .u8 0] } := rfl
theorem ti12 : ti 12 = { kind := .scal, size := 1, bytes := 8, zero := [.int .u64 0] } := rfl
theorem ti15 : ti 15 = { kind := .scal, size := 1, bytes := 8, zero := [.nilptr] } := rfl
theorem ti16 : ti 16 = { kind := .scal, size := 1, bytes := 8, zero := [.nilptr] } := rfl
theorem ti17 : ti 17 = { kind := .scal, size := 1, bytes := 8, zero := [.nilptr] } := rfl
theorem ti18 : ti 18 = { kind := .struct [0] [17], size := 1, bytes := 8, zero := [.nilptr] } := rfl
theorem ti19 : ti 19 = { kind := .struct [0] [17], size := 1, bytes := 8, zero := [.nilptr] } := rfl
theorem ti21 : ti 21 = { kind := .scal, size := 1, bytes := 4, zero := [.int .i32 0] } := rfl
theorem ti22 : ti 22 = { kind := .slice 85, size := 1, bytes := 24, zero := [.sl [] true] } := rfl
theorem ti23 : ti 23 = { kind := .struct [0, 1] [3, 22], size := 2, bytes := 32, zero := [.int .i64 0, .sl [] true] } := rfl
theorem ti24 : ti 24 = { kind := .struct [0, 1] [3, 22], size := 2, bytes := 32, zero := [.int .i64 0, .sl [] true] } := rfl
theorem ti25 : ti 25 = { kind := .struct [0, 1] [3, 3], size := 2, bytes := 16, zero := [.int .i64 0, .int .i64 0] } := rfl
theorem ti26 : ti 26 = { kind := .struct [0, 1] [3, 3], size := 2, bytes := 16, zero := [.int .i64 0, .int .i64 0] } := rfl
theorem ti27 : ti 27 = { kind := .slice 49, size := 1, bytes := 24, zero := [.sl [] true] } := rfl
theorem ti28 : ti 28 = { kind := .struct [0, 2, 4, 5] [24, 26, 27, 26], size := 7, bytes := 88, zero := [.int .i64 0, .sl [] true, .int .i64 0, .int .i64 0, .sl [] true, .int .i64 0, .int .i64 0] } := rfl
theorem ti29 : ti 29 = { kind := .struct [0, 2, 4, 5] [24, 26, 27, 26], size := 7, bytes := 88, zero := [.int .i64 0, .sl [] true, .int .i64 0, .int .i64 0, .sl [] true, .int .i64 0, .int .i64 0] } := rfl
theorem ti30 : ti 30 = { kind := .arr 2 3, size := 2, bytes := 16, zero := [.int .i64 0, .int .i64 0] } := rfl
theorem ti31 : ti 31 = { kind := .scal, size := 1, bytes := 8, zero := [.nilfn] } := rfl
theorem ti32 : ti 32 = { kind := .scal, size := 1, bytes := 8, zero := [.nilfn] } := rfl
theorem ti33 : ti 33 = { kind := .slice 41, size := 1, bytes := 24, zero := [.sl [] true] } := rfl
theorem ti34 : ti 34 = { kind := .scal, size := 1, bytes := 8, zero := [.int .i64 0] } := rfl
theorem ti36 : ti 36 = { kind := .scal, size := 1, bytes := 8, zero := [.nilfn] } := rfl
theorem ti37 : ti 37 = { kind := .scal, size := 1, bytes := 8, zero := [.nilfn] } := rfl
theorem ti38 : ti 38 = { kind := .scal, size := 1, bytes := 8, zero := [.nilfn] } := rfl
theorem ti40 : ti 40 = { kind := .scal, size := 1, bytes := 8, zero := [.nilfn] } := rfl
theorem ti41 : ti 41 = { kind := .slice 79, size := 1, bytes := 24, zero := [.sl [] true] } := rfl
theorem ti43 : ti 43 = { kind := .scal, size := 1, bytes := 8, zero := [.nilfn] } := rfl
theorem ti44 : ti 44 = { kind := .scal, size := 1, bytes := 8, zero := [.nilfn] } := rfl
theorem ti45 : ti 45 = { kind := .scal, size := 1, bytes := 8, zero := [.nilfn] } := rfl
theorem ti46 : ti 46 = { kind := .slice 29, size := 1, bytes := 24, zero := [.sl [] true] } := rfl
theorem ti47 : ti 47 = { kind := .slice 3, size := 1, bytes := 24, zero := [.sl [] true] } := rfl
theorem ti48 : ti 48 = { kind := .struct [0, 1, 2, 4, 5] [47, 47, 26, 3, 26], size := 7, bytes := 88, zero := [.sl [] true, .sl [] true, .int .i64 0, .int .i64 0, .int .i64 0, .int .i64 0, .int .i64 0] } := rfl
theorem ti49 : ti 49 = { kind := .struct [0, 1, 2, 4, 5] [47, 47, 26, 3, 26], size := 7, bytes := 88, zero := [.sl [] true, .sl [] true, .int .i64 0, .int .i64 0, .int .i64 0, .int .i64 0, .int .i64 0] } := rfl
theorem ti51 : ti 51 = { kind := .scal, size := 1, bytes := 8, zero := [.nilfn] } := rfl
theorem ti52 : ti 52 = { kind := .slice 77, size := 1, bytes := 24, zero := [.sl [] true] } := rfl
theorem ti54 : ti 54 = { kind := .scal, size := 1, bytes := 8, zero := [.nilfn] } := rfl
theorem ti56 : ti 56 = { kind := .scal, size := 1, bytes := 8, zero := [.nilfn] } := rfl
theorem ti57 : ti 57 = { kind := .slice 65, size := 1, bytes := 24, zero := [.sl [] true] } := rfl
theorem ti59 : ti 59 = { kind := .scal, size := 1, bytes := 8, zero := [.nilfn] } := rfl
theorem ti60 : ti 60 = { kind := .scal, size := 1, bytes := 8, zero := [.nilfn] } := rfl
theorem ti61 : ti 61 = { kind := .scal, size := 1, bytes := 8, zero := [.nilfn] } := rfl
theorem ti62 : ti 62 = { kind := .scal, size := 1, bytes := 8, zero := [.nilfn] } := rfl
theorem ti63 : ti 63 = { kind := .scal, size := 1, bytes := 8, zero := [.nilfn] } := rfl
theorem ti64 : ti 64 = { kind := .struct [0, 1] [3, 3], size := 2, bytes := 16, zero := [.int .i64 0, .int .i64 0] } := rfl
theorem ti65 : ti 65 = { kind := .struct [0, 1] [3, 3], size := 2, bytes := 16, zero := [.int .i64 0, .int .i64 0] } := rfl
theorem ti66 : ti 66 = { kind := .scal, size := 1, bytes := 8, zero := [.nilfn] } := rfl
theorem ti67 : ti 67 = { kind := .scal, size := 1, bytes := 8, zero := [.nilfn] } := rfl
theorem ti68 : ti 68 = { kind := .scal, size := 1, bytes := 8, zero := [.nilfn] } := rfl
theorem ti69 : ti 69 = { kind := .scal, size := 1, bytes := 8, zero := [.nilfn] } := rfl
theorem ti70 : ti 70 = { kind := .scal, size := 1, bytes := 8, zero := [.nilfn] } := rfl
theorem ti72 : ti 72 = { kind := .scal, size := 1, bytes := 8, zero := [.nilfn] } := rfl
theorem ti73 : ti 73 = { kind := .scal, size := 1, bytes := 8, zero := [.nilfn] } := rfl
theorem ti74 : ti 74 = { kind := .scal, size := 1, bytes := 8, zero := [.nilfn] } := rfl
theorem ti75 : ti 75 = { kind := .scal, size := 1, bytes := 8, zero := [.nilfn] } := rfl
theorem ti76 : ti 76 = { kind := .struct [0, 1, 2] [3, 3, 3], size := 3, bytes := 24, zero := [.int .i64 0, .int .i64 0, .int .i64 0] } := rfl
theorem ti77 : ti 77 = { kind := .struct [0, 1, 2] [3, 3, 3], size := 3, bytes := 24, zero := [.int .i64 0, .int .i64 0, .int .i64 0] } := rfl
theorem ti78 : ti 78 = { kind := .struct [0, 3] [77, 3], size := 4, bytes := 32, zero := [.int .i64 0, .int .i64 0, .int .i64 0, .int .i64 0] } := rfl
theorem ti79 : ti 79 = { kind := .struct [0, 3] [77, 3], size := 4, bytes := 32, zero := [.int .i64 0, .int .i64 0, .int .i64 0, .int .i64 0] } := rfl
theorem ti80 : ti 80 = { kind := .scal, size := 1, bytes := 8, zero := [.nilfn] } := rfl
theorem ti81 : ti 81 = { kind := .scal, size := 1, bytes := 8, zero := [.nilfn] } := rfl
theorem ti82 : ti 82 = { kind := .scal, size := 1, bytes := 8, zero := [.nilfn] } := rfl
theorem ti83 : ti 83 = { kind := .slice 102, size := 1, bytes := 24, zero := [.sl [] true] } := rfl
theorem ti84 : ti 84 = { kind := .struct [0, 2, 3] [26, 3, 83], size := 4, bytes := 48, zero := [.int .i64 0, .int .i64 0, .int .i64 0, .sl [] true] } := rfl
theorem ti85 : ti 85 = { kind := .struct [0, 2, 3] [26, 3, 83], size := 4, bytes := 48, zero := [.int .i64 0, .int .i64 0, .int .i64 0, .sl [] true] } := rfl
theorem ti86 : ti 86 = { kind := .scal, size := 1, bytes := 8, zero := [.nilfn] } := rfl
theorem ti87 : ti 87 = { kind := .arr 3 3, size := 3, bytes := 24, zero := [.int .i64 0, .int .i64 0, .int .i64 0] } := rfl
theorem ti88 : ti 88 = { kind := .scal, size := 1, bytes := 8, zero := [.nilfn] } := rfl
theorem ti89 : ti 89 = { kind := .scal, size := 1, bytes := 8, zero := [.nilfn] } := rfl
theorem ti90 : ti 90 = { kind := .scal, size := 1, bytes := 8, zero := [.nilfn] } := rfl
theorem ti91 : ti 91 = { kind := .scal, size := 1, bytes := 8, zero := [.nilfn] } := rfl
theorem ti92 : ti 92 = { kind := .scal, size := 1, bytes := 8, zero := [.nilfn] } := rfl
theorem ti93 : ti 93 = { kind := .scal, size := 1, bytes := 8, zero := [.nilfn] } := rfl
theorem ti94 : ti 94 = { kind := .scal, size := 1, bytes := 8, zero := [.nilfn] } := rfl
theorem ti95 : ti 95 = { kind := .slice 4, size := 1, bytes := 24, zero := [.sl [] true] } := rfl
theorem ti96 : ti 96 = { kind := .scal, size := 1, bytes := 8, zero := [.nilfn] } := rfl
theorem ti97 : ti 97 = { kind := .scal, size := 1, bytes := 8, zero := [.nilfn] } := rfl
theorem ti98 : ti 98 = { kind := .scal, size := 1, bytes := 8, zero := [.nilfn] } := rfl
theorem ti99 : ti 99 = { kind := .scal, size := 1, bytes := 8, zero := [.nilfn] } := rfl
theorem ti100 : ti 100 = { kind := .slice 104, size := 1, bytes := 24, zero := [.sl [] true] } := rfl
theorem ti101 : ti 101 = { kind := .struct [0, 1, 2, 3] [3, 3, 3, 100], size := 4, bytes := 48, zero := [.int .i64 0, .int .i64 0, .int .i64 0, .sl [] true] } := rfl
theorem ti102 : ti 102 = { kind := .struct [0, 1, 2, 3] [3, 3, 3, 100], size := 4, bytes := 48, zero := [.int .i64 0, .int .i64 0, .int .i64 0, .sl [] true] } := rfl
theorem ti103 : ti 103 = { kind := .struct [0, 1, 3] [3, 26, 3], size := 4, bytes := 32, zero := [.int .i64 0, .int .i64 0, .int .i64 0, .int .i64 0] } := rfl
theorem ti104 : ti 104 = { kind := .struct [0, 1, 3] [3, 26, 3], size := 4, bytes := 32, zero := [.int .i64 0, .int .i64 0, .int .i64 0, .int .i64 0] } := rfl
theorem ti105 : ti 105 = { kind := .scal, size := 1, bytes := 8, zero := [.nilfn] } := rfl
theorem ti106 : ti 106 = { kind := .scal, size := 1, bytes := 8, zero := [.nilfn] } := rfl
theorem ti107 : ti 107 = { kind := .map 169 41, size := 1, bytes := 8, zero := [.nilmap] } := rfl
theorem ti108 : ti 108 = { kind := .struct [0, 7] [29, 107], size := 8, bytes := 96, zero := [.int .i64 0, .sl [] true, .int .i64 0, .int .i64 0, .sl [] true, .int .i64 0, .int .i64 0, .nilmap] } := rfl
theorem ti109 : ti 109 = { kind := .struct [0, 7] [29, 107], size := 8, bytes := 96, zero := [.int .i64 0, .sl [] true, .int .i64 0, .int .i64 0, .sl [] true, .int .i64 0, .int .i64 0, .nilmap] } := rfl
theorem ti110 : ti 110 = { kind := .slice 114, size := 1, bytes := 24, zero := [.sl [] true] } := rfl
theorem ti112 : ti 112 = { kind := .scal, size := 1, bytes := 8, zero := [.nilfn] } := rfl
theorem ti113 : ti 113 = { kind := .arr 2 79, size := 8, bytes := 64, zero := [.int .i64 0, .int .i64 0, .int .i64 0, .int .i64 0, .int .i64 0, .int .i64 0, .int .i64 0, .int .i64 0] } := rfl
theorem ti114 : ti 114 = { kind := .arr 2 79, size := 8, bytes := 64, zero := [.int .i64 0, .int .i64 0, .int .i64 0, .int .i64 0, .int .i64 0, .int .i64 0, .int .i64 0, .int .i64 0] } := rfl
theorem ti115 : ti 115 = { kind := .scal, size := 1, bytes := 8, zero := [.nilfn] } := rfl
theorem ti116 : ti 116 = { kind := .scal, size := 1, bytes := 8, zero := [.nilfn] } := rfl
theorem ti118 : ti 118 = { kind := .scal, size := 1, bytes := 8, zero := [.nilfn] } := rfl
theorem ti119 : ti 119 = { kind := .struct [0, 2] [26, 26], size := 4, bytes := 32, zero := [.int .i64 0, .int .i64 0, .int .i64 0, .int .i64 0] } := rfl
theorem ti120 : ti 120 = { kind := .struct [0, 2] [26, 26], size := 4, bytes := 32, zero := [.int .i64 0, .int .i64 0, .int .i64 0, .int .i64 0] } := rfl
theorem ti122 : ti 122 = { kind := .map 114 120, size := 1, bytes := 8, zero := [.nilmap] } := rfl
theorem ti123 : ti 123 = { kind := .scal, size := 1, bytes := 8, zero := [.nilfn] } := rfl
theorem ti124 : ti 124 = { kind := .scal, size := 1, bytes := 8, zero := [.nilfn] } := rfl
theorem ti125 : ti 125 = { kind := .scal, size := 1, bytes := 8, zero := [.nilfn] } := rfl
theorem ti126 : ti 126 = { kind := .scal, size := 1, bytes := 8, zero := [.nilfn] } := rfl
theorem ti127 : ti 127 = { kind := .scal, size := 1, bytes := 8, zero := [.nilfn] } := rfl
theorem ti128 : ti 128 = { kind := .scal, size := 1, bytes := 8, zero := [.nilfn] } := rfl
theorem ti129 : ti 129 = { kind := .arr 4 3, size := 4, bytes := 32, zero := [.int .i64 0, .int .i64 0, .int .i64 0, .int .i64 0] } := rfl
theorem ti130 : ti 130 = { kind := .scal, size := 1, bytes := 8, zero := [.nilfn] } := rfl
theorem ti131 : ti 131 = { kind := .arr 4 130, size := 4, bytes := 32, zero := [.nilfn, .nilfn, .nilfn, .nilfn] } := rfl
theorem ti132 : ti 132 = { kind := .scal, size := 1, bytes := 8, zero := [.nilfn] } := rfl
theorem ti133 : ti 133 = { kind := .scal, size := 1, bytes := 8, zero := [.nilfn] } := rfl
theorem ti135 : ti 135 = { kind := .scal, size := 1, bytes := 8, zero := [.nilfn] } := rfl
theorem ti136 : ti 136 = { kind := .scal, size := 1, bytes := 8, zero := [.nilfn] } := rfl
theorem ti137 : ti 137 = { kind := .slice 142, size := 1, bytes := 24, zero := [.sl [] true] } := rfl
theorem ti138 : ti 138 = { kind := .scal, size := 1, bytes := 8, zero := [.nilfn] } := rfl
theorem ti140 : ti 140 = { kind := .scal, size := 1, bytes := 8, zero := [.nilfn] } := rfl
theorem ti141 : ti 141 = { kind := .struct [0, 1, 2] [41, 47, 47], size := 3, bytes := 72, zero := [.sl [] true, .sl [] true, .sl [] true] } := rfl
theorem ti142 : ti 142 = { kind := .struct [0, 1, 2] [41, 47, 47], size := 3, bytes := 72, zero := [.sl [] true, .sl [] true, .sl [] true] } := rfl
theorem ti143 : ti 143 = { kind := .scal, size := 1, bytes := 8, zero := [.nilfn] } := rfl
theorem ti144 : ti 144 = { kind := .scal, size := 1, bytes := 8, zero := [.nilfn] } := rfl
theorem ti145 : ti 145 = { kind := .scal, size := 1, bytes := 8, zero := [.nilfn] } := rfl
theorem ti146 : ti 146 = { kind := .slice 26, size := 1, bytes := 24, zero := [.sl [] true] } := rfl
theorem ti147 : ti 147 = { kind := .scal, size := 1, bytes := 8, zero := [.nilfn] } := rfl
theorem ti148 : ti 148 = { kind := .scal, size := 1, bytes := 8, zero := [.nilfn] } := rfl
theorem ti149 : ti 149 = { kind := .scal, size := 1, bytes := 8, zero := [.nilfn] } := rfl
theorem ti150 : ti 150 = { kind := .arr 7 3, size := 7, bytes := 56, zero := [.int .i64 0, .int .i64 0, .int .i64 0, .int .i64 0, .int .i64 0, .int .i64 0, .int .i64 0] } := rfl
theorem ti151 : ti 151 = { kind := .scal, size := 1, bytes := 8, zero := [.nilfn] } := rfl
theorem ti152 : ti 152 = { kind := .scal, size := 1, bytes := 8, zero := [.nilfn] } := rfl
theorem ti153 : ti 153 = { kind := .map 193 102, size := 1, bytes := 8, zero := [.nilmap] } := rfl
theorem ti154 : ti 154 = { kind := .struct [0, 2] [24, 153], size := 3, bytes := 40, zero := [.int .i64 0, .sl [] true, .nilmap] } := rfl
theorem ti155 : ti 155 = { kind := .struct [0, 2] [24, 153], size := 3, bytes := 40, zero := [.int .i64 0, .sl [] true, .nilmap] } := rfl
theorem ti157 : ti 157 = { kind := .scal, size := 1, bytes := 8, zero := [.nilfn] } := rfl
theorem ti158 : ti 158 = { kind := .scal, size := 1, bytes := 8, zero := [.nilfn] } := rfl
theorem ti159 : ti 159 = { kind := .scal, size := 1, bytes := 8, zero := [.nilfn] } := rfl
theorem ti161 : ti 161 = { kind := .scal, size := 1, bytes := 8, zero := [.nilfn] } := rfl
theorem ti162 : ti 162 = { kind := .scal, size := 1, bytes := 8, zero := [.nilfn] } := rfl
theorem ti163 : ti 163 = { kind := .scal, size := 1, bytes := 8, zero := [.nilfn] } := rfl
theorem ti164 : ti 164 = { kind := .map 3 4, size := 1, bytes := 8, zero := [.nilmap] } := rfl
theorem ti165 : ti 165 = { kind := .scal, size := 1, bytes := 8, zero := [.nilfn] } := rfl
theorem ti166 : ti 166 = { kind := .scal, size := 1, bytes := 8, zero := [.nilfn] } := rfl
theorem ti167 : ti 167 = { kind := .scal, size := 1, bytes := 8, zero := [.nilfn] } := rfl
theorem ti168 : ti 168 = { kind := .struct [0, 1] [3, 3], size := 2, bytes := 16, zero := [.int .i64 0, .int .i64 0] } := rfl
theorem ti169 : ti 169 = { kind := .struct [0, 1] [3, 3], size := 2, bytes := 16, zero := [.int .i64 0, .int .i64 0] } := rfl
theorem ti170 : ti 170 = { kind := .scal, size := 1, bytes := 8, zero := [.nilfn] } := rfl
theorem ti171 : ti 171 = { kind := .scal, size := 1, bytes := 8, zero := [.nilfn] } := rfl
theorem ti172 : ti 172 = { kind := .scal, size := 1, bytes := 8, zero := [.nilfn] } := rfl
theorem ti173 : ti 173 = { kind := .scal, size := 1, bytes := 8, zero := [.nilfn] } := rfl
theorem ti174 : ti 174 = { kind := .scal, size := 1, bytes := 8, zero := [.nilfn] } := rfl
theorem ti175 : ti 175 = { kind := .scal, size := 1, bytes := 8, zero := [.nilfn] } := rfl
theorem ti176 : ti 176 = { kind := .scal, size := 1, bytes := 8, zero := [.nilfn] } := rfl
theorem ti177 : ti 177 = { kind := .scal, size := 1, bytes := 8, zero := [.int .u64 0] } := rfl
theorem ti178 : ti 178 = { kind := .scal, size := 1, bytes := 8, zero := [.nilfn] } := rfl
theorem ti179 : ti 179 = { kind := .map 180 4, size := 1, bytes := 8, zero := [.nilmap] } := rfl
theorem ti180 : ti 180 = { kind := .arr 8 3, size := 8, bytes := 64, zero := [.int .i64 0, .int .i64 0, .int .i64 0, .int .i64 0, .int .i64 0, .int .i64 0, .int .i64 0, .int .i64 0] } := rfl
theorem ti181 : ti 181 = { kind := .arr 10 4, size := 10, bytes := 10, zero := [.bool false, .bool false, .bool false, .bool false, .bool false, .bool false, .bool false, .bool false, .bool false, .bool false] } := rfl
theorem ti182 : ti 182 = { kind := .arr 10 4, size := 10, bytes := 10, zero := [.bool false, .bool false, .bool false, .bool false, .bool false, .bool false, .bool false, .bool false, .bool false, .bool false] } := rfl
theorem ti183 : ti 183 = { kind := .scal, size := 1, bytes := 8, zero := [.nilfn] } := rfl
theorem ti184 : ti 184 = { kind := .scal, size := 1, bytes := 8, zero := [.nilfn] } := rfl
theorem ti185 : ti 185 = { kind := .slice 186, size := 1, bytes := 24, zero := [.sl [] true] } := rfl
theorem ti186 : ti 186 = { kind := .slice 189, size := 1, bytes := 24, zero := [.sl [] true] } := rfl
theorem ti187 : ti 187 = { kind := .scal, size := 1, bytes := 8, zero := [.nilfn] } := rfl
theorem ti188 : ti 188 = { kind := .struct [0, 4, 5] [79, 3, 47], size := 6, bytes := 64, zero := [.int .i64 0, .int .i64 0, .int .i64 0, .int .i64 0, .int .i64 0, .sl [] true] } := rfl
theorem ti189 : ti 189 = { kind := .struct [0, 4, 5] [79, 3, 47], size := 6, bytes := 64, zero := [.int .i64 0, .int .i64 0, .int .i64 0, .int .i64 0, .int .i64 0, .sl [] true] } := rfl
theorem ti190 : ti 190 = { kind := .scal, size := 1, bytes := 8, zero := [.nilfn] } := rfl
theorem ti191 : ti 191 = { kind := .scal, size := 1, bytes := 8, zero := [.nilfn] } := rfl
theorem ti192 : ti 192 = { kind := .struct [0, 1] [3, 3], size := 2, bytes := 16, zero := [.int .i64 0, .int .i64 0] } := rfl
theorem ti193 : ti 193 = { kind := .struct [0, 1] [3, 3], size := 2, bytes := 16, zero := [.int .i64 0, .int .i64 0] } := rfl
theorem ti194 : ti 194 = { kind := .scal, size := 1, bytes := 8, zero := [.nilfn] } := rfl
theorem ti195 : ti 195 = { kind := .scal, size := 1, bytes := 8, zero := [.nilfn] } := rfl
theorem ti196 : ti 196 = { kind := .scal, size := 1, bytes := 8, zero := [.nilfn] } := rfl
theorem ti197 : ti 197 = { kind := .scal, size := 1, bytes := 8, zero := [.nilfn] } := rfl
theorem ti198 : ti 198 = { kind := .scal, size := 1, bytes := 8, zero := [.nilfn] } := rfl
theorem ti199 : ti 199 = { kind := .scal, size := 1, bytes := 8, zero := [.nilfn] } := rfl
theorem ti200 : ti 200 = { kind := .struct [0] [199], size := 1, bytes := 8, zero := [.nilfn] } := rfl
theorem ti201 : ti 201 = { kind := .struct [0] [199], size := 1, bytes := 8, zero := [.nilfn] } := rfl
theorem ti202 : ti 202 = { kind := .scal, size := 1, bytes := 8, zero := [.nilfn] } := rfl
theorem ti203 : ti 203 = { kind := .scal, size := 1, bytes := 8, zero := [.nilfn] } := rfl
theorem ti204 : ti 204 = { kind := .struct [0] [49], size := 7, bytes := 88, zero := [.sl [] true, .sl [] true, .int .i64 0, .int .i64 0, .int .i64 0, .int .i64 0, .int .i64 0] } := rfl
theorem ti205 : ti 205 = { kind := .struct [0] [49], size := 7, bytes := 88, zero := [.sl [] true, .sl [] true, .int .i64 0, .int .i64 0, .int .i64 0, .int .i64 0, .int .i64 0] } := rfl
theorem ti206 : ti 206 = { kind := .scal, size := 1, bytes := 8, zero := [.nilfn] } := rfl
theorem ti207 : ti 207 = { kind := .scal, size := 1, bytes := 8, zero := [.nilfn] } := rfl
theorem ti208 : ti 208 = { kind := .scal, size := 1, bytes := 8, zero := [.nilfn] } := rfl
theorem ti209 : ti 209 = { kind := .scal, size := 1, bytes := 8, zero := [.nilfn] } := rfl
theorem ti210 : ti 210 = { kind := .scal, size := 1, bytes := 8, zero := [.nilfn] } := rfl
theorem ti211 : ti 211 = { kind := .scal, size := 1, bytes := 8, zero := [.nilfn] } := rfl
theorem ti212 : ti 212 = { kind := .scal, size := 1, bytes := 8, zero := [.int .i64 0] } := rfl
theorem ti214 : ti 214 = { kind := .scal, size := 1, bytes := 8, zero := [.nilfn] } := rfl
theorem ti215 : ti 215 = { kind := .scal, size := 1, bytes := 8, zero := [.nilfn] } := rfl
theorem ti216 : ti 216 = { kind := .scal, size := 1, bytes := 8, zero := [.nilfn] } := rfl
theorem ti217 : ti 217 = { kind := .scal, size := 1, bytes := 8, zero := [.nilfn] } := rfl
theorem ti218 : ti 218 = { kind := .scal, size := 1, bytes := 8, zero := [.nilfn] } := rfl
theorem ti219 : ti 219 = { kind := .scal, size := 1, bytes := 4, zero := [.int .u32 0] } := rfl
theorem ti220 : ti 220 = { kind := .scal, size := 1, bytes := 8, zero := [.nilfn] } := rfl
theorem ti221 : ti 221 = { kind := .scal, size := 1, bytes := 8, zero := [.int .u64 0] } := rfl
theorem ti222 : ti 222 = { kind := .scal, size := 1, bytes := 8, zero := [.nilfn] } := rfl
theorem ti223 : ti 223 = { kind := .scal, size := 1, bytes := 8, zero := [.nilfn] } := rfl
theorem ti224 : ti 224 = { kind := .scal, size := 1, bytes := 8, zero := [.nilfn] } := rfl
theorem ti225 : ti 225 = { kind := .scal, size := 1, bytes := 8, zero := [.nilfn] } := rfl
theorem ti226 : ti 226 = { kind := .scal, size := 1, bytes := 8, zero := [.nilfn] } := rfl
theorem ti227 : ti 227 = { kind := .scal, size := 1, bytes := 8, zero := [.nilfn] } := rfl
theorem ti228 : ti 228 = { kind := .scal, size := 1, bytes := 8, zero := [.int .u64 0] } := rfl
theorem ti229 : ti 229 = { kind := .scal, size := 1, bytes := 8, zero := [.nilfn] } := rfl
theorem ti230 : ti 230 = { kind := .scal, size := 1, bytes := 8, zero := [.nilfn] } := rfl
theorem ti231 : ti 231 = { kind := .scal, size := 1, bytes := 8, zero := [.nilfn] } := rfl
theorem ti232 : ti 232 = { kind := .scal, size := 1, bytes := 8, zero := [.nilptr] } := rfl
theorem ti233 : ti 233 = { kind := .scal, size := 1, bytes := 8, zero := [.nilfn] } := rfl
theorem ti234 : ti 234 = { kind := .scal, size := 1, bytes := 8, zero := [.nilfn] } := rfl
theorem ti235 : ti 235 = { kind := .scal, size := 1, bytes := 8, zero := [.nilfn] } := rfl
theorem ti236 : ti 236 = { kind := .scal, size := 1, bytes := 8, zero := [.nilfn] } := rfl
theorem ti237 : ti 237 = { kind := .scal, size := 1, bytes := 8, zero := [.nilfn] } := rfl
theorem ti238 : ti 238 = { kind := .scal, size := 1, bytes := 8, zero := [.nilfn] } := rfl
theorem ti239 : ti 239 = { kind := .arr 2 238, size := 2, bytes := 16, zero := [.nilfn, .nilfn] } := rfl
theorem ti241 : ti 241 = { kind := .scal, size := 1, bytes := 8, zero := [.nilfn] } := rfl
theorem ti242 : ti 242 = { kind := .arr 4 4, size := 4, bytes := 4, zero := [.bool false, .bool false, .bool false, .bool false] } := rfl
theorem ti243 : ti 243 = { kind := .arr 4 4, size := 4, bytes := 4, zero := [.bool false, .bool false, .bool false, .bool false] } := rfl
theorem ti244 : ti 244 = { kind := .scal, size := 1, bytes := 8, zero := [.nilfn] } := rfl
theorem ti245 : ti 245 = { kind := .scal, size := 1, bytes := 8, zero := [.nilfn] } := rfl
theorem ti246 : ti 246 = { kind := .struct [0] [203], size := 1, bytes := 8, zero := [.nilfn] } := rfl
theorem ti247 : ti 247 = { kind := .struct [0] [203], size := 1, bytes := 8, zero := [.nilfn] } := rfl
theorem ti248 : ti 248 = { kind := .scal, size := 1, bytes := 8, zero := [.nilfn] } := rfl
theorem ti249 : ti 249 = { kind := .scal, size := 1, bytes := 8, zero := [.nilfn] } := rfl
theorem ti250 : ti 250 = { kind := .scal, size := 1, bytes := 8, zero := [.nilfn] } := rfl
theorem ti251 : ti 251 = { kind := .scal, size := 1, bytes := 8, zero := [.nilfn] } := rfl
theorem ti252 : ti 252 = { kind := .scal, size := 1, bytes := 8, zero := [.nilfn] } := rfl
theorem ti253 : ti 253 = { kind := .scal, size := 1, bytes := 8, zero := [.nilfn] } := rfl
theorem ti254 : ti 254 = { kind := .scal, size := 1, bytes := 8, zero := [.nilfn] } := rfl
theorem ti255 : ti 255 = { kind := .scal, size := 1, bytes := 8, zero := [.nilfn] } := rfl
theorem ti256 : ti 256 = { kind := .scal, size := 1, bytes := 8, zero := [.nilfn] } := rfl
theorem ti257 : ti 257 = { kind := .scal, size := 1, bytes := 8, zero := [.nilfn] } := rfl
theorem ti258 : ti 258 = { kind := .scal, size := 1, bytes := 8, zero := [.nilfn] } := rfl
theorem ti259 : ti 259 = { kind := .scal, size := 1, bytes := 8, zero := [.nilptr] } := rfl
theorem ti261 : ti 261 = { kind := .scal, size := 1, bytes := 8, zero := [.nilfn] } := rfl
theorem ti262 : ti 262 = { kind := .scal, size := 1, bytes := 8, zero := [.nilfn] } := rfl
theorem ti263 : ti 263 = { kind := .scal, size := 1, bytes := 8, zero := [.nilfn] } := rfl
theorem ti264 : ti 264 = { kind := .scal, size := 1, bytes := 8, zero := [.nilfn] } := rfl
theorem ti265 : ti 265 = { kind := .scal, size := 1, bytes := 8, zero := [.nilfn] } := rfl
theorem ti266 : ti 266 = { kind := .scal, size := 1, bytes := 8, zero := [.nilfn] } := rfl
theorem ti267 : ti 267 = { kind := .scal, size := 1, bytes := 8, zero := [.nilfn] } := rfl
theorem ti268 : ti 268 = { kind := .scal, size := 1, bytes := 8, zero := [.nilfn] } := rfl
theorem ti269 : ti 269 = { kind := .scal, size := 1, bytes := 8, zero := [.nilfn] } := rfl
theorem ti270 : ti 270 = { kind := .scal, size := 1, bytes := 8, zero := [.nilfn] } := rfl
theorem ti271 : ti 271 = { kind := .scal, size := 1, bytes := 8, zero := [.nilfn] } := rfl
theorem ti272 : ti 272 = { kind := .scal, size := 1, bytes := 8, zero := [.nilfn] } := rfl
theorem ti275 : ti 275 = { kind := .arr 0 16, size := 0, bytes := 0, zero := [] } := rfl
theorem ti276 : ti 276 = { kind := .struct [0] [275], size := 0, bytes := 0, zero := [] } := rfl
theorem ti277 : ti 277 = { kind := .struct [0] [275], size := 0, bytes := 0, zero := [] } := rfl
theorem ti278 : ti 278 = { kind := .scal, size := 1, bytes := 1, zero := [.int .u8 0] } := rfl
theorem ti279 : ti 279 = { kind := .scal, size := 1, bytes := 1, zero := [.int .u8 0] } := rfl
theorem ti280 : ti 280 = { kind := .scal, size := 1, bytes := 8, zero := [.nilfn] } := rfl
theorem ti281 : ti 281 = { kind := .scal, size := 1, bytes := 8, zero := [.nilptr] } := rfl
theorem ti282 : ti 282 = { kind := .scal, size := 1, bytes := 4, zero := [.int .i32 0] } := rfl
theorem ti283 : ti 283 = { kind := .scal, size := 1, bytes := 4, zero := [.int .i32 0] } := rfl
theorem ti286 : ti 286 = { kind := .scal, size := 1, bytes := 8, zero := [.nilfn] } := rfl
set_option maxRecDepth 100000 in
theorem tiok : ∀ t, TIok Tryz.prog t (ti t) := by
 intro t
 unfold ti
 split
 ·exact tS Tryz.t1 rfl Tryz.underlying1 (by kernel_rfl) rfl rfl rfl rfl rfl rfl rfl
 ·exact tS Tryz.t2 rfl Tryz.underlying2 (by kernel_rfl) rfl rfl rfl rfl rfl rfl rfl
 ·exact tS Tryz.t3 rfl Tryz.underlying3 (by kernel_rfl) rfl rfl rfl rfl rfl rfl rfl
 ·exact tiok_mk rfl Tryz.underlying4 (i := Tryz.t4) (by kernel_rfl) Tryz.underlying4 rfl rfl rfl rfl rfl (fun h => by cases h) (fun _ => ⟨rfl, rfl⟩)
 ·exact tS Tryz.t5 rfl Tryz.underlying5 (by kernel_rfl) rfl rfl rfl rfl rfl rfl rfl
 ·exact tS Tryz.t6 rfl Tryz.underlying6 (by kernel_rfl) rfl rfl rfl rfl rfl rfl rfl
 ·exact tiok_mk rfl Tryz.underlying7 (i := Tryz.t7) (by kernel_rfl) ⟨_, Tryz.underlying7, rfl, rfl⟩ rfl rfl rfl rfl rfl (fun _ => ⟨_, rfl⟩) (fun h => by cases h)
 ·exact tiok_mk rfl Tryz.underlying8 (i := Tryz.t8) (by kernel_rfl) ⟨_, Tryz.underlying8, rfl, rfl⟩ rfl rfl rfl rfl rfl (fun _ => ⟨_, rfl⟩) (fun h => by cases h)
 ·exact tS Tryz.t12 rfl Tryz.underlying12 (by kernel_rfl) rfl rfl rfl rfl rfl rfl rfl
 ·exact tS Tryz.t15 rfl Tryz.underlying15 (by kernel_rfl) rfl rfl rfl rfl rfl rfl rfl
 ·exact tS Tryz.t16 rfl Tryz.underlying16 (by kernel_rfl) rfl rfl rfl rfl rfl rfl rfl
 ·exact tS Tryz.t17 rfl Tryz.underlying17 (by kernel_rfl) rfl rfl rfl rfl rfl rfl rfl
 ·exact tiok_mk rfl Tryz.underlying18 (i := Tryz.t18) (by kernel_rfl) ⟨_, Tryz.underlying18, rfl, rfl⟩ rfl rfl rfl rfl rfl (fun _ => ⟨_, rfl⟩) (fun h => by cases h)
 ·exact tiok_mk rfl Tryz.underlying19 (i := Tryz.t19) (by kernel_rfl) ⟨_, Tryz.underlying19, rfl, rfl⟩ rfl rfl rfl rfl rfl (fun _ => ⟨_, rfl⟩) (fun h => by cases h)
 ·exact tS Tryz.t21 rfl Tryz.underlying21 (by kernel_rfl) rfl rfl rfl rfl rfl rfl rfl
 ·exact tiok_mk rfl Tryz.underlying22 (i := Tryz.t22) (by kernel_rfl) Tryz.underlying22 rfl rfl rfl rfl rfl (fun h => by cases h) (fun _ => ⟨rfl, rfl⟩)
 ·exact tiok_mk rfl Tryz.underlying23 (i := Tryz.t23) (by kernel_rfl) ⟨_, Tryz.underlying23, rfl, rfl⟩ rfl rfl rfl rfl rfl (fun _ => ⟨_, rfl⟩) (fun h => by cases h)
 ·exact tiok_mk rfl Tryz.underlying24 (i := Tryz.t24) (by kernel_rfl) ⟨_, Tryz.underlying24, rfl, rfl⟩ rfl rfl rfl rfl rfl (fun _ => ⟨_, rfl⟩) (fun h => by cases h)
 ·exact tiok_mk rfl Tryz.underlying25 (i := Tryz.t25) (by kernel_rfl) ⟨_, Tryz.underlying25, rfl, rfl⟩ rfl rfl rfl rfl rfl (fun _ => ⟨_, rfl⟩) (fun h => by cases h)
 ·exact tiok_mk rfl Tryz.underlying26 (i := Tryz.t26) (by kernel_rfl) ⟨_, Tryz.underlying26, rfl, rfl⟩ rfl rfl rfl rfl rfl (fun _ => ⟨_, rfl⟩) (fun h => by cases h)
 ·exact tiok_mk rfl Tryz.underlying27 (i := Tryz.t27) (by kernel_rfl) Tryz.underlying27 rfl rfl rfl rfl rfl (fun h => by cases h) (fun _ => ⟨rfl, rfl⟩)
 ·exact tiok_mk rfl Tryz.underlying28 (i := Tryz.t28) (by kernel_rfl) ⟨_, Tryz.underlying28, rfl, rfl⟩ rfl rfl rfl rfl rfl (fun _ => ⟨_, rfl⟩) (fun h => by cases h)
 ·exact tiok_mk rfl Tryz.underlying29 (i := Tryz.t29) (by kernel_rfl) ⟨_, Tryz.underlying29, rfl, rfl⟩ rfl rfl rfl rfl rfl (fun _ => ⟨_, rfl⟩) (fun h => by cases h)
 ·exact tiok_mk rfl Tryz.underlying30 (i := Tryz.t30) (by kernel_rfl) Tryz.underlying30 rfl rfl rfl rfl rfl (fun _ => ⟨_, rfl⟩) (fun h => by cases h)
 ·exact tS Tryz.t31 rfl Tryz.underlying31 (by kernel_rfl) rfl rfl rfl rfl rfl rfl rfl
 ·exact tS Tryz.t32 rfl Tryz.underlying32 (by kernel_rfl) rfl rfl rfl rfl rfl rfl rfl
 ·exact tiok_mk rfl Tryz.underlying33 (i := Tryz.t33) (by kernel_rfl) Tryz.underlying33 rfl rfl rfl rfl rfl (fun h => by cases h) (fun _ => ⟨rfl, rfl⟩)
 ·exact tS Tryz.t34 rfl Tryz.underlying34 (by kernel_rfl) rfl rfl rfl rfl rfl rfl rfl
 ·exact tS Tryz.t36 rfl Tryz.underlying36 (by kernel_rfl) rfl rfl rfl rfl rfl rfl rfl
 ·exact tS Tryz.t37 rfl Tryz.underlying37 (by kernel_rfl) rfl rfl rfl rfl rfl rfl rfl
 ·exact tS Tryz.t38 rfl Tryz.underlying38 (by kernel_rfl) rfl rfl rfl rfl rfl rfl rfl
 ·exact tS Tryz.t40 rfl Tryz.underlying40 (by kernel_rfl) rfl rfl rfl rfl rfl rfl rfl
 ·exact tiok_mk rfl Tryz.underlying41 (i := Tryz.t41) (by kernel_rfl) Tryz.underlying41 rfl rfl rfl rfl rfl (fun h => by cases h) (fun _ => ⟨rfl, rfl⟩)
 ·exact tS Tryz.t43 rfl Tryz.underlying43 (by kernel_rfl) rfl rfl rfl rfl rfl rfl rfl
 ·exact tS Tryz.t44 rfl Tryz.underlying44 (by kernel_rfl) rfl rfl rfl rfl rfl rfl rfl
 ·exact tS Tryz.t45 rfl Tryz.underlying45 (by kernel_rfl) rfl rfl rfl rfl rfl rfl rfl
 ·exact tiok_mk rfl Tryz.underlying46 (i := Tryz.t46) (by kernel_rfl) Tryz.underlying46 rfl rfl rfl rfl rfl (fun h => by cases h) (fun _ => ⟨rfl, rfl⟩)
 ·exact tiok_mk rfl Tryz.underlying47 (i := Tryz.t47) (by kernel_rfl) Tryz.underlying47 rfl rfl rfl rfl rfl (fun h => by cases h) (fun _ => ⟨rfl, rfl⟩)
 ·exact tiok_mk rfl Tryz.underlying48 (i := Tryz.t48) (by kernel_rfl) ⟨_, Tryz.underlying48, rfl, rfl⟩ rfl rfl rfl rfl rfl (fun _ => ⟨_, rfl⟩) (fun h => by cases h)
 ·exact tiok_mk rfl Tryz.underlying49 (i := Tryz.t49) (by kernel_rfl) ⟨_, Tryz.underlying49, rfl, rfl⟩ rfl rfl rfl rfl rfl (fun _ => ⟨_, rfl⟩) (fun h => by cases h)
 ·exact tS Tryz.t51 rfl Tryz.underlying51 (by kernel_rfl) rfl rfl rfl rfl rfl rfl rfl
 ·exact tiok_mk rfl Tryz.underlying52 (i := Tryz.t52) (by kernel_rfl) Tryz.underlying52 rfl rfl rfl rfl rfl (fun h => by cases h) (fun _ => ⟨rfl, rfl⟩)
 ·exact tS Tryz.t54 rfl Tryz.underlying54 (by kernel_rfl) rfl rfl rfl rfl rfl rfl rfl
 ·exact tS Tryz.t56 rfl Tryz.underlying56 (by kernel_rfl) rfl rfl rfl rfl rfl rfl rfl
 ·exact tiok_mk rfl Tryz.underlying57 (i := Tryz.t57) (by kernel_rfl) Tryz.underlying57 rfl rfl rfl rfl rfl (fun h => by cases h) (fun _ => ⟨rfl, rfl⟩)
 ·exact tS Tryz.t59 rfl Tryz.underlying59 (by kernel_rfl) rfl rfl rfl rfl rfl rfl rfl
 ·exact tS Tryz.t60 rfl Tryz.underlying60 (by kernel_rfl) rfl rfl rfl rfl rfl rfl rfl
 ·exact tS Tryz.t61 rfl Tryz.underlying61 (by kernel_rfl) rfl rfl rfl rfl rfl rfl rfl
 ·exact tS Tryz.t62 rfl Tryz.underlying62 (by kernel_rfl) rfl rfl rfl rfl rfl rfl rfl
 ·exact tS Tryz.t63 rfl Tryz.underlying63 (by kernel_rfl) rfl rfl rfl rfl rfl rfl rfl
 ·exact tiok_mk rfl Tryz.underlying64 (i := Tryz.t64) (by kernel_rfl) ⟨_, Tryz.underlying64, rfl, rfl⟩ rfl rfl rfl rfl rfl (fun _ => ⟨_, rfl⟩) (fun h => by cases h)
 ·exact tiok_mk rfl Tryz.underlying65 (i := Tryz.t65) (by kernel_rfl) ⟨_, Tryz.underlying65, rfl, rfl⟩ rfl rfl rfl rfl rfl (fun _ => ⟨_, rfl⟩) (fun h => by cases h)
 ·exact tS Tryz.t66 rfl Tryz.underlying66 (by kernel_rfl) rfl rfl rfl rfl rfl rfl rfl
 ·exact tS Tryz.t67 rfl Tryz.underlying67 (by kernel_rfl) rfl rfl rfl rfl rfl rfl rfl
 ·exact tS Tryz.t68 rfl Tryz.underlying68 (by kernel_rfl) rfl rfl rfl rfl rfl rfl rfl
 ·exact tS Tryz.t69 rfl Tryz.underlying69 (by kernel_rfl) rfl rfl rfl rfl rfl rfl rfl
 ·exact tS Tryz.t70 rfl Tryz.underlying70 (by kernel_rfl) rfl rfl rfl rfl rfl rfl rfl
 ·exact tS Tryz.t72 rfl Tryz.underlying72 (by kernel_rfl) rfl rfl rfl rfl rfl rfl rfl
 ·exact tS Tryz.t73 rfl Tryz.underlying73 (by kernel_rfl) rfl rfl rfl rfl rfl rfl rfl
 ·exact tS Tryz.t74 rfl Tryz.underlying74 (by kernel_rfl) rfl rfl rfl rfl rfl rfl rfl
 ·exact tS Tryz.t75 rfl Tryz.underlying75 (by kernel_rfl) rfl rfl rfl rfl rfl rfl rfl
 ·exact tiok_mk rfl Tryz.underlying76 (i := Tryz.t76) (by kernel_rfl) ⟨_, Tryz.underlying76, rfl, rfl⟩ rfl rfl rfl rfl rfl (fun _ => ⟨_, rfl⟩) (fun h => by cases h)
 ·exact tiok_mk rfl Tryz.underlying77 (i := Tryz.t77) (by kernel_rfl) ⟨_, Tryz.underlying77, rfl, rfl⟩ rfl rfl rfl rfl rfl (fun _ => ⟨_, rfl⟩) (fun h => by cases h)
 ·exact tiok_mk rfl Tryz.underlying78 (i := Tryz.t78) (by kernel_rfl) ⟨_, Tryz.underlying78, rfl, rfl⟩ rfl rfl rfl rfl rfl (fun _ => ⟨_, rfl⟩) (fun h => by cases h)
 ·exact tiok_mk rfl Tryz.underlying79 (i := Tryz.t79) (by kernel_rfl) ⟨_, Tryz.underlying79, rfl, rfl⟩ rfl rfl rfl rfl rfl (fun _ => ⟨_, rfl⟩) (fun h => by cases h)
 ·exact tS Tryz.t80 rfl Tryz.underlying80 (by kernel_rfl) rfl rfl rfl rfl rfl rfl rfl
 ·exact tS Tryz.t81 rfl Tryz.underlying81 (by kernel_rfl) rfl rfl rfl rfl rfl rfl rfl
 ·exact tS Tryz.t82 rfl Tryz.underlying82 (by kernel_rfl) rfl rfl rfl rfl rfl rfl rfl
 ·exact tiok_mk rfl Tryz.underlying83 (i := Tryz.t83) (by kernel_rfl) Tryz.underlying83 rfl rfl rfl rfl rfl (fun h => by cases h) (fun _ => ⟨rfl, rfl⟩)
 ·exact tiok_mk rfl Tryz.underlying84 (i := Tryz.t84) (by kernel_rfl) ⟨_, Tryz.underlying84, rfl, rfl⟩ rfl rfl rfl rfl rfl (fun _ => ⟨_, rfl⟩) (fun h => by cases h)
 ·exact tiok_mk rfl Tryz.underlying85 (i := Tryz.t85) (by kernel_rfl) ⟨_, Tryz.underlying85, rfl, rfl⟩ rfl rfl rfl rfl rfl (fun _ => ⟨_, rfl⟩) (fun h => by cases h)
 ·exact tS Tryz.t86 rfl Tryz.underlying86 (by kernel_rfl) rfl rfl rfl rfl rfl rfl rfl
 ·exact tiok_mk rfl Tryz.underlying87 (i := Tryz.t87) (by kernel_rfl) Tryz.underlying87 rfl rfl rfl rfl rfl (fun _ => ⟨_, rfl⟩) (fun h => by cases h)
 ·exact tS Tryz.t88 rfl Tryz.underlying88 (by kernel_rfl) rfl rfl rfl rfl rfl rfl rfl
 ·exact tS Tryz.t89 rfl Tryz.underlying89 (by kernel_rfl) rfl rfl rfl rfl rfl rfl rfl
 ·exact tS Tryz.t90 rfl Tryz.underlying90 (by kernel_rfl) rfl rfl rfl rfl rfl rfl rfl
 ·exact tS Tryz.t91 rfl Tryz.underlying91 (by kernel_rfl) rfl rfl rfl rfl rfl rfl rfl
 ·exact tS Tryz.t92 rfl Tryz.underlying92 (by kernel_rfl) rfl rfl rfl rfl rfl rfl rfl
 ·exact tS Tryz.t93 rfl Tryz.underlying93 (by kernel_rfl) rfl rfl rfl rfl rfl rfl rfl
 ·exact tS Tryz.t94 rfl Tryz.underlying94 (by kernel_rfl) rfl rfl rfl rfl rfl rfl rfl
 ·exact tiok_mk rfl Tryz.underlying95 (i := Tryz.t95) (by kernel_rfl) Tryz.underlying95 rfl rfl rfl rfl rfl (fun h => by cases h) (fun _ => ⟨rfl, rfl⟩)
 ·exact tS Tryz.t96 rfl Tryz.underlying96 (by kernel_rfl) rfl rfl rfl rfl rfl rfl rfl
 ·exact tS Tryz.t97 rfl Tryz.underlying97 (by kernel_rfl) rfl rfl rfl rfl rfl rfl rfl
 ·exact tS Tryz.t98 rfl Tryz.underlying98 (by kernel_rfl) rfl rfl rfl rfl rfl rfl rfl
 ·exact tS Tryz.t99 rfl Tryz.underlying99 (by kernel_rfl) rfl rfl rfl rfl rfl rfl rfl
 ·exact tiok_mk rfl Tryz.underlying100 (i := Tryz.t100) (by kernel_rfl) Tryz.underlying100 rfl rfl rfl rfl rfl (fun h => by cases h) (fun _ => ⟨rfl, rfl⟩)
 ·exact tiok_mk rfl Tryz.underlying101 (i := Tryz.t101) (by kernel_rfl) ⟨_, Tryz.underlying101, rfl, rfl⟩ rfl rfl rfl rfl rfl (fun _ => ⟨_, rfl⟩) (fun h => by cases h)
 ·exact tiok_mk rfl Tryz.underlying102 (i := Tryz.t102) (by kernel_rfl) ⟨_, Tryz.underlying102, rfl, rfl⟩ rfl rfl rfl rfl rfl (fun _ => ⟨_, rfl⟩) (fun h => by cases h)
 ·exact tiok_mk rfl Tryz.underlying103 (i := Tryz.t103) (by kernel_rfl) ⟨_, Tryz.underlying103, rfl, rfl⟩ rfl rfl rfl rfl rfl (fun _ => ⟨_, rfl⟩) (fun h => by cases h)
 ·exact tiok_mk rfl Tryz.underlying104 (i := Tryz.t104) (by kernel_rfl) ⟨_, Tryz.underlying104, rfl, rfl⟩ rfl rfl rfl rfl rfl (fun _ => ⟨_, rfl⟩) (fun h => by cases h)
 ·exact tS Tryz.t105 rfl Tryz.underlying105 (by kernel_rfl) rfl rfl rfl rfl rfl rfl rfl
 ·exact tS Tryz.t106 rfl Tryz.underlying106 (by kernel_rfl) rfl rfl rfl rfl rfl rfl rfl
 ·exact tiok_mk rfl Tryz.underlying107 (i := Tryz.t107) (by kernel_rfl) Tryz.underlying107 rfl rfl rfl rfl rfl (fun h => by cases h) (fun _ => ⟨rfl, rfl⟩)
 ·exact tiok_mk rfl Tryz.underlying108 (i := Tryz.t108) (by kernel_rfl) ⟨_, Tryz.underlying108, rfl, rfl⟩ rfl rfl rfl rfl rfl (fun _ => ⟨_, rfl⟩) (fun h => by cases h)
 ·exact tiok_mk rfl Tryz.underlying109 (i := Tryz.t109) (by kernel_rfl) ⟨_, Tryz.underlying109, rfl, rfl⟩ rfl rfl rfl rfl rfl (fun _ => ⟨_, rfl⟩) (fun h => by cases h)
 ·exact tiok_mk rfl Tryz.underlying110 (i := Tryz.t110) (by kernel_rfl) Tryz.underlying110 rfl rfl rfl rfl rfl (fun h => by cases h) (fun _ => ⟨rfl, rfl⟩)
 ·exact tS Tryz.t112 rfl Tryz.underlying112 (by kernel_rfl) rfl rfl rfl rfl rfl rfl rfl
 ·exact tiok_mk rfl Tryz.underlying113 (i := Tryz.t113) (by kernel_rfl) Tryz.underlying113 rfl rfl rfl rfl rfl (fun _ => ⟨_, rfl⟩) (fun h => by cases h)
 ·exact tiok_mk rfl Tryz.underlying114 (i := Tryz.t114) (by kernel_rfl) Tryz.underlying114 rfl rfl rfl rfl rfl (fun _ => ⟨_, rfl⟩) (fun h => by cases h)
 ·exact tS Tryz.t115 rfl Tryz.underlying115 (by kernel_rfl) rfl rfl rfl rfl rfl rfl rfl
 ·exact tS Tryz.t116 rfl Tryz.underlying116 (by kernel_rfl) rfl rfl rfl rfl rfl rfl rfl
 ·exact tS Tryz.t118 rfl Tryz.underlying118 (by kernel_rfl) rfl rfl rfl rfl rfl rfl rfl
 ·exact tiok_mk rfl Tryz.underlying119 (i := Tryz.t119) (by kernel_rfl) ⟨_, Tryz.underlying119, rfl, rfl⟩ rfl rfl rfl rfl rfl (fun _ => ⟨_, rfl⟩) (fun h => by cases h)
 ·exact tiok_mk rfl Tryz.underlying120 (i := Tryz.t120) (by kernel_rfl) ⟨_, Tryz.underlying120, rfl, rfl⟩ rfl rfl rfl rfl rfl (fun _ => ⟨_, rfl⟩) (fun h => by cases h)
 ·exact tiok_mk rfl Tryz.underlying122 (i := Tryz.t122) (by kernel_rfl) Tryz.underlying122 rfl rfl rfl rfl rfl (fun h => by cases h) (fun _ => ⟨rfl, rfl⟩)
 ·exact tS Tryz.t123 rfl Tryz.underlying123 (by kernel_rfl) rfl rfl rfl rfl rfl rfl rfl
 ·exact tS Tryz.t124 rfl Tryz.underlying124 (by kernel_rfl) rfl rfl rfl rfl rfl rfl rfl
 ·exact tS Tryz.t125 rfl Tryz.underlying125 (by kernel_rfl) rfl rfl rfl rfl rfl rfl rfl
 ·exact tS Tryz.t126 rfl Tryz.underlying126 (by kernel_rfl) rfl rfl rfl rfl rfl rfl rfl
 ·exact tS Tryz.t127 rfl Tryz.underlying127 (by kernel_rfl) rfl rfl rfl rfl rfl rfl rfl
 ·exact tS Tryz.t128 rfl Tryz.underlying128 (by kernel_rfl) rfl rfl rfl rfl rfl rfl rfl
 ·exact tiok_mk rfl Tryz.underlying129 (i := Tryz.t129) (by kernel_rfl) Tryz.underlying129 rfl rfl rfl rfl rfl (fun _ => ⟨_, rfl⟩) (fun h => by cases h)
 ·exact tS Tryz.t130 rfl Tryz.underlying130 (by kernel_rfl) rfl rfl rfl rfl rfl rfl rfl
 ·exact tiok_mk rfl Tryz.underlying131 (i := Tryz.t131) (by kernel_rfl) Tryz.underlying131 rfl rfl rfl rfl rfl (fun _ => ⟨_, rfl⟩) (fun h => by cases h)
 ·exact tS Tryz.t132 rfl Tryz.underlying132 (by kernel_rfl) rfl rfl rfl rfl rfl rfl rfl
 ·exact tS Tryz.t133 rfl Tryz.underlying133 (by kernel_rfl) rfl rfl rfl rfl rfl rfl rfl
 ·exact tS Tryz.t135 rfl Tryz.underlying135 (by kernel_rfl) rfl rfl rfl rfl rfl rfl rfl
 ·exact tS Tryz.t136 rfl Tryz.underlying136 (by kernel_rfl) rfl rfl rfl rfl rfl rfl rfl
 ·exact tiok_mk rfl Tryz.underlying137 (i := Tryz.t137) (by kernel_rfl) Tryz.underlying137 rfl rfl rfl rfl rfl (fun h => by cases h) (fun _ => ⟨rfl, rfl⟩)
 ·exact tS Tryz.t138 rfl Tryz.underlying138 (by kernel_rfl) rfl rfl rfl rfl rfl rfl rfl
 ·exact tS Tryz.t140 rfl Tryz.underlying140 (by kernel_rfl) rfl rfl rfl rfl rfl rfl rfl
 ·exact tiok_mk rfl Tryz.underlying141 (i := Tryz.t141) (by kernel_rfl) ⟨_, Tryz.underlying141, rfl, rfl⟩ rfl rfl rfl rfl rfl (fun _ => ⟨_, rfl⟩) (fun h => by cases h)
 ·exact tiok_mk rfl Tryz.underlying142 (i := Tryz.t142) (by kernel_rfl) ⟨_, Tryz.underlying142, rfl, rfl⟩ rfl rfl rfl rfl rfl (fun _ => ⟨_, rfl⟩) (fun h => by cases h)
 ·exact tS Tryz.t143 rfl Tryz.underlying143 (by kernel_rfl) rfl rfl rfl rfl rfl rfl rfl
 ·exact tS Tryz.t144 rfl Tryz.underlying144 (by kernel_rfl) rfl rfl rfl rfl rfl rfl rfl
 ·exact tS Tryz.t145 rfl Tryz.underlying145 (by kernel_rfl) rfl rfl rfl rfl rfl rfl rfl
 ·exact tiok_mk rfl Tryz.underlying146 (i := Tryz.t146) (by kernel_rfl) Tryz.underlying146 rfl rfl rfl rfl rfl (fun h => by cases h) (fun _ => ⟨rfl, rfl⟩)
 ·exact tS Tryz.t147 rfl Tryz.underlying147 (by kernel_rfl) rfl rfl rfl rfl rfl rfl rfl
 ·exact tS Tryz.t148 rfl Tryz.underlying148 (by kernel_rfl) rfl rfl rfl rfl rfl rfl rfl
 ·exact tS Tryz.t149 rfl Tryz.underlying149 (by kernel_rfl) rfl rfl rfl rfl rfl rfl rfl
 ·exact tiok_mk rfl Tryz.underlying150 (i := Tryz.t150) (by kernel_rfl) Tryz.underlying150 rfl rfl rfl rfl rfl (fun _ => ⟨_, rfl⟩) (fun h => by cases h)
 ·exact tS Tryz.t151 rfl Tryz.underlying151 (by kernel_rfl) rfl rfl rfl rfl rfl rfl rfl
 ·exact tS Tryz.t152 rfl Tryz.underlying152 (by kernel_rfl) rfl rfl rfl rfl rfl rfl rfl
 ·exact tiok_mk rfl Tryz.underlying153 (i := Tryz.t153) (by kernel_rfl) Tryz.underlying153 rfl rfl rfl rfl rfl (fun h => by cases h) (fun _ => ⟨rfl, rfl⟩)
 ·exact tiok_mk rfl Tryz.underlying154 (i := Tryz.t154) (by kernel_rfl) ⟨_, Tryz.underlying154, rfl, rfl⟩ rfl rfl rfl rfl rfl (fun _ => ⟨_, rfl⟩) (fun h => by cases h)
 ·exact tiok_mk rfl Tryz.underlying155 (i := Tryz.t155) (by kernel_rfl) ⟨_, Tryz.underlying155, rfl, rfl⟩ rfl rfl rfl rfl rfl (fun _ => ⟨_, rfl⟩) (fun h => by cases h)
 ·exact tS Tryz.t157 rfl Tryz.underlying157 (by kernel_rfl) rfl rfl rfl rfl rfl rfl rfl
 ·exact tS Tryz.t158 rfl Tryz.underlying158 (by kernel_rfl) rfl rfl rfl rfl rfl rfl rfl
 ·exact tS Tryz.t159 rfl Tryz.underlying159 (by kernel_rfl) rfl rfl rfl rfl rfl rfl rfl
 ·exact tS Tryz.t161 rfl Tryz.underlying161 (by kernel_rfl) rfl rfl rfl rfl rfl rfl rfl
 ·exact tS Tryz.t162 rfl Tryz.underlying162 (by kernel_rfl) rfl rfl rfl rfl rfl rfl rfl
 ·exact tS Tryz.t163 rfl Tryz.underlying163 (by kernel_rfl) rfl rfl rfl rfl rfl rfl rfl
 ·exact tiok_mk rfl Tryz.underlying164 (i := Tryz.t164) (by kernel_rfl) Tryz.underlying164 rfl rfl rfl rfl rfl (fun h => by cases h) (fun _ => ⟨rfl, rfl⟩)
 ·exact tS Tryz.t165 rfl Tryz.underlying165 (by kernel_rfl) rfl rfl rfl rfl rfl rfl rfl
 ·exact tS Tryz.t166 rfl Tryz.underlying166 (by kernel_rfl) rfl rfl rfl rfl rfl rfl rfl
 ·exact tS Tryz.t167 rfl Tryz.underlying167 (by kernel_rfl) rfl rfl rfl rfl rfl rfl rfl
 ·exact tiok_mk rfl Tryz.underlying168 (i := Tryz.t168) (by kernel_rfl) ⟨_, Tryz.underlying168, rfl, rfl⟩ rfl rfl rfl rfl rfl (fun _ => ⟨_, rfl⟩) (fun h => by cases h)
 ·exact tiok_mk rfl Tryz.underlying169 (i := Tryz.t169) (by kernel_rfl) ⟨_, Tryz.underlying169, rfl, rfl⟩ rfl rfl rfl rfl rfl (fun _ => ⟨_, rfl⟩) (fun h => by cases h)
 ·exact tS Tryz.t170 rfl Tryz.underlying170 (by kernel_rfl) rfl rfl rfl rfl rfl rfl rfl
 ·exact tS Tryz.t171 rfl Tryz.underlying171 (by kernel_rfl) rfl rfl rfl rfl rfl rfl rfl
 ·exact tS Tryz.t172 rfl Tryz.underlying172 (by kernel_rfl) rfl rfl rfl rfl rfl rfl rfl
 ·exact tS Tryz.t173 rfl Tryz.underlying173 (by kernel_rfl) rfl rfl rfl rfl rfl rfl rfl
 ·exact tS Tryz.t174 rfl Tryz.underlying174 (by kernel_rfl) rfl rfl rfl rfl rfl rfl rfl
 ·exact tS Tryz.t175 rfl Tryz.underlying175 (by kernel_rfl) rfl rfl rfl rfl rfl rfl rfl
 ·exact tS Tryz.t176 rfl Tryz.underlying176 (by kernel_rfl) rfl rfl rfl rfl rfl rfl rfl
 ·exact tS Tryz.t177 rfl Tryz.underlying177 (by kernel_rfl) rfl rfl rfl rfl rfl rfl rfl
 ·exact tS Tryz.t178 rfl Tryz.underlying178 (by kernel_rfl) rfl rfl rfl rfl rfl rfl rfl
 ·exact tiok_mk rfl Tryz.underlying179 (i := Tryz.t179) (by kernel_rfl) Tryz.underlying179 rfl rfl rfl rfl rfl (fun h => by cases h) (fun _ => ⟨rfl, rfl⟩)
 ·exact tiok_mk rfl Tryz.underlying180 (i := Tryz.t180) (by kernel_rfl) Tryz.underlying180 rfl rfl rfl rfl rfl (fun _ => ⟨_, rfl⟩) (fun h => by cases h)
 ·exact tiok_mk rfl Tryz.underlying181 (i := Tryz.t181) (by kernel_rfl) Tryz.underlying181 rfl rfl rfl rfl rfl (fun _ => ⟨_, rfl⟩) (fun h => by cases h)
 ·exact tiok_mk rfl Tryz.underlying182 (i := Tryz.t182) (by kernel_rfl) Tryz.underlying182 rfl rfl rfl rfl rfl (fun _ => ⟨_, rfl⟩) (fun h => by cases h)
 ·exact tS Tryz.t183 rfl Tryz.underlying183 (by kernel_rfl) rfl rfl rfl rfl rfl rfl rfl
 ·exact tS Tryz.t184 rfl Tryz.underlying184 (by kernel_rfl) rfl rfl rfl rfl rfl rfl rfl
 ·exact tiok_mk rfl Tryz.underlying185 (i := Tryz.t185) (by kernel_rfl) Tryz.underlying185 rfl rfl rfl rfl rfl (fun h => by cases h) (fun _ => ⟨rfl, rfl⟩)
 ·exact tiok_mk rfl Tryz.underlying186 (i := Tryz.t186) (by kernel_rfl) Tryz.underlying186 rfl rfl rfl rfl rfl (fun h => by cases h) (fun _ => ⟨rfl, rfl⟩)
 ·exact tS Tryz.t187 rfl Tryz.underlying187 (by kernel_rfl) rfl rfl rfl rfl rfl rfl rfl
 ·exact tiok_mk rfl Tryz.underlying188 (i := Tryz.t188) (by kernel_rfl) ⟨_, Tryz.underlying188, rfl, rfl⟩ rfl rfl rfl rfl rfl (fun _ => ⟨_, rfl⟩) (fun h => by cases h)
 ·exact tiok_mk rfl Tryz.underlying189 (i := Tryz.t189) (by kernel_rfl) ⟨_, Tryz.underlying189, rfl, rfl⟩ rfl rfl rfl rfl rfl (fun _ => ⟨_, rfl⟩) (fun h => by cases h)
 ·exact tS Tryz.t190 rfl Tryz.underlying190 (by kernel_rfl) rfl rfl rfl rfl rfl rfl rfl
 ·exact tS Tryz.t191 rfl Tryz.underlying191 (by kernel_rfl) rfl rfl rfl rfl rfl rfl rfl
 ·exact tiok_mk rfl Tryz.underlying192 (i := Tryz.t192) (by kernel_rfl) ⟨_, Tryz.underlying192, rfl, rfl⟩ rfl rfl rfl rfl rfl (fun _ => ⟨_, rfl⟩) (fun h => by cases h)
 ·exact tiok_mk rfl Tryz.underlying193 (i := Tryz.t193) (by kernel_rfl) ⟨_, Tryz.underlying193, rfl, rfl⟩ rfl rfl rfl rfl rfl (fun _ => ⟨_, rfl⟩) (fun h => by cases h)
 ·exact tS Tryz.t194 rfl Tryz.underlying194 (by kernel_rfl) rfl rfl rfl rfl rfl rfl rfl
 ·exact tS Tryz.t195 rfl Tryz.underlying195 (by kernel_rfl) rfl rfl rfl rfl rfl rfl rfl
 ·exact tS Tryz.t196 rfl Tryz.underlying196 (by kernel_rfl) rfl rfl rfl rfl rfl rfl rfl
 ·exact tS Tryz.t197 rfl Tryz.underlying197 (by kernel_rfl) rfl rfl rfl rfl rfl rfl rfl
 ·exact tS Tryz.t198 rfl Tryz.underlying198 (by kernel_rfl) rfl rfl rfl rfl rfl rfl rfl
 ·exact tS Tryz.t199 rfl Tryz.underlying199 (by kernel_rfl) rfl rfl rfl rfl rfl rfl rfl
 ·exact tiok_mk rfl Tryz.underlying200 (i := Tryz.t200) (by kernel_rfl) ⟨_, Tryz.underlying200, rfl, rfl⟩ rfl rfl rfl rfl rfl (fun _ => ⟨_, rfl⟩) (fun h => by cases h)
 ·exact tiok_mk rfl Tryz.underlying201 (i := Tryz.t201) (by kernel_rfl) ⟨_, Tryz.underlying201, rfl, rfl⟩ rfl rfl rfl rfl rfl (fun _ => ⟨_, rfl⟩) (fun h => by cases h)
 ·exact tS Tryz.t202 rfl Tryz.underlying202 (by kernel_rfl) rfl rfl rfl rfl rfl rfl rfl
 ·exact tS Tryz.t203 rfl Tryz.underlying203 (by kernel_rfl) rfl rfl rfl rfl rfl rfl rfl
 ·exact tiok_mk rfl Tryz.underlying204 (i := Tryz.t204) (by kernel_rfl) ⟨_, Tryz.underlying204, rfl, rfl⟩ rfl rfl rfl rfl rfl (fun _ => ⟨_, rfl⟩) (fun h => by cases h)
 ·exact tiok_mk rfl Tryz.underlying205 (i := Tryz.t205) (by kernel_rfl) ⟨_, Tryz.underlying205, rfl, rfl⟩ rfl rfl rfl rfl rfl (fun _ => ⟨_, rfl⟩) (fun h => by cases h)
 ·exact tS Tryz.t206 rfl Tryz.underlying206 (by kernel_rfl) rfl rfl rfl rfl rfl rfl rfl
 ·exact tS Tryz.t207 rfl Tryz.underlying207 (by kernel_rfl) rfl rfl rfl rfl rfl rfl rfl
 ·exact tS Tryz.t208 rfl Tryz.underlying208 (by kernel_rfl) rfl rfl rfl rfl rfl rfl rfl
 ·exact tS Tryz.t209 rfl Tryz.underlying209 (by kernel_rfl) rfl rfl rfl rfl rfl rfl rfl
 ·exact tS Tryz.t210 rfl Tryz.underlying210 (by kernel_rfl) rfl rfl rfl rfl rfl rfl rfl
 ·exact tS Tryz.t211 rfl Tryz.underlying211 (by kernel_rfl) rfl rfl rfl rfl rfl rfl rfl
 ·exact tS Tryz.t212 rfl Tryz.underlying212 (by kernel_rfl) rfl rfl rfl rfl rfl rfl rfl
 ·exact tS Tryz.t214 rfl Tryz.underlying214 (by kernel_rfl) rfl rfl rfl rfl rfl rfl rfl
 ·exact tS Tryz.t215 rfl Tryz.underlying215 (by kernel_rfl) rfl rfl rfl rfl rfl rfl rfl
 ·exact tS Tryz.t216 rfl Tryz.underlying216 (by kernel_rfl) rfl rfl rfl rfl rfl rfl rfl
 ·exact tS Tryz.t217 rfl Tryz.underlying217 (by kernel_rfl) rfl rfl rfl rfl rfl rfl rfl
 ·exact tS Tryz.t218 rfl Tryz.underlying218 (by kernel_rfl) rfl rfl rfl rfl rfl rfl rfl
 ·exact tS Tryz.t219 rfl Tryz.underlying219 (by kernel_rfl) rfl rfl rfl rfl rfl rfl rfl
 ·exact tS Tryz.t220 rfl Tryz.underlying220 (by kernel_rfl) rfl rfl rfl rfl rfl rfl rfl
 ·exact tS Tryz.t221 rfl Tryz.underlying221 (by kernel_rfl) rfl rfl rfl rfl rfl rfl rfl
 ·exact tS Tryz.t222 rfl Tryz.underlying222 (by kernel_rfl) rfl rfl rfl rfl rfl rfl rfl
 ·exact tS Tryz.t223 rfl Tryz.underlying223 (by kernel_rfl) rfl rfl rfl rfl rfl rfl rfl
 ·exact tS Tryz.t224 rfl Tryz.underlying224 (by kernel_rfl) rfl rfl rfl rfl rfl rfl rfl
 ·exact tS Tryz.t225 rfl Tryz.underlying225 (by kernel_rfl) rfl rfl rfl rfl rfl rfl rfl
 ·exact tS Tryz.t226 rfl Tryz.underlying226 (by kernel_rfl) rfl rfl rfl rfl rfl rfl rfl
 ·exact tS Tryz.t227 rfl Tryz.underlying227 (by kernel_rfl) rfl rfl rfl rfl rfl rfl rfl
 ·exact tS Tryz.t228 rfl Tryz.underlying228 (by kernel_rfl) rfl rfl rfl rfl rfl rfl rfl
 ·exact tS Tryz.t229 rfl Tryz.underlying229 (by kernel_rfl) rfl rfl rfl rfl rfl rfl rfl
 ·exact tS Tryz.t230 rfl Tryz.underlying230 (by kernel_rfl) rfl rfl rfl rfl rfl rfl rfl
 ·exact tS Tryz.t231 rfl Tryz.underlying231 (by kernel_rfl) rfl rfl rfl rfl rfl rfl rfl
 ·exact tS Tryz.t232 rfl Tryz.underlying232 (by kernel_rfl) rfl rfl rfl rfl rfl rfl rfl
 ·exact tS Tryz.t233 rfl Tryz.underlying233 (by kernel_rfl) rfl rfl rfl rfl rfl rfl rfl
 ·exact tS Tryz.t234 rfl Tryz.underlying234 (by kernel_rfl) rfl rfl rfl rfl rfl rfl rfl
 ·exact tS Tryz.t235 rfl Tryz.underlying235 (by kernel_rfl) rfl rfl rfl rfl rfl rfl rfl
 ·exact tS Tryz.t236 rfl Tryz.underlying236 (by kernel_rfl) rfl rfl rfl rfl rfl rfl rfl
 ·exact tS Tryz.t237 rfl Tryz.underlying237 (by kernel_rfl) rfl rfl rfl rfl rfl rfl rfl
 ·exact tS Tryz.t238 rfl Tryz.underlying238 (by kernel_rfl) rfl rfl rfl rfl rfl rfl rfl
 ·exact tiok_mk rfl Tryz.underlying239 (i := Tryz.t239) (by kernel_rfl) Tryz.underlying239 rfl rfl rfl rfl rfl (fun _ => ⟨_, rfl⟩) (fun h => by cases h)
 ·exact tS Tryz.t241 rfl Tryz.underlying241 (by kernel_rfl) rfl rfl rfl rfl rfl rfl rfl
 ·exact tiok_mk rfl Tryz.underlying242 (i := Tryz.t242) (by kernel_rfl) Tryz.underlying242 rfl rfl rfl rfl rfl (fun _ => ⟨_, rfl⟩) (fun h => by cases h)
 ·exact tiok_mk rfl Tryz.underlying243 (i := Tryz.t243) (by kernel_rfl) Tryz.underlying243 rfl rfl rfl rfl rfl (fun _ => ⟨_, rfl⟩) (fun h => by cases h)
 ·exact tS Tryz.t244 rfl Tryz.underlying244 (by kernel_rfl) rfl rfl rfl rfl rfl rfl rfl
 ·exact tS Tryz.t245 rfl Tryz.underlying245 (by kernel_rfl) rfl rfl rfl rfl rfl rfl rfl
 ·exact tiok_mk rfl Tryz.underlying246 (i := Tryz.t246) (by kernel_rfl) ⟨_, Tryz.underlying246, rfl, rfl⟩ rfl rfl rfl rfl rfl (fun _ => ⟨_, rfl⟩) (fun h => by cases h)
 ·exact tiok_mk rfl Tryz.underlying247 (i := Tryz.t247) (by kernel_rfl) ⟨_, Tryz.underlying247, rfl, rfl⟩ rfl rfl rfl rfl rfl (fun _ => ⟨_, rfl⟩) (fun h => by cases h)
 ·exact tS Tryz.t248 rfl Tryz.underlying248 (by kernel_rfl) rfl rfl rfl rfl rfl rfl rfl
 ·exact tS Tryz.t249 rfl Tryz.underlying249 (by kernel_rfl) rfl rfl rfl rfl rfl rfl rfl
 ·exact tS Tryz.t250 rfl Tryz.underlying250 (by kernel_rfl) rfl rfl rfl rfl rfl rfl rfl
 ·exact tS Tryz.t251 rfl Tryz.underlying251 (by kernel_rfl) rfl rfl rfl rfl rfl rfl rfl
 ·exact tS Tryz.t252 rfl Tryz.underlying252 (by kernel_rfl) rfl rfl rfl rfl rfl rfl rfl
 ·exact tS Tryz.t253 rfl Tryz.underlying253 (by kernel_rfl) rfl rfl rfl rfl rfl rfl rfl
 ·exact tS Tryz.t254 rfl Tryz.underlying254 (by kernel_rfl) rfl rfl rfl rfl rfl rfl rfl
 ·exact tS Tryz.t255 rfl Tryz.underlying255 (by kernel_rfl) rfl rfl rfl rfl rfl rfl rfl
 ·exact tS Tryz.t256 rfl Tryz.underlying256 (by kernel_rfl) rfl rfl rfl rfl rfl rfl rfl
 ·exact tS Tryz.t257 rfl Tryz.underlying257 (by kernel_rfl) rfl rfl rfl rfl rfl rfl rfl
 ·exact tS Tryz.t258 rfl Tryz.underlying258 (by kernel_rfl) rfl rfl rfl rfl rfl rfl rfl
 ·exact tS Tryz.t259 rfl Tryz.underlying259 (by kernel_rfl) rfl rfl rfl rfl rfl rfl rfl
 ·exact tS Tryz.t261 rfl Tryz.underlying261 (by kernel_rfl) rfl rfl rfl rfl rfl rfl rfl
 ·exact tS Tryz.t262 rfl Tryz.underlying262 (by kernel_rfl) rfl rfl rfl rfl rfl rfl rfl
 ·exact tS Tryz.t263 rfl Tryz.underlying263 (by kernel_rfl) rfl rfl rfl rfl rfl rfl rfl
 ·exact tS Tryz.t264 rfl Tryz.underlying264 (by kernel_rfl) rfl rfl rfl rfl rfl rfl rfl
 ·exact tS Tryz.t265 rfl Tryz.underlying265 (by kernel_rfl) rfl rfl rfl rfl rfl rfl rfl
 ·exact tS Tryz.t266 rfl Tryz.underlying266 (by kernel_rfl) rfl rfl rfl rfl rfl rfl rfl
 ·exact tS Tryz.t267 rfl Tryz.underlying267 (by kernel_rfl) rfl rfl rfl rfl rfl rfl rfl
 ·exact tS Tryz.t268 rfl Tryz.underlying268 (by kernel_rfl) rfl rfl rfl rfl rfl rfl rfl
 ·exact tS Tryz.t269 rfl Tryz.underlying269 (by kernel_rfl) rfl rfl rfl rfl rfl rfl rfl
 ·exact tS Tryz.t270 rfl Tryz.underlying270 (by kernel_rfl) rfl rfl rfl rfl rfl rfl rfl
 ·exact tS Tryz.t271 rfl Tryz.underlying271 (by kernel_rfl) rfl rfl rfl rfl rfl rfl rfl
 ·exact tS Tryz.t272 rfl Tryz.underlying272 (by kernel_rfl) rfl rfl rfl rfl rfl rfl rfl
 ·exact tiok_mk rfl Tryz.underlying275 (i := Tryz.t275) (by kernel_rfl) Tryz.underlying275 rfl rfl rfl rfl rfl (fun _ => ⟨_, rfl⟩) (fun h => by cases h)
 ·exact tiok_mk rfl Tryz.underlying276 (i := Tryz.t276) (by kernel_rfl) ⟨_, Tryz.underlying276, rfl, rfl⟩ rfl rfl rfl rfl rfl (fun _ => ⟨_, rfl⟩) (fun h => by cases h)
 ·exact tiok_mk rfl Tryz.underlying277 (i := Tryz.t277) (by kernel_rfl) ⟨_, Tryz.underlying277, rfl, rfl⟩ rfl rfl rfl rfl rfl (fun _ => ⟨_, rfl⟩) (fun h => by cases h)
 ·exact tS Tryz.t278 rfl Tryz.underlying278 (by kernel_rfl) rfl rfl rfl rfl rfl rfl rfl
 ·exact tS Tryz.t279 rfl Tryz.underlying279 (by kernel_rfl) rfl rfl rfl rfl rfl rfl rfl
 ·exact tS Tryz.t280 rfl Tryz.underlying280 (by kernel_rfl) rfl rfl rfl rfl rfl rfl rfl
 ·exact tS Tryz.t281 rfl Tryz.underlying281 (by kernel_rfl) rfl rfl rfl rfl rfl rfl rfl
 ·exact tS Tryz.t282 rfl Tryz.underlying282 (by kernel_rfl) rfl rfl rfl rfl rfl rfl rfl
 ·exact tS Tryz.t283 rfl Tryz.underlying283 (by kernel_rfl) rfl rfl rfl rfl rfl rfl rfl
 ·exact tS Tryz.t286 rfl Tryz.underlying286 (by kernel_rfl) rfl rfl rfl rfl rfl rfl rfl
 ·exact tiok_bad
attribute [go_sem] ti1 ti2 ti3 ti4 ti5 ti6 ti7 ti8 ti12 ti15 ti16 ti17 ti18 ti19 ti21 ti22 ti23 ti24 ti25 ti26 ti27 ti28 ti29 ti30 ti31 ti32 ti33 ti34 ti36 ti37 ti38 ti40 ti41 ti43 ti44 ti45 ti46 ti47 ti48 ti49 ti51 ti52 ti54 ti56 ti57 ti59 ti60 ti61 ti62 ti63 ti64 ti65 ti66 ti67 ti68 ti69 ti70 ti72 ti73 ti74 ti75 ti76 ti77 ti78 ti79 ti80 ti81 ti82 ti83 ti84 ti85 ti86 ti87 ti88 ti89 ti90 ti91 ti92 ti93 ti94 ti95 ti96 ti97 ti98 ti99 ti100 ti101 ti102 ti103 ti104 ti105 ti106 ti107 ti108 ti109 ti110 ti112 ti113 ti114 ti115 ti116 ti118 ti119 ti120 ti122 ti123 ti124 ti125 ti126 ti127 ti128 ti129 ti130 ti131 ti132 ti133 ti135 ti136 ti137 ti138 ti140 ti141 ti142 ti143 ti144 ti145 ti146 ti147 ti148 ti149 ti150 ti151 ti152 ti153 ti154 ti155 ti157 ti158 ti159 ti161 ti162 ti163 ti164 ti165 ti166 ti167 ti168 ti169 ti170 ti171 ti172 ti173 ti174 ti175 ti176 ti177 ti178 ti179 ti180 ti181 ti182 ti183 ti184 ti185 ti186 ti187 ti188 ti189 ti190 ti191 ti192 ti193 ti194 ti195 ti196 ti197 ti198 ti199 ti200 ti201 ti202 ti203 ti204 ti205 ti206 ti207 ti208 ti209 ti210 ti211 ti212 ti214 ti215 ti216 ti217 ti218 ti219 ti220 ti221 ti222 ti223 ti224 ti225 ti226 ti227 ti228 ti229 ti230 ti231 ti232 ti233 ti234 ti235 ti236 ti237 ti238 ti239 ti241 ti242 ti243 ti244 ti245 ti246 ti247 ti248 ti249 ti250 ti251 ti252 ti253 ti254 ti255 ti256 ti257 ti258 ti259 ti261 ti262 ti263 ti264 ti265 ti266 ti267 ti268 ti269 ti270 ti271 ti272 ti275 ti276 ti277 ti278 ti279 ti280 ti281 ti282 ti283 ti286
end Wb
namespace Wb
open Go Go.Proofs
theorem flat3 : Flat Tryz.prog 3 false [true] 1 := flat_int Tryz.underlying3 (by kernel_rfl)
theorem flat4 : Flat Tryz.prog 4 false [false] 1 := flat_bool Tryz.underlying4 (by kernel_rfl)
theorem flat26 : Flat Tryz.prog 26 true [true, true] 2 := flat_struct Tryz.underlying26 (by kernel_rfl)
 ⟨false, [true], [true], by decide, rfl, flat3, rfl, false, [true], [], by decide, rfl, flat3, rfl, rfl⟩ (by kernel_rfl)
theorem flat65 : Flat Tryz.prog 65 true [true, true] 2 := flat_struct Tryz.underlying65 (by kernel_rfl)
 ⟨false, [true], [true], by decide, rfl, flat3, rfl, false, [true], [], by decide, rfl, flat3, rfl, rfl⟩ (by kernel_rfl)
theorem flat169 : Flat Tryz.prog 169 true [true, true] 2 := flat_struct Tryz.underlying169 (by kernel_rfl)
 ⟨false, [true], [true], by decide, rfl, flat3, rfl, false, [true], [], by decide, rfl, flat3, rfl, rfl⟩ (by kernel_rfl)
theorem flat193 : Flat Tryz.prog 193 true [true, true] 2 := flat_struct Tryz.underlying193 (by kernel_rfl)
 ⟨false, [true], [true], by decide, rfl, flat3, rfl, false, [true], [], by decide, rfl, flat3, rfl, rfl⟩ (by kernel_rfl)
theorem flat77 : Flat Tryz.prog 77 true [true, true, true] 2 := flat_struct Tryz.underlying77 (by kernel_rfl)
 ⟨false, [true], [true, true], by decide, rfl, flat3, rfl, false, [true], [true], by decide, rfl, flat3, rfl, false, [true], [], by decide, rfl, flat3, rfl, rfl⟩ (by kernel_rfl)
theorem flat79 : Flat Tryz.prog 79 true [true, true, true, true] 3 := flat_struct Tryz.underlying79 (by kernel_rfl)
 ⟨true, [true, true, true], [true], by decide, rfl, flat77, rfl, false, [true], [], by decide, rfl, flat3.up, rfl, rfl⟩ (by kernel_rfl)
theorem flat114 : Flat Tryz.prog 114 true (List.replicate 8 true) 4 := flat_array (n := 2) (s := [true, true, true, true]) Tryz.underlying114 flat79 (by kernel_rfl)
theorem flat180 : Flat Tryz.prog 180 true (List.replicate 8 true) 2 := flat_array (n := 8) (s := [true]) Tryz.underlying180 flat3 (by kernel_rfl)
theorem flat182 : Flat Tryz.prog 182 true (List.replicate 10 false) 2 := flat_array (n := 10) (s := [false]) Tryz.underlying182 flat4 (by kernel_rfl)
theorem flat243 : Flat Tryz.prog 243 true (List.replicate 4 false) 2 := flat_array (n := 4) (s := [false]) Tryz.underlying243 flat4 (by kernel_rfl)
theorem keyok3 : KeyOK Tryz.prog 3 1 false := by
 rintro w l l' x y h1 ⟨n, rfl, rfl⟩ ⟨m, rfl, rfl⟩ h2
 have e := flat3.eq w 9999 (.int .i64 n) (.int .i64 m) [.int .i64 n] [.int .i64 m] rfl rfl ⟨⟨n, rfl⟩, trivial⟩ ⟨⟨m, rfl⟩, trivial⟩
 exact ⟨by rw [show Op.equal 3 (.int .i64 n) (.int .i64 m) = Op.equalIn (9999 + 1) 3 (.int .i64 n) (.int .i64 m) from rfl, e]; simp [vEqs, vEq], fun em => flat3.chk w 9999 (.int .i64 n) [.int .i64 n] em rfl ⟨⟨n, rfl⟩, trivial⟩⟩
theorem keyok169 : KeyOK Tryz.prog 169 2 true := flat169.key (n := 2) (by omega)
theorem keyok193 : KeyOK Tryz.prog 193 2 true := flat193.key (n := 2) (by omega)
theorem keyok114 : KeyOK Tryz.prog 114 8 true := flat114.key (by omega)
theorem keyok180 : KeyOK Tryz.prog 180 8 true := flat180.key (by omega)
theorem eqok26 : EqOK Tryz.prog 26 (ti 26).zero := flat26.eqok (by omega) fun op x y a b w => by unfold eqGuard; cases op <;> simp [Tryz.eqGuardType26]
theorem eqok65 : EqOK Tryz.prog 65 (ti 65).zero := flat65.eqok (by omega) fun op x y a b w => by unfold eqGuard; cases op <;> simp [Tryz.eqGuardType65]
theorem eqok77 : EqOK Tryz.prog 77 (ti 77).zero := flat77.eqok (by omega) fun op x y a b w => by unfold eqGuard; cases op <;> simp [Tryz.eqGuardType77]
theorem eqok79 : EqOK Tryz.prog 79 (ti 79).zero := flat79.eqok (by omega) fun op x y a b w => by unfold eqGuard; cases op <;> simp [Tryz.eqGuardType79]
theorem eqok182 : EqOK Tryz.prog 182 (ti 182).zero := flat182.eqok (by omega) fun op x y a b w => by unfold eqGuard; cases op <;> simp [Tryz.eqGuardType182]
theorem eqok243 : EqOK Tryz.prog 243 (ti 243).zero := flat243.eqok (by omega) fun op x y a b w => by unfold eqGuard; cases op <;> simp [Tryz.eqGuardType243]
def glB : Nat → Option (List PV)
 | 0 => some [.fn 219 [] [], .fn 220 [] [], .fn 216 [] [], .fn 221 [] []]
 | 1 => some [.fn 222 [] [], .fn 223 [] []]
 | _ => none
def eqB : Nat → Bool
 | 26 => true
 | 65 => true
 | 77 => true
 | 79 => true
 | 182 => true
 | 243 => true
 | _ => false
def keyB : Nat → Bool
 | 3 => true
 | 114 => true
 | 169 => true
 | 180 => true
 | 193 => true
 | _ => false
theorem eqB_26 : eqB 26 = true := rfl
theorem eqB_65 : eqB 65 = true := rfl
theorem eqB_77 : eqB 77 = true := rfl
theorem eqB_79 : eqB 79 = true := rfl
theorem eqB_182 : eqB 182 = true := rfl
theorem eqB_243 : eqB 243 = true := rfl
theorem keyB_3 : keyB 3 = true := rfl
theorem keyB_114 : keyB 114 = true := rfl
theorem keyB_169 : keyB 169 = true := rfl
theorem keyB_180 : keyB 180 = true := rfl
theorem keyB_193 : keyB 193 = true := rfl
theorem glB_0 : glB 0 = some [.fn 219 [] [], .fn 220 [] [], .fn 216 [] [], .fn 221 [] []] := rfl
theorem glB_1 : glB 1 = some [.fn 222 [] [], .fn 223 [] []] := rfl
attribute [go_sem] eqB_26 eqB_65 eqB_77 eqB_79 eqB_182 eqB_243 keyB_3 keyB_114 keyB_169 keyB_180 keyB_193 glB_0 glB_1
def mkE (sp : List (Nat × Spec)) (il : List (Nat × Func)) : Env := { ti, spec := tab sp, inl := tab il, glob := glB, eqt := eqB, keyt := keyB }
def AllOK : List (Nat × Spec) → Prop
 | [] => True
 | p :: ps => (SpecOK Tryz.prog glB p.1 p.2 ∧ Callable Tryz.prog p.1) ∧ AllOK ps
theorem AllOK.mem : ∀ {l : List (Nat × Spec)} {p : Nat × Spec}, AllOK l → p ∈ l → SpecOK Tryz.prog glB p.1 p.2 ∧ Callable Tryz.prog p.1
 | q :: l, p, h, hp => by
  rcases List.mem_cons.1 hp with e | e
  ·rw [e]; exact h.1
  ·exact AllOK.mem h.2 e
theorem AllOK.append : ∀ {l m : List (Nat × Spec)}, AllOK l → AllOK m → AllOK (l ++ m)
 | [], _, _, k => k
 | _ :: _, _, h, k => ⟨h.1, AllOK.append h.2 k⟩
def InlOK : List (Nat × Func) → Prop
 | [] => True
 | p :: ps => (Tryz.prog.funcs[p.1]? = some p.2 ∧ Callable Tryz.prog p.1 ∧ okC (p.2.body.getD .skip) = true) ∧ InlOK ps
theorem InlOK.mem : ∀ {l : List (Nat × Func)} {p : Nat × Func}, InlOK l → p ∈ l → Tryz.prog.funcs[p.1]? = some p.2 ∧ Callable Tryz.prog p.1 ∧ okC (p.2.body.getD .skip) = true
 | q :: l, p, h, hp => by
  rcases List.mem_cons.1 hp with e | e
  ·rw [e]; exact h.1
  ·exact InlOK.mem h.2 e
attribute [go_sem] Nat.reduceAdd Nat.reduceSub Nat.reduceMul Nat.reduceEqDiff Nat.reduceLT Nat.reduceLeDiff Nat.reduceBEq Nat.reduceBNe Int.reduceToNat Int.reduceLE Int.reduceLT Int.reduceNe Int.reduceNeg reduceCtorEq Int.reduceBEq Int.reduceBNe
theorem ct {E : Env} {n : Nat} {s : Spec} (hs : E.spec n = some s) :
    (∀ (h : Handler) (path : List Nat) (first args cap : List PV) (g : Option Prop) (K : PV → Heap → Prop) (H : Heap), callV E h path (.fn n first cap) args g K H = light (callSpec s (first ++ args ++ cap)) g K H) ∧
    (∀ (h : Handler) (path : List Nat) (p : Prop) (first args cap : List PV) (g : Option Prop) (K : PV → Heap → Prop) (H : Heap), callV E h path (.tnt p (.fn n first cap)) args g K H = light (.chk p (callSpec s (first ++ args ++ cap))) g K H) ∧
    (∀ (first args cap : List PV), stepV E (.fn n first cap) args = callSpec s (first ++ args ++ cap)) ∧
    ∀ (p : List Nat) (first args cap : List PV), effV E p (.fn n first cap) args = none :=
 ⟨callV_spec hs, callV_specT hs, stepV_spec hs, effV_spec hs⟩
theorem evDraw_nil2 {E : Env} {path : List Nat} {site : Nat} {ops : Array Oper} {i : Nat} {fps : List FP} {Q : List PV → Heap → Prop} {τ : List PV} {H : Heap} : evDraw E path site ops [] i fps Q τ H = Q τ H := by rw [evDraw_nil]
theorem seqK_normal2 {Q : Exit → List PV → Heap → Prop} {K : List PV → Heap → Prop} {τ : List PV} {H : Heap} : seqK Q K .normal τ H = K τ H := by rw [seqK_normal]
attribute [go_sem high] evDraw_nil2 seqK_normal2
theorem mixed : Tryz.prog.follows .mixedOrders = true := by kernel_rfl
theorem envOK {sp : List (Nat × Spec)} {il : List (Nat × Func)} (h : AllOK sp) (k : InlOK il) : EnvOK Tryz.prog (mkE sp il) where
 ti := tiok
 spec := fun f s hs => h.mem (tab_some hs)
 inl := fun f fn hf => by
  obtain ⟨a, b, c⟩ := k.mem (tab_some hf)
  exact ⟨a, b, fun c' hc' => by rw [hc'] at c; exact c⟩
 eqt := fun t ht => by
  change eqB t = true at ht
  unfold eqB at ht
  split at ht
  ·exact eqok26
  ·exact eqok65
  ·exact eqok77
  ·exact eqok79
  ·exact eqok182
  ·exact eqok243
  ·cases ht
 keyt := fun t ht => by
  change keyB t = true at ht
  unfold keyB at ht
  split at ht
  ·exact keyok3
  ·exact keyok114
  ·exact keyok169
  ·exact keyok180
  ·exact keyok193
  ·cases ht
 mixed := mixed
 mt := fun f m h => by cases h
 eff := fun f s h => by cases h
def mkM (sp : List (Nat × Spec)) (il : List (Nat × Func)) (mt : List (Nat × MSpec)) : Env := { ti, spec := tab sp, inl := tab il, glob := glB, eqt := eqB, keyt := keyB, mt := tab mt }
def MutAll : List (Nat × MSpec) → Prop
 | [] => True
 | p :: ps => (MutOK Tryz.prog glB p.1 p.2 ∧ Callable Tryz.prog p.1) ∧ MutAll ps
theorem MutAll.mem : ∀ {l : List (Nat × MSpec)} {p : Nat × MSpec}, MutAll l → p ∈ l → MutOK Tryz.prog glB p.1 p.2 ∧ Callable Tryz.prog p.1
 | q :: l, p, h, hp => by
  rcases List.mem_cons.1 hp with e | e
  ·rw [e]; exact h.1
  ·exact MutAll.mem h.2 e
theorem envMOK {sp : List (Nat × Spec)} {il : List (Nat × Func)} {mt : List (Nat × MSpec)} (h : AllOK sp) (k : InlOK il) (hm : MutAll mt) : EnvOK Tryz.prog (mkM sp il mt) where
 ti := tiok
 spec := fun f s hs => h.mem (tab_some hs)
 inl := fun f fn hf => by
  obtain ⟨a, b, c⟩ := k.mem (tab_some hf)
  exact ⟨a, b, fun c' hc' => by rw [hc'] at c; exact c⟩
 eqt := (envOK (sp := []) (il := []) trivial trivial).eqt
 keyt := (envOK (sp := []) (il := []) trivial trivial).keyt
 mixed := mixed
 mt := fun f m h => hm.mem (tab_some h)
 eff := fun f s h => by cases h
def mkF (sp : List (Nat × Spec)) (il : List (Nat × Func)) (mt : List (Nat × MSpec)) (ef : List (Nat × ESpec)) : Env := { ti, spec := tab sp, inl := tab il, glob := glB, eqt := eqB, keyt := keyB, mt := tab mt, eff := tab ef }
def EffAll : List (Nat × ESpec) → Prop
 | [] => True
 | p :: ps => (EffOK Tryz.prog glB p.1 p.2 ∧ Callable Tryz.prog p.1) ∧ EffAll ps
theorem EffAll.mem : ∀ {l : List (Nat × ESpec)} {p : Nat × ESpec}, EffAll l → p ∈ l → EffOK Tryz.prog glB p.1 p.2 ∧ Callable Tryz.prog p.1
 | q :: l, p, h, hp => by
  rcases List.mem_cons.1 hp with e | e
  ·rw [e]; exact h.1
  ·exact EffAll.mem h.2 e
theorem envFOK {sp : List (Nat × Spec)} {il : List (Nat × Func)} {mt : List (Nat × MSpec)} {ef : List (Nat × ESpec)} (h : AllOK sp) (k : InlOK il) (hm : MutAll mt) (he : EffAll ef) : EnvOK Tryz.prog (mkF sp il mt ef) where
 ti := tiok
 spec := (envMOK h k hm).spec
 inl := (envMOK h k hm).inl
 eqt := (envMOK h k hm).eqt
 keyt := (envMOK h k hm).keyt
 mixed := mixed
 mt := fun f m h => hm.mem (tab_some h)
 eff := fun f s h => he.mem (tab_some h)
end Wb
namespace Wb
open Go Go.Proofs
set_option linter.unusedSimpArgs false
set_option linter.unusedVariables false
set_option maxRecDepth 20000
set_option maxHeartbeats 4000000
def E0t : List (Nat × Spec) := []
theorem E0t_ok : AllOK E0t := trivial
def E0 : Env := mkE E0t []
theorem E0_ok : EnvOK Tryz.prog E0 := envOK E0t_ok trivial
theorem E0_ti {t : Nat} : E0.ti t = ti t := rfl
theorem E0_e {t : Nat} : E0.eqt t = eqB t := rfl
theorem E0_k {t : Nat} : E0.keyt t = keyB t := rfl
theorem E0_g {t : Nat} : E0.glob t = glB t := rfl
attribute [go_sem] E0_ti E0_e E0_k E0_g
theorem within_fn (n a b : Int) : Fn E0 0 92 Tryz.f92 (Tryz.f92.body.getD .skip) [.int .i64 n, .int .i64 a, .int .i64 b] (.bool (decide (a ≤ n) && decide (n ≤ b))) := by
 unfold Fn Tryz.f92
 simp only [go_sem, E0_ti, ti3, ti4, ti24, ti26, ti77, ti104]
def sTween : Spec := fun args => match args with | [.int .i64 n, .int .i64 a, .int .i64 b] => some (True, .bool (decide (a ≤ n) && decide (n ≤ b))) | _ => none
theorem s66_ok : SpecOK Tryz.prog glB 92 sTween := specOK_of E0_ok Tryz.func92 (by kernel_rfl) fun args pre r h hp => by
 unfold sTween at h; split at h <;> cases h; exact ⟨_, _, wkL_refl _, rfl, within_fn _ _ _ ⟩
theorem Tween_fn (n a b : Int) : Fn E0 0 45 Tryz.f45 (Tryz.f45.body.getD .skip) [.int .i64 n, .int .i64 a, .int .i64 b] (.bool (decide (a ≤ n) && decide (n ≤ b))) := by
 unfold Fn Tryz.f45
 simp only [go_sem, E0_ti, ti3, ti4, ti24, ti26, ti77, ti104]
theorem s50_ok : SpecOK Tryz.prog glB 45 sTween := specOK_of E0_ok Tryz.func45 (by kernel_rfl) fun args pre r h hp => by
 unfold sTween at h; split at h <;> cases h; exact ⟨_, _, wkL_refl _, rfl, Tween_fn _ _ _ ⟩
def spinF (n m : Int) : Int := if m < 1 then 0 else n % m
theorem Spin_fn (n m : Int) (hm : m ≤ 9223372036854775807) : Fn E0 0 49 Tryz.f49 (Tryz.f49.body.getD .skip) [.int .i64 n, .int .i64 m] (.int .i64 (spinF n m)) := by
 unfold Fn Tryz.f49
 simp only [go_sem, E0_ti, ti3, ti4, ti24, ti26, ti77, ti104]
 unfold spinF
 rw [condK_bool]
 refine ⟨fun h => ?_, fun h => ?_⟩
 ·have h : m < 1 := by simpa using h
  simp only [go_sem, E0_ti, ti3, ti4]
  simp [h]
 ·have h : ¬ m < 1 := by simpa using h
  simp only [go_sem, E0_ti, ti3, ti4, condK_bool]
  rw [if_neg h]
  have hb : 0 < m := by omega
  have h0 := Int.emod_nonneg n (show m ≠ 0 by omega)
  have h1 := Int.emod_lt_of_pos n hb
  have ht := @Int.tmod_eq_emod n m
  have hn : (m.natAbs : Int) = m := by omega
  refine ⟨by omega, fun h2 => ?_, fun h2 => ?_⟩
  ·have h2 : n.tmod m < 0 := by simpa using h2
   rw [ht] at h2 ⊢
   split at h2
   ·omega
   ·rename_i hc
    rw [if_neg hc, hn]
    rw [wrap_id (by omega)]; omega
  ·have h2 : ¬ n.tmod m < 0 := by simpa using h2
   rw [ht] at h2 ⊢
   split at h2
   ·rename_i hc; rw [if_pos hc]; omega
   ·rename_i hc
    rw [hn] at h2
    omega
def sSpin : Spec := fun args => match args with | [.int .i64 n, .int .i64 m] => some (m ≤ 9223372036854775807, .int .i64 (spinF n m)) | _ => none
theorem s43_ok : SpecOK Tryz.prog glB 49 sSpin := specOK_of E0_ok Tryz.func49 (by kernel_rfl) fun args pre r h hp => by
 unfold sSpin at h; split at h <;> cases h; exact ⟨_, _, wkL_refl _, rfl, Spin_fn _ _ hp⟩
theorem To_fn (a b : Int) : Fn E0 0 17 Tryz.f17 (Tryz.f17.body.getD .skip) [.int .i64 a, .int .i64 b] (.agg [.int .i64 a, .int .i64 b]) := by
 unfold Fn Tryz.f17
 simp only [go_sem, E0_ti, ti3, ti4, ti24, ti26, ti77, ti104]
def sTo : Spec := fun args => match args with | [.int .i64 a, .int .i64 b] => some (True, .agg [.int .i64 a, .int .i64 b]) | _ => none
theorem s44_ok : SpecOK Tryz.prog glB 17 sTo := specOK_of E0_ok Tryz.func17 (by kernel_rfl) fun args pre r h hp => by
 unfold sTo at h; split at h <;> cases h; exact ⟨_, _, wkL_refl _, rfl, To_fn _ _ ⟩
theorem isSpan_fn (a b l h : Int) : Fn E0 0 98 Tryz.f98 (Tryz.f98.body.getD .skip) [.agg [.int .i64 a, .int .i64 b], .int .i64 l, .int .i64 h] (.bool (decide (l ≤ a) && decide (a ≤ b) && decide (b ≤ h))) := by
 unfold Fn Tryz.f98
 simp only [go_sem, E0_ti, ti3, ti4, ti24, ti26, ti77, ti104]
def sProper : Spec := fun args => match args with | [.agg [.int .i64 a, .int .i64 b], .int .i64 l, .int .i64 h] => some (True, .bool (decide (l ≤ a) && decide (a ≤ b) && decide (b ≤ h))) | _ => none
theorem s67_ok : SpecOK Tryz.prog glB 98 sProper := specOK_of E0_ok Tryz.func98 (by kernel_rfl) fun args pre r h hp => by
 unfold sProper at h; split at h <;> cases h; exact ⟨_, _, wkL_refl _, rfl, isSpan_fn _ _ _ _ ⟩
theorem Proper_fn (a b l h : Int) : Fn E0 0 58 Tryz.f58 (Tryz.f58.body.getD .skip) [.agg [.int .i64 a, .int .i64 b], .int .i64 l, .int .i64 h] (.bool (decide (l ≤ a) && decide (a ≤ b) && decide (b ≤ h))) := by
 unfold Fn Tryz.f58
 simp only [go_sem, E0_ti, ti3, ti4, ti24, ti26, ti77, ti104]
theorem s69_ok : SpecOK Tryz.prog glB 58 sProper := specOK_of E0_ok Tryz.func58 (by kernel_rfl) fun args pre r h hp => by
 unfold sProper at h; split at h <;> cases h; exact ⟨_, _, wkL_refl _, rfl, Proper_fn _ _ _ _ ⟩
theorem Inner_fn (a b c d : Int) : Fn E0 0 47 Tryz.f47 (Tryz.f47.body.getD .skip) [.agg [.int .i64 a, .int .i64 b], .agg [.int .i64 c, .int .i64 d]] (.bool (decide (c ≤ a) && decide (b ≤ d))) := by
 unfold Fn Tryz.f47
 simp only [go_sem, E0_ti, ti3, ti4, ti24, ti26, ti77, ti104]
def sInner : Spec := fun args => match args with | [.agg [.int .i64 a, .int .i64 b], .agg [.int .i64 c, .int .i64 d]] => some (True, .bool (decide (c ≤ a) && decide (b ≤ d))) | _ => none
theorem s103_ok : SpecOK Tryz.prog glB 47 sInner := specOK_of E0_ok Tryz.func47 (by kernel_rfl) fun args pre r h hp => by
 unfold sInner at h; split at h <;> cases h; exact ⟨_, _, wkL_refl _, rfl, Inner_fn _ _ _ _ ⟩
theorem day_fn (n : Int) : Fn E0 0 144 Tryz.f144 (Tryz.f144.body.getD .skip) [.int .i64 n] (.agg [.int .i64 n, .int .i64 n]) := by
 unfold Fn Tryz.f144
 simp only [go_sem, E0_ti, ti3, ti4, ti24, ti26, ti77, ti104]
def sday : Spec := fun args => match args with | [.int .i64 n] => some (True, .agg [.int .i64 n, .int .i64 n]) | _ => none
theorem s76_ok : SpecOK Tryz.prog glB 144 sday := specOK_of E0_ok Tryz.func144 (by kernel_rfl) fun args pre r h hp => by
 unfold sday at h; split at h <;> cases h; exact ⟨_, _, wkL_refl _, rfl, day_fn _ ⟩
def E1t : List (Nat × Spec) := [(92, sTween), (45, sTween), (49, sSpin), (17, sTo), (98, sProper), (58, sProper), (47, sInner), (144, sday)] ++ E0t
theorem E1t_ok : AllOK E1t := ⟨⟨s66_ok, Tryz.call92⟩, ⟨s50_ok, Tryz.call45⟩, ⟨s43_ok, Tryz.call49⟩, ⟨s44_ok, Tryz.call17⟩, ⟨s67_ok, Tryz.call98⟩, ⟨s69_ok, Tryz.call58⟩, ⟨s103_ok, Tryz.call47⟩, ⟨s76_ok, Tryz.call144⟩, E0t_ok⟩
def E1 : Env := mkE E1t []
theorem E1_ok : EnvOK Tryz.prog E1 := envOK E1t_ok trivial
theorem E1_ti {t : Nat} : E1.ti t = ti t := rfl
theorem E1_e {t : Nat} : E1.eqt t = eqB t := rfl
theorem E1_k {t : Nat} : E1.keyt t = keyB t := rfl
theorem E1_g {t : Nat} : E1.glob t = glB t := rfl
attribute [go_sem] E1_ti E1_e E1_k E1_g
theorem isDayR_fn (n : Int) : Fn E1 0 161 Tryz.f161 (Tryz.f161.body.getD .skip) [.int .i64 n] (.bool (decide (0 ≤ n) && decide (n ≤ 20000))) := by
 unfold Fn Tryz.f161
 simp only [go_sem, E1_ti, ti3, ti4, ti24, ti26, ti77, ti104, @callV_spec E1 45 sTween rfl, @effV_spec E1 45 sTween rfl, @callV_specT E1 45 sTween rfl, @stepV_spec E1 45 sTween rfl, @effV_spec E1 45 sTween rfl, sTween, callSpec_pure, specP, pureD, pureD.pureLs]
def sisDayR : Spec := fun args => match args with | [.int .i64 n] => some (True, .bool (decide (0 ≤ n) && decide (n ≤ 20000))) | _ => none
theorem s77_ok : SpecOK Tryz.prog glB 161 sisDayR := specOK_of E1_ok Tryz.func161 (by kernel_rfl) fun args pre r h hp => by
 unfold sisDayR at h; split at h <;> cases h; exact ⟨_, _, wkL_refl _, rfl, isDayR_fn _ ⟩
theorem Has_fn (a b n : Int) : Fn E1 0 43 Tryz.f43 (Tryz.f43.body.getD .skip) [.agg [.int .i64 a, .int .i64 b], .int .i64 n] (.bool (decide (a ≤ n) && decide (n ≤ b))) := by
 unfold Fn Tryz.f43
 simp only [go_sem, E1_ti, ti3, ti4, ti24, ti26, ti77, ti104, @callV_spec E1 45 sTween rfl, @effV_spec E1 45 sTween rfl, @callV_specT E1 45 sTween rfl, @stepV_spec E1 45 sTween rfl, @effV_spec E1 45 sTween rfl, sTween, callSpec_pure, specP, pureD, pureD.pureLs]
def sHas : Spec := fun args => match args with | [.agg [.int .i64 a, .int .i64 b], .int .i64 n] => some (True, .bool (decide (a ≤ n) && decide (n ≤ b))) | _ => none
theorem s52_ok : SpecOK Tryz.prog glB 43 sHas := specOK_of E1_ok Tryz.func43 (by kernel_rfl) fun args pre r h hp => by
 unfold sHas at h; split at h <;> cases h; exact ⟨_, _, wkL_refl _, rfl, Has_fn _ _ _ ⟩
theorem Common_fn (a b c d : Int) : Fn E1 0 159 Tryz.f159 (Tryz.f159.body.getD .skip) [.agg [.int .i64 a, .int .i64 b], .agg [.int .i64 c, .int .i64 d]] (.agg [.int .i64 (if c > a then c else a), .int .i64 (if d < b then d else b)]) := by
 unfold Fn Tryz.f159
 simp only [go_sem, E1_ti, ti3, ti4, ti24, ti26, ti77, ti104, @callV_spec E1 17 sTo rfl, @effV_spec E1 17 sTo rfl, @callV_specT E1 17 sTo rfl, @stepV_spec E1 17 sTo rfl, @effV_spec E1 17 sTo rfl, sTo, callSpec_pure, specP, pureD, pureD.pureLs]
def sCommon : Spec := fun args => match args with | [.agg [.int .i64 a, .int .i64 b], .agg [.int .i64 c, .int .i64 d]] => some (True, .agg [.int .i64 (if c > a then c else a), .int .i64 (if d < b then d else b)]) | _ => none
theorem s64_ok : SpecOK Tryz.prog glB 159 sCommon := specOK_of E1_ok Tryz.func159 (by kernel_rfl) fun args pre r h hp => by
 unfold sCommon at h; split at h <;> cases h; exact ⟨_, _, wkL_refl _, rfl, Common_fn _ _ _ _ ⟩
structure Fit where
 size : Int
 lo : Int
 hi : Int
 price : Int
 deriving Inhabited, DecidableEq
structure Entry where
 number : Int
 good : Int
 colours : Int
 sizes : List Fit
 deriving Inhabited, DecidableEq
structure Issue where
 lo : Int
 hi : Int
 held : Int
 entries : List Entry
 deriving Inhabited, DecidableEq
structure Rack where
 goods : Int
 issues : List Issue
 deriving Inhabited, DecidableEq
def encF (f : Fit) : List PV := [.int .i64 f.size, .int .i64 f.lo, .int .i64 f.hi, .int .i64 f.price]
def encE (e : Entry) : List PV := [.int .i64 e.number, .int .i64 e.good, .int .i64 e.colours, .sl (e.sizes.map encF) false]
def encI (i : Issue) : List PV := [.int .i64 i.lo, .int .i64 i.hi, .int .i64 i.held, .sl (i.entries.map encE) false]
theorem getD_map {α : Type} [Inhabited α] (enc : α → List PV) (l : List α) (i : Nat) (z : List PV) (h : decide ((i : Int) < (l.length : Int)) = true) : (l.map enc).getD i z = enc (l.getD i default) := by
 have h : i < l.length := by simpa using h
 simp [List.getD_eq_getElem?_getD, h]
def findI {α : Type} (p : α → Bool) : List α → Nat → Int
 | [], _ => -1
 | a :: l, i => if p a then i else findI p l (i + 1)
theorem findI_drop {α : Type} [Inhabited α] (p : α → Bool) {l : List α} {i : Nat} (h : i < l.length) : findI p (l.drop i) i = if p (l.getD i default) then (i : Int) else findI p (l.drop (i + 1)) (i + 1) := by
 rw [List.drop_eq_getElem_cons h]
 simp [findI, h]
theorem of_fn (x : Issue) (n : Int) (hl : x.entries.length < 4611686018427387904) : Fn E0 0 198 Tryz.f198 (Tryz.f198.body.getD .skip) [.agg (encI x), .int .i64 n] (.int .i64 (findI (fun e => e.good == n) x.entries 0)) := by
 unfold Fn Tryz.f198
 simp only [go_sem, E0_ti, ti3, ti4, ti83, ti85, encI]
 refine ev_loop (α := Nat) (fun i => [.undef, .int .i64 n, .ref ([], 198000000) 1 0, .undef, .int .i64 0, .int .i64 i] ++ List.replicate 16 .undef) (fun i H => i ≤ x.entries.length ∧ findI (fun e => e.good == n) (x.entries.drop i) i = findI (fun e => e.good == n) x.entries 0 ∧ H (([], 198000000) : Key) = some (.cells (encI x) 1 false)) (fun i => x.entries.length - i) 0 ?_ ⟨Nat.zero_le _, by simp, ?_⟩ ?_
 ·simp only [go_sem, fg]
 ·simp only [go_sem, encI]
 ·intro K i H ⟨hi, hf, hH⟩ hK hE
  simp only [go_sem, E0_ti, ti3, ti4, ti83, ti85, ti102, hH, encI]
  rw [condK_bool]
  refine ⟨fun h => ?_, fun h => ?_⟩
  ·simp only [go_sem, E0_ti, ti3, ti4, ti83, ti85, ti102, hH, encI, encE, getD_map _ _ _ _ h, h, condK_bool]
   have h' : i < x.entries.length := by simpa using h
   refine ⟨by simpa using h, fun h2 => ?_, fun h2 => ?_⟩
   ·refine hE _ _ _ (by simp) ?_
    simp only [go_sem, E0_ti, ti3, ti4]
    rw [← hf, findI_drop _ h']
    simp only [h2, beq_self_eq_true, if_true]
   ·refine hK (i + 1) _ _ ?_ ⟨h', ?_, hH⟩ (by omega)
    ·rw [wrap_id (by omega)]
     simp only [go_sem, fg, Int.natCast_add, Int.natCast_one]
    ·rw [← hf, findI_drop _ h', h2]; rfl
  ·refine hE _ _ _ (by simp) ?_
   simp only [go_sem, E0_ti, ti3, ti4]
   have h' : i = x.entries.length := by have : ¬ ((i : Int) < (x.entries.length : Int)) := by simpa using h
                                        omega
   rw [← hf, h']
   simp [findI]
theorem il_get (l : List Int) (i : Nat) : (il l).getD i [PV.int .i64 0] = [PV.int .i64 (l.getD i 0)] := il_getD l i
theorem findI_dropZ (p : Int → Bool) {l : List Int} {i : Nat} (h : i < l.length) : findI p (l.drop i) i = if p (l.getD i 0) then (i : Int) else findI p (l.drop (i + 1)) (i + 1) := by
 rw [List.drop_eq_getElem_cons h]
 simp [findI, h]
theorem Place_fn (l : List Int) (ex : Bool) (n : Int) (hl : l.length < 4611686018427387904) : Fn E0 0 96 Tryz.f96 (Tryz.f96.body.getD .skip) [.sl (il l) ex, .int .i64 n] (.int .i64 (findI (fun a => a == n) l 0)) := by
 unfold Fn Tryz.f96
 simp only [go_sem, E0_ti, ti3, ti4, ti47]
 refine ev_loop (α := Nat) (fun i => [.sl (il l) ex, .int .i64 n, .undef, .undef, .int .i64 0, .int .i64 i] ++ List.replicate 13 .undef) (fun i H => i ≤ l.length ∧ findI (fun a => a == n) (l.drop i) i = findI (fun a => a == n) l 0) (fun i => l.length - i) 0 ?_ ⟨Nat.zero_le _, by simp⟩ ?_
 ·simp only [go_sem, fg]
 ·intro K i H ⟨hi, hf⟩ hK hE
  simp only [go_sem, E0_ti, ti3, ti4, ti47, il_length, il_get]
  rw [condK_bool]
  refine ⟨fun h => ?_, fun h => ?_⟩
  ·have h' : i < l.length := by simpa using h
   simp only [go_sem, E0_ti, ti3, ti4, ti47, il_length, il_get, condK_bool]
   refine ⟨by simpa using h, fun h2 => ?_, fun h2 => ?_⟩
   ·refine hE _ _ _ (by simp) ?_
    simp only [go_sem, E0_ti, ti3, ti4]
    rw [← hf, findI_dropZ _ h']
    simp only [h2, beq_self_eq_true, if_true]
   ·refine hK (i + 1) _ _ ?_ ⟨h', ?_⟩ (by omega)
    ·rw [wrap_id (by omega)]
     simp only [go_sem, fg, Int.natCast_add, Int.natCast_one]
    ·rw [← hf, findI_dropZ _ h', h2]; rfl
  ·refine hE _ _ _ (by simp) ?_
   simp only [go_sem, E0_ti, ti3, ti4]
   have h' : i = l.length := by have : ¬ ((i : Int) < (l.length : Int)) := by simpa using h
                                omega
   rw [← hf, h']
   simp [findI]
def fitOk (last : Int) (f : Fit) : Bool :=
 decide (last + 1 ≤ f.size) && decide (f.size ≤ 99) && (decide (1 ≤ f.lo) && decide (f.lo ≤ f.hi) && decide (f.hi ≤ 400)) && (decide (1 ≤ f.price) && decide (f.price ≤ 100000))
def fitsOk : Int → List Fit → Bool
 | _, [] => true
 | last, f :: fs => fitOk last f && fitsOk f.size fs
def entryOk (e : Entry) : Bool :=
 decide (1 ≤ e.number) && decide (e.number ≤ 9999) && (decide (1 ≤ e.colours) && decide (e.colours ≤ 15)) && (decide (1 ≤ (e.sizes.length : Int)) && decide ((e.sizes.length : Int) ≤ 8)) && fitsOk 0 e.sizes
theorem fitsOk_drop {l : List Fit} {i : Nat} (h : i < l.length) (last : Int) : fitsOk last (l.drop i) = (fitOk last (l.getD i default) && fitsOk (l.getD i default).size (l.drop (i + 1))) := by
 rw [List.drop_eq_getElem_cons h]
 simp [fitsOk, h]
theorem entry_fn (e : Entry) (hl : e.sizes.length < 4611686018427387904) : Fn E1 0 115 Tryz.f115 (Tryz.f115.body.getD .skip) [.agg (encE e)] (.bool (entryOk e)) := by
 unfold Fn Tryz.f115
 simp only [go_sem, E1_ti, ti3, ti4, ti26, ti100, ti102, ti104, encE, @callV_spec E1 45 sTween rfl, @effV_spec E1 45 sTween rfl, @callV_spec E1 58 sProper rfl, @effV_spec E1 58 sProper rfl, callSpec_pure, specP, pureD, pureD.pureLs, sTween, sProper]
 refine ev_loop (α := Nat × Int × Bool) (fun x => [.undef, .ref ([], 115000000) 1 0, .bool false, .bool x.2.2, .int .i64 x.2.1, .int .i64 x.1] ++ List.replicate 48 .undef)
  (fun x H => x.1 ≤ e.sizes.length ∧ H (([], 115000000) : Key) = some (.cells (encE e) 1 false) ∧ entryOk e = (x.2.2 && fitsOk x.2.1 (e.sizes.drop x.1)) ∧ (x.2.2 = true → 0 ≤ x.2.1 ∧ x.2.1 ≤ 99))
  (fun x => e.sizes.length - x.1) (0, 0, decide (1 ≤ e.number) && decide (e.number ≤ 9999) && (decide (1 ≤ e.colours) && decide (e.colours ≤ 15)) && (decide (1 ≤ (e.sizes.length : Int)) && decide ((e.sizes.length : Int) ≤ 8))) ?_ ⟨Nat.zero_le _, ?_, ?_, fun _ => by simp⟩ ?_
 ·simp only [go_sem, fg]
 ·simp only [go_sem, encE]
 ·simp [entryOk]
 ·intro K x H ⟨hi, hH, hf, hb⟩ hK hE
  obtain ⟨i, last, ok⟩ := x
  simp only at hi hf hb
  simp only [go_sem, E1_ti, ti3, ti4, ti26, ti100, ti102, ti104, @callV_spec E1 45 sTween rfl, @effV_spec E1 45 sTween rfl, @callV_spec E1 58 sProper rfl, @effV_spec E1 58 sProper rfl, callSpec_pure, specP, pureD, pureD.pureLs, sTween, sProper, hH, encE]
  rw [condK_bool]
  refine ⟨fun h => ?_, fun h => ?_⟩
  ·have h0 := h
   simp only [Bool.and_eq_true, decide_eq_true_eq] at h0
   obtain ⟨h1, h2⟩ := h0
   have hg : decide ((i : Int) < (e.sizes.length : Int)) = true := by simpa using h2
   have h3 : i < e.sizes.length := by omega
   simp only [go_sem, E1_ti, ti3, ti4, ti26, ti100, ti102, ti104, @callV_spec E1 45 sTween rfl, @effV_spec E1 45 sTween rfl, @callV_spec E1 58 sProper rfl, @effV_spec E1 58 sProper rfl, callSpec_pure, specP, pureD, pureD.pureLs, sTween, sProper, hH, encE, encF, getD_map _ _ _ _ hg]
   have hb := hb h1
   have w1 : IntKind.i64.wrap (last + 1) = last + 1 := wrap_id (by omega)
   have w2 : IntKind.i64.wrap ((i : Int) + 1) = (i : Int) + 1 := wrap_id (by omega)
   refine ⟨h2, hK (i + 1, (e.sizes.getD i default).size, fitOk last (e.sizes.getD i default)) _ _ ?_ ⟨h3, ?_, ?_, ?_⟩ (by simp only; omega)⟩
   ·simp only [go_sem, fg, w1, w2, fitOk, Int.natCast_add, Int.natCast_one]
   ·simp only [go_sem, hH, encE]
   ·rw [hf, h1, Bool.true_and, fitsOk_drop h3]
   ·intro h4
    simp only [fitOk, Bool.and_eq_true, decide_eq_true_eq] at h4 ⊢
    omega
  ·refine hE _ _ _ (by simp) ?_
   simp only [go_sem, E1_ti, ti3, ti4]
   rw [hf]
   cases ok with
   | false => rfl
   | true =>
    have : i = e.sizes.length := by
     have : ¬ ((i : Int) < (e.sizes.length : Int)) := by simpa using h
     omega
    rw [this]
    simp [fitsOk]
def isEntryB (goods : Int) (e : Entry) : Bool :=
 decide (1 ≤ e.number) && decide (e.number ≤ 9999) && (decide (0 ≤ e.good) && decide (e.good ≤ goods - 1)) && (decide (1 ≤ e.colours) && decide (e.colours ≤ 15)) && (decide (1 ≤ (e.sizes.length : Int)) && decide ((e.sizes.length : Int) ≤ 8))
def isEntryOk (goods : Int) (e : Entry) : Bool := isEntryB goods e && fitsOk 0 e.sizes
theorem isEntry_fn (goods : Int) (rows : List (List PV)) (ex : Bool) (e : Entry) (hl : e.sizes.length < 4611686018427387904) (hgo : -9223372036854775807 ≤ goods ∧ goods ≤ 9223372036854775807) :
    Fn E1 0 99 Tryz.f99 (Tryz.f99.body.getD .skip) [.agg [.int .i64 goods, .sl rows ex], .agg (encE e)] (.bool (isEntryOk goods e)) := by
 have w0 : IntKind.i64.wrap (goods - 1) = goods - 1 := wrap_id (by omega)
 unfold Fn Tryz.f99
 simp only [go_sem, E1_ti, ti3, ti4, ti24, ti26, ti100, ti102, ti104, @callV_spec E1 92 sTween rfl, @effV_spec E1 92 sTween rfl, @callV_spec E1 98 sProper rfl, @effV_spec E1 98 sProper rfl, callSpec_pure, specP, pureD, pureD.pureLs, sTween, sProper, encE, w0]
 refine ev_loop (α := Nat × Int × Bool) (fun x => [.undef, .undef, .undef, .ref ([], 99000001) 1 0, .bool false, .bool x.2.2, .int .i64 x.2.1] ++ List.replicate 25 .undef ++ [.sl (e.sizes.map encF) false, .int .i64 e.sizes.length, .int .i64 x.1] ++ List.replicate 25 .undef)
  (fun x H => x.1 ≤ e.sizes.length ∧ isEntryOk goods e = (x.2.2 && fitsOk x.2.1 (e.sizes.drop x.1)) ∧ (x.2.2 = true → 0 ≤ x.2.1 ∧ x.2.1 ≤ 99))
  (fun x => e.sizes.length - x.1) (0, 0, isEntryB goods e) ?_ ⟨Nat.zero_le _, ?_, fun _ => by simp⟩ ?_
 ·simp only [go_sem, fg, isEntryB]
 ·simp [isEntryOk]
 ·intro K x H ⟨hi, hf, hb⟩ hK hE
  obtain ⟨i, last, ok⟩ := x
  simp only at hi hf hb
  simp only [go_sem, E1_ti, ti3, ti4, ti24, ti26, ti100, ti102, ti104, @callV_spec E1 92 sTween rfl, @effV_spec E1 92 sTween rfl, @callV_spec E1 98 sProper rfl, @effV_spec E1 98 sProper rfl, callSpec_pure, specP, pureD, pureD.pureLs, sTween, sProper]
  rw [condK_bool]
  refine ⟨fun hg => ?_, fun h => ?_⟩
  ·have h2 : (i : Int) < (e.sizes.length : Int) := by simpa using hg
   have h3 : i < e.sizes.length := by omega
   have w2 : IntKind.i64.wrap ((i : Int) + 1) = (i : Int) + 1 := wrap_id (by omega)
   simp only [go_sem, E1_ti, ti3, ti4, ti24, ti26, ti100, ti102, ti104, @callV_spec E1 92 sTween rfl, @effV_spec E1 92 sTween rfl, @callV_spec E1 98 sProper rfl, @effV_spec E1 98 sProper rfl, callSpec_pure, specP, pureD, pureD.pureLs, sTween, sProper, encF, getD_map _ _ _ _ hg]
   refine ⟨h2, hK (i + 1, (e.sizes.getD i default).size, ok && fitOk last (e.sizes.getD i default)) _ _ ?_ ⟨h3, ?_, ?_⟩ (by simp only; omega)⟩
   ·cases ok with
    | false => simp only [go_sem, fg, w2, Int.natCast_add, Int.natCast_one]
    | true =>
     have hb := hb rfl
     have w1 : IntKind.i64.wrap (last + 1) = last + 1 := wrap_id (by omega)
     simp only [go_sem, fg, w1, w2, fitOk, Int.natCast_add, Int.natCast_one]
   ·rw [hf, fitsOk_drop h3, Bool.and_assoc]
   ·intro h4
    simp only [fitOk, Bool.and_eq_true, decide_eq_true_eq] at h4 ⊢
    have hb := hb h4.1
    omega
  ·refine hE _ _ _ (by simp) ?_
   simp only [go_sem, E1_ti, ti3, ti4]
   rw [hf]
   have : i = e.sizes.length := by
    have : ¬ ((i : Int) < (e.sizes.length : Int)) := by simpa using h
    omega
   rw [this]
   simp [fitsOk]
end Wb
namespace Wb
open Go Go.Proofs
set_option linter.unusedSimpArgs false
set_option linter.unusedVariables false
set_option maxHeartbeats 4000000
def dL {α : Type} (f : List PV → Option α) : List (List PV) → Option (List α)
 | [] => some []
 | r :: rs => match f r, dL f rs with
  | some a, some bs => some (a :: bs)
  | _, _ => none
theorem dL_map {α : Type} {f : List PV → Option α} {enc : α → List PV} (h : ∀ a, f (enc a) = some a) : ∀ l : List α, dL f (l.map enc) = some l
 | [] => rfl
 | a :: l => by simp [dL, h, dL_map h l]
theorem dL_wk {α : Type} {f : List PV → Option α} {enc : α → List PV} (h : ∀ r a, f r = some a → wk.wkL r (enc a)) : ∀ {rows : List (List PV)} {l : List α}, dL f rows = some l → wk.wkR rows (l.map enc)
 | [], l, e => by simp [dL] at e; subst e; trivial
 | r :: rs, l, e => by
  simp only [dL] at e
  split at e
  ·rename_i a bs e1 e2
   cases e
   exact ⟨h r a e1, dL_wk h e2⟩
  ·cases e
def dZ : List PV → Option Int
 | [.int .i64 n] => some n
 | _ => none
theorem dZ_il (l : List Int) : dL dZ (il l) = some l := dL_map (α := Int) (f := dZ) (enc := fun a => [PV.int .i64 a]) (fun a => rfl) l
theorem dZ_wk {rows : List (List PV)} {l : List Int} (h : dL dZ rows = some l) : wk.wkR rows (il l) := dL_wk (enc := fun a => [PV.int .i64 a]) (fun r a e => by
 unfold dZ at e; split at e <;> cases e; exact wkL_refl _) h
def dF : List PV → Option Fit
 | [.int .i64 a, .int .i64 b, .int .i64 c, .int .i64 d] => some ⟨a, b, c, d⟩
 | _ => none
theorem dF_wk (r : List PV) (f : Fit) (h : dF r = some f) : wk.wkL r (encF f) := by
 unfold dF at h; split at h <;> cases h; exact wkL_refl _
theorem dF_map (l : List Fit) : dL dF (l.map encF) = some l := dL_map (α := Fit) (f := dF) (enc := encF) (fun a => rfl) l
def dE : List PV → Option Entry
 | [.int .i64 a, .int .i64 b, .int .i64 c, .sl rows _] => (dL dF rows).map fun l => ⟨a, b, c, l⟩
 | _ => none
theorem dE_enc (e : Entry) : dE (encE e) = some e := by simp [dE, encE, dF_map]
theorem dE_wk (r : List PV) (e : Entry) (h : dE r = some e) : wk.wkL r (encE e) := by
 unfold dE at h
 split at h
 ·simp only [Option.map_eq_some_iff] at h
  obtain ⟨l, h1, rfl⟩ := h
  exact ⟨rfl, rfl, rfl, ⟨dL_wk dF_wk h1, by simp⟩, trivial⟩
 ·cases h
theorem dE_map (l : List Entry) : dL dE (l.map encE) = some l := dL_map dE_enc l
def dI : List PV → Option Issue
 | [.int .i64 a, .int .i64 b, .int .i64 c, .sl rows _] => (dL dE rows).map fun l => ⟨a, b, c, l⟩
 | _ => none
theorem dI_enc (e : Issue) : dI (encI e) = some e := by simp [dI, encI, dE_map]
theorem dI_wk (r : List PV) (e : Issue) (h : dI r = some e) : wk.wkL r (encI e) := by
 unfold dI at h
 split at h
 ·simp only [Option.map_eq_some_iff] at h
  obtain ⟨l, h1, rfl⟩ := h
  exact ⟨rfl, rfl, rfl, ⟨dL_wk dE_wk h1, by simp⟩, trivial⟩
 ·cases h
theorem dI_map (l : List Issue) : dL dI (l.map encI) = some l := dL_map dI_enc l
def encR (r : Rack) : List PV := [.int .i64 r.goods, .sl (r.issues.map encI) false]
def dR : List PV → Option Rack
 | [.int .i64 g, .sl rows _] => (dL dI rows).map fun l => ⟨g, l⟩
 | _ => none
theorem dR_enc (r : Rack) : dR (encR r) = some r := by simp [dR, encR, dI_map]
theorem dR_wk (l : List PV) (r : Rack) (h : dR l = some r) : wk.wkL l (encR r) := by
 unfold dR at h
 split at h
 ·simp only [Option.map_eq_some_iff] at h
  obtain ⟨l, h1, rfl⟩ := h
  exact ⟨rfl, ⟨dL_wk dI_wk h1, by simp⟩, trivial⟩
 ·cases h
def sOf : Spec := fun args => match args with
 | [.agg cs, .int .i64 n] => (dI cs).map fun x => (x.entries.length < 4611686018427387904, .int .i64 (findI (fun e => e.good == n) x.entries 0))
 | _ => none
theorem s74_ok : SpecOK Tryz.prog glB 198 sOf := specOK_of E0_ok Tryz.func198 (by kernel_rfl) fun args pre r h hp => by
 unfold sOf at h
 split at h
 ·simp only [Option.map_eq_some_iff] at h
  obtain ⟨x, h1, h2⟩ := h
  cases h2
  exact ⟨[.agg (encI x), .int .i64 _], _, ⟨dI_wk _ _ h1, rfl, trivial⟩, rfl, of_fn _ _ hp⟩
 ·cases h
def sPlace : Spec := fun args => match args with
 | [.sl rows ex, .int .i64 n] => (dL dZ rows).map fun l => (l.length < 4611686018427387904, .int .i64 (findI (fun a => a == n) l 0))
 | _ => none
theorem s47_ok : SpecOK Tryz.prog glB 96 sPlace := specOK_of E0_ok Tryz.func96 (by kernel_rfl) fun args pre r h hp => by
 unfold sPlace at h
 split at h
 ·simp only [Option.map_eq_some_iff] at h
  obtain ⟨x, h1, h2⟩ := h
  cases h2
  exact ⟨[.sl (il x) _, .int .i64 _], _, ⟨⟨dZ_wk h1, id⟩, rfl, trivial⟩, rfl, Place_fn _ _ _ hp⟩
 ·cases h
def sEntry : Spec := fun args => match args with
 | [.agg cs] => (dE cs).map fun e => (e.sizes.length < 4611686018427387904, .bool (entryOk e))
 | _ => none
theorem s70_ok : SpecOK Tryz.prog glB 115 sEntry := specOK_of E1_ok Tryz.func115 (by kernel_rfl) fun args pre r h hp => by
 unfold sEntry at h
 split at h
 ·simp only [Option.map_eq_some_iff] at h
  obtain ⟨x, h1, h2⟩ := h
  cases h2
  exact ⟨[.agg (encE x)], _, ⟨dE_wk _ _ h1, trivial⟩, rfl, entry_fn _ hp⟩
 ·cases h
end Wb
namespace Wb
open Go Go.Proofs
set_option linter.unusedSimpArgs false
set_option linter.unusedVariables false
set_option maxRecDepth 20000
set_option maxHeartbeats 4000000
theorem getD_mapN {α : Type} [Inhabited α] (enc : α → List PV) (l : List α) (i : Nat) (z : List PV) (h : i < l.length) : (l.map enc).getD i z = enc (l.getD i default) := by
 simp [List.getD_eq_getElem?_getD, h]
theorem held_fn (g : Int) (l : List Issue) (ex : Bool) (m : PV) (hm : cellP m = true) (i : Nat) (hi : i < l.length) : Fn E1 0 223 Tryz.f223 (Tryz.f223.body.getD .skip) [.agg [.int .i64 g, .sl (l.map encI) ex, m], .int .i64 i] (.agg [.int .i64 (l.getD i default).lo, .int .i64 (l.getD i default).held]) := by
 unfold Fn Tryz.f223
 simp only [go_sem, E1_ti, ti3, ti4, ti22, ti24, ti26, ti85, ti155, getD_mapN _ _ _ _ hi, encI, hm, Int.ofNat_lt, hi]
theorem used_fn (g : Int) (l : List Issue) (ex : Bool) (m : PV) (hm : cellP m = true) (i : Nat) (hi : i < l.length) : Fn E1 0 222 Tryz.f222 (Tryz.f222.body.getD .skip) [.agg [.int .i64 g, .sl (l.map encI) ex, m], .int .i64 i] (.agg [.int .i64 (l.getD i default).lo, .int .i64 (l.getD i default).hi]) := by
 unfold Fn Tryz.f222
 simp only [go_sem, E1_ti, ti3, ti4, ti22, ti24, ti26, ti85, ti155, getD_mapN _ _ _ _ hi, encI, hm, Int.ofNat_lt, hi]
def itemOk (g a b c : Int) : Bool := decide (0 ≤ a) && decide (a ≤ g - 1) && (decide (1 ≤ b) && decide (b ≤ 99)) && (decide (0 ≤ c) && decide (c ≤ 3))
theorem rackItem_fn (g : Int) (rows : List (List PV)) (ex : Bool) (m : PV) (hm : cellP m = true) (a b c : Int) (hg : -9223372036854775807 ≤ g ∧ g ≤ 9223372036854775807) : Fn E1 0 120 Tryz.f120 (Tryz.f120.body.getD .skip) [.agg [.int .i64 g, .sl rows ex, m], .agg [.int .i64 a, .int .i64 b, .int .i64 c]] (.bool (itemOk g a b c)) := by
 have w0 : IntKind.i64.wrap (g - 1) = g - 1 := wrap_id (by omega)
 unfold Fn Tryz.f120
 simp only [go_sem, E1_ti, ti3, ti4, ti22, ti24, ti26, ti77, ti85, ti155, encI, @callV_spec E1 45 sTween rfl, @effV_spec E1 45 sTween rfl, @callV_spec E1 92 sTween rfl, @effV_spec E1 92 sTween rfl, callSpec_pure, specP, pureD, pureD.pureLs, sTween, hm, w0, itemOk]
theorem isItem_fn (g : Int) (rows : List (List PV)) (ex : Bool) (a b c : Int) (hg : -9223372036854775807 ≤ g ∧ g ≤ 9223372036854775807) : Fn E1 0 188 Tryz.f188 (Tryz.f188.body.getD .skip) [.agg [.int .i64 g, .sl rows ex], .agg [.int .i64 a, .int .i64 b, .int .i64 c]] (.bool (itemOk g a b c)) := by
 have w0 : IntKind.i64.wrap (g - 1) = g - 1 := wrap_id (by omega)
 unfold Fn Tryz.f188
 simp only [go_sem, E1_ti, ti3, ti4, ti22, ti24, ti26, ti77, ti85, ti155, encI, @callV_spec E1 45 sTween rfl, @effV_spec E1 45 sTween rfl, @callV_spec E1 92 sTween rfl, @effV_spec E1 92 sTween rfl, callSpec_pure, specP, pureD, pureD.pureLs, sTween, w0, itemOk]
def climbsF (below : Int) : Int → List Int → Bool
 | _, [] => true
 | before, a :: l => decide (before < a) && decide (a < below) && climbsF below a l
theorem climbs_drop {below : Int} {l : List Int} {i : Nat} (h : i < l.length) (before : Int) : climbsF below before (l.drop i) = (decide (before < l.getD i 0) && decide (l.getD i 0 < below) && climbsF below (l.getD i 0) (l.drop (i + 1))) := by
 rw [List.drop_eq_getElem_cons h]
 simp [climbsF, h]
theorem Climbs_fn (l : List Int) (ex : Bool) (n : Int) (hl : l.length < 4611686018427387904) : Fn E0 0 51 Tryz.f51 (Tryz.f51.body.getD .skip) [.sl (il l) ex, .int .i64 n] (.bool (climbsF n (-1) l)) := by
 unfold Fn Tryz.f51
 simp only [go_sem, E0_ti, ti3, ti4, ti47]
 refine ev_loop (α := Nat × Int) (fun x => [.sl (il l) ex, .int .i64 n, .undef, .undef, .bool false, .int .i64 x.2, .int .i64 x.1] ++ List.replicate 24 .undef) (fun x H => x.1 ≤ l.length ∧ climbsF n (-1) l = climbsF n x.2 (l.drop x.1)) (fun x => l.length - x.1) (0, -1) ?_ ⟨Nat.zero_le _, by simp⟩ ?_
 ·simp only [go_sem, fg]
 ·intro K x H ⟨hi, hf⟩ hK hE
  obtain ⟨i, b⟩ := x
  simp only at hi hf
  simp only [go_sem, E0_ti, ti3, ti4, ti47, il_length, il_get]
  rw [condK_bool]
  refine ⟨fun hg => ?_, fun h => ?_⟩
  ·have h2 : (i : Int) < (l.length : Int) := by simpa using hg
   have h3 : i < l.length := by omega
   have w2 : IntKind.i64.wrap ((i : Int) + 1) = (i : Int) + 1 := wrap_id (by omega)
   simp only [go_sem, E0_ti, ti3, ti4, ti47, il_length, il_get]
   refine ⟨h2, fun _ => h2, ?_⟩
   rw [condK_bool]
   refine ⟨fun h4 => ?_, fun h4 => ?_⟩
   ·simp only [go_sem, E0_ti, ti3, ti4, ti47, il_length, il_get]
    refine hE _ _ _ (by simp) ?_
    simp only [go_sem, E0_ti, ti3, ti4]
    rw [hf, climbs_drop h3]
    simp only [Bool.or_eq_true, decide_eq_true_eq] at h4
    rcases h4 with h4 | h4
    ·have : ¬ b < l.getD i 0 := by omega
     simp [this, -List.getD_eq_getElem?_getD]
    ·have : ¬ l.getD i 0 < n := by omega
     simp [this, -List.getD_eq_getElem?_getD]
   ·simp only [go_sem, E0_ti, ti3, ti4, ti47, il_length, il_get]
    refine ⟨h2, hK (i + 1, l.getD i 0) _ _ ?_ ⟨h3, ?_⟩ (by simp only; omega)⟩
    ·simp only [go_sem, fg, w2, Int.natCast_add, Int.natCast_one]
    ·rw [hf, climbs_drop h3]
     simp only [Bool.or_eq_false_iff, decide_eq_false_iff_not] at h4
     have h5 : b < l.getD i 0 := by omega
     have h6 : l.getD i 0 < n := by omega
     simp only [h5, h6, decide_true, Bool.true_and]
  ·refine hE _ _ _ (by simp) ?_
   simp only [go_sem, E0_ti, ti3, ti4]
   have : i = l.length := by
    have : ¬ ((i : Int) < (l.length : Int)) := by simpa using h
    omega
   rw [hf, this]
   simp [climbsF]
def inF (a k : Int) : Bool := bits BinOp.and .i64 (shft false .i64 a k) 1 == 1
theorem In_fn (a k : Int) (hk : 0 ≤ k) : Fn E0 0 87 Tryz.f87 (Tryz.f87.body.getD .skip) [.int .i64 a, .int .i64 k] (.bool (inF a k)) := by
 unfold Fn Tryz.f87
 simp only [go_sem, E0_ti, ti3, ti4, hk, inF]
def sIn : Spec := fun args => match args with | [.int .i64 a, .int .i64 k] => some (0 ≤ k, .bool (inF a k)) | _ => none
theorem s104_ok : SpecOK Tryz.prog glB 87 sIn := specOK_of E0_ok Tryz.func87 (by kernel_rfl) fun args pre r h hp => by
 unfold sIn at h; split at h <;> cases h; exact ⟨_, _, wkL_refl _, rfl, In_fn _ _ hp⟩
theorem Lot_fn (a b n : Int) (ha : 0 ≤ a ∧ a ≤ 1000000000) (hb : 0 ≤ b ∧ b ≤ 1000000000) : Fn E1 0 16 Tryz.f16 (Tryz.f16.body.getD .skip) [.agg [.int .i64 a, .int .i64 b], .int .i64 n] (.int .i64 (if b ≤ a then a else a + spinF n (b - a + 1))) := by
 unfold Fn Tryz.f16
 simp only [go_sem, E1_ti, ti3, ti4, ti26]
 rw [condK_bool]
 refine ⟨fun h => ?_, fun h => ?_⟩
 ·simp only [go_sem, E1_ti, ti3, ti4, ti26]
  have : b ≤ a := by simpa using h
  rw [if_pos this]
 ·have hba : ¬ b ≤ a := by simpa using h
  have w1 : IntKind.i64.wrap (b - a) = b - a := wrap_id (by omega)
  have w2 : IntKind.i64.wrap (b - a + 1) = b - a + 1 := wrap_id (by omega)
  have c : decide (b - a + 1 < 1) = false := by simp; omega
  simp only [go_sem, E1_ti, ti3, ti4, ti26, w1, w2, c, @stepV_spec E1 49 sSpin rfl, @effV_spec E1 49 sSpin rfl, callSpec_pure, specP, pureD, pureD.pureLs, sSpin]
  have hs : 0 ≤ spinF n (b - a + 1) ∧ spinF n (b - a + 1) ≤ b - a := by
   unfold spinF
   rw [if_neg (by omega)]
   have h0 := Int.emod_nonneg n (show b - a + 1 ≠ 0 by omega)
   have h1 := Int.emod_lt_of_pos n (show 0 < b - a + 1 by omega)
   omega
  refine ⟨by omega, ?_⟩
  rw [wrap_id (by omega), if_neg hba]
end Wb
namespace Wb
open Go Go.Proofs
def entriesOk (goods : Int) : List Int → List Int → List Entry → Bool
 | _, _, [] => true
 | ns, gs, e :: es => entryOk e && (decide (0 ≤ e.good) && decide (e.good ≤ goods - 1)) && decide (findI (fun a => a == e.number) ns 0 < 0) && decide (findI (fun a => a == e.good) gs 0 < 0) && entriesOk goods (ns ++ [e.number]) (gs ++ [e.good]) es
def issueOk (goods : Int) (x : Issue) : Bool :=
 (decide (0 ≤ x.lo) && decide (x.lo ≤ x.hi) && decide (x.hi ≤ 20000)) && (decide (x.lo ≤ x.held) && decide (x.held ≤ 20000)) && decide ((x.entries.length : Int) ≤ 24) && entriesOk goods [] [] x.entries
def rackOk (r : Rack) : Bool :=
 (decide (1 ≤ r.goods) && decide (r.goods ≤ 24)) && (decide (1 ≤ (r.issues.length : Int)) && decide ((r.issues.length : Int) ≤ 4)) && r.issues.all (issueOk r.goods)
end Wb
namespace Wb
open Go Go.Proofs
set_option linter.unusedVariables false
structure Item where
 good : Int
 size : Int
 colour : Int
 deriving Inhabited, DecidableEq
structure Line where
 item : Item
 many : Int
 deriving Inhabited, DecidableEq
def encT (x : Item) : List PV := [.int .i64 x.good, .int .i64 x.size, .int .i64 x.colour]
def encL (x : Line) : List PV := [.int .i64 x.item.good, .int .i64 x.item.size, .int .i64 x.item.colour, .int .i64 x.many]
def encS (x : Int × Int) : List PV := [.int .i64 x.1, .int .i64 x.2]
def okFit (f : Fit) : Prop := okInt f.size ∧ okInt f.lo ∧ okInt f.hi ∧ okInt f.price
def okEntry (e : Entry) : Prop := okInt e.number ∧ okInt e.good ∧ okInt e.colours ∧ e.sizes.length ≤ 17592186044416 ∧ ∀ f ∈ e.sizes, okFit f
def okIssue (x : Issue) : Prop := okInt x.lo ∧ okInt x.hi ∧ okInt x.held ∧ x.entries.length ≤ 17592186044416 ∧ ∀ f ∈ x.entries, okEntry f
def okRack (x : Rack) : Prop := okInt x.goods ∧ x.issues.length ≤ 17592186044416 ∧ ∀ f ∈ x.issues, okIssue f
end Wb
namespace Wb
open Go Go.Proofs Enc Row
set_option linter.unusedSimpArgs false
set_option linter.unusedVariables false
set_option maxHeartbeats 4000000
instance : Row Fit where
 row := encF
 drow := dF
 wk_drow := dF_wk
 drow_row _ := rfl
instance : Row Entry where
 row := encE
 drow := dE
 wk_drow := dE_wk
 drow_row := dE_enc
instance : Row Issue where
 row := encI
 drow := dI
 wk_drow := dI_wk
 drow_row := dI_enc
def dT : List PV → Option Item
 | [.int .i64 a, .int .i64 b, .int .i64 c] => some ⟨a, b, c⟩
 | _ => none
instance : Row Item where
 row := encT
 drow := dT
 wk_drow r a h := by unfold dT at h; split at h <;> cases h; exact wkL_refl _
 drow_row _ := rfl
def dLn : List PV → Option Line
 | [.int .i64 a, .int .i64 b, .int .i64 c, .int .i64 d] => some ⟨⟨a, b, c⟩, d⟩
 | _ => none
instance : Row Line where
 row := encL
 drow := dLn
 wk_drow r a h := by unfold dLn at h; split at h <;> cases h; exact wkL_refl _
 drow_row _ := rfl
def dSp : List PV → Option (Int × Int)
 | [.int .i64 a, .int .i64 b] => some (a, b)
 | _ => none
instance : Row (Int × Int) where
 row := encS
 drow := dSp
 wk_drow r a h := by unfold dSp at h; split at h <;> cases h; exact wkL_refl _
 drow_row _ := rfl
def dAgg {α : Type} [Row α] : PV → Option α
 | .agg r => drow r
 | _ => none
abbrev encOfRow (α : Type) [Row α] : Enc α where
 enc a := .agg (row a)
 dec := dAgg
 wk_dec p a h := by
  unfold dAgg at h
  split at h
  ·exact Row.wk_drow _ _ h
  ·cases h
 dec_enc a := Row.drow_row a
instance : Enc Fit := encOfRow Fit
instance : Enc Entry := encOfRow Entry
instance : Enc Issue := encOfRow Issue
instance : Enc Item := encOfRow Item
instance : Enc Line := encOfRow Line
instance : Enc (Int × Int) := encOfRow (Int × Int)
def dRk : PV → Option Rack
 | .agg r => dR r
 | _ => none
instance : Enc Rack where
 enc r := .agg (encR r)
 dec := dRk
 wk_dec p a h := by
  unfold dRk at h
  split at h
  ·exact dR_wk _ _ h
  ·cases h
 dec_enc a := dR_enc a
structure Calc where
 r : Rack
 es : List (List Int × PV)
def encC (x : Calc) : List PV := [.int .i64 x.r.goods, .sl (x.r.issues.map encI) false, .mp true 2 x.es]
def dC : PV → Option Calc
 | .agg [.int .i64 g, .sl rs _, .mp true 2 es] => (dL dI rs).map fun l => ⟨⟨g, l⟩, es⟩
 | _ => none
instance : Enc Calc where
 enc x := .agg (encC x)
 dec := dC
 wk_dec p a h := by
  unfold dC at h
  split at h
  ·simp only [Option.map_eq_some_iff] at h
   obtain ⟨l, h1, rfl⟩ := h
   exact ⟨rfl, ⟨dL_wk dI_wk h1, fun h => by cases h⟩, wk_refl _, trivial⟩
  ·cases h
 dec_enc x := by simp [dC, encC, dI_map]
structure Rf (α : Type) where
 v : α
def dRf {α : Type} [Row α] : PV → Option (Rf α)
 | .eref r 0 => (drow r).map Rf.mk
 | _ => none
instance {α : Type} [Row α] : Enc (Rf α) where
 enc x := .eref (row x.v) 0
 dec := dRf
 wk_dec p a h := by
  unfold dRf at h
  split at h
  ·simp only [Option.map_eq_some_iff] at h
   obtain ⟨l, h1, rfl⟩ := h
   exact ⟨Row.wk_drow _ _ h1, rfl⟩
  ·cases h
 dec_enc x := by simp [dRf, Row.drow_row]
def dRl {α : Type} [Row α] : List PV → Option (List α)
 | [.sl rs _] => drows rs
 | _ => none
instance {α : Type} [Row α] : Row (List α) where
 row l := [.sl (rows l) false]
 drow := dRl
 wk_drow r a h := by
  unfold dRl at h
  split at h
  ·exact ⟨⟨wk_drows _ _ h, fun h => by cases h⟩, trivial⟩
  ·cases h
 drow_row l := drows_rows l
theorem dec_il (l : List Int) (ex : Bool) : (dec (.sl (il l) ex) : Option (List Int)) = some l := drows_rows l
theorem dec_span (a b : Int) : (dec (.agg [.int .i64 a, .int .i64 b]) : Option (Int × Int)) = some (a, b) := rfl
theorem dec_fit (f : Fit) : (dec (.agg (encF f)) : Option Fit) = some f := rfl
theorem dec_entry (f : Entry) : (dec (.agg (encE f)) : Option Entry) = some f := dE_enc f
theorem dec_issue (f : Issue) : (dec (.agg (encI f)) : Option Issue) = some f := dI_enc f
theorem dec_rack (f : Rack) : (dec (.agg (encR f)) : Option Rack) = some f := dR_enc f
theorem dec_item (a b c : Int) : (dec (.agg [.int .i64 a, .int .i64 b, .int .i64 c]) : Option Item) = some ⟨a, b, c⟩ := rfl
theorem dec_calc (g : Int) (l : List Issue) (ex : Bool) (es : List (List Int × PV)) : (dec (.agg [.int .i64 g, .sl (l.map encI) ex, .mp true 2 es]) : Option Calc) = some ⟨⟨g, l⟩, es⟩ := by
 show dC _ = _
 simp [dC, dI_map]
theorem dec_fits (l : List Fit) (ex : Bool) : (dec (.sl (l.map encF) ex) : Option (List Fit)) = some l := drows_rows l
theorem dec_entries (l : List Entry) (ex : Bool) : (dec (.sl (l.map encE) ex) : Option (List Entry)) = some l := drows_rows l
theorem dec_issues (l : List Issue) (ex : Bool) : (dec (.sl (l.map encI) ex) : Option (List Issue)) = some l := drows_rows l
theorem dec_rint (a : Int) : (dec (.eref [.int .i64 a] 0) : Option (Rf Int)) = some ⟨a⟩ := rfl
theorem dec_rspan (a b : Int) : (dec (.eref [.int .i64 a, .int .i64 b] 0) : Option (Rf (Int × Int))) = some ⟨(a, b)⟩ := rfl
theorem dec_ritem (a b c : Int) : (dec (.eref [.int .i64 a, .int .i64 b, .int .i64 c] 0) : Option (Rf Item)) = some ⟨⟨a, b, c⟩⟩ := rfl
theorem dec_rlines (l : List Line) (ex : Bool) : (dec (.eref [.sl (l.map encL) ex] 0) : Option (Rf (List Line))) = some ⟨l⟩ := by
 show (dRl [.sl (rows l) ex]).map Rf.mk = _
 simp [dRl, drows_rows]
theorem dec_entry' (a b c : Int) (l : List Fit) (ex : Bool) : (dec (.agg [.int .i64 a, .int .i64 b, .int .i64 c, .sl (l.map encF) ex]) : Option Entry) = some ⟨a, b, c, l⟩ := by
 show dE [.int .i64 a, .int .i64 b, .int .i64 c, .sl (l.map encF) ex] = _
 simp [dE, dF_map]
theorem dec_rack' (g : Int) (l : List Issue) (ex : Bool) : (dec (.agg [.int .i64 g, .sl (l.map encI) ex]) : Option Rack) = some ⟨g, l⟩ := by
 show dRk _ = _
 simp [dRk, dR, dI_map]
theorem dec_issue' (a b c : Int) (l : List Entry) (ex : Bool) : (dec (.agg [.int .i64 a, .int .i64 b, .int .i64 c, .sl (l.map encE) ex]) : Option Issue) = some ⟨a, b, c, l⟩ := by
 show dI [.int .i64 a, .int .i64 b, .int .i64 c, .sl (l.map encE) ex] = _
 simp [dI, dE_map]
theorem dec_fit' (a b c d : Int) : (dec (.agg [.int .i64 a, .int .i64 b, .int .i64 c, .int .i64 d]) : Option Fit) = some ⟨a, b, c, d⟩ := rfl
theorem dE_ex (a b c : Int) (l : List Fit) (ex : Bool) : dE [.int .i64 a, .int .i64 b, .int .i64 c, .sl (l.map encF) ex] = some ⟨a, b, c, l⟩ := by simp [dE, dF_map]
theorem dI_ex (a b c : Int) (l : List Entry) (ex : Bool) : dI [.int .i64 a, .int .i64 b, .int .i64 c, .sl (l.map encE) ex] = some ⟨a, b, c, l⟩ := by simp [dI, dE_map]
def big (n : Nat) : Prop := n < 4611686018427387904
def s45 : Spec := spec2 (fun (a : Int × Int) (n : Int) => (0 ≤ a.1 ∧ a.1 ≤ 1000000000) ∧ (0 ≤ a.2 ∧ a.2 ≤ 1000000000)) (fun a n => .int .i64 (if a.2 ≤ a.1 then a.1 else a.1 + spinF n (a.2 - a.1 + 1)))
theorem s45_ok : SpecOK Tryz.prog glB 16 s45 := spec2_ok E1_ok Tryz.func16 rfl (by kernel_rfl) fun a n h => Lot_fn a.1 a.2 n h.1 h.2
def s46 : Spec := spec2 (fun (l : List Int) (n : Int) => big l.length) (fun l n => .bool (climbsF n (-1) l))
theorem s46_ok : SpecOK Tryz.prog glB 51 s46 := spec2_ok E0_ok Tryz.func51 rfl (by kernel_rfl) fun l n h => Climbs_fn l false n h
def s152 : Spec := spec2 (fun (x : Calc) (n : Int) => 0 ≤ n ∧ n < x.r.issues.length) (fun x n => .agg [.int .i64 (x.r.issues.getD n.toNat default).lo, .int .i64 (x.r.issues.getD n.toNat default).hi])
theorem s152_ok : SpecOK Tryz.prog glB 222 s152 := spec2_ok E1_ok Tryz.func222 rfl (by kernel_rfl) fun x n h => by
 obtain ⟨h2, h3⟩ := h
 obtain ⟨k, rfl⟩ := Int.eq_ofNat_of_zero_le h2
 exact used_fn _ _ false (.mp true 2 x.es) rfl k (by omega)
def s153 : Spec := spec2 (fun (x : Calc) (n : Int) => 0 ≤ n ∧ n < x.r.issues.length) (fun x n => .agg [.int .i64 (x.r.issues.getD n.toNat default).lo, .int .i64 (x.r.issues.getD n.toNat default).held])
theorem s153_ok : SpecOK Tryz.prog glB 223 s153 := spec2_ok E1_ok Tryz.func223 rfl (by kernel_rfl) fun x n h => by
 obtain ⟨h2, h3⟩ := h
 obtain ⟨k, rfl⟩ := Int.eq_ofNat_of_zero_le h2
 exact held_fn _ _ false (.mp true 2 x.es) rfl k (by omega)
def s81 : Spec := spec2 (fun (x : Calc) (t : Item) => (-9223372036854775807 ≤ x.r.goods ∧ x.r.goods ≤ 9223372036854775807)) (fun x t => .bool (itemOk x.r.goods t.good t.size t.colour))
theorem s81_ok : SpecOK Tryz.prog glB 120 s81 := spec2_ok E1_ok Tryz.func120 rfl (by kernel_rfl) fun x t h => rackItem_fn x.r.goods _ false (.mp true 2 x.es) rfl _ _ _ h
def s83 : Spec := spec2 (fun (x : Rack) (t : Item) => (-9223372036854775807 ≤ x.goods ∧ x.goods ≤ 9223372036854775807)) (fun x t => .bool (itemOk x.goods t.good t.size t.colour))
theorem s83_ok : SpecOK Tryz.prog glB 188 s83 := spec2_ok E1_ok Tryz.func188 rfl (by kernel_rfl) fun x t h => isItem_fn x.goods _ false _ _ _ h
def E2t : List (Nat × Spec) := [(161, sisDayR), (43, sHas), (159, sCommon), (198, sOf), (96, sPlace), (115, sEntry), (87, sIn), (16, s45), (51, s46), (222, s152), (223, s153), (120, s81), (188, s83)] ++ E1t
theorem E2t_ok : AllOK E2t := ⟨⟨s77_ok, Tryz.call161⟩, ⟨s52_ok, Tryz.call43⟩, ⟨s64_ok, Tryz.call159⟩, ⟨s74_ok, Tryz.call198⟩, ⟨s47_ok, Tryz.call96⟩, ⟨s70_ok, Tryz.call115⟩, ⟨s104_ok, Tryz.call87⟩, ⟨s45_ok, Tryz.call16⟩, ⟨s46_ok, Tryz.call51⟩, ⟨s152_ok, Tryz.call222⟩, ⟨s153_ok, Tryz.call223⟩, ⟨s81_ok, Tryz.call120⟩, ⟨s83_ok, Tryz.call188⟩, E1t_ok⟩
def E2 : Env := mkE E2t []
theorem E2_ok : EnvOK Tryz.prog E2 := envOK E2t_ok trivial
theorem E2_ti {t : Nat} : E2.ti t = ti t := rfl
theorem E2_e {t : Nat} : E2.eqt t = eqB t := rfl
theorem E2_k {t : Nat} : E2.keyt t = keyB t := rfl
theorem E2_g {t : Nat} : E2.glob t = glB t := rfl
attribute [go_sem] E2_ti E2_e E2_k E2_g
attribute [go_sem] dI_enc dE_enc dR_enc dF_map dE_map dI_map dZ_il dec_il dec_span dec_fit dec_entry dec_issue dec_rack dec_item dec_calc dec_fits dec_entries dec_issues dec_rint dec_rspan dec_ritem dec_rlines dec_rack' dec_entry' dec_issue' dec_fit' dE_ex dI_ex
end Wb
