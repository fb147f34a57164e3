import Derived.Test.YticjjabioiilfaaGreatDoorQ
import Derived.Test.YticjjabioiilfaaGreatDoorC
import Derived.Test.YticjjabioiilfaaGreatDoorRows
import Derived.Test.YticjjabioiilfaaGreatDoorTie
import Derived.Test.YticjjabioiilfaaGreatDoorCards
import Derived.ProofKit
import Derived.LaidMore
import Derived.Stop.Joined
set_option linter.unusedVariables false
set_option linter.unusedSimpArgs false
namespace Wb
open Go Go.Proofs Go.ChangeShapes Go.WideShapes Go.ChangeAt Go.RowKit Go.Proofs.YticjjabioiilfaaGreatDoor
theorem own : ownKnob Tryz.prog.godebug = none := by kernel_rfl
theorem laidOut : laidOutB Tryz.prog = true := by kernel_rfl
abbrev laidK : List (String × DataW Unit) := [("wishbook/book.kinds", Rows.laid_wishbook_book_kinds), ("wishbook/letter.fields", Rows.laid_wishbook_letter_fields)]
theorem door_met (os : Os) (args : Array Value) : laidMetH Tryz.prog laidK ((World.doorLaid Tryz.prog 400 os).forCall (fun _ _ => 0) ⟨#[], args, []⟩).memory :=
 laidMetH_of_parts3 (fuel := 8) (laidMet_of_run' 8 (by kernel_rfl) (by kernel_rfl)) (by kernel_rfl) (by kernel_rfl)
theorem g_kinds : Tryz.prog.globalNamed "wishbook/book.kinds" = some 1 := by kernel_rfl
theorem t_kinds : (Tryz.prog.globals[1]?).map (·.type) = some 239 := by kernel_rfl
theorem glob_kinds {W : World} (h : laidMetH Tryz.prog laidK W) {cs : List PV} (hg0 : glB 1 = some cs) : 1 < W.heap.size ∧ ∃ arr T fr, W.heap[1]? = some (.cells arr T fr) ∧ RepL W (fun _ => False) Ctx.nil cs arr := by
 obtain ⟨g, t, cs', fuel, p, hg, ht, hv, hd⟩ := h.funcs (List.mem_cons_self ..)
 obtain rfl := Option.some.inj (g_kinds.symm.trans hg)
 obtain rfl := Option.some.inj (t_kinds.symm.trans ht)
 have hd' : DataW.trod (funcToken Tryz.prog) Tryz.prog W 0 (fun _ => true) true fuel 239 cs'.toList = some (.agg [.held [40, 119, 105, 115, 104, 98, 111, 111, 107, 47, 98, 111, 111, 107, 46, 114, 97, 99, 107, 41, 46, 117, 115, 101, 100], .held [40, 119, 105, 115, 104, 98, 111, 111, 107, 47, 98, 111, 111, 107, 46, 114, 97, 99, 107, 41, 46, 104, 101, 108, 100]], p) := hd
 obtain ⟨xs, m, _, hx, hlen, hn, hel⟩ := DataW.trod_array Tryz.underlying239 hd'
 have c1 : Tryz.prog.cellsOf 239 = 2 := by kernel_rfl
 have c2 : Tryz.prog.cellsOf 238 = 1 := by kernel_rfl
 rw [c1] at hlen
 rw [c2] at hel
 obtain ⟨l⟩ := cs'
 match l, hlen, xs, hn with
 | [a, b], _, [x, y], _ =>
  simp only [Prod.mk.injEq, DataW.agg.injEq, List.map_cons, List.map_nil, List.cons.injEq, and_true] at hx
  obtain ⟨⟨hx0, hx1⟩, _⟩ := hx
  have e0 := hel 0 (by decide)
  have e1 := hel 1 (by decide)
  obtain ⟨x1, x2⟩ := x
  obtain ⟨y1, y2⟩ := y
  simp at hx0 hx1
  subst hx0; subst hx1
  obtain rfl := func_of_trod (f0 := 222) Tryz.underlying238 (by kernel_rfl) (show DataW.trod _ _ _ _ _ _ _ _ [a] = _ from e0)
  obtain rfl := func_of_trod (f0 := 223) Tryz.underlying238 (by kernel_rfl) (show DataW.trod _ _ _ _ _ _ _ _ [b] = _ from e1)
  cases hg0
  simp only [World.var?, g_kinds, Option.bind_some] at hv
  split at hv
  ·rename_i c T fr hc
   cases hv
   refine ⟨Array.getElem?_eq_some_iff.1 hc |>.1, _, _, _, hc, RepS.l (xs := [_, _]) ⟨?_, ?_, trivial⟩⟩
   ·exact .fn rfl rfl (fun j p x a b => by simp at a) (fun j p x a b => by simp at a)
   ·exact .fn rfl rfl (fun j p x a b => by simp at a) (fun j p x a b => by simp at a)
  ·cases hv
theorem g_fields : Tryz.prog.globalNamed "wishbook/letter.fields" = some 0 := by kernel_rfl
theorem t_fields : (Tryz.prog.globals[0]?).map (·.type) = some 131 := by kernel_rfl
theorem glob_fields {W : World} (h : laidMetH Tryz.prog laidK W) {cs : List PV} (hg0 : glB 0 = some cs) : 0 < W.heap.size ∧ ∃ arr T fr, W.heap[0]? = some (.cells arr T fr) ∧ RepL W (fun _ => False) Ctx.nil cs arr := by
 obtain ⟨g, t, cs', fuel, p, hg, ht, hv, hd⟩ := h.funcs (List.mem_cons_of_mem _ (List.mem_singleton.2 rfl))
 obtain rfl := Option.some.inj (g_fields.symm.trans hg)
 obtain rfl := Option.some.inj (t_fields.symm.trans ht)
 have hd' : DataW.trod (funcToken Tryz.prog) Tryz.prog W 0 (fun _ => true) true fuel 131 cs'.toList = some (.agg [.held [40, 119, 105, 115, 104, 98, 111, 111, 107, 47, 108, 101, 116, 116, 101, 114, 46, 111, 114, 100, 101, 114, 41, 46, 103, 111, 111, 100], .held [40, 119, 105, 115, 104, 98, 111, 111, 107, 47, 108, 101, 116, 116, 101, 114, 46, 111, 114, 100, 101, 114, 41, 46, 115, 105, 122, 101], .held [40, 119, 105, 115, 104, 98, 111, 111, 107, 47, 108, 101, 116, 116, 101, 114, 46, 111, 114, 100, 101, 114, 41, 46, 99, 111, 108, 111, 117, 114], .held [40, 119, 105, 115, 104, 98, 111, 111, 107, 47, 108, 101, 116, 116, 101, 114, 46, 111, 114, 100, 101, 114, 41, 46, 109, 97, 110, 121]], p) := hd
 obtain ⟨xs, m, _, hx, hlen, hn, hel⟩ := DataW.trod_array Tryz.underlying131 hd'
 have c1 : Tryz.prog.cellsOf 131 = 4 := by kernel_rfl
 have c2 : Tryz.prog.cellsOf 130 = 1 := by kernel_rfl
 rw [c1] at hlen
 rw [c2] at hel
 obtain ⟨l⟩ := cs'
 match l, hlen, xs, hn with
 | [a, b, c, d], _, [x, y, z, u], _ =>
  simp only [Prod.mk.injEq, DataW.agg.injEq, List.map_cons, List.map_nil, List.cons.injEq, and_true] at hx
  obtain ⟨⟨hx0, hx1, hx2, hx3⟩, _⟩ := hx
  have e0 := hel 0 (by decide)
  have e1 := hel 1 (by decide)
  have e2 := hel 2 (by decide)
  have e3 := hel 3 (by decide)
  obtain ⟨x1, x2⟩ := x
  obtain ⟨y1, y2⟩ := y
  obtain ⟨z1, z2⟩ := z
  obtain ⟨u1, u2⟩ := u
  simp at hx0 hx1 hx2 hx3
  subst hx0; subst hx1; subst hx2; subst hx3
  obtain rfl := func_of_trod (f0 := 219) Tryz.underlying130 (by kernel_rfl) (show DataW.trod _ _ _ _ _ _ _ _ [a] = _ from e0)
  obtain rfl := func_of_trod (f0 := 220) Tryz.underlying130 (by kernel_rfl) (show DataW.trod _ _ _ _ _ _ _ _ [b] = _ from e1)
  obtain rfl := func_of_trod (f0 := 216) Tryz.underlying130 (by kernel_rfl) (show DataW.trod _ _ _ _ _ _ _ _ [c] = _ from e2)
  obtain rfl := func_of_trod (f0 := 221) Tryz.underlying130 (by kernel_rfl) (show DataW.trod _ _ _ _ _ _ _ _ [d] = _ from e3)
  cases hg0
  simp only [World.var?, g_fields, Option.bind_some] at hv
  split at hv
  ·rename_i c T fr hc
   cases hv
   refine ⟨Array.getElem?_eq_some_iff.1 hc |>.1, _, _, _, hc, RepS.l (xs := [_, _, _, _]) ⟨?_, ?_, ?_, ?_, trivial⟩⟩
   ·exact .fn rfl rfl (fun j p x a b => by simp at a) (fun j p x a b => by simp at a)
   ·exact .fn rfl rfl (fun j p x a b => by simp at a) (fun j p x a b => by simp at a)
   ·exact .fn rfl rfl (fun j p x a b => by simp at a) (fun j p x a b => by simp at a)
   ·exact .fn rfl rfl (fun j p x a b => by simp at a) (fun j p x a b => by simp at a)
  ·cases hv
theorem globOK {W : World} (h : laidMetH Tryz.prog laidK W) : GlobOK glB W := by
 intro g cs hg
 match g, hg with
 | 0, hg => exact glob_fields h hg
 | 1, hg => exact glob_kinds h hg
 | n + 2, hg => cases hg
end Wb
