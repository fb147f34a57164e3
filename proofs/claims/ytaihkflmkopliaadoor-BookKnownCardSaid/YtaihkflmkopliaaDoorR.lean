import Derived.Test.YtaihkflmkopliaaDoorC
import Derived.Test.YtaihkflmkopliaaDoorRows
import Derived.Test.YtaihkflmkopliaaDoorTie
import Derived.Test.YtaihkflmkopliaaDoorCards
import Derived.ProofKit
import Derived.LaidMore
import Derived.Stop.Joined
set_option linter.unusedVariables false
set_option linter.unusedSimpArgs false
/- The rows of the seat: out of a contract of the law's function. -/
namespace Wb
open Go Go.Proofs Go.ChangeShapes Go.WideShapes Go.ChangeAt Go.RowKit Go.Proofs.YtaihkflmkopliaaDoor
theorem own : ownKnob Tryd.prog.godebug = none := by kernel_rfl
theorem laidOut : laidOutB Tryd.prog = true := by kernel_rfl
theorem gKinds : Tryd.prog.globalNamed "wishbook/book.kinds" = some 0 := by kernel_rfl
theorem tKinds : (Tryd.prog.globals[0]?).map (·.type) = some 145 := by kernel_rfl
abbrev laidK : List (String × DataW Unit) := [("wishbook/book.kinds", Rows.laid_wishbook_book_kinds)]
theorem door_met (os : Os) (args : Array Value) : laidMetH Tryd.prog laidK ((World.doorLaid Tryd.prog 400 os).forCall (fun _ _ => 0) ⟨#[], args, []⟩).memory :=
  laidMetH_of_parts3 (fuel := 8) (laidMet_of_run' 8 (by kernel_rfl) (by kernel_rfl)) (by kernel_rfl) (by kernel_rfl)
theorem globOK {W : World} (h : laidMetH Tryd.prog laidK W) : GlobOK glB W := by
  obtain ⟨g, t, cs, fuel, p, hg, ht, hv, hd⟩ := h.funcs (List.mem_singleton.2 rfl)
  obtain rfl := Option.some.inj (gKinds.symm.trans hg)
  obtain rfl := Option.some.inj (tKinds.symm.trans ht)
  have hd' : DataW.trod (funcToken Tryd.prog) Tryd.prog W 0 (fun _ => true) true fuel 145 cs.toList = some (.agg [.held [40, 119, 105, 115, 104, 98, 111, 111, 107, 47, 98, 111, 111, 107, 46, 114, 97, 99, 107, 41, 46, 117, 115, 101, 100], .held [40, 119, 105, 115, 104, 98, 111, 111, 107, 47, 98, 111, 111, 107, 46, 114, 97, 99, 107, 41, 46, 104, 101, 108, 100]], p) := hd
  obtain ⟨xs, m, _, hx, hlen, hn, hel⟩ := DataW.trod_array Tryd.underlying145 hd'
  have c145 : Tryd.prog.cellsOf 145 = 2 := by kernel_rfl
  have c144 : Tryd.prog.cellsOf 144 = 1 := by kernel_rfl
  rw [c145] at hlen
  rw [c144] at hel
  obtain ⟨l⟩ := cs
  match l, hlen, xs, hn with
  | [a, b], _, [x, y], _ =>
    simp only [Prod.mk.injEq, DataW.agg.injEq, List.map_cons, List.map_nil, List.cons.injEq, and_true] at hx
    obtain ⟨⟨hx1, hx2⟩, _⟩ := hx
    have e0 := hel 0 (by decide)
    have e1 := hel 1 (by decide)
    obtain ⟨x1, x2⟩ := x
    obtain ⟨y1, y2⟩ := y
    simp at hx1 hx2
    subst hx1; subst hx2
    obtain rfl := func_of_trod (f0 := 152) Tryd.underlying144 (by kernel_rfl) (show DataW.trod _ _ _ _ _ _ _ _ [a] = _ from e0)
    obtain rfl := func_of_trod (f0 := 153) Tryd.underlying144 (by kernel_rfl) (show DataW.trod _ _ _ _ _ _ _ _ [b] = _ from e1)
    intro g cs hg
    unfold glB at hg
    split at hg
    · rename_i h0
      subst h0
      cases hg
      simp only [World.var?, gKinds, Option.bind_some] at hv
      split at hv
      · rename_i c T fr hc
        cases hv
        refine ⟨Array.getElem?_eq_some_iff.1 hc |>.1, _, _, _, hc, RepS.l (xs := [_, _]) ⟨?_, ?_, trivial⟩⟩
        · exact .fn rfl rfl (fun j p x a b => by simp at a) (fun j p x a b => by simp at a)
        · exact .fn rfl rfl (fun j p x a b => by simp at a) (fun j p x a b => by simp at a)
      · cases hv
    · cases hg
end Wb
