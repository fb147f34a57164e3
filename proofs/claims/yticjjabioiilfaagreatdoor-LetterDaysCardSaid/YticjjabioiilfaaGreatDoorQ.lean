import Derived.Test.YticjjabioiilfaaGreatDoorO
import Derived.Test.YticjjabioiilfaaGreatDoorH
set_option linter.unusedVariables false
set_option linter.unusedSimpArgs false
namespace Wb
open Go Go.Proofs
set_option linter.unusedVariables false
def okSp (x : Int × Int) : Prop := okInt x.1 ∧ okInt x.2
def okItem (x : Item) : Prop := okInt x.good ∧ okInt x.size ∧ okInt x.colour
def okLine (x : Line) : Prop := okItem x.item ∧ okInt x.many
theorem pI : Opens Tryz.prog 3 Int (fun n => [.int .i64 n]) okInt := opens_int Tryz.underlying3
theorem pS : Opens Tryz.prog 26 (Int × Int) encS okSp :=
 opens_map (opens_struct Tryz.underlying26 (opF 1 pI rfl rfl (by kernel_rfl) (opF 2 pI rfl rfl (by kernel_rfl) (opF0 (by kernel_rfl))))) (fun x => (x.1, x.2.1)) (fun _ => rfl) (fun a h => ⟨h.1, h.2.1⟩)
theorem pFit : Opens Tryz.prog 104 Fit encF okFit :=
 opens_map (opens_struct Tryz.underlying104 (opF 1 pI rfl rfl (by kernel_rfl) (opF 3 pS rfl rfl (by kernel_rfl) (opF 4 pI rfl rfl (by kernel_rfl) (opF0 (by kernel_rfl)))))) (fun x => (⟨x.1, x.2.1.1, x.2.1.2, x.2.2.1⟩ : Fit)) (fun _ => rfl) (fun a h => ⟨h.1, h.2.1.1, h.2.1.2, h.2.2.1⟩)
theorem pFits : Opens Tryz.prog 100 (List Fit) (fun l => [.sl (l.map encF) false]) (fun l => l.length ≤ 17592186044416 ∧ ∀ a ∈ l, okFit a) :=
 opens_slice Tryz.underlying100 (of_decide_eq_true (by kernel_rfl)) (of_decide_eq_true (by kernel_rfl)) (fun _ => by kernel_rfl) pFit
theorem pEntry : Opens Tryz.prog 102 Entry encE okEntry :=
 opens_map (opens_struct Tryz.underlying102 (opF 1 pI rfl rfl (by kernel_rfl) (opF 2 pI rfl rfl (by kernel_rfl) (opF 3 pI rfl rfl (by kernel_rfl) (opF 4 pFits rfl rfl (by kernel_rfl) (opF0 (by kernel_rfl))))))) (fun x => (⟨x.1, x.2.1, x.2.2.1, x.2.2.2.1⟩ : Entry)) (fun _ => rfl) (fun a h => ⟨h.1, h.2.1, h.2.2.1, h.2.2.2.1.1, h.2.2.2.1.2⟩)
theorem pEntries : Opens Tryz.prog 83 (List Entry) (fun l => [.sl (l.map encE) false]) (fun l => l.length ≤ 17592186044416 ∧ ∀ a ∈ l, okEntry a) :=
 opens_slice Tryz.underlying83 (of_decide_eq_true (by kernel_rfl)) (of_decide_eq_true (by kernel_rfl)) (fun _ => by kernel_rfl) pEntry
theorem pIssue : Opens Tryz.prog 85 Issue encI okIssue :=
 opens_map (opens_struct Tryz.underlying85 (opF 2 pS rfl rfl (by kernel_rfl) (opF 3 pI rfl rfl (by kernel_rfl) (opF 4 pEntries rfl rfl (by kernel_rfl) (opF0 (by kernel_rfl)))))) (fun x => (⟨x.1.1, x.1.2, x.2.1, x.2.2.1⟩ : Issue)) (fun _ => rfl) (fun a h => ⟨h.1.1, h.1.2, h.2.1, h.2.2.1.1, h.2.2.1.2⟩)
theorem pIssues : Opens Tryz.prog 22 (List Issue) (fun l => [.sl (l.map encI) false]) (fun l => l.length ≤ 17592186044416 ∧ ∀ a ∈ l, okIssue a) :=
 opens_slice Tryz.underlying22 (of_decide_eq_true (by kernel_rfl)) (of_decide_eq_true (by kernel_rfl)) (fun _ => by kernel_rfl) pIssue
theorem pRack : Opens Tryz.prog 24 Rack encR okRack :=
 opens_map (opens_struct Tryz.underlying24 (opF 1 pI rfl rfl (by kernel_rfl) (opF 2 pIssues rfl rfl (by kernel_rfl) (opF0 (by kernel_rfl))))) (fun x => (⟨x.1, x.2.1⟩ : Rack)) (fun _ => rfl) (fun a h => ⟨h.1, h.2.1.1, h.2.1.2⟩)
theorem pItem : Opens Tryz.prog 77 Item encT okItem :=
 opens_map (opens_struct Tryz.underlying77 (opF 1 pI rfl rfl (by kernel_rfl) (opF 2 pI rfl rfl (by kernel_rfl) (opF 3 pI rfl rfl (by kernel_rfl) (opF0 (by kernel_rfl)))))) (fun x => (⟨x.1, x.2.1, x.2.2.1⟩ : Item)) (fun _ => rfl) (fun a h => ⟨h.1, h.2.1, h.2.2.1⟩)
theorem pLine : Opens Tryz.prog 79 Line encL okLine :=
 opens_map (opens_struct Tryz.underlying79 (opF 3 pItem rfl rfl (by kernel_rfl) (opF 4 pI rfl rfl (by kernel_rfl) (opF0 (by kernel_rfl))))) (fun x => (⟨x.1, x.2.1⟩ : Line)) (fun _ => rfl) (fun a h => ⟨h.1, h.2.1⟩)
theorem pLines : Opens Tryz.prog 41 (List Line) (fun l => [.sl (l.map encL) false]) (fun l => l.length ≤ 17592186044416 ∧ ∀ a ∈ l, okLine a) :=
 opens_slice Tryz.underlying41 (of_decide_eq_true (by kernel_rfl)) (of_decide_eq_true (by kernel_rfl)) (fun _ => by kernel_rfl) pLine
theorem pInts : Opens Tryz.prog 47 (List Int) (fun l => [.sl (il l) false]) (fun l => l.length ≤ 17592186044416 ∧ ∀ a ∈ l, okInt a) :=
 opens_slice Tryz.underlying47 (of_decide_eq_true (by kernel_rfl)) (of_decide_eq_true (by kernel_rfl)) (fun _ => by kernel_rfl) pI
def okLL (x : LLine) : Prop := (x.digits.length ≤ 17592186044416 ∧ ∀ a ∈ x.digits, okInt a) ∧ (x.sizes.length ≤ 17592186044416 ∧ ∀ a ∈ x.sizes, okInt a) ∧ (okInt x.flo ∧ okInt x.fhi) ∧ okInt x.colours ∧ okInt x.mlo ∧ okInt x.mhi
theorem pLL : Opens Tryz.prog 49 LLine encLL okLL :=
 opens_map (opens_struct Tryz.underlying49 (opF 1 pInts rfl rfl (by kernel_rfl) (opF 2 pInts rfl rfl (by kernel_rfl) (opF 4 pS rfl rfl (by kernel_rfl) (opF 5 pI rfl rfl (by kernel_rfl) (opF 7 pS rfl rfl (by kernel_rfl) (opF0 (by kernel_rfl)))))))) (fun x => (⟨x.1, x.2.1, x.2.2.1.1, x.2.2.1.2, x.2.2.2.1, x.2.2.2.2.1.1, x.2.2.2.2.1.2⟩ : LLine)) (fun _ => rfl) (fun a h => ⟨h.1, h.2.1, ⟨h.2.2.1.1, h.2.2.1.2⟩, h.2.2.2.1, h.2.2.2.2.1.1, h.2.2.2.2.1.2⟩)
theorem pLLs : Opens Tryz.prog 27 (List LLine) (fun l => [.sl (l.map encLL) false]) (fun l => l.length ≤ 17592186044416 ∧ ∀ a ∈ l, okLL a) :=
 opens_slice Tryz.underlying27 (of_decide_eq_true (by kernel_rfl)) (of_decide_eq_true (by kernel_rfl)) (fun _ => by kernel_rfl) pLL
def okLt (x : Lett) : Prop := okRack x.rack ∧ (okInt x.dlo ∧ okInt x.dhi) ∧ (x.lines.length ≤ 17592186044416 ∧ ∀ a ∈ x.lines, okLL a) ∧ okInt x.clo ∧ okInt x.chi
theorem pLett : Opens Tryz.prog 29 Lett encLt okLt :=
 opens_map (opens_struct Tryz.underlying29 (opF 2 pRack rfl rfl (by kernel_rfl) (opF 4 pS rfl rfl (by kernel_rfl) (opF 5 pLLs rfl rfl (by kernel_rfl) (opF 7 pS rfl rfl (by kernel_rfl) (opF0 (by kernel_rfl))))))) (fun x => (⟨x.1, x.2.1.1, x.2.1.2, x.2.2.1, x.2.2.2.1.1, x.2.2.2.1.2⟩ : Lett)) (fun _ => rfl) (fun a h => ⟨h.1, ⟨h.2.1.1, h.2.1.2⟩, h.2.2.1, h.2.2.2.1.1, h.2.2.2.1.2⟩)
theorem okLt.lok {x : Lett} (h : okLt x) : LOk x := ⟨h.1, by have := h.2.2.1.1; unfold big; omega, fun y hy => by
 have := h.2.2.1.2 y hy
 exact ⟨by have := this.1.1; unfold big; omega, by have := this.2.1.1; unfold big; omega⟩⟩
end Wb
