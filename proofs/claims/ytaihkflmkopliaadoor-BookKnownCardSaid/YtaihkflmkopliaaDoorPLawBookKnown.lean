/- BookKnown: for every input the law's function returns true, and its arguments read afterwards as before. Condition: the package-level variable reads as the program's text lays it (the card ties it). -/
import Derived.Test.YtaihkflmkopliaaDoorXB
import Derived.Test.YtaihkflmkopliaaDoorR
namespace Go.Proofs.YtaihkflmkopliaaDoor
open Wb Go Go.Proofs Go.ChangeShapes Go.WideShapes Go.ChangeAt Go.RowKit
set_option linter.unusedVariables false
set_option linter.unusedSimpArgs false
set_option maxRecDepth 100000
theorem bookKnown_opens : OpensA Tryd.prog [] (Unit) (fun x => []) (fun x => True) :=
  opensA_map opensA_nil id (fun _ => rfl) (fun x h => trivial)
theorem bookKnown_lifted (walk : ∀ x : Unit, True → ContractAt Tryd.prog Wb.glB 16 [] (.bool true)) (os : Os) (started : os.Started) (H : Type) (enc : TypeId × Value → H) :
    ReturnsInHanded {} Tryd.checked os 16 .any (fun w args => (Rows.bookKnownSpec.pre enc Tryd.prog Tryd.f16 [] false w args ∧ laidMetH Tryd.prog laidK w) ∧ sizedMet enc Tryd.prog Tryd.f16 (OpenSpec.ofChange Rows.bookKnownSpec) false w args)
      (Rows.bookKnownSpec.post enc Tryd.prog Tryd.f16 false true false false) := by
  refine returnsInHanded_of_change_and (C := Tryd.checked) (X := fun w _ => laidMetH Tryd.prog laidK w) (fun _ _ _ hh h => h.of_heap hh) own started (by kernel_rfl) Tryd.func16
    (ChangeSpec.witness_shaped (enc := enc) (C := Tryd.checked) (os := os) (X := fun w _ => laidMetH Tryd.prog laidK w) false (World.doorLaid Tryd.prog 400 os) #[] 8 rfl (World.shaped_of_RefB (by kernel_rfl) (by kernel_rfl)) (by kernel_rfl) (by kernel_rfl) (by kernel_rfl) (door_met os _)) ?_
  intro W base args ds gs before hval0 hW _ hsz0 hL _
  have hval : ∀ (j : Nat) t v, Tryd.f16.params[j]? = some t → args[j]? = some v → Value.okWide Tryd.prog W .any base t v := hval0
  have hW' := hW
  obtain ⟨p, q, hA0, hV, rfl, hfz, hnd⟩ := hW
  have hA : DataW.TrodAll enc Tryd.prog W 0 (fun _ => true) true Tryd.f16.params.toList args.toList ds p := hA0
  have hsz : (DataW.weightsEach Tryd.prog (Tryd.f16.params.toList ++ Rows.bookKnownSpec.plain.varTypes Tryd.prog) (ds ++ gs)).all (· ≤ reachBytes) = true := hsz0
  rw [Tryd.params16] at hA hval hsz
  obtain ⟨rfl, rfl⟩ := trodVars_none hV
  have hsz' : ∀ n ∈ DataW.weightsEach Tryd.prog [] ds, n ≤ reachBytes := by
    have e : Rows.bookKnownSpec.plain.varTypes Tryd.prog = [] := rfl
    rw [e] at hsz
    simpa [List.all_eq_true] using hsz
  obtain ⟨x, hok, hrep⟩ := bookKnown_opens hA (fun j t v e1 e2 => hval j t v (by simp at e1) (by simpa using e2)) hsz'
  have hc := walk x hok W (fun b => b < W.heap.size) args.toList (fun _ h => h) (globOK hL) hrep
  rw [show args.toList.toArray = args from rfl] at hc
  refine hc.mono fun e W' hb => ?_
  obtain ⟨v, rfl, bel, hr⟩ := hb
  obtain rfl : v = .bool true := by cases hr; rfl
  have hall : ([] : List Nat).all (fun t => Tryd.prog.readableRec t && decide (t < Tryd.prog.types.size)) = true := by kernel_rfl
  have hback := trodAll_below laidOut bel (ts := []) (fun t ht => by simpa using List.all_eq_true.1 hall t ht) hA
  obtain ⟨rfl, rfl, rfl⟩ := trodAll_none hA
  exact ⟨_, rfl, _, _, _, [], _, [], hW', trodAll_mk1 (shut_bool Tryd.underlying4 _), hback, rfl, bel.frame _, fun h => by cases h⟩
theorem bookKnown_row (walk : ∀ x : Unit, True → ContractAt Tryd.prog Wb.glB 16 [] (.bool true)) : Rows.BookKnownSaid :=
  OpenClaim.holds_of_wide 16 Tryd.f16 rfl rfl rfl rfl rfl rfl rfl ⟨rfl, rfl, rfl, rfl, rfl⟩ rfl rfl rfl rfl rfl (by kernel_rfl) Tryd.func16 (by kernel_rfl)
    (of_decide_eq_true (by kernel_rfl)) (by unfold Func.isWrapper; first | (rw [if_pos (by decide +kernel)]; kernel_rfl) | (rw [if_neg (by decide +kernel)]; exact ⟨rfl, rfl⟩))
    (fun os started H enc _ => bookKnown_lifted walk os started H enc)
theorem bookKnown_card (walk : ∀ x : Unit, True → ContractAt Tryd.prog Wb.glB 16 [] (.bool true)) : Rows.BookKnownCardSaid :=
  Claim7.holds_tied_plain_at .later [] [.funcs] true (true, "de34d46ba93dfda05d9f7e3662a5460931c1dfb0ae190ffcfb89f1056ff16c45") false
    (bookKnown_row walk) (fun _ h => by cases h) (by kernel_rfl) (fun _ h => by cases h) bookKnown_row_tie rfl ⟨rfl, rfl⟩ (by kernel_rfl) rfl
    (fun f fn hf hfn => by
      obtain rfl : f = 16 := Option.some.inj ((show Tryd.prog.funcNamed "wishbook/wishbooklaw01.BookKnown" = some 16 by kernel_rfl).symm.trans hf) |>.symm
      obtain rfl : fn = Tryd.f16 := (Option.some.inj (Tryd.func16.symm.trans hfn)).symm
      exact ⟨by kernel_rfl, fun j t ht => by
        rw [Tryd.params16] at ht
        simp at ht⟩)
    (by kernel_rfl)
theorem bookKnown_holds : Rows.BookKnownCardSaid := bookKnown_card fun x hx => by
  exact fn_contract E43_ok Tryd.func16 rfl (by kernel_rfl) known_fn
end Go.Proofs.YtaihkflmkopliaaDoor

