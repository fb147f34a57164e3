/- BookFoot: for every input the law's function returns true, and its arguments read afterwards as before. Condition: the package-level variable reads as the program's text lays it (the card ties it). -/
import Derived.Test.YtaihkflmkopliaaDoorV
import Derived.Test.YtaihkflmkopliaaDoorR
namespace Go.Proofs.YtaihkflmkopliaaDoor
open Wb Go Go.Proofs Go.ChangeShapes Go.WideShapes Go.ChangeAt Go.RowKit
set_option linter.unusedVariables false
set_option linter.unusedSimpArgs false
set_option maxRecDepth 100000
theorem len2_bookFoot : ∀ l : List Int, l.length = 2 → ∃ a b, l = [a, b]
  | [a, b], _ => ⟨a, b, rfl⟩
theorem len4_bookFoot : ∀ l : List Int, l.length = 4 → ∃ a b c d, l = [a, b, c, d]
  | [a, b, c, d], _ => ⟨a, b, c, d, rfl⟩
theorem bookFoot_opens : OpensA Tryd.prog [24, 53, 27] (Wb.Rack × List Int × List Int × Unit) (fun x => [.agg (Wb.encR x.1), .agg (Wb.encZ x.2.1), .agg (Wb.encZ x.2.2.1)]) (fun x => Wb.okRack x.1 ∧ (x.2.1.length = 2 ∧ ∀ a ∈ x.2.1, Wb.okInt a) ∧ (x.2.2.1.length = 4 ∧ ∀ a ∈ x.2.2.1, Wb.okInt a)) :=
  opensA_map (opensA_cons (Wb.argAgg Tryd.underlying24 rfl Wb.pRack) (opensA_cons (Wb.argAgg Tryd.underlying53 rfl (Wb.pArr Tryd.underlying53 (by kernel_rfl))) (opensA_cons (Wb.argAgg Tryd.underlying27 rfl (Wb.pArr Tryd.underlying27 (by kernel_rfl))) opensA_nil))) id (fun _ => rfl) (fun x h => ⟨h.1, h.2.1, h.2.2.1⟩)
theorem bookFoot_lifted (walk : ∀ x : Wb.Rack × List Int × List Int × Unit, Wb.okRack x.1 ∧ (x.2.1.length = 2 ∧ ∀ a ∈ x.2.1, Wb.okInt a) ∧ (x.2.2.1.length = 4 ∧ ∀ a ∈ x.2.2.1, Wb.okInt a) → ContractAt Tryd.prog Wb.glB 15 [.agg (Wb.encR x.1), .agg (Wb.encZ x.2.1), .agg (Wb.encZ x.2.2.1)] (.bool true)) (os : Os) (started : os.Started) (H : Type) (enc : TypeId × Value → H) :
    ReturnsInHanded {} Tryd.checked os 15 .any (fun w args => (Rows.bookFootSpec.pre enc Tryd.prog Tryd.f15 [] false w args ∧ laidMetH Tryd.prog laidK w) ∧ sizedMet enc Tryd.prog Tryd.f15 (OpenSpec.ofChange Rows.bookFootSpec) false w args)
      (Rows.bookFootSpec.post enc Tryd.prog Tryd.f15 false true false false) := by
  refine returnsInHanded_of_change_and (C := Tryd.checked) (X := fun w _ => laidMetH Tryd.prog laidK w) (fun _ _ _ hh h => h.of_heap hh) own started (by kernel_rfl) Tryd.func15
    (ChangeSpec.witness_shaped (enc := enc) (C := Tryd.checked) (os := os) (X := fun w _ => laidMetH Tryd.prog laidK w) false (World.doorLaid Tryd.prog 400 os) #[.agg #[.int .i64 0, .slice none 0 0], .agg #[.int .i64 0, .int .i64 0], .agg #[.int .i64 0, .int .i64 0, .int .i64 0, .int .i64 0]] 8 rfl (World.shaped_of_RefB (by kernel_rfl) (by kernel_rfl)) (by kernel_rfl) (by kernel_rfl) (by kernel_rfl) (door_met os _)) ?_
  intro W base args ds gs before hval0 hW _ hsz0 hL _
  have hval : ∀ (j : Nat) t v, Tryd.f15.params[j]? = some t → args[j]? = some v → Value.okWide Tryd.prog W .any base t v := hval0
  have hW' := hW
  obtain ⟨p, q, hA0, hV, rfl, hfz, hnd⟩ := hW
  have hA : DataW.TrodAll enc Tryd.prog W 0 (fun _ => true) true Tryd.f15.params.toList args.toList ds p := hA0
  have hsz : (DataW.weightsEach Tryd.prog (Tryd.f15.params.toList ++ Rows.bookFootSpec.plain.varTypes Tryd.prog) (ds ++ gs)).all (· ≤ reachBytes) = true := hsz0
  rw [Tryd.params15] at hA hval hsz
  obtain ⟨rfl, rfl⟩ := trodVars_none hV
  have hsz' : ∀ n ∈ DataW.weightsEach Tryd.prog [24, 53, 27] ds, n ≤ reachBytes := by
    have e : Rows.bookFootSpec.plain.varTypes Tryd.prog = [] := rfl
    rw [e] at hsz
    simpa [List.all_eq_true] using hsz
  obtain ⟨x, hok, hrep⟩ := bookFoot_opens hA (fun j t v e1 e2 => hval j t v (by simpa using e1) (by simpa using e2)) hsz'
  have hc := walk x hok W (fun b => b < W.heap.size) args.toList (fun _ h => h) (globOK hL) hrep
  rw [show args.toList.toArray = args from rfl] at hc
  refine hc.mono fun e W' hb => ?_
  obtain ⟨v, rfl, bel, hr⟩ := hb
  obtain rfl : v = .bool true := by cases hr; rfl
  have hall : ([24, 53, 27] : List Nat).all (fun t => Tryd.prog.readableRec t && decide (t < Tryd.prog.types.size)) = true := by kernel_rfl
  have hback := trodAll_below laidOut bel (ts := [24, 53, 27]) (fun t ht => by simpa using List.all_eq_true.1 hall t ht) hA
  obtain ⟨v0, vs0, d0, ds0, p0, q0, hargs, rfl, rfl, h0, r0⟩ := trodAll_cons hA
  obtain ⟨v1, vs1, d1, ds1, p1, q1, rfl, rfl, rfl, h1, r1⟩ := trodAll_cons r0
  obtain ⟨v2, vs2, d2, ds2, p2, q2, rfl, rfl, rfl, h2, r2⟩ := trodAll_cons r1
  obtain ⟨rfl, rfl, rfl⟩ := trodAll_nil r2
  exact ⟨_, rfl, _, _, _, [], _, [], hW', trodAll_mk1 (shut_bool Tryd.underlying4 _), hback, rfl, bel.frame _, fun h => by cases h⟩
theorem bookFoot_row (walk : ∀ x : Wb.Rack × List Int × List Int × Unit, Wb.okRack x.1 ∧ (x.2.1.length = 2 ∧ ∀ a ∈ x.2.1, Wb.okInt a) ∧ (x.2.2.1.length = 4 ∧ ∀ a ∈ x.2.2.1, Wb.okInt a) → ContractAt Tryd.prog Wb.glB 15 [.agg (Wb.encR x.1), .agg (Wb.encZ x.2.1), .agg (Wb.encZ x.2.2.1)] (.bool true)) : Rows.BookFootSaid :=
  OpenClaim.holds_of_wide 15 Tryd.f15 rfl rfl rfl rfl rfl rfl rfl ⟨rfl, rfl, rfl, rfl, rfl⟩ rfl rfl rfl rfl rfl (by kernel_rfl) Tryd.func15 (by kernel_rfl)
    (of_decide_eq_true (by kernel_rfl)) (by unfold Func.isWrapper; first | (rw [if_pos (by decide +kernel)]; kernel_rfl) | (rw [if_neg (by decide +kernel)]; exact ⟨rfl, rfl⟩))
    (fun os started H enc _ => bookFoot_lifted walk os started H enc)
theorem bookFoot_card (walk : ∀ x : Wb.Rack × List Int × List Int × Unit, Wb.okRack x.1 ∧ (x.2.1.length = 2 ∧ ∀ a ∈ x.2.1, Wb.okInt a) ∧ (x.2.2.1.length = 4 ∧ ∀ a ∈ x.2.2.1, Wb.okInt a) → ContractAt Tryd.prog Wb.glB 15 [.agg (Wb.encR x.1), .agg (Wb.encZ x.2.1), .agg (Wb.encZ x.2.2.1)] (.bool true)) : Rows.BookFootCardSaid :=
  Claim7.holds_tied_plain_at .later [] [.funcs] true (true, "de34d46ba93dfda05d9f7e3662a5460931c1dfb0ae190ffcfb89f1056ff16c45") false
    (bookFoot_row walk) (fun _ h => by cases h) (by kernel_rfl) (fun _ h => by cases h) bookFoot_row_tie rfl ⟨rfl, rfl⟩ (by kernel_rfl) rfl
    (fun f fn hf hfn => by
      obtain rfl : f = 15 := Option.some.inj ((show Tryd.prog.funcNamed "wishbook/wishbooklaw01.BookFoot" = some 15 by kernel_rfl).symm.trans hf) |>.symm
      obtain rfl : fn = Tryd.f15 := (Option.some.inj (Tryd.func15.symm.trans hfn)).symm
      exact ⟨by kernel_rfl, fun j t ht => by
        rw [Tryd.params15] at ht
        have hm : t ∈ [24, 53, 27] := by simpa using Array.mem_of_getElem? ht
        have hall : ([24, 53, 27].all fun u => !Tryd.prog.wantsStandIn u) = true := by kernel_rfl
        exact (show Tryd.prog.wantsStandIn t = false by simpa using List.all_eq_true.1 hall t hm)⟩)
    (by kernel_rfl)
theorem bookFoot_holds : Rows.BookFootCardSaid := bookFoot_card fun x hx => by
  obtain ⟨r, n, k, _⟩ := x
  obtain ⟨h1, ⟨h2, _⟩, h3, _⟩ := hx
  simp only at h1 h2 h3
  obtain ⟨n0, n1, rfl⟩ := len2_bookFoot n h2
  obtain ⟨a, b, c, e, rfl⟩ := len4_bookFoot k h3
  exact fn_contract E41_ok Tryd.func15 rfl (by kernel_rfl) (foot_law r h1 n0 n1 a b c e)
end Go.Proofs.YtaihkflmkopliaaDoor

