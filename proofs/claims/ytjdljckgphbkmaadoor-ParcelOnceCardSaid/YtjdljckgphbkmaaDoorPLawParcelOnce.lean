/- ParcelOnce: for every input the law's function returns true, and its arguments read afterwards as before. Condition: the package-level variable reads as the program's text lays it (the card ties it). -/
import Derived.Test.YtjdljckgphbkmaaDoorAE
import Derived.Test.YtjdljckgphbkmaaDoorR
namespace Go.Proofs.YtjdljckgphbkmaaDoor
open Wb Go Go.Proofs Go.ChangeShapes Go.WideShapes Go.ChangeAt Go.RowKit
set_option linter.unusedVariables false
set_option linter.unusedSimpArgs false
set_option maxRecDepth 100000
theorem parcelOnce_opens : OpensA Tryd.prog [26, 3, 24] (Wb.PBook × Int × List Int × Unit) (fun x => [.agg (Wb.encB x.1), .int .i64 x.2.1, .sl (Wb.il x.2.2.1) false]) (fun x => Wb.okPBook x.1 ∧ Wb.okInt x.2.1 ∧ Wb.okInts x.2.2.1) :=
  opensA_map (opensA_cons (Wb.argAgg Tryd.underlying26 rfl Wb.pBook) (opensA_cons (Wb.argInt Tryd.underlying3) (opensA_cons (Wb.argSlice Tryd.underlying24 Wb.pInts) opensA_nil))) id (fun _ => rfl) (fun x h => ⟨h.1, h.2.1, h.2.2.1⟩)
theorem parcelOnce_lifted (walk : ∀ x : Wb.PBook × Int × List Int × Unit, Wb.okPBook x.1 ∧ Wb.okInt x.2.1 ∧ Wb.okInts x.2.2.1 → ContractAt Tryd.prog Wb.glB 7 [.agg (Wb.encB x.1), .int .i64 x.2.1, .sl (Wb.il x.2.2.1) false] (.bool true)) (os : Os) (started : os.Started) (H : Type) (enc : TypeId × Value → H) :
    ReturnsInHanded {} Tryd.checked os 7 .any (fun w args => (Rows.parcelOnceSpec.pre enc Tryd.prog Tryd.f7 [] false w args ∧ laidMetH Tryd.prog laidK w) ∧ sizedMet enc Tryd.prog Tryd.f7 (OpenSpec.ofChange Rows.parcelOnceSpec) false w args)
      (Rows.parcelOnceSpec.post enc Tryd.prog Tryd.f7 false true false false) := by
  refine returnsInHanded_of_change_and (C := Tryd.checked) (X := fun w _ => laidMetH Tryd.prog laidK w) (fun _ _ _ hh h => h.of_heap hh) own started (by kernel_rfl) Tryd.func7
    (ChangeSpec.witness_shaped (enc := enc) (C := Tryd.checked) (os := os) (X := fun w _ => laidMetH Tryd.prog laidK w) false (World.doorLaid Tryd.prog 400 os) #[.agg #[.slice none 0 0, .slice none 0 0, .int .i64 0, .int .i64 0, .int .i64 0, .int .i64 0, .slice none 0 0], .int .i64 0, .slice none 0 0] 8 rfl (World.shaped_of_RefB (by kernel_rfl) (by kernel_rfl)) (by kernel_rfl) (by kernel_rfl) (by kernel_rfl) (door_met os _)) ?_
  intro W base args ds gs before hval0 hW _ hsz0 hL _
  have hval : ∀ (j : Nat) t v, Tryd.f7.params[j]? = some t → args[j]? = some v → Value.okWide Tryd.prog W .any base t v := hval0
  have hW' := hW
  obtain ⟨p, q, hA0, hV, rfl, hfz, hnd⟩ := hW
  have hA : DataW.TrodAll enc Tryd.prog W 0 (fun _ => true) true Tryd.f7.params.toList args.toList ds p := hA0
  have hsz : (DataW.weightsEach Tryd.prog (Tryd.f7.params.toList ++ Rows.parcelOnceSpec.plain.varTypes Tryd.prog) (ds ++ gs)).all (· ≤ reachBytes) = true := hsz0
  rw [Tryd.params7] at hA hval hsz
  obtain ⟨rfl, rfl⟩ := trodVars_none hV
  have hsz' : ∀ n ∈ DataW.weightsEach Tryd.prog [26, 3, 24] ds, n ≤ reachBytes := by
    have e : Rows.parcelOnceSpec.plain.varTypes Tryd.prog = [] := rfl
    rw [e] at hsz
    simpa [List.all_eq_true] using hsz
  obtain ⟨x, hok, hrep⟩ := parcelOnce_opens hA (fun j t v e1 e2 => hval j t v (by simpa using e1) (by simpa using e2)) hsz'
  have hc := walk x hok W (fun b => b < W.heap.size) args.toList (fun _ h => h) (globOK hL) hrep
  rw [show args.toList.toArray = args from rfl] at hc
  refine hc.mono fun e W' hb => ?_
  obtain ⟨v, rfl, bel, hr⟩ := hb
  obtain rfl : v = .bool true := by cases hr; rfl
  have hall : ([26, 3, 24] : List Nat).all (fun t => Tryd.prog.readableRec t && decide (t < Tryd.prog.types.size)) = true := by kernel_rfl
  have hback := trodAll_below laidOut bel (ts := [26, 3, 24]) (fun t ht => by simpa using List.all_eq_true.1 hall t ht) hA
  obtain ⟨v0, vs0, d0, ds0, p0, q0, hargs, rfl, rfl, h0, r0⟩ := trodAll_cons hA
  obtain ⟨v1, vs1, d1, ds1, p1, q1, rfl, rfl, rfl, h1, r1⟩ := trodAll_cons r0
  obtain ⟨v2, vs2, d2, ds2, p2, q2, rfl, rfl, rfl, h2, r2⟩ := trodAll_cons r1
  obtain ⟨rfl, rfl, rfl⟩ := trodAll_nil r2
  exact ⟨_, rfl, _, _, _, [], _, [], hW', trodAll_mk1 (shut_bool Tryd.underlying4 _), hback, rfl, bel.frame _, fun h => by cases h⟩
theorem parcelOnce_row (walk : ∀ x : Wb.PBook × Int × List Int × Unit, Wb.okPBook x.1 ∧ Wb.okInt x.2.1 ∧ Wb.okInts x.2.2.1 → ContractAt Tryd.prog Wb.glB 7 [.agg (Wb.encB x.1), .int .i64 x.2.1, .sl (Wb.il x.2.2.1) false] (.bool true)) : Rows.ParcelOnceSaid :=
  OpenClaim.holds_of_wide 7 Tryd.f7 rfl rfl rfl rfl rfl rfl rfl ⟨rfl, rfl, rfl, rfl, rfl⟩ rfl rfl rfl rfl rfl (by kernel_rfl) Tryd.func7 (by kernel_rfl)
    (of_decide_eq_true (by kernel_rfl)) (by unfold Func.isWrapper; first | (rw [if_pos (by decide +kernel)]; kernel_rfl) | (rw [if_neg (by decide +kernel)]; exact ⟨rfl, rfl⟩))
    (fun os started H enc _ => parcelOnce_lifted walk os started H enc)
theorem parcelOnce_card (walk : ∀ x : Wb.PBook × Int × List Int × Unit, Wb.okPBook x.1 ∧ Wb.okInt x.2.1 ∧ Wb.okInts x.2.2.1 → ContractAt Tryd.prog Wb.glB 7 [.agg (Wb.encB x.1), .int .i64 x.2.1, .sl (Wb.il x.2.2.1) false] (.bool true)) : Rows.ParcelOnceCardSaid :=
  Claim7.holds_tied_plain_at .later [] [.funcs] true (true, "7e78bb7b744dc57f42afa601b79f48f11b5aa257151351a491f5a1526c7d8ada") false
    (parcelOnce_row walk) (fun _ h => by cases h) (by kernel_rfl) (fun _ h => by cases h) parcelOnce_row_tie rfl ⟨rfl, rfl⟩ (by kernel_rfl) rfl
    (fun f fn hf hfn => by
      obtain rfl : f = 7 := Option.some.inj ((show Tryd.prog.funcNamed "wishbook/wishbooklaw06.ParcelOnce" = some 7 by kernel_rfl).symm.trans hf) |>.symm
      obtain rfl : fn = Tryd.f7 := (Option.some.inj (Tryd.func7.symm.trans hfn)).symm
      exact ⟨by kernel_rfl, fun j t ht => by
        rw [Tryd.params7] at ht
        have hm : t ∈ [26, 3, 24] := by simpa using Array.mem_of_getElem? ht
        have hall : ([26, 3, 24].all fun u => !Tryd.prog.wantsStandIn u) = true := by kernel_rfl
        exact (show Tryd.prog.wantsStandIn t = false by simpa using List.all_eq_true.1 hall t hm)⟩)
    (by kernel_rfl)
theorem parcelOnce_holds : Rows.ParcelOnceCardSaid := parcelOnce_card fun x hx => by
  obtain ⟨b, z, l, _⟩ := x
  obtain ⟨h1, _, h3, _⟩ := hx
  simp only at h1 h3
  have hB : Wb.Big4 b := ⟨by have := h1.1.1; unfold Wb.big; omega, by have := h1.2.1.1; unfold Wb.big; omega, fun k hk => by have := (h1.2.1.2 k hk).2.2.1.1; unfold Wb.big; omega, by have := h1.2.2.2.1; unfold Wb.big; omega⟩
  exact fn_contract E26_ok Tryd.func7 rfl (by kernel_rfl) (once_law b hB z l (by unfold Wb.big; omega))
end Go.Proofs.YtjdljckgphbkmaaDoor

