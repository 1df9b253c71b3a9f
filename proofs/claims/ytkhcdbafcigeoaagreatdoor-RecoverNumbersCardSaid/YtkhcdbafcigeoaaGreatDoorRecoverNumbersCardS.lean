/-
  WHAT IS PROVED: the card of amanuensislaw06.RecoverNumbers: whatever its arguments, the law returns true, and its arguments read as they did. CONDITIONS: none but the row's own.
-/
import Derived.Test.YtkhcdbafcigeoaaGreatDoorRecoverNumbersS
import Derived.Test.YtkhcdbafcigeoaaGreatDoorM14
namespace Go.Proofs.YtkhcdbafcigeoaaGreatDoor.RecoverNumbers
open Go Go.ChangeShapes Go.WideShapes Go.ChangeAt Go.RowKit
set_option maxRecDepth 100000

theorem contract (H : Type) (enc : TypeId × Value → H) (W : World) (hT : Tab W) (args : Array Value) (ds gs : List (DataW H)) (before : List MemPlace)
    (hval : ∀ (j : Nat) t v, Tryz.f4.params[j]? = some t → args[j]? = some v → ∃ base, Value.okWide Tryz.prog W .any base t v)
    (hW : DataW.Whole enc Tryz.prog Tryz.f4.params.toList Rows.recoverNumbersSpec.vars false W args.toList ds gs before) :
    Calls Tryz.prog 4 args W fun e W' => ∃ v, e = .returned v ∧ Rows.recoverNumbersSpec.post enc Tryz.prog Tryz.f4 false true false false W args v W' := by
  have hW' := hW
  obtain ⟨p, q, hA, hV, rfl, hfz, hnd⟩ := hW
  rw [Tryz.params4] at hA hval
  obtain ⟨hargs, rfl, rfl⟩ := trodAll_nil hA
  obtain rfl : args = #[] := by cases args; simp_all
  refine (walk W hT ).mono fun e W' ⟨he, hn⟩ => ⟨_, he, ?_⟩
  refine post_true laidOut (by kernel_rfl) (tb := 4) (by kernel_rfl) Tryz.underlying4 rfl (fun ds hd => ?_) hW' hn
  rw [show Tryz.f4.params.size = 0 by kernel_rfl] at hd
  match ds, hd with
  | [], _ => rfl

abbrev atArgs : Array Value := #[]
theorem reads (os : Os) {H : Type} (enc : TypeId × Value → H) : ∃ places, DataW.whole enc Tryz.prog ((laidWorld os).forCall (fun _ _ => 0) ⟨#[], atArgs, []⟩).memory Tryz.f4.params.toList Rows.recoverNumbersSpec.vars false atArgs.toList 8 = some ([], [], places) :=
  ⟨[], by kernel_rfl⟩
theorem met (os : Os) : laidMet Tryz.prog Rows.recoverNumbersRow.laid ((laidWorld os).forCall (fun _ _ => 0) ⟨#[], atArgs, []⟩).memory :=
  laidMet_of_run' 8 (by kernel_rfl) (by kernel_rfl)

theorem lifted (os : Os) (started : os.Started) (H : Type) (enc : TypeId × Value → H) (F : Stop.Interp) :
    ReturnsInHanded {} Tryz.checked os 4 .any ((OpenSpec.ofChange Rows.recoverNumbersSpec).preRow enc Tryz.prog Tryz.f4 Rows.recoverNumbersRow.domain false Rows.recoverNumbersRow.laid) (((OpenSpec.ofChange Rows.recoverNumbersSpec).at F).post enc Tryz.prog Tryz.f4 false true false false) := by
  obtain ⟨places, hx⟩ := reads os enc
  refine returnsInHanded_of_row (C := Tryz.checked) (s := OpenSpec.ofChange Rows.recoverNumbersSpec) own started (by kernel_rfl) Tryz.func4
    (witness_row_at (enc := enc) (C := Tryz.checked) false (laidWorld os) atArgs rfl (by kernel_rfl) (by kernel_rfl) (by kernel_rfl)
      (OpenSpec.preRow_of_cond 8 hx (by kernel_rfl) (fun k hk => by cases hk) (by kernel_rfl) (met os))) ?_
  intro W base args ds gs before hval hW _ _ _ hlaid _ _
  exact contract H enc W (tab_of_laid hlaid (by kernel_rfl)) args ds gs before (fun j t v h1 h2 => ⟨base, hval j t v h1 h2⟩) hW

theorem fact1 : (Rows.recoverNumbersRow.inPlace == Tryz.pinned.checked.prog.inPlace 4) = true := by kernel_rfl
theorem fact2 : (Rows.recoverNumbersRow.unfollowed == Tryz.pinned.checked.prog.unfollowed 4) = true := by kernel_rfl
theorem fact3 : (Rows.recoverNumbersRow.recurses == Tryz.pinned.checked.prog.recurses 4) = true := by kernel_rfl
theorem fact4 : (Rows.recoverNumbersRow.named == Tryz.pinned.checked.prog.varsNamed 4) = true := by kernel_rfl
theorem fact5 : (Rows.recoverNumbersRow.plainKeys == Tryz.pinned.checked.prog.plainKeys) = true := by kernel_rfl
theorem fact6 : laidOutB Tryz.pinned.checked.prog = true := by kernel_rfl
theorem fact7 : mapsRowed Tryz.pinned.checked.prog = true := by kernel_rfl
theorem closed : joinedFacts Tryz.pinned.checked.prog 4 Tryz.f4 (OpenSpec.ofChange Rows.recoverNumbersSpec).bare Rows.recoverNumbersRow = true := by
  unfold joinedFacts
  rw [fact1, fact2, fact3, fact4, fact5, fact6, fact7]
  kernel_rfl
theorem named_ : Tryz.pinned.checked.prog.funcNamed Rows.recoverNumbersRow.func = some 4 := by kernel_rfl
theorem wrap_ : Tryz.f4.isWrapper Tryz.pinned.checked.prog Rows.recoverNumbersRow.wrapper Rows.recoverNumbersRow.mainSum := by
  unfold Func.isWrapper; first | (rw [if_pos (by decide +kernel)]; kernel_rfl) | (rw [if_neg (by decide +kernel)]; exact ⟨rfl, rfl⟩)
theorem said : Rows.RecoverNumbersSaid :=
  OpenClaim.holds_of_cond 4 Tryz.f4 rfl rfl rfl rfl rfl rfl rfl ⟨rfl, rfl, rfl, rfl, rfl⟩ rfl rfl rfl rfl rfl named_ Tryz.func4 closed
    (of_decide_eq_true (by kernel_rfl)) wrap_
    (fun os started H enc _ F => by rw [OpenClaim.pre_eq_preRow]; exact lifted os started H enc F)

theorem plain (f : FuncId) (fn : Func) (hf : Tryz.pinned.checked.prog.funcNamed "amanuensis/amanuensislaw06.RecoverNumbers" = some f) (hfn : Tryz.pinned.checked.prog.funcs[f]? = some fn) :
    false = Tryz.pinned.checked.prog.looks [] ∧ ∀ (j : Nat) t, fn.params[j]? = some t → Tryz.pinned.checked.prog.wantsStandIn t = false := by
  obtain rfl : f = 4 := Option.some.inj ((show Tryz.prog.funcNamed "amanuensis/amanuensislaw06.RecoverNumbers" = some 4 by kernel_rfl).symm.trans hf) |>.symm
  obtain rfl : fn = Tryz.f4 := (Option.some.inj (Tryz.func4.symm.trans hfn)).symm
  refine ⟨by kernel_rfl, fun j t ht => ?_⟩
  have hall : (Tryz.f4.params.all fun t => !Tryz.prog.wantsStandIn t) = true := by kernel_rfl
  have := Array.all_eq_true_iff_forall_mem.1 hall t (Array.mem_of_getElem? ht)
  have h2 : Tryz.prog.wantsStandIn t = false := by simpa using this
  exact h2

theorem cw : Rows.recoverNumbersRow.wfByText (OpenSpec.ofChange Rows.recoverNumbersSpec) = true := by kernel_rfl
theorem cm : Tryz.pinned.checked.prog.mainIs = some (Rows.recoverNumbersCard.stood.harness.1, Rows.recoverNumbersCard.stood.harness.2.toList) := by kernel_rfl
theorem cg : false = Rows.recoverNumbersRow.goesBy Tryz.pinned.checked.prog := by kernel_rfl
theorem card : Rows.RecoverNumbersCardSaid :=
  Claim7.holds_tied_plain_at .later [] _ _ _ _ said (fun _ h => by cases h) cw (fun _ h => by cases h) recoverNumbers_row_tie rfl ⟨rfl, rfl⟩ cm rfl plain cg
end Go.Proofs.YtkhcdbafcigeoaaGreatDoor.RecoverNumbers
