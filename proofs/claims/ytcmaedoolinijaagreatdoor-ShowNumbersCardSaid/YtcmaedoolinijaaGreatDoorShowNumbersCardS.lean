/-
  WHAT IS PROVED: the card of amanuensislaw24.ShowNumbers: whatever its arguments, the law returns true, and its arguments read as they did. CONDITIONS: none but the row's own.
-/
import Derived.Test.YtcmaedoolinijaaGreatDoorShowNumbersS
import Derived.Test.YtcmaedoolinijaaGreatDoorM13
import Derived.Test.YtcmaedoolinijaaGreatDoorM5
namespace Go.Proofs.YtcmaedoolinijaaGreatDoor.ShowNumbers
open Go Go.ChangeShapes Go.WideShapes Go.ChangeAt Go.RowKit
set_option maxRecDepth 100000

theorem contract (H : Type) (enc : TypeId × Value → H) (W : World) (hT : STab W) (args : Array Value) (ds gs : List (DataW H)) (before : List MemPlace)
    (hval : ∀ (j : Nat) t v, Tryz.f3.params[j]? = some t → args[j]? = some v → ∃ base, Value.okWide Tryz.prog W .any base t v)
    (hW : DataW.Whole enc Tryz.prog Tryz.f3.params.toList Rows.showNumbersSpec.vars false W args.toList ds gs before) :
    Calls Tryz.prog 3 args W fun e W' => ∃ v, e = .returned v ∧ Rows.showNumbersSpec.post enc Tryz.prog Tryz.f3 false true false false W args v W' := by
  have hW' := hW
  obtain ⟨p, q, hA, hV, rfl, hfz, hnd⟩ := hW
  rw [Tryz.params3] at hA hval
  obtain ⟨v0, vs0, d0, ds0, p0, q0, hargs, rfl, rfl, h0, r0⟩ := trodAll_cons hA
  obtain ⟨v1, vs1, d1, ds1, p1, q1, rfl, rfl, rfl, h1, r1⟩ := trodAll_cons r0
  obtain ⟨rfl, rfl, rfl⟩ := trodAll_nil r1
  obtain rfl : args = #[v0, v1] := by cases args; simp_all
  obtain ⟨b0, hv0⟩ := hval 0 _ v0 rfl rfl
  obtain ⟨x0, rfl, hx0⟩ := arg_i64 Tryz.underlying2 hv0 h0
  obtain ⟨b1, hv1⟩ := hval 1 _ v1 rfl rfl
  obtain ⟨x1, rfl, hx1⟩ := arg_i64 Tryz.underlying2 hv1 h1
  refine (walk W hT x0 x1 hx0 hx1).mono fun e W' ⟨he, hn⟩ => ⟨_, he, ?_⟩
  refine post_true laidOut (by kernel_rfl) (tb := 4) (by kernel_rfl) Tryz.underlying4 rfl (fun ds hd => ?_) hW' hn
  rw [show Tryz.f3.params.size = 2 by kernel_rfl] at hd
  match ds, hd with
  | [a0, a1], _ => rfl

abbrev atArgs : Array Value := #[.int .i64 0, .int .i64 0]
theorem reads (os : Os) {H : Type} (enc : TypeId × Value → H) : ∃ places, DataW.whole enc Tryz.prog ((laidWorld os).forCall (fun _ _ => 0) ⟨#[], atArgs, []⟩).memory Tryz.f3.params.toList Rows.showNumbersSpec.vars false atArgs.toList 8 = some ([.lit (.int .i64 0), .lit (.int .i64 0)], [], places) :=
  ⟨[], by kernel_rfl⟩
theorem met (os : Os) : laidMet Tryz.prog Rows.showNumbersRow.laid ((laidWorld os).forCall (fun _ _ => 0) ⟨#[], atArgs, []⟩).memory :=
  laidMet_by 8 (by kernel_rfl) (by kernel_rfl) (by kernel_rfl)

theorem lifted (os : Os) (started : os.Started) (H : Type) (enc : TypeId × Value → H) (F : Stop.Interp) :
    ReturnsInHanded {} Tryz.checked os 3 .any ((OpenSpec.ofChange Rows.showNumbersSpec).preRow enc Tryz.prog Tryz.f3 Rows.showNumbersRow.domain false Rows.showNumbersRow.laid) (((OpenSpec.ofChange Rows.showNumbersSpec).at F).post enc Tryz.prog Tryz.f3 false true false false) := by
  obtain ⟨places, hx⟩ := reads os enc
  refine returnsInHanded_of_row (C := Tryz.checked) (s := OpenSpec.ofChange Rows.showNumbersSpec) own started (by kernel_rfl) Tryz.func3
    (witness_row_atRef (enc := enc) (C := Tryz.checked) false (laidWorld os) atArgs rfl (by kernel_rfl) (by kernel_rfl) (by kernel_rfl)
      (OpenSpec.preRow_of_cond 8 hx (by kernel_rfl) (fun k hk => by cases hk) (by kernel_rfl) (met os))) ?_
  intro W base args ds gs before hval hW _ _ _ hlaid hsh _
  exact contract H enc W (stab_of_laid hlaid hsh (by kernel_rfl) (by kernel_rfl) (by kernel_rfl) (by kernel_rfl)) args ds gs before (fun j t v h1 h2 => ⟨base, hval j t v h1 h2⟩) hW

theorem fact1 : (Rows.showNumbersRow.inPlace == Tryz.pinned.checked.prog.inPlace 3) = true := by kernel_rfl
theorem fact2 : (Rows.showNumbersRow.unfollowed == Tryz.pinned.checked.prog.unfollowed 3) = true := by kernel_rfl
theorem fact3 : (Rows.showNumbersRow.recurses == Tryz.pinned.checked.prog.recurses 3) = true := by kernel_rfl
theorem fact4 : (Rows.showNumbersRow.named == Tryz.pinned.checked.prog.varsNamed 3) = true := by kernel_rfl
theorem fact5 : (Rows.showNumbersRow.plainKeys == Tryz.pinned.checked.prog.plainKeys) = true := by kernel_rfl
theorem fact6 : laidOutB Tryz.pinned.checked.prog = true := by kernel_rfl
theorem fact7 : mapsRowed Tryz.pinned.checked.prog = true := by kernel_rfl
theorem closed : joinedFacts Tryz.pinned.checked.prog 3 Tryz.f3 (OpenSpec.ofChange Rows.showNumbersSpec).bare Rows.showNumbersRow = true := by
  unfold joinedFacts
  rw [fact1, fact2, fact3, fact4, fact5, fact6, fact7]
  kernel_rfl
theorem named_ : Tryz.pinned.checked.prog.funcNamed Rows.showNumbersRow.func = some 3 := by kernel_rfl
theorem wrap_ : Tryz.f3.isWrapper Tryz.pinned.checked.prog Rows.showNumbersRow.wrapper Rows.showNumbersRow.mainSum := by
  unfold Func.isWrapper; first | (rw [if_pos (by decide +kernel)]; kernel_rfl) | (rw [if_neg (by decide +kernel)]; exact ⟨rfl, rfl⟩)
theorem said : Rows.ShowNumbersSaid :=
  OpenClaim.holds_of_cond 3 Tryz.f3 rfl rfl rfl rfl rfl rfl rfl ⟨rfl, rfl, rfl, rfl, rfl⟩ rfl rfl rfl rfl rfl named_ Tryz.func3 closed
    (of_decide_eq_true (by kernel_rfl)) wrap_
    (fun os started H enc _ F => by rw [OpenClaim.pre_eq_preRow]; exact lifted os started H enc F)

theorem plain (f : FuncId) (fn : Func) (hf : Tryz.pinned.checked.prog.funcNamed "amanuensis/amanuensislaw24.ShowNumbers" = some f) (hfn : Tryz.pinned.checked.prog.funcs[f]? = some fn) :
    true = Tryz.pinned.checked.prog.looks [] ∧ ∀ (j : Nat) t, fn.params[j]? = some t → Tryz.pinned.checked.prog.wantsStandIn t = false := by
  obtain rfl : f = 3 := Option.some.inj ((show Tryz.prog.funcNamed "amanuensis/amanuensislaw24.ShowNumbers" = some 3 by kernel_rfl).symm.trans hf) |>.symm
  obtain rfl : fn = Tryz.f3 := (Option.some.inj (Tryz.func3.symm.trans hfn)).symm
  refine ⟨by kernel_rfl, fun j t ht => ?_⟩
  have hall : (Tryz.f3.params.all fun t => !Tryz.prog.wantsStandIn t) = true := by kernel_rfl
  have := Array.all_eq_true_iff_forall_mem.1 hall t (Array.mem_of_getElem? ht)
  have h2 : Tryz.prog.wantsStandIn t = false := by simpa using this
  exact h2

theorem cw : Rows.showNumbersRow.wfByText (OpenSpec.ofChange Rows.showNumbersSpec) = true := by kernel_rfl
theorem cm : Tryz.pinned.checked.prog.mainIs = some (Rows.showNumbersCard.stood.harness.1, Rows.showNumbersCard.stood.harness.2.toList) := by kernel_rfl
theorem cg : false = Rows.showNumbersRow.goesBy Tryz.pinned.checked.prog := by kernel_rfl
theorem card : Rows.ShowNumbersCardSaid :=
  Claim7.holds_tied_plain_at .later [] _ _ _ _ said (fun _ h => by cases h) cw (fun _ h => by cases h) showNumbers_row_tie rfl ⟨rfl, rfl⟩ cm rfl plain cg
end Go.Proofs.YtcmaedoolinijaaGreatDoor.ShowNumbers
