/-
  WHAT IS PROVED: the card of amanuensislaw24.ShowBack: whatever its arguments, the law returns true, and its arguments read as they did. CONDITIONS: none but the row's own.
-/
import Derived.Test.YtcmaedoolinijaaGreatDoorShowBackS
import Derived.Test.YtcmaedoolinijaaGreatDoorM13
import Derived.Test.YtcmaedoolinijaaGreatDoorM5
import Derived.Test.YtcmaedoolinijaaGreatDoorM33
namespace Go.Proofs.YtcmaedoolinijaaGreatDoor.ShowBack
open Go Go.ChangeShapes Go.WideShapes Go.ChangeAt Go.RowKit
set_option maxRecDepth 100000

theorem contract (H : Type) (enc : TypeId × Value → H) (W : World) (hT : STab W) (args : Array Value) (ds gs : List (DataW H)) (before : List MemPlace)
    (hval : ∀ (j : Nat) t v, Tryz.f4.params[j]? = some t → args[j]? = some v → ∃ base, Value.okWide Tryz.prog W .any base t v)
    (hW : DataW.Whole enc Tryz.prog Tryz.f4.params.toList Rows.showBackSpec.vars false W args.toList ds gs before) (hk : Rows.uptoBulkAll (ds ++ gs) ≤ 1048576) :
    Calls Tryz.prog 4 args W fun e W' => ∃ v, e = .returned v ∧ Rows.showBackSpec.post enc Tryz.prog Tryz.f4 false true false false W args v W' := by
  have hW' := hW
  obtain ⟨p, q, hA, hV, rfl, hfz, hnd⟩ := hW
  rw [Tryz.params4] at hA hval
  obtain ⟨v0, vs0, d0, ds0, p0, q0, hargs, rfl, rfl, h0, r0⟩ := trodAll_cons hA
  obtain ⟨v1, vs1, d1, ds1, p1, q1, rfl, rfl, rfl, h1, r1⟩ := trodAll_cons r0
  obtain ⟨v2, vs2, d2, ds2, p2, q2, rfl, rfl, rfl, h2, r2⟩ := trodAll_cons r1
  obtain ⟨rfl, rfl, rfl⟩ := trodAll_nil r2
  obtain rfl : args = #[v0, v1, v2] := by cases args; simp_all
  obtain ⟨b0, hv0⟩ := hval 0 _ v0 rfl rfl
  obtain ⟨u0, y0, x0, rfl, hx0, hb0⟩ := arg_code h0
  obtain ⟨b1, hv1⟩ := hval 1 _ v1 rfl rfl
  obtain ⟨x1, hx1⟩ := arg_events hv1 h1
  obtain ⟨b2, hv2⟩ := hval 2 _ v2 rfl rfl
  obtain ⟨x2, rfl, hx2⟩ := arg_str Tryz.underlying9 hv2 h2
  refine (walk W hT u0 y0 v1 x0 x1 x2 hx0 (fun t ht i hi => Nat.le_trans (hb0 t ht i hi) (Nat.le_trans (bulk_part (by simp)) hk)) hx1 hx2).mono fun e W' ⟨he, hn⟩ => ⟨_, he, ?_⟩
  refine post_true laidOut (by kernel_rfl) (tb := 4) (by kernel_rfl) Tryz.underlying4 rfl (fun ds hd => ?_) hW' hn
  rw [show Tryz.f4.params.size = 3 by kernel_rfl] at hd
  match ds, hd with
  | [a0, a1, a2], _ => rfl

abbrev atArgs : Array Value := #[.agg #[.slice none 0 0, .slice none 0 0], .slice none 0 0, .string ⟨#[]⟩]
theorem reads (os : Os) {H : Type} (enc : TypeId × Value → H) : ∃ places, DataW.whole enc Tryz.prog ((laidWorld os).forCall (fun _ _ => 0) ⟨#[], atArgs, []⟩).memory Tryz.f4.params.toList Rows.showBackSpec.vars false atArgs.toList 8 = some ([.agg [.nil, .nil], .nil, .lit (.string [])], [], places) :=
  ⟨[], by kernel_rfl⟩
theorem met (os : Os) : laidMet Tryz.prog Rows.showBackUptoRow.laid ((laidWorld os).forCall (fun _ _ => 0) ⟨#[], atArgs, []⟩).memory :=
  laidMet_by 8 (by kernel_rfl) (by kernel_rfl) (by kernel_rfl)

theorem lifted (os : Os) (started : os.Started) (H : Type) (enc : TypeId × Value → H) (F : Stop.Interp) :
    ReturnsInHanded {} Tryz.checked os 4 .any ((Rows.OpenSpec.upto Rows.showBackSpec).preRow enc Tryz.prog Tryz.f4 Rows.showBackUptoRow.domain false Rows.showBackUptoRow.laid) (((Rows.OpenSpec.upto Rows.showBackSpec).at F).post enc Tryz.prog Tryz.f4 false true false false) := by
  obtain ⟨places, hx⟩ := reads os enc
  refine returnsInHanded_of_row (C := Tryz.checked) (s := (Rows.OpenSpec.upto Rows.showBackSpec)) own started (by kernel_rfl) Tryz.func4
    (witness_row_atRef (enc := enc) (C := Tryz.checked) false (laidWorld os) atArgs rfl (by kernel_rfl) (by kernel_rfl) (by kernel_rfl)
      (OpenSpec.preRow_of_cond 8 hx (by kernel_rfl) (fun k hk => by cases hk; kernel_rfl) (by kernel_rfl) (met os))) ?_
  intro W base args ds gs before hval hW _ hcond _ hlaid hsh _
  exact contract H enc W (stab_of_laid hlaid hsh (by kernel_rfl) (by kernel_rfl) (by kernel_rfl) (by kernel_rfl)) args ds gs before (fun j t v h1 h2 => ⟨base, hval j t v h1 h2⟩) hW (of_decide_eq_true (hcond _ rfl))

theorem fact1 : (Rows.showBackUptoRow.inPlace == Tryz.pinned.checked.prog.inPlace 4) = true := by kernel_rfl
theorem fact2 : (Rows.showBackUptoRow.unfollowed == Tryz.pinned.checked.prog.unfollowed 4) = true := by kernel_rfl
theorem fact3 : (Rows.showBackUptoRow.recurses == Tryz.pinned.checked.prog.recurses 4) = true := by kernel_rfl
theorem fact4 : (Rows.showBackUptoRow.named == Tryz.pinned.checked.prog.varsNamed 4) = true := by kernel_rfl
theorem fact5 : (Rows.showBackUptoRow.plainKeys == Tryz.pinned.checked.prog.plainKeys) = true := by kernel_rfl
theorem fact6 : laidOutB Tryz.pinned.checked.prog = true := by kernel_rfl
theorem fact7 : mapsRowed Tryz.pinned.checked.prog = true := by kernel_rfl
theorem closed : joinedFacts Tryz.pinned.checked.prog 4 Tryz.f4 (Rows.OpenSpec.upto Rows.showBackSpec).bare Rows.showBackUptoRow = true := by
  unfold joinedFacts
  rw [fact1, fact2, fact3, fact4, fact5, fact6, fact7]
  kernel_rfl
theorem named_ : Tryz.pinned.checked.prog.funcNamed Rows.showBackUptoRow.func = some 4 := by kernel_rfl
theorem wrap_ : Tryz.f4.isWrapper Tryz.pinned.checked.prog Rows.showBackUptoRow.wrapper Rows.showBackUptoRow.mainSum := by
  unfold Func.isWrapper; first | (rw [if_pos (by decide +kernel)]; kernel_rfl) | (rw [if_neg (by decide +kernel)]; exact ⟨rfl, rfl⟩)
theorem said : Rows.ShowBackUptoSaid :=
  OpenClaim.holds_of_cond 4 Tryz.f4 rfl rfl rfl rfl rfl rfl rfl ⟨rfl, rfl, rfl, rfl, rfl⟩ rfl rfl rfl rfl rfl named_ Tryz.func4 closed
    (of_decide_eq_true (by kernel_rfl)) wrap_
    (fun os started H enc _ F => by rw [OpenClaim.pre_eq_preRow]; exact lifted os started H enc F)

theorem plain (f : FuncId) (fn : Func) (hf : Tryz.pinned.checked.prog.funcNamed "amanuensis/amanuensislaw24.ShowBack" = some f) (hfn : Tryz.pinned.checked.prog.funcs[f]? = some fn) :
    true = Tryz.pinned.checked.prog.looks [] ∧ ∀ (j : Nat) t, fn.params[j]? = some t → Tryz.pinned.checked.prog.wantsStandIn t = false := by
  obtain rfl : f = 4 := Option.some.inj ((show Tryz.prog.funcNamed "amanuensis/amanuensislaw24.ShowBack" = some 4 by kernel_rfl).symm.trans hf) |>.symm
  obtain rfl : fn = Tryz.f4 := (Option.some.inj (Tryz.func4.symm.trans hfn)).symm
  refine ⟨by kernel_rfl, fun j t ht => ?_⟩
  have hall : (Tryz.f4.params.all fun t => !Tryz.prog.wantsStandIn t) = true := by kernel_rfl
  have := Array.all_eq_true_iff_forall_mem.1 hall t (Array.mem_of_getElem? ht)
  have h2 : Tryz.prog.wantsStandIn t = false := by simpa using this
  exact h2

theorem cw : Rows.showBackUptoRow.wfByText (Rows.OpenSpec.upto Rows.showBackSpec) = true := by kernel_rfl
theorem cm : Tryz.pinned.checked.prog.mainIs = some (Rows.showBackUptoCard.stood.harness.1, Rows.showBackUptoCard.stood.harness.2.toList) := by kernel_rfl
theorem cg : false = Rows.showBackUptoRow.goesBy Tryz.pinned.checked.prog := by kernel_rfl
theorem card : Rows.ShowBackUptoCardSaid :=
  Claim7.holds_tied_plain_at .later [] _ _ _ _ said (fun _ h => by cases h) cw (fun _ h => by cases h) showBackUpto_row_tie rfl ⟨rfl, rfl⟩ cm rfl plain cg
end Go.Proofs.YtcmaedoolinijaaGreatDoor.ShowBack
