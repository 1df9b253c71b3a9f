/-
  Two disks behind the same script.
-/
import Derived.Test.YtihagdadbeoeoaaDoorAlike
namespace Go.Proofs.YtihagdadbeoeoaaDoor
open Go Go.RowKit Go.Sort
set_option maxRecDepth 100000
set_option maxHeartbeats 1600000

theorem isOp.nw {W w : World} {cs : List Value} {o : OpR} (h : isOp W cs o) (hw : Nw W w) : isOp w cs o := by
  obtain ⟨vb, vk, h1, h2, h3, h4, h5, h6, h7⟩ := h
  exact ⟨vb, vk, h1, h2.nw hw, h3.nw hw, h4, h5, h6, h7⟩
theorem RdK.imp {α : Type} {k : Nat} {R R' : List Value → α → Prop} {w : World} {v : Value} {l : List α} (h : RdK k R w v l) (hi : ∀ cs x, R cs x → R' cs x) : RdK k R' w v l := by
  rcases h with h | ⟨g, o, cap, rfl, h1, h2, hg, h3⟩
  · exact .inl h
  · refine .inr ⟨g, o, cap, rfl, h1, h2, hg, fun i hi' => ?_⟩
    obtain ⟨cs, hk, hc, hr⟩ := h3 i hi'
    exact ⟨cs, hk, hc, hi _ _ hr⟩

def Dsk.step (d : Dsk) (o : OpR) : Dsk := if o.small then (d.does o).1 else d
def Dsk.plays (d : Dsk) (l : List OpR) : Dsk := l.foldl Dsk.step d
theorem plays_succ (d : Dsk) (l : List OpR) (k : Nat) (h : k < l.length) : d.plays (l.take (k + 1)) = (d.plays (l.take k)).step l[k] := by
  unfold Dsk.plays
  rw [List.take_succ_eq_append_getElem h, List.foldl_append]
  rfl

/-- The cells of an element that is a call. -/
theorem op_cells {W w : World} {g o : Nat} {cs : List Value} {x : OpR} {vb vk : Value} (ho : OpIs W cs x vb vk) (hc : ∀ j (hj : j < cs.length), w.cell? ⟨g, o + j, none⟩ = some cs[j]) :
    w.cell? ⟨g, o, none⟩ = some (.int .i64 x.kind) ∧ w.cell? ⟨g, o + 1, none⟩ = some (.int .i64 x.n) ∧ w.cell? ⟨g, o + 2, none⟩ = some (.string ⟨x.name.toArray⟩) ∧ w.cell? ⟨g, o + 3, none⟩ = some (.string ⟨x.tgt.toArray⟩) ∧
    w.cell? ⟨g, o + 4, none⟩ = some vb ∧ w.cell? ⟨g, o + 5, none⟩ = some vk := by
  have e := ho.cells
  subst e
  exact ⟨hc 0 (by simp), hc 1 (by simp), hc 2 (by simp), hc 3 (by simp), hc 4 (by simp), hc 5 (by simp)⟩

theorem small_op {w0 w : World} {o : OpR} {cs : List Value} {vb vk : Value} (ho : OpIs w0 cs o vb vk) :
    Calls Tryd.prog 43 #[.agg #[.int .i64 o.kind, .int .i64 o.n, .string ⟨o.name.toArray⟩, .string ⟨o.tgt.toArray⟩, vb, vk]] w fun e w' => e = .returned (.bool o.small) ∧ Nw w w' := by
  have := small_ok (w := w) o cs vb vk ho
  rw [ho.cells] at this
  exact this
theorem does_op {X : Nat → Prop} {w0 w : World} {b : Nat} {d d' : Dsk} (h : HasX X w0 w b d) {o : OpR} {cs : List Value} {vb vk : Value} (ho : OpIs w0 cs o vb vk) (hs : o.small = true) {x : Int} (hr : d.does o = (d', x)) :
    Calls Tryd.prog 44 #[.pointer (some ⟨b, 0, none⟩), .agg #[.int .i64 o.kind, .int .i64 o.n, .string ⟨o.name.toArray⟩, .string ⟨o.tgt.toArray⟩, vb, vk]] w (DidX X w0 w b d' (.int .i64 x)) := by
  have := does_ok h o cs vb vk ho hs hr
  rw [ho.cells] at this
  exact this

theorem played_ok (w : World) (v : Value) (most : Int) (ops : List OpR) (h0 : 0 ≤ most) (h1 : most ≤ 16777216) (ho : RdK 6 (isOp w) w v ops) :
    Calls Tryd.prog 45 #[.int .i64 most, v] w fun e w' => ∃ a b, e = .returned (.tuple #[.pointer (some ⟨a, 0, none⟩), .pointer (some ⟨b, 0, none⟩)]) ∧
      Two (fun _ => False) w w' a ((newDsk most).plays (ops.take 50)) b ((newDsk most).plays (ops.take 50)) := by
  obtain ⟨sa, cap, rfl, hc1, hc2, hel⟩ := ho.len
  have HE := Lib.hid hel
  clear ho hel
  unfold maxLen at hc2
  go_enter Tryd.func45, Tryd.ntmps45
  go_wp2_with fail
  refine (HasX.new most _ h0 h1).mono ?_
  rintro e w1 ⟨a, rfl, H1⟩
  have H1 := Lib.hid H1
  go_wp2_with fail
  refine (HasX.new most _ h0 h1).mono ?_
  rintro e w2 ⟨b, rfl, H2⟩
  have T2 := Lib.hid (Two.of_new H1.out H2)
  clear H2 H1
  go_wp2
  go_loopw [10] (fun i wr => ∃ k : Nat, k ≤ ops.length ∧ k ≤ 50 ∧ i = .int .i64 k ∧ Two (fun _ => False) w wr a ((newDsk most).plays (ops.take k)) b ((newDsk most).plays (ops.take k))) (fun i _ => ops.length - (intOf i).toNat)
  case atStart => exact ⟨0, Nat.zero_le _, by omega, rfl, T2.out⟩
  case round =>
    obtain ⟨k, hk, hk5, rfl, hT⟩ := hrel
    have HT := Lib.hid hT
    clear hT
    by_cases hlt : k < ops.length
    · by_cases hlt5 : k < 50
      · obtain ⟨g, o, rfl, hg, cs, hcl, hcc, hop⟩ := HE.out k hlt
        have hs := plays_succ (newDsk most) ops k hlt
        generalize ops[k] = x at *
        generalize hD : (newDsk most).plays (ops.take k) = D at *
        have HS := Lib.hid hs
        obtain ⟨vb, vk, hop⟩ := hop
        have HO := Lib.hid hop
        obtain ⟨c0, c1, c2, c3, c4, c5⟩ := op_cells hop (fun j hj => HT.out.base.cell (hcc j hj))
        have HC := Lib.hid (fun w' (hw : Nw w w') => op_cells hop (fun j hj => hw.cell (hcc j hj)))
        clear hs hD hcc hop
        go_wp2_with fail
        refine (small_op HO.out).mono ?_
        rintro e w3 ⟨rfl, n3⟩
        have T3 := Lib.hid (HT.out.nw n3)
        clear n3 c0 c1 c2 c3 c4 c5
        cases hsm : x.small
        case true =>
          obtain ⟨D', y, hr⟩ : ∃ D' y, D.does x = (D', y) := ⟨_, _, rfl⟩
          have hD' : D.step x = D' := by simp [Dsk.step, hsm, hr]
          have HR := Lib.hid hr
          have HD' := Lib.hid hD'
          have HSM := Lib.hid hsm
          clear hr hD' hsm
          obtain ⟨c0, c1, c2, c3, c4, c5⟩ := HC.out _ T3.out.base
          go_wp2_with fail
          refine (T3.out.step (fun Y _ hY => does_op hY HO.out HSM.out HR.out)).mono ?_
          rintro e w4 ⟨rfl, T4, -⟩
          have T4 := Lib.hid T4
          clear c0 c1 c2 c3 c4 c5
          obtain ⟨c0, c1, c2, c3, c4, c5⟩ := HC.out _ T4.out.base
          go_wp2_with fail
          refine (T4.out.symm.step (fun Y _ hY => does_op hY HO.out HSM.out HR.out)).mono ?_
          rintro e w5 ⟨rfl, T5, -⟩
          have T5 := Lib.hid T5
          clear c0 c1 c2 c3 c4 c5
          go_wp2
          go_roundw
          case rel => exact ⟨k + 1, by omega, by omega, by go_num, by rw [HS.out, HD'.out]; exact T5.out.symm⟩
          case measure => simp [intOf]; omega
        case false =>
          have hD' : D.step x = D := by simp [Dsk.step, hsm]
          have HD' := Lib.hid hD'
          clear hsm hD'
          go_wp2
          go_roundw
          case rel => exact ⟨k + 1, by omega, by omega, by go_num, by rw [HS.out, HD'.out]; exact T3.out⟩
          case measure => simp [intOf]; omega
      · have e : ops.take 50 = ops.take k := by rw [show k = 50 by omega]
        have E := Lib.hid e
        clear e
        have f1 : decide ((k : Int) < 50) = false := by simp; omega
        go_wp2
        go_ret2
        exact ⟨_, _, rfl, by rw [E.out]; exact HT.out⟩
    · have e : ops.take 50 = ops.take k := by
        rw [List.take_of_length_le (by omega), List.take_of_length_le (by omega)]
      have E := Lib.hid e
      clear e
      go_wp2
      go_ret2
      exact ⟨_, _, rfl, by rw [E.out]; exact HT.out⟩
end Go.Proofs.YtihagdadbeoeoaaDoor
