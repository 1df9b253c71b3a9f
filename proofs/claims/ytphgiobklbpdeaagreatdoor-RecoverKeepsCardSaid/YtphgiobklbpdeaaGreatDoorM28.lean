/-
  Texts merged by a program of this claim's: Grd.
-/
import Derived.Test.YtphgiobklbpdeaaGreatDoorM27
/-
  Program-independent: guarded operations of a drawn region's steps, over a frame that is told by a fact (A = ..): what a guard leaves out, what it lets in.
-/
namespace Go.Proofs.YtphgiobklbpdeaaGreatDoor
open Go Go.RowKit
section
variable {P : Program} {L : List Oper} {C : World → Prop} {Q : Exit → Act → World → Prop}
theorem yielded_at {tmps : Array Value} {j dj : Nat} {oj : Oper} {x : Bool} (hj : L[j]? = some oj) (hjd : oj.dst = some dj) (hy : tmps[dj]? = some (.bool x)) : yielded L.toArray tmps j = some x := by
  unfold yielded
  rw [at_list hj]
  simp only [Option.bind_some, hjd, hy]
theorem wanted_no {o oj : Oper} {tmps : Array Value} {j dj : Nat} {b : Bool} (hg : o.guard = some (j, b)) (hj : L[j]? = some oj) (hjd : oj.dst = some dj) (hy : tmps[dj]? = some (.bool (!b))) : Region.wanted o (yielded L.toArray tmps) = false := by
  unfold Region.wanted
  rw [hg]
  simp only [yielded_at hj hjd hy]
  cases b <;> rfl
theorem wanted_yes {o oj : Oper} {tmps : Array Value} {j dj : Nat} {b : Bool} (hg : o.guard = some (j, b)) (hj : L[j]? = some oj) (hjd : oj.dst = some dj) (hy : tmps[dj]? = some (.bool b)) : Region.wanted o (yielded L.toArray tmps) = true := by
  unfold Region.wanted
  rw [hg]
  simp only [yielded_at hj hjd hy]
  cases b <;> rfl
theorem put_at {a : Act} {d dj : Nat} {v : Value} (h : d ≠ dj) : (a.put (some d) v).tmps[dj]? = a.tmps[dj]? := by
  simp [Act.put, h]
/-- A read that a guard leaves out. -/
theorem stp_skip {K : Act → World → Prop} {a : Act} {w : World} {i : Nat} {l : List Stp} {o oj : Oper} {d j dj : Nat} {b : Bool} (ho : L[i]? = some o) (hd : o.dst = some d) (hg : o.guard = some (j, b)) (hj : L[j]? = some oj) (hjd : oj.dst = some dj)
    (hy : a.tmps[dj]? = some (.bool (!b))) (h : wpSteps P L.toArray C Q K l (a.put (some d) undef) w) : wpSteps P L.toArray C Q K (.rd i :: l) a w :=
  stp_no ho hd (wanted_no hg hj hjd hy) h
/-- A read that a guard lets in, and yields v. -/
theorem stp_in {K : Act → World → Prop} {a : Act} {w : World} {i : Nat} {l : List Stp} {o oj : Oper} {d j dj : Nat} {b : Bool} (v : Value) (ho : L[i]? = some o) (hd : o.dst = some d) (hg : o.guard = some (j, b)) (hj : L[j]? = some oj) (hjd : oj.dst = some dj)
    (hy : a.tmps[dj]? = some (.bool b)) (hv : ∀ w, C w → (execOp a.eval o).run P w = .ok (.value v) w) (h : wpSteps P L.toArray C Q K l (a.put (some d) v) w) : wpSteps P L.toArray C Q K (.rd i :: l) a w :=
  stp_val v ho hd (wanted_yes hg hj hjd hy) hv h
/-- The last one; the frame to be written out ahead of the tail. -/
theorem stp_skip_end {K : Act → World → Prop} {a : Act} {w : World} {i : Nat} {o oj : Oper} {d j dj : Nat} {b : Bool} (ho : L[i]? = some o) (hd : o.dst = some d) (hg : o.guard = some (j, b)) (hj : L[j]? = some oj) (hjd : oj.dst = some dj)
    (hy : a.tmps[dj]? = some (.bool (!b))) (h : ∀ K' : Act → World → Prop, (∀ a w, K a w → K' a w) → K' (a.put (some d) undef) w) : wpSteps P L.toArray C Q K [.rd i] a w :=
  stp_skip ho hd hg hj hjd hy (wpSteps_nil (h K fun _ _ h => h))
theorem stp_in_end {K : Act → World → Prop} {a : Act} {w : World} {i : Nat} {o oj : Oper} {d j dj : Nat} {b : Bool} (v : Value) (ho : L[i]? = some o) (hd : o.dst = some d) (hg : o.guard = some (j, b)) (hj : L[j]? = some oj) (hjd : oj.dst = some dj)
    (hy : a.tmps[dj]? = some (.bool b)) (hv : ∀ w, C w → (execOp a.eval o).run P w = .ok (.value v) w) (h : ∀ K' : Act → World → Prop, (∀ a w, K a w → K' a w) → K' (a.put (some d) v) w) : wpSteps P L.toArray C Q K [.rd i] a w :=
  stp_in v ho hd hg hj hjd hy hv (wpSteps_nil (h K fun _ _ h => h))
/-- .. one without a guard. -/
theorem stp_un {K : Act → World → Prop} {a : Act} {w : World} {i : Nat} {l : List Stp} {o : Oper} {d : Nat} (v : Value) (ho : L[i]? = some o) (hd : o.dst = some d) (hg : o.guard = none)
    (hv : ∀ w, C w → (execOp a.eval o).run P w = .ok (.value v) w) (h : wpSteps P L.toArray C Q K l (a.put (some d) v) w) : wpSteps P L.toArray C Q K (.rd i :: l) a w :=
  stp_val v ho hd (by unfold Region.wanted; rw [hg]) hv h
end
end Go.Proofs.YtphgiobklbpdeaaGreatDoor
