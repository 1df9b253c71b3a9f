/-
  Program-independent: the steps of a drawn region (Mix), each operation read off the list (so that the frame keeps short), and the slot that it writes named.
-/
import Derived.Test.YtihagdadbeoeoaaDoorMix
namespace Go.Proofs.YtihagdadbeoeoaaDoor
open Go Go.RowKit
section
variable {P : Program} {L : List Oper} {C : World → Prop} {Q : Exit → Act → World → Prop}
theorem at_list {i : Nat} {o : Oper} (h : L[i]? = some o) : L.toArray[i]? = some o := by simpa using h
/-- A read that yields v. -/
theorem stp_val {K : Act → World → Prop} {a : Act} {w : World} {i : Nat} {l : List Stp} {o : Oper} {d : Nat} (v : Value) (ho : L[i]? = some o) (hd : o.dst = some d) (hw : Region.wanted o (yielded L.toArray a.tmps) = true)
    (hv : ∀ w, C w → (execOp a.eval o).run P w = .ok (.value v) w) (h : wpSteps P L.toArray C Q K l (a.put (some d) v) w) : wpSteps P L.toArray C Q K (.rd i :: l) a w :=
  wpSteps_val v (at_list ho) hw hv (by rw [hd]; exact h)
/-- .. the frame to be written out ahead of the next one. -/
theorem stp_to {K : Act → World → Prop} {a : Act} {w : World} {i : Nat} {l : List Stp} {o : Oper} {d : Nat} (v : Value) (ho : L[i]? = some o) (hd : o.dst = some d) (hw : Region.wanted o (yielded L.toArray a.tmps) = true)
    (hv : ∀ w, C w → (execOp a.eval o).run P w = .ok (.value v) w) (h : ∀ K' : Act → Prop, (∀ a, wpSteps P L.toArray C Q K l a w → K' a) → K' (a.put (some d) v)) : wpSteps P L.toArray C Q K (.rd i :: l) a w :=
  stp_val v ho hd hw hv (h _ fun _ h => h)
theorem stp_not {K : Act → World → Prop} {a : Act} {w : World} {i : Nat} {l : List Stp} {o : Oper} {d : Nat} (ho : L[i]? = some o) (hd : o.dst = some d) (hw : Region.wanted o (yielded L.toArray a.tmps) = false)
    (h : ∀ K' : Act → Prop, (∀ a, wpSteps P L.toArray C Q K l a w → K' a) → K' (a.put (some d) undef)) : wpSteps P L.toArray C Q K (.rd i :: l) a w :=
  wpSteps_rd (at_list ho) fun K' hK' => by rw [if_neg (by rw [hw]; decide), hd]; exact h K' hK'
/-- A read that a guard leaves out. -/
theorem stp_no {K : Act → World → Prop} {a : Act} {w : World} {i : Nat} {l : List Stp} {o : Oper} {d : Nat} (ho : L[i]? = some o) (hd : o.dst = some d) (hw : Region.wanted o (yielded L.toArray a.tmps) = false)
    (h : wpSteps P L.toArray C Q K l (a.put (some d) undef) w) : wpSteps P L.toArray C Q K (.rd i :: l) a w :=
  wpSteps_rd (at_list ho) fun K' hK' => by rw [if_neg (by rw [hw]; decide), hd]; exact hK' _ h
/-- The one that may come. -/
theorem stp_dn {K : Act → World → Prop} {a : Act} {w : World} {i : Nat} {l : List Stp} {o : Oper} (ho : L[i]? = some o)
    (h : ∀ K' : Act → World → Prop, (∀ a w, C w → wpSteps P L.toArray C Q K l a w → K' a w) → wpList P L.toArray (Exit.then K' Q) [o] a w) : wpSteps P L.toArray C Q K (.dn i :: l) a w :=
  wpSteps_dn (at_list ho) h
/-- .. and a guard leaves it out. -/
theorem stp_dn_no {K : Act → World → Prop} {a : Act} {w : World} {i : Nat} {l : List Stp} {o : Oper} {d : Nat} (ho : L[i]? = some o) (hd : o.dst = some d) (hw : Region.wanted o (yielded L.toArray a.tmps) = false) (hC : C w)
    (h : wpSteps P L.toArray C Q K l (a.put (some d) undef) w) : wpSteps P L.toArray C Q K (.dn i :: l) a w := by
  simp only [wpSteps, wpOp, at_list ho]
  rw [if_neg (by rw [hw]; decide), hd]
  exact ⟨hC, h⟩
/-- The tail, one by one. -/
theorem stp_num {n : Nat} {a : Act} {w : World} {i : Nat} {l : List Nat} {o : Oper} (ho : L[i]? = some o)
    (h : wpList P L.toArray (Exit.then (fun a' w' => (i < n → C w') ∧ wpNums P L.toArray C n Q l a' w') Q) [o] a w) : wpNums P L.toArray C n Q (i :: l) a w :=
  wpNums_cons (at_list ho) h
theorem stp_do {n : Nat} {a : Act} {w : World} {i : Nat} {l : List Nat} {o : Oper} (ho : L[i]? = some o) (hin : ¬ i < n)
    (h : ∀ K' : Act → World → Prop, (∀ a w, wpNums P L.toArray C n Q l a w → K' a w) → wpList P L.toArray (Exit.then K' Q) [o] a w) : wpNums P L.toArray C n Q (i :: l) a w := by
  refine stp_num ho ?_
  exact h (fun a' w' => (i < n → C w') ∧ wpNums P L.toArray C n Q l a' w') (fun a w h => ⟨fun h' => absurd h' hin, h⟩)
/-- .. of which one only reckons. -/
theorem stp_num_val {n : Nat} {a : Act} {w : World} {i : Nat} {l : List Nat} {o : Oper} {d : Nat} (v : Value) (ho : L[i]? = some o) (hd : o.dst = some d) (hw : Region.wanted o (yielded L.toArray a.tmps) = true) (hin : ¬ i < n)
    (hv : (execOp a.eval o).run P w = .ok (.value v) w) (h : wpNums P L.toArray C n Q l (a.put (some d) v) w) : wpNums P L.toArray C n Q (i :: l) a w := by
  simp only [wpNums, wpOp, at_list ho]
  rw [if_pos hw]
  refine .inl ?_
  unfold Oper.wp
  rw [hv]
  simp only [Oper.upon, hd]
  exact ⟨fun h => absurd h hin, h⟩
theorem stp_num_no {n : Nat} {a : Act} {w : World} {i : Nat} {l : List Nat} {o : Oper} {d : Nat} (ho : L[i]? = some o) (hd : o.dst = some d) (hw : Region.wanted o (yielded L.toArray a.tmps) = false) (hin : ¬ i < n)
    (h : wpNums P L.toArray C n Q l (a.put (some d) undef) w) : wpNums P L.toArray C n Q (i :: l) a w := by
  simp only [wpNums, wpOp, at_list ho]
  rw [if_neg (by rw [hw]; decide), hd]
  exact ⟨fun h => absurd h hin, h⟩
end
end Go.Proofs.YtihagdadbeoeoaaDoor
