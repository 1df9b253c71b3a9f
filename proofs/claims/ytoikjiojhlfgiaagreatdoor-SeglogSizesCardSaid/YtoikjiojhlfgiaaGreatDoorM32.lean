/-
  Texts merged by a program of this claim's: Rgn.
-/
import Derived.Test.YtoikjiojhlfgiaaGreatDoorM17
/-
  Program-independent: a drawn region's steps over a frame that is told by the list of what was put into it (puts A l): each operation is reckoned from the few slots that it reads; guarded ones, and calls, likewise.
-/
namespace Go.Proofs.YtoikjiojhlfgiaaGreatDoor
open Go Go.RowKit
def puts (A : Act) : List (Nat × Value) → Act
  | [] => A
  | (d, v) :: l => (puts A l).put (some d) v
def seek : List (Nat × Value) → Nat → Option Value
  | [], _ => none
  | (d, v) :: l, t => bif Nat.beq d t then some v else seek l t
section
variable {A : Act} {l : List (Nat × Value)} {t : Nat} {v : Value}
theorem puts_size : ∀ l : List (Nat × Value), (puts A l).tmps.size = A.tmps.size
  | [] => rfl
  | (d, v) :: l => by simp [puts, Act.put, puts_size l]
theorem get_hit : ∀ {l : List (Nat × Value)}, seek l t = some v → t < A.tmps.size → (puts A l).tmps[t]? = some v
  | [], h, _ => by cases h
  | (d, u) :: l, h, ht => by
    unfold seek at h
    by_cases e : d = t
    · subst e
      rw [show Nat.beq d d = true by simp] at h
      simp only [cond_true, Option.some.injEq] at h
      subst h
      simp [puts, Act.put, puts_size l, ht]
    · rw [show Nat.beq d t = false by cases h0 : Nat.beq d t with | false => rfl | true => exact absurd (Nat.eq_of_beq_eq_true h0) e] at h
      simp only [cond_false] at h
      have := get_hit h ht
      simp only [puts]
      rw [put_at e]; exact this
theorem get_old : ∀ {l : List (Nat × Value)}, seek l t = none → A.tmps[t]? = some v → (puts A l).tmps[t]? = some v
  | [], _, ho => ho
  | (d, u) :: l, h, ho => by
    unfold seek at h
    by_cases e : d = t
    · subst e
      rw [show Nat.beq d d = true by simp] at h
      cases h
    · rw [show Nat.beq d t = false by cases h0 : Nat.beq d t with | false => rfl | true => exact absurd (Nat.eq_of_beq_eq_true h0) e] at h
      simp only [cond_false] at h
      simp only [puts]
      rw [put_at e]; exact get_old h ho
theorem eval_of {a : Act} (h : a.tmps[t]? = some v) : a.eval (.tmp t) = v := by
  unfold Act.eval
  simp only [Array.getD_eq_getD_getElem?, h, Option.getD_some]
variable {P : Program} {L : List Oper} {C : World → Prop} {Q : Exit → Act → World → Prop} {K : Act → World → Prop} {w : World} {i : Nat} {st : List Stp} {o : Oper} {d : Nat}
theorem w_none {f : Nat → Option Bool} (h : o.guard = none) : Region.wanted o f = true := by unfold Region.wanted; rw [h]
abbrev Consts (ρ : Operand → Value) : Prop := (∀ c, ρ (.const c) = c) ∧ (∀ f, ρ (.func f) = .func (.func f) #[] #[])
theorem rgn_rd (v : Value) (fs : List (Nat × Value)) (ho : L[i]? = some o) (hd : o.dst = some d) (hg : Region.wanted o (yielded L.toArray (puts A l).tmps) = true) (hf : ∀ x ∈ fs, (puts A l).tmps[x.1]? = some x.2)
    (hv : ∀ ρ : Operand → Value, (∀ x ∈ fs, ρ (.tmp x.1) = x.2) → Consts ρ → ∀ w, C w → (execOp ρ o).run P w = .ok (.value v) w) (h : wpSteps P L.toArray C Q K st (puts A ((d, v) :: l)) w) : wpSteps P L.toArray C Q K (.rd i :: st) (puts A l) w :=
  stp_val v ho hd hg (hv _ (fun x hx => eval_of (hf x hx)) ⟨fun _ => rfl, fun _ => rfl⟩) h
theorem rgn_rd0 (v : Value) (ho : L[i]? = some o) (hd : o.dst = some d) (hg : Region.wanted o (yielded L.toArray (puts A l).tmps) = true)
    (hv : ∀ ρ : Operand → Value, Consts ρ → ∀ w, C w → (execOp ρ o).run P w = .ok (.value v) w) (h : wpSteps P L.toArray C Q K st (puts A ((d, v) :: l)) w) : wpSteps P L.toArray C Q K (.rd i :: st) (puts A l) w :=
  stp_val v ho hd hg (hv _ ⟨fun _ => rfl, fun _ => rfl⟩) h
theorem rgn_rd1 {t1 : Nat} {v1 : Value} (v : Value) (ho : L[i]? = some o) (hd : o.dst = some d) (hg : Region.wanted o (yielded L.toArray (puts A l).tmps) = true) (f1 : (puts A l).tmps[t1]? = some v1)
    (hv : ∀ ρ : Operand → Value, ρ (.tmp t1) = v1 → Consts ρ → ∀ w, C w → (execOp ρ o).run P w = .ok (.value v) w) (h : wpSteps P L.toArray C Q K st (puts A ((d, v) :: l)) w) : wpSteps P L.toArray C Q K (.rd i :: st) (puts A l) w :=
  stp_val v ho hd hg (hv _ (eval_of f1) ⟨fun _ => rfl, fun _ => rfl⟩) h
theorem rgn_rd2 {t1 t2 : Nat} {v1 v2 : Value} (v : Value) (ho : L[i]? = some o) (hd : o.dst = some d) (hg : Region.wanted o (yielded L.toArray (puts A l).tmps) = true) (f1 : (puts A l).tmps[t1]? = some v1) (f2 : (puts A l).tmps[t2]? = some v2)
    (hv : ∀ ρ : Operand → Value, ρ (.tmp t1) = v1 → ρ (.tmp t2) = v2 → Consts ρ → ∀ w, C w → (execOp ρ o).run P w = .ok (.value v) w) (h : wpSteps P L.toArray C Q K st (puts A ((d, v) :: l)) w) : wpSteps P L.toArray C Q K (.rd i :: st) (puts A l) w :=
  stp_val v ho hd hg (hv _ (eval_of f1) (eval_of f2) ⟨fun _ => rfl, fun _ => rfl⟩) h
theorem rgn_no (ho : L[i]? = some o) (hd : o.dst = some d) (hw : Region.wanted o (yielded L.toArray (puts A l).tmps) = false) (h : wpSteps P L.toArray C Q K st (puts A ((d, undef) :: l)) w) : wpSteps P L.toArray C Q K (.rd i :: st) (puts A l) w :=
  stp_no ho hd hw h
theorem rgn_dn_no (ho : L[i]? = some o) (hd : o.dst = some d) (hw : Region.wanted o (yielded L.toArray (puts A l).tmps) = false) (hC : C w) (h : wpSteps P L.toArray C Q K st (puts A ((d, undef) :: l)) w) : wpSteps P L.toArray C Q K (.dn i :: st) (puts A l) w :=
  stp_dn_no ho hd hw hC h
/-- A call. -/
theorem rgn_call {f : FuncId} {args : Array Value} {R : Ending → World → Prop} (fs : List (Nat × Value)) (ho : L[i]? = some o) (hd : o.dst = some d) (hg : Region.wanted o (yielded L.toArray (puts A l).tmps) = true) (hf : ∀ x ∈ fs, (puts A l).tmps[x.1]? = some x.2)
    (hv : ∀ ρ : Operand → Value, (∀ x ∈ fs, ρ (.tmp x.1) = x.2) → Consts ρ → (execOp ρ o).run P w = .ok (.enter f args) w) (hc : Calls P f args w R)
    (h : ∀ e w', R e w' → ∃ v, e = .returned v ∧ C w' ∧ wpSteps P L.toArray C Q K st (puts A ((d, v) :: l)) w') : wpSteps P L.toArray C Q K (.dn i :: st) (puts A l) w := by
  simp only [wpSteps, wpOp, at_list ho]
  rw [if_pos hg]
  refine .inl ?_
  unfold Oper.wp
  rw [hv _ (fun x hx => eval_of (hf x hx)) ⟨fun _ => rfl, fun _ => rfl⟩]
  simp only [Oper.upon]
  refine hc.mono fun e w' hr => ?_
  obtain ⟨v, rfl, h1, h2⟩ := h e w' hr
  rw [hd]
  exact ⟨h1, h2⟩
/-- The last operation, which only reckons. -/
theorem rgn_end {n : Nat} (v : Value) (fs : List (Nat × Value)) (ho : L[i]? = some o) (hd : o.dst = some d) (hg : Region.wanted o (yielded L.toArray (puts A l).tmps) = true) (hin : ¬ i < n) (hf : ∀ x ∈ fs, (puts A l).tmps[x.1]? = some x.2)
    (hv : ∀ ρ : Operand → Value, (∀ x ∈ fs, ρ (.tmp x.1) = x.2) → Consts ρ → (execOp ρ o).run P w = .ok (.value v) w) (h : Q .normal (puts A ((d, v) :: l)) w) :
    wpSteps P L.toArray C Q (fun a' w' => wpNums P L.toArray C n Q [i] a' w') [] (puts A l) w :=
  wpSteps_nil (stp_num_val v ho hd hg hin (hv _ (fun x hx => eval_of (hf x hx)) ⟨fun _ => rfl, fun _ => rfl⟩) (wpNums_nil h))
theorem name_frame {c : Code} {a : Act} (h : ∀ B : Act, B = a → Code.wp P c Q (puts B []) w) : Code.wp P c Q a w := h a rfl
end
end Go.Proofs.YtoikjiojhlfgiaaGreatDoor
