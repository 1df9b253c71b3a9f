/-
  Program-independent: a drawn region that calls in one order, and reads and reckons besides: walked in a list of steps: 'rd i': operation i only reads, in every world of the class (it may be taken whenever it may come); 'dn i': operation i is the only one that may come. Behind them a tail (from n on), in the text's order.
-/
import Derived.Test.YtihagdadbeoeoaaDoorReg
namespace Go.Proofs.YtihagdadbeoeoaaDoor
open Go Go.RowKit

inductive Stp where
  | rd (i : Nat)
  | dn (i : Nat)

section
variable {P : Program} {ops : Array Oper} {md : Region.Mode} {C : World → Prop} {Q : Exit → Act → World → Prop}
def wpSteps (P : Program) (ops : Array Oper) (C : World → Prop) (Q : Exit → Act → World → Prop) (K : Act → World → Prop) : List Stp → Act → World → Prop
  | [], a, w => K a w
  | .rd i :: l, a, w => match ops[i]? with
    | none => False
    | some o => if Region.wanted o (yielded ops a.tmps) then Oper.reads P o a C (fun a' => wpSteps P ops C Q K l a' w) else wpSteps P ops C Q K l (a.put o.dst undef) w
  | .dn i :: l, a, w => wpOp P ops Q i (fun a' w' => C w' ∧ wpSteps P ops C Q K l a' w') a w
def Region.stepsB (md : Region.Mode) (ops : Array Oper) (n : Nat) (r : List Nat) : List Stp → Array Bool → Bool
  | [], listed => Region.numsB md ops r listed
  | .rd i :: l, listed => decide (i < n) && (Region.ready md ops listed).contains i && Region.free md ops listed i && Region.stepsB md ops n r l (listed.setIfInBounds i true)
  | .dn i :: l, listed => decide (i < n) && decide (Region.ready md ops listed = [i]) && Region.stepsB md ops n r l (listed.setIfInBounds i true)

theorem wpAnyK_steps {n : Nat} (hsel : Region.noSelect ops = true) (hs : Region.sinkB md ops n = true) (hc : Region.chainB md ops n = true) (hn : n < ops.size)
    (hQ : ∀ (c : List PanicEntry) (a : Act) (d : Tmp) (v : Value) (w : World), Q (.panic c) (a.put (some d) v) w → Q (.panic c) a w) (r : List Nat) :
    ∀ (l : List Stp) (listed : Array Bool) (a : Act) (w : World), C w → HeadInv md ops n listed → Region.stepsB md ops n r l listed = true → wpSteps P ops C Q (fun a' w' => wpNums P ops C n Q r a' w') l a w →
      wpAnyK P md ops C n Q (l.length + r.length) listed a w
  | [], listed, a, w, _, _, hB, h => by rw [List.length_nil, Nat.zero_add]; exact wpAnyK_nums r listed a w hB h
  | .dn i :: l, listed, a, w, hC, inv, hB, h => by
    simp only [Region.stepsB, Bool.and_eq_true, decide_eq_true_eq] at hB
    rw [show (Stp.dn i :: l).length + r.length = (l.length + r.length) + 1 by simp only [List.length_cons]; omega]
    refine ⟨fun h1 => (by rw [hB.1.2] at h1; cases h1), fun j hj => ?_⟩
    have hji : j = i := by rw [hB.1.2] at hj; simpa using hj
    subst hji
    exact wpOp_mono (fun a' w' h' => ⟨fun _ => h'.1, wpAnyK_steps hsel hs hc hn hQ r l _ a' w' h'.1 (inv.set hj hB.1.1) hB.2 h'.2⟩) h
  | .rd i :: l, listed, a, w, hC, inv, hB, h => by
    simp only [Region.stepsB, Bool.and_eq_true, decide_eq_true_eq] at hB
    obtain ⟨⟨⟨hin, hr⟩, hf⟩, hB'⟩ := hB
    have hr' : i ∈ Region.ready md ops listed := by simpa using hr
    obtain ⟨hun, o, ho, _⟩ := mem_ready.1 hr'
    simp only [wpSteps, ho] at h
    have key : ∃ v, YieldsW P ops C o v a ∧ wpSteps P ops C Q (fun a' w' => wpNums P ops C n Q r a' w') l (a.put o.dst v) w := by
      by_cases hw : Region.wanted o (yielded ops a.tmps) = true
      · simp only [hw, if_true] at h
        obtain ⟨v, h1, h2⟩ := h
        exact ⟨v, .inl ⟨hw, h1⟩, h2⟩
      · simp only [hw] at h
        exact ⟨undef, .inr ⟨by simpa using hw, rfl⟩, h⟩
    obtain ⟨v, hy, hK⟩ := key
    rw [show (Stp.rd i :: l).length + r.length = (l.length + r.length) + 1 by simp only [List.length_cons]; omega]
    exact wpAnyK_first ho (Region.noSelect_spec hsel) (fun c a w h => by cases hdst : o.dst with | none => (rw [hdst] at h; exact h) | some d => (rw [hdst] at h; exact hQ c a d v w h)) hs hc hn hin (l.length + r.length) listed a w hC inv (Region.free_spec ho hf) hr' hy
      (wpAnyK_steps hsel hs hc hn hQ r l _ _ w hC (inv.set hr' hin) hB' hK)

def Region.stpB (ops : Array Oper) (n : Nat) (l : List Stp) (r : List Nat) : Bool :=
  Region.noSelect ops && decide (n < ops.size) && Region.sinkB .any ops n && Region.chainB .any ops n && decide (l.length + r.length = ops.size) && Region.stepsB .any ops n r l (Array.replicate ops.size false)

theorem wp_region_steps {id : Nat} {a : Act} {w : World} {l : List Oper} (n : Nat) (st : List Stp) (r : List Nat) (C : World → Prop) (hm : P.follows .mixedOrders = true) (hB : Region.stpB l.toArray n st r = true)
    (hQ : ∀ (c : List PanicEntry) (a : Act) (d : Tmp) (v : Value) (w : World), Q (.panic c) (a.put (some d) v) w → Q (.panic c) a w) (hC : C w.drew)
    (h : wpSteps P l.toArray C Q (fun a' w' => wpNums P l.toArray C n Q r a' w') st a w.drew) : (Code.region id l.toArray true).wp P Q a w := by
  simp only [Region.stpB, Bool.and_eq_true, decide_eq_true_eq] at hB
  obtain ⟨⟨⟨⟨⟨hsel, hn⟩, hs⟩, hc⟩, hlen⟩, hR⟩ := hB
  have inv0 : HeadInv .any l.toArray n (Array.replicate l.toArray.size false) :=
    ⟨by simp, fun j oj _ hl => (by rw [getD_replicate_false] at hl; cases hl), fun t _ ht => getD_in (by simpa using ht) (getD_replicate_false _ _)⟩
  have H := wpAnyK_steps (md := .any) hsel hs hc hn hQ r st _ a w.drew hC inv0 hR h
  have H' := wpAny_of_K _ _ _ _ H
  rw [hlen] at H'
  exact wp_region_any hm H'

/-! The steps of such a walk -/
theorem wpSteps_nil {K : Act → World → Prop} {a : Act} {w : World} (h : K a w) : wpSteps P ops C Q K [] a w := h
theorem wpSteps_rd {K : Act → World → Prop} {a : Act} {w : World} {i : Nat} {l : List Stp} {o : Oper} (ho : ops[i]? = some o)
    (h : ∀ K' : Act → Prop, (∀ a, wpSteps P ops C Q K l a w → K' a) → if Region.wanted o (yielded ops a.tmps) then Oper.reads P o a C K' else K' (a.put o.dst undef)) : wpSteps P ops C Q K (.rd i :: l) a w := by
  simp only [wpSteps, ho]; exact h _ (fun _ h => h)
theorem wpSteps_val {K : Act → World → Prop} {a : Act} {w : World} {i : Nat} {l : List Stp} {o : Oper} (v : Value) (ho : ops[i]? = some o) (hw : Region.wanted o (yielded ops a.tmps) = true)
    (hv : ∀ w, C w → (execOp a.eval o).run P w = .ok (.value v) w) (h : wpSteps P ops C Q K l (a.put o.dst v) w) : wpSteps P ops C Q K (.rd i :: l) a w := by
  simp only [wpSteps, ho, hw, if_true]; exact ⟨v, hv, h⟩
theorem wpSteps_dn {K : Act → World → Prop} {a : Act} {w : World} {i : Nat} {l : List Stp} {o : Oper} (ho : ops[i]? = some o)
    (h : ∀ K' : Act → World → Prop, (∀ a w, C w → wpSteps P ops C Q K l a w → K' a w) → wpList P ops (Exit.then K' Q) [o] a w) : wpSteps P ops C Q K (.dn i :: l) a w := by
  have h := h (fun a' w' => C w' ∧ wpSteps P ops C Q K l a' w') (fun a w h1 h2 => ⟨h1, h2⟩)
  simp only [wpSteps, wpOp, ho]
  simp only [wpList] at h
  split
  · rename_i hw
    rw [if_pos hw] at h
    rcases h with h | ⟨h1, h2⟩
    · refine .inl ?_
      unfold Oper.wp at *
      generalize (execOp a.eval o).run P w = r at *
      cases r with
      | ok n w' =>
        cases n <;> simp only [Oper.upon] at h ⊢
        case value u => exact h
        case skip => exact h
        case defer d => exact h
        case enter f args => exact Calls.mono h fun e w'' he => by cases e <;> exact he
        case row row args => exact h
      | halt x w' =>
        cases x <;> simp only [Oper.upon] at h ⊢
        case panic u => exact h
    · exact .inr ⟨h1, h2⟩
  · rename_i hw
    rw [if_neg hw] at h
    exact h
/-- Where no read looks into memory: every world is of the class. -/
theorem wp_region_calls {id : Nat} {a : Act} {w : World} {l : List Oper} (n : Nat) (st : List Stp) (r : List Nat) (hm : P.follows .mixedOrders = true) (hB : Region.stpB l.toArray n st r = true)
    (hQ : ∀ (c : List PanicEntry) (a : Act) (d : Tmp) (v : Value) (w : World), Q (.panic c) (a.put (some d) v) w → Q (.panic c) a w)
    (h : wpSteps P l.toArray (fun _ => True) Q (fun a' w' => wpNums P l.toArray (fun _ => True) n Q r a' w') st a w.drew) : (Code.region id l.toArray true).wp P Q a w :=
  wp_region_steps n st r (fun _ => True) hm hB hQ trivial h
end
end Go.Proofs.YtihagdadbeoeoaaDoor
