/-
  Texts merged by a program of this claim's: Fork.
-/
import Derived.Test.YtoikjiojhlfgiaaGreatDoorM15
/-
  Program-independent: a drawn region (Mix) in which, behind some reads, two operations may come in either order: both ways are walked.
-/
namespace Go.Proofs.YtoikjiojhlfgiaaGreatDoor
open Go Go.RowKit
section
variable {P : Program} {ops : Array Oper} {md : Region.Mode} {C : World → Prop} {Q : Exit → Act → World → Prop}
def Region.stepsF (md : Region.Mode) (ops : Array Oper) (n : Nat) (F : Array Bool → Bool) : List Stp → Array Bool → Bool
  | [], listed => F listed
  | .rd i :: l, listed => decide (i < n) && (Region.ready md ops listed).contains i && Region.free md ops listed i && Region.stepsF md ops n F l (listed.setIfInBounds i true)
  | .dn i :: l, listed => decide (i < n) && decide (Region.ready md ops listed = [i]) && Region.stepsF md ops n F l (listed.setIfInBounds i true)
theorem wpAnyK_stepsF {n g : Nat} {F : Array Bool → Bool} {K : Act → World → Prop} (hsel : Region.noSelect ops = true) (hs : Region.sinkB md ops n = true) (hc : Region.chainB md ops n = true) (hn : n < ops.size)
    (hQ : ∀ (c : List PanicEntry) (a : Act) (d : Tmp) (v : Value) (w : World), Q (.panic c) (a.put (some d) v) w → Q (.panic c) a w)
    (hK : ∀ listed a w, C w → HeadInv md ops n listed → F listed = true → K a w → wpAnyK P md ops C n Q g listed a w) :
    ∀ (l : List Stp) (listed : Array Bool) (a : Act) (w : World), C w → HeadInv md ops n listed → Region.stepsF md ops n F l listed = true → wpSteps P ops C Q K l a w →
      wpAnyK P md ops C n Q (l.length + g) listed a w
  | [], listed, a, w, hC, inv, hB, h => by rw [List.length_nil, Nat.zero_add]; exact hK listed a w hC inv hB h
  | .dn i :: l, listed, a, w, hC, inv, hB, h => by
    simp only [Region.stepsF, Bool.and_eq_true, decide_eq_true_eq] at hB
    rw [show (Stp.dn i :: l).length + g = (l.length + g) + 1 by simp only [List.length_cons]; omega]
    refine ⟨fun h1 => (by rw [hB.1.2] at h1; cases h1), fun j hj => ?_⟩
    have hji : j = i := by rw [hB.1.2] at hj; simpa using hj
    subst hji
    exact wpOp_mono (fun a' w' h' => ⟨fun _ => h'.1, wpAnyK_stepsF hsel hs hc hn hQ hK l _ a' w' h'.1 (inv.set hj hB.1.1) hB.2 h'.2⟩) h
  | .rd i :: l, listed, a, w, hC, inv, hB, h => by
    simp only [Region.stepsF, Bool.and_eq_true, decide_eq_true_eq] at hB
    obtain ⟨⟨⟨hin, hr⟩, hf⟩, hB'⟩ := hB
    have hr' : i ∈ Region.ready md ops listed := by simpa using hr
    obtain ⟨hun, o, ho, _⟩ := mem_ready.1 hr'
    simp only [wpSteps, ho] at h
    have key : ∃ v, YieldsW P ops C o v a ∧ wpSteps P ops C Q K l (a.put o.dst v) w := by
      by_cases hw : Region.wanted o (yielded ops a.tmps) = true
      · simp only [hw, if_true] at h
        obtain ⟨v, h1, h2⟩ := h
        exact ⟨v, .inl ⟨hw, h1⟩, h2⟩
      · simp only [hw] at h
        exact ⟨undef, .inr ⟨by simpa using hw, rfl⟩, h⟩
    obtain ⟨v, hy, hK'⟩ := key
    rw [show (Stp.rd i :: l).length + g = (l.length + g) + 1 by simp only [List.length_cons]; omega]
    exact wpAnyK_first ho (Region.noSelect_spec hsel) (fun c a w h => by cases hdst : o.dst with | none => (rw [hdst] at h; exact h) | some d => (rw [hdst] at h; exact hQ c a d v w h)) hs hc hn hin (l.length + g) listed a w hC inv (Region.free_spec ho hf) hr' hy
      (wpAnyK_stepsF hsel hs hc hn hQ hK l _ _ w hC (inv.set hr' hin) hB' hK')
/-- Two operations may come: what each of the ways asks. -/
def wpFork (P : Program) (ops : Array Oper) (C : World → Prop) (Q : Exit → Act → World → Prop) (K : Act → World → Prop) (i j : Nat) (s1 s2 : List Stp) (a : Act) (w : World) : Prop :=
  wpSteps P ops C Q K (.dn i :: s1) a w ∧ wpSteps P ops C Q K (.dn j :: s2) a w
def Region.forkB (md : Region.Mode) (ops : Array Oper) (n : Nat) (r : List Nat) (i j : Nat) (s1 s2 : List Stp) (listed : Array Bool) : Bool :=
  decide (i < n) && decide (j < n) && decide (Region.ready md ops listed = [i, j]) && decide (s1.length = s2.length) && Region.stepsB md ops n r s1 (listed.setIfInBounds i true) && Region.stepsB md ops n r s2 (listed.setIfInBounds j true)
theorem wpAnyK_fork {n : Nat} (hsel : Region.noSelect ops = true) (hs : Region.sinkB md ops n = true) (hc : Region.chainB md ops n = true) (hn : n < ops.size)
    (hQ : ∀ (c : List PanicEntry) (a : Act) (d : Tmp) (v : Value) (w : World), Q (.panic c) (a.put (some d) v) w → Q (.panic c) a w) (r : List Nat) (i j : Nat) (s1 s2 : List Stp) (listed : Array Bool) (a : Act) (w : World)
    (_hC : C w) (inv : HeadInv md ops n listed) (hB : Region.forkB md ops n r i j s1 s2 listed = true) (h : wpFork P ops C Q (fun a' w' => wpNums P ops C n Q r a' w') i j s1 s2 a w) : wpAnyK P md ops C n Q (s1.length + r.length + 1) listed a w := by
  simp only [Region.forkB, Bool.and_eq_true, decide_eq_true_eq] at hB
  obtain ⟨⟨⟨⟨⟨hi, hj⟩, hr⟩, hl⟩, h1⟩, h2⟩ := hB
  refine ⟨fun h0 => (by rw [hr] at h0; cases h0), fun k hk => ?_⟩
  have hkk : k = i ∨ k = j := by rw [hr] at hk; simpa using hk
  rcases hkk with rfl | rfl
  · exact wpOp_mono (fun a' w' h' => ⟨fun _ => h'.1, wpAnyK_steps hsel hs hc hn hQ r s1 _ a' w' h'.1 (inv.set hk hi) h1 h'.2⟩) h.1
  · rw [hl]
    exact wpOp_mono (fun a' w' h' => ⟨fun _ => h'.1, wpAnyK_steps hsel hs hc hn hQ r s2 _ a' w' h'.1 (inv.set hk hj) h2 h'.2⟩) h.2
def Region.fkB (ops : Array Oper) (n : Nat) (l : List Stp) (i j : Nat) (s1 s2 : List Stp) (r : List Nat) : Bool :=
  Region.noSelect ops && decide (n < ops.size) && Region.sinkB .any ops n && Region.chainB .any ops n && decide (l.length + (s1.length + r.length + 1) = ops.size) && Region.stepsF .any ops n (Region.forkB .any ops n r i j s1 s2) l (Array.replicate ops.size false)
theorem wp_region_fork {id : Nat} {a : Act} {w : World} {l : List Oper} (n : Nat) (st : List Stp) (i j : Nat) (s1 s2 : List Stp) (r : List Nat) (C : World → Prop) (hm : P.follows .mixedOrders = true) (hB : Region.fkB l.toArray n st i j s1 s2 r = true)
    (hQ : ∀ (c : List PanicEntry) (a : Act) (d : Tmp) (v : Value) (w : World), Q (.panic c) (a.put (some d) v) w → Q (.panic c) a w) (hC : C w.drew)
    (h : wpSteps P l.toArray C Q (wpFork P l.toArray C Q (fun a' w' => wpNums P l.toArray C n Q r a' w') i j s1 s2) st a w.drew) : (Code.region id l.toArray true).wp P Q a w := by
  simp only [Region.fkB, Bool.and_eq_true, decide_eq_true_eq] at hB
  obtain ⟨⟨⟨⟨⟨hsel, hn⟩, hs⟩, hc⟩, hlen⟩, hR⟩ := hB
  have inv0 : HeadInv .any l.toArray n (Array.replicate l.toArray.size false) :=
    ⟨by simp, fun j oj _ hl => (by rw [getD_replicate_false] at hl; cases hl), fun t _ ht => getD_in (by simpa using ht) (getD_replicate_false _ _)⟩
  have H := wpAnyK_stepsF (md := .any) (K := wpFork P l.toArray C Q (fun a' w' => wpNums P l.toArray C n Q r a' w') i j s1 s2) hsel hs hc hn hQ (fun listed a w hC inv hF hK => wpAnyK_fork hsel hs hc hn hQ r i j s1 s2 listed a w hC inv hF hK) st _ a w.drew hC inv0 hR h
  have H' := wpAny_of_K _ _ _ _ H
  rw [hlen] at H'
  exact wp_region_any hm H'
end
end Go.Proofs.YtoikjiojhlfgiaaGreatDoor
