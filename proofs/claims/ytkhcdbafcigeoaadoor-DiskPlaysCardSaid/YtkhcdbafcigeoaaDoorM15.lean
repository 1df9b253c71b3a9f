/-
  Texts merged by a program of this claim's: Lies, Mix, Stp, Piece.
-/
import Derived.Test.YtkhcdbafcigeoaaDoorM10
import Derived.Test.YtkhcdbafcigeoaaDoorM14
import Derived.Test.YtkhcdbafcigeoaaDoorM6
import Derived.WalkKit
/-
  The program's disk and the document's side by side in memory; each one's operations leave the other as it is.
-/
namespace Go.Proofs.YtkhcdbafcigeoaaDoor
open Go Go.RowKit Go.Sort
set_option maxRecDepth 100000
set_option maxHeartbeats 800000
section
variable {X Y : Nat → Prop} {w w' w0 : World}
theorem FCells.kept (hk : Kept X w w') : ∀ {L : List (Str × DFile)} {cs : List Value}, FCells X w cs L → FCells X w' cs L
  | [], _, h => h
  | _ :: _, _, ⟨b, cs', h1, h2, h3⟩ => ⟨b, cs', h1, ⟨h2.1.kept hk h2.2, h2.2⟩, FCells.kept hk h3⟩
theorem SrcV.kept {k : Nat} {v : Value} {n : Nat} {cs : List Value} (h : SrcV k w v n cs) (hk : Kept X w w') (hx : 0 < cs.length → ∀ g, v.ownBlock = some g → X g) : SrcV k w' v n cs := by
  obtain ⟨h0, hs | ⟨g, o, cap, rfl, h1, h2, hg, h3⟩⟩ := h
  · exact ⟨h0, .inl hs⟩
  · exact ⟨h0, .inr ⟨g, o, cap, rfl, h1, h2, Nat.lt_of_lt_of_le hg hk.1, fun j hj => hk.cell (h3 j hj) (hx (by omega) g rfl)⟩⟩
theorem RefD.kept {v : Value} {r : Dsk} (h : RefD X w v r) (hk : Kept X w w') : RefD X w' v r := by
  obtain ⟨sv, h1, cs, h2, h3, h4⟩ := h
  refine ⟨sv, h1, cs, h2.kept hk (fun hp => h4 (fun e => ?_)), h3.kept hk, h4⟩
  have := h3.len
  rw [e] at this
  simp at this
  rw [this] at hp
  simp at hp
theorem FCells.mono (hy : ∀ k, X k → Y k) : ∀ {L : List (Str × DFile)} {cs : List Value}, FCells X w cs L → FCells Y w cs L
  | [], _, h => h
  | _ :: _, _, ⟨b, cs', h1, h2, h3⟩ => ⟨b, cs', h1, ⟨h2.1, fun hne g hg => hy g (h2.2 hne g hg)⟩, FCells.mono hy h3⟩
theorem RefD.mono {v : Value} {r : Dsk} (h : RefD X w v r) (hy : ∀ k, X k → Y k) : RefD Y w v r := by
  obtain ⟨sv, h1, cs, h2, h3, h4⟩ := h
  exact ⟨sv, h1, cs, h2, h3.mono hy, fun hne g hg => hy g (h4 hne g hg)⟩
/-- What lies in w lies in blocks of w. -/
theorem FCells.narrow : ∀ {L : List (Str × DFile)} {cs : List Value}, FCells X w cs L → FCells (fun k => X k ∧ k < w.heap.size) w cs L
  | [], _, h => h
  | _ :: _, _, ⟨b, cs', h1, h2, h3⟩ => ⟨b, cs', h1, ⟨h2.1, fun hne g hg => ⟨h2.2 hne g hg, h2.1.lt hne g hg⟩⟩, FCells.narrow h3⟩
theorem RefD.narrow {v : Value} {r : Dsk} (h : RefD X w v r) : RefD (fun k => X k ∧ k < w.heap.size) w v r := by
  obtain ⟨sv, h1, cs, h2, h3, h4⟩ := h
  refine ⟨sv, h1, cs, h2, h3.narrow, fun hne g hg => ⟨h4 hne g hg, ?_⟩⟩
  have hl : r.files.length ≠ 0 := fun e => hne (List.eq_nil_of_length_eq_zero e)
  obtain ⟨h0, ⟨a, rfl, hn⟩ | ⟨g', o, cap, rfl, h1, h2, hg', h3⟩⟩ := h2
  · exact absurd hn hl
  · have e : g' = g := by simpa [Value.ownBlock] using hg
    omega
/-- The program's disk d at b and the document's, r, as the value v, beside the blocks Y, which are neither's. -/
def Lies (Y : Nat → Prop) (w0 w : World) (b : Nat) (d r : Dsk) (v : Value) : Prop := ∃ X, HasX (fun k => X k ∨ Y k) w0 w b d ∧ RefD X w v r ∧ ∀ k, X k → ¬ Y k
variable {b : Nat} {d d' r r' : Dsk} {v : Value} {Z : Nat → Prop}
theorem Lies.has (h : Lies Y w0 w b d r v) : HasX Y w0 w b d := by
  obtain ⟨X, h1, -, -⟩ := h
  exact h1.weak fun k hk => .inr hk
theorem Lies.base (h : Lies Y w0 w b d r v) : Nw w0 w := h.has.base
theorem Lies.lt (h : Lies Y w0 w b d r v) : ∀ k, Y k → k < w.heap.size := h.has.lt
theorem Lies.ref (h : Lies Y w0 w b d r v) : ∃ X, RefD X w v r := by
  obtain ⟨X, -, h2, -⟩ := h
  exact ⟨X, h2⟩
theorem Lies.weak (h : Lies Y w0 w b d r v) (hy : ∀ k, Z k → Y k) : Lies Z w0 w b d r v := by
  obtain ⟨X, h1, h2, h3⟩ := h
  exact ⟨X, h1.weak fun k hk => hk.imp id (hy k), h2, fun k hk hz => h3 k hk (hy k hz)⟩
theorem Lies.nw (h : Lies Y w0 w b d r v) (hw : Nw w w') : Lies Y w0 w' b d r v := by
  obtain ⟨X, h1, h2, h3⟩ := h
  exact ⟨X, h1.nw hw, h2.nw hw, h3⟩
/-- What is written lies in blocks of Y. -/
theorem Lies.put {T : Nat → Prop} (h : Lies Y w0 w b d r v) (hw : Only T w w') (ht : ∀ k, T k → k < w.heap.size → Y k ∧ w0.heap.size ≤ k) (hy : ∀ k, Z k → Y k ∨ w.heap.size ≤ k ∧ k < w'.heap.size) : Lies Z w0 w' b d r v := by
  obtain ⟨X, h1, h2, h3⟩ := h
  have hlt := h1.lt
  refine ⟨X, h1.put hw (fun k hk hl => ⟨.inr (ht k hk hl).1, (ht k hk hl).2⟩) (fun k hk => ?_), h2.kept ⟨hw.size, fun k hk hl => hw.block k hl (fun hT => h3 k hk (ht k hT hl).1)⟩, fun k hk hz => ?_⟩
  · rcases hk with hk | hk
    · exact .inl (.inl hk)
    · exact (hy k hk).imp .inr id
  · rcases hy k hz with h | h
    · exact h3 k hk h
    · have := hlt k (.inl hk); omega
theorem Lies.nwY (h : Lies Y w0 w b d r v) (hw : Nw w w') (hy : ∀ k, Z k → Y k ∨ w.heap.size ≤ k ∧ k < w'.heap.size) : Lies Z w0 w' b d r v := h.put hw (fun _ hf => hf.elim) hy
/-- The document's disk has just been made. -/
theorem Lies.new (h : HasX Y w0 w b d) (hr : RefD (fun k => w.heap.size ≤ k) w' v r) (hw : Nw w w') : Lies Y w0 w' b d r v := by
  refine ⟨fun k => w.heap.size ≤ k ∧ k < w'.heap.size, h.nwY hw (fun k hk => hk.symm), hr.narrow, fun k hk hy => ?_⟩
  have := h.lt k hy
  omega
/-- An operation of the program's disk. -/
theorem Lies.dsk {P : Program} {f : FuncId} {args : Array Value} {y : Value} (h : Lies Y w0 w b d r v)
    (hc : ∀ X : Nat → Prop, (∀ k, Y k → X k) → HasX X w0 w b d → Calls P f args w (DidX X w0 w b d' y)) :
    Calls P f args w fun e w' => e = .returned y ∧ Lies Y w0 w' b d' r v ∧ Kept Y w w' := by
  obtain ⟨X, h1, h2, h3⟩ := h
  refine (hc _ (fun k hk => .inr hk) h1).mono ?_
  rintro e w' ⟨he, hx, hk⟩
  exact ⟨he, ⟨X, hx, h2.kept (hk.weak fun k hk => .inl hk), h3⟩, hk.weak fun k hk => .inr hk⟩
/-- An operation of the document's disk. -/
theorem Lies.doc {P : Program} {f : FuncId} {args : Array Value} {E : Value → Value} (h : Lies Y w0 w b d r v)
    (hc : ∀ X : Nat → Prop, (∀ k, w.heap.size ≤ k → X k) → RefD X w v r → Calls P f args w fun e w' => ∃ v', e = .returned (E v') ∧ RefD X w' v' r' ∧ Nw w w') :
    Calls P f args w fun e w' => ∃ v', e = .returned (E v') ∧ Lies Y w0 w' b d r' v' ∧ Nw w w' := by
  obtain ⟨X, h1, h2, h3⟩ := h
  have hlt := h1.lt
  refine (hc (fun k => X k ∨ w.heap.size ≤ k) (fun k hk => .inr hk) (h2.mono fun k hk => .inl hk)).mono ?_
  rintro e w' ⟨v', he, hr, hn⟩
  refine ⟨v', he, ⟨fun k => X k ∨ (w.heap.size ≤ k ∧ k < w'.heap.size), h1.nwY hn (fun k hk => ?_), hr.narrow.mono (fun k hk => ?_), fun k hk hy => ?_⟩, hn⟩
  · rcases hk with (hk | hk) | hk
    · exact .inl (.inl hk)
    · exact .inr hk
    · exact .inl (.inr hk)
  · rcases hk with ⟨h | h, h'⟩
    · exact .inl h
    · exact .inr ⟨h, h'⟩
  · rcases hk with hk | hk
    · exact h3 k hk hy
    · have := hlt k (.inr hy); omega
theorem RefD.parts {v : Value} {r : Dsk} (h : RefD X w v r) : ∃ a c, v = .agg #[.int .i64 r.most, .slice a r.files.length c, .int .i64 r.arm, .bool r.down] := by
  obtain ⟨sv, rfl, hl⟩ := h
  obtain ⟨a, c, rfl, -⟩ := hl.elem
  exact ⟨a, c, rfl⟩
theorem Lies.parts (h : Lies Y w0 w b d r v) : ∃ a c, v = .agg #[.int .i64 r.most, .slice a r.files.length c, .int .i64 r.arm, .bool r.down] := by
  obtain ⟨X, h2⟩ := h.ref
  exact h2.parts
end
end Go.Proofs.YtkhcdbafcigeoaaDoor

/-
  Program-independent: a drawn region that calls in one order, and reads and reckons besides: walked in a list of steps: 'rd i': operation i only reads, in every world of the class (it may be taken whenever it may come); 'dn i': operation i is the only one that may come. Behind them a tail (from n on), in the text's order.
-/
namespace Go.Proofs.YtkhcdbafcigeoaaDoor
open Go Go.RowKit

inductive Stp where
  | rd (i : Nat)
  | dn (i : Nat)

section
variable {P : Program} {ops : Array Oper} {md : Region.Mode} {C : World → Prop} {Q : Exit → Act → World → Prop}
def wpSteps (P : Program) (ops : Array Oper) (C : World → Prop) (Q : Exit → Act → World → Prop) (K : Act → World → Prop) : List Stp → Act → World → Prop
  | [], a, w => K a w
  | .rd i :: l, a, w => match ops[i]? with
    | none => False
    | some o => if Region.wanted o (yielded ops a.tmps) then Oper.reads P o a C (fun a' => wpSteps P ops C Q K l a' w) else wpSteps P ops C Q K l (a.put o.dst undef) w
  | .dn i :: l, a, w => wpOp P ops Q i (fun a' w' => C w' ∧ wpSteps P ops C Q K l a' w') a w
def Region.stepsB (md : Region.Mode) (ops : Array Oper) (n : Nat) (r : List Nat) : List Stp → Array Bool → Bool
  | [], listed => Region.numsB md ops r listed
  | .rd i :: l, listed => decide (i < n) && (Region.ready md ops listed).contains i && Region.free md ops listed i && Region.stepsB md ops n r l (listed.setIfInBounds i true)
  | .dn i :: l, listed => decide (i < n) && decide (Region.ready md ops listed = [i]) && Region.stepsB md ops n r l (listed.setIfInBounds i true)

theorem wpAnyK_steps {n : Nat} (hsel : Region.noSelect ops = true) (hs : Region.sinkB md ops n = true) (hc : Region.chainB md ops n = true) (hn : n < ops.size)
    (hQ : ∀ (c : List PanicEntry) (a : Act) (d : Tmp) (v : Value) (w : World), Q (.panic c) (a.put (some d) v) w → Q (.panic c) a w) (r : List Nat) :
    ∀ (l : List Stp) (listed : Array Bool) (a : Act) (w : World), C w → HeadInv md ops n listed → Region.stepsB md ops n r l listed = true → wpSteps P ops C Q (fun a' w' => wpNums P ops C n Q r a' w') l a w →
      wpAnyK P md ops C n Q (l.length + r.length) listed a w
  | [], listed, a, w, _, _, hB, h => by rw [List.length_nil, Nat.zero_add]; exact wpAnyK_nums r listed a w hB h
  | .dn i :: l, listed, a, w, hC, inv, hB, h => by
    simp only [Region.stepsB, Bool.and_eq_true, decide_eq_true_eq] at hB
    rw [show (Stp.dn i :: l).length + r.length = (l.length + r.length) + 1 by simp only [List.length_cons]; omega]
    refine ⟨fun h1 => (by rw [hB.1.2] at h1; cases h1), fun j hj => ?_⟩
    have hji : j = i := by rw [hB.1.2] at hj; simpa using hj
    subst hji
    exact wpOp_mono (fun a' w' h' => ⟨fun _ => h'.1, wpAnyK_steps hsel hs hc hn hQ r l _ a' w' h'.1 (inv.set hj hB.1.1) hB.2 h'.2⟩) h
  | .rd i :: l, listed, a, w, hC, inv, hB, h => by
    simp only [Region.stepsB, Bool.and_eq_true, decide_eq_true_eq] at hB
    obtain ⟨⟨⟨hin, hr⟩, hf⟩, hB'⟩ := hB
    have hr' : i ∈ Region.ready md ops listed := by simpa using hr
    obtain ⟨hun, o, ho, _⟩ := mem_ready.1 hr'
    simp only [wpSteps, ho] at h
    have key : ∃ v, YieldsW P ops C o v a ∧ wpSteps P ops C Q (fun a' w' => wpNums P ops C n Q r a' w') l (a.put o.dst v) w := by
      by_cases hw : Region.wanted o (yielded ops a.tmps) = true
      · simp only [hw, if_true] at h
        obtain ⟨v, h1, h2⟩ := h
        exact ⟨v, .inl ⟨hw, h1⟩, h2⟩
      · simp only [hw] at h
        exact ⟨undef, .inr ⟨by simpa using hw, rfl⟩, h⟩
    obtain ⟨v, hy, hK⟩ := key
    rw [show (Stp.rd i :: l).length + r.length = (l.length + r.length) + 1 by simp only [List.length_cons]; omega]
    exact wpAnyK_first ho (Region.noSelect_spec hsel) (fun c a w h => by cases hdst : o.dst with | none => (rw [hdst] at h; exact h) | some d => (rw [hdst] at h; exact hQ c a d v w h)) hs hc hn hin (l.length + r.length) listed a w hC inv (Region.free_spec ho hf) hr' hy
      (wpAnyK_steps hsel hs hc hn hQ r l _ _ w hC (inv.set hr' hin) hB' hK)

def Region.stpB (ops : Array Oper) (n : Nat) (l : List Stp) (r : List Nat) : Bool :=
  Region.noSelect ops && decide (n < ops.size) && Region.sinkB .any ops n && Region.chainB .any ops n && decide (l.length + r.length = ops.size) && Region.stepsB .any ops n r l (Array.replicate ops.size false)

theorem wp_region_steps {id : Nat} {a : Act} {w : World} {l : List Oper} (n : Nat) (st : List Stp) (r : List Nat) (C : World → Prop) (hm : P.follows .mixedOrders = true) (hB : Region.stpB l.toArray n st r = true)
    (hQ : ∀ (c : List PanicEntry) (a : Act) (d : Tmp) (v : Value) (w : World), Q (.panic c) (a.put (some d) v) w → Q (.panic c) a w) (hC : C w.drew)
    (h : wpSteps P l.toArray C Q (fun a' w' => wpNums P l.toArray C n Q r a' w') st a w.drew) : (Code.region id l.toArray true).wp P Q a w := by
  simp only [Region.stpB, Bool.and_eq_true, decide_eq_true_eq] at hB
  obtain ⟨⟨⟨⟨⟨hsel, hn⟩, hs⟩, hc⟩, hlen⟩, hR⟩ := hB
  have inv0 : HeadInv .any l.toArray n (Array.replicate l.toArray.size false) :=
    ⟨by simp, fun j oj _ hl => (by rw [getD_replicate_false] at hl; cases hl), fun t _ ht => getD_in (by simpa using ht) (getD_replicate_false _ _)⟩
  have H := wpAnyK_steps (md := .any) hsel hs hc hn hQ r st _ a w.drew hC inv0 hR h
  have H' := wpAny_of_K _ _ _ _ H
  rw [hlen] at H'
  exact wp_region_any hm H'

/-! The steps of such a walk -/
theorem wpSteps_nil {K : Act → World → Prop} {a : Act} {w : World} (h : K a w) : wpSteps P ops C Q K [] a w := h
theorem wpSteps_rd {K : Act → World → Prop} {a : Act} {w : World} {i : Nat} {l : List Stp} {o : Oper} (ho : ops[i]? = some o)
    (h : ∀ K' : Act → Prop, (∀ a, wpSteps P ops C Q K l a w → K' a) → if Region.wanted o (yielded ops a.tmps) then Oper.reads P o a C K' else K' (a.put o.dst undef)) : wpSteps P ops C Q K (.rd i :: l) a w := by
  simp only [wpSteps, ho]; exact h _ (fun _ h => h)
theorem wpSteps_val {K : Act → World → Prop} {a : Act} {w : World} {i : Nat} {l : List Stp} {o : Oper} (v : Value) (ho : ops[i]? = some o) (hw : Region.wanted o (yielded ops a.tmps) = true)
    (hv : ∀ w, C w → (execOp a.eval o).run P w = .ok (.value v) w) (h : wpSteps P ops C Q K l (a.put o.dst v) w) : wpSteps P ops C Q K (.rd i :: l) a w := by
  simp only [wpSteps, ho, hw, if_true]; exact ⟨v, hv, h⟩
theorem wpSteps_dn {K : Act → World → Prop} {a : Act} {w : World} {i : Nat} {l : List Stp} {o : Oper} (ho : ops[i]? = some o)
    (h : ∀ K' : Act → World → Prop, (∀ a w, C w → wpSteps P ops C Q K l a w → K' a w) → wpList P ops (Exit.then K' Q) [o] a w) : wpSteps P ops C Q K (.dn i :: l) a w := by
  have h := h (fun a' w' => C w' ∧ wpSteps P ops C Q K l a' w') (fun a w h1 h2 => ⟨h1, h2⟩)
  simp only [wpSteps, wpOp, ho]
  simp only [wpList] at h
  split
  · rename_i hw
    rw [if_pos hw] at h
    rcases h with h | ⟨h1, h2⟩
    · refine .inl ?_
      unfold Oper.wp at *
      generalize (execOp a.eval o).run P w = r at *
      cases r with
      | ok n w' =>
        cases n <;> simp only [Oper.upon] at h ⊢
        case value u => exact h
        case skip => exact h
        case defer d => exact h
        case enter f args => exact Calls.mono h fun e w'' he => by cases e <;> exact he
        case row row args => exact h
      | halt x w' =>
        cases x <;> simp only [Oper.upon] at h ⊢
        case panic u => exact h
    · exact .inr ⟨h1, h2⟩
  · rename_i hw
    rw [if_neg hw] at h
    exact h
/-- Where no read looks into memory: every world is of the class. -/
theorem wp_region_calls {id : Nat} {a : Act} {w : World} {l : List Oper} (n : Nat) (st : List Stp) (r : List Nat) (hm : P.follows .mixedOrders = true) (hB : Region.stpB l.toArray n st r = true)
    (hQ : ∀ (c : List PanicEntry) (a : Act) (d : Tmp) (v : Value) (w : World), Q (.panic c) (a.put (some d) v) w → Q (.panic c) a w)
    (h : wpSteps P l.toArray (fun _ => True) Q (fun a' w' => wpNums P l.toArray (fun _ => True) n Q r a' w') st a w.drew) : (Code.region id l.toArray true).wp P Q a w :=
  wp_region_steps n st r (fun _ => True) hm hB hQ trivial h
end
end Go.Proofs.YtkhcdbafcigeoaaDoor

/-
  Program-independent: the steps of a drawn region (Mix), each operation read off the list (so that the frame keeps short), and the slot that it writes named.
-/
namespace Go.Proofs.YtkhcdbafcigeoaaDoor
open Go Go.RowKit
section
variable {P : Program} {L : List Oper} {C : World → Prop} {Q : Exit → Act → World → Prop}
theorem at_list {i : Nat} {o : Oper} (h : L[i]? = some o) : L.toArray[i]? = some o := by simpa using h
/-- A read that yields v. -/
theorem stp_val {K : Act → World → Prop} {a : Act} {w : World} {i : Nat} {l : List Stp} {o : Oper} {d : Nat} (v : Value) (ho : L[i]? = some o) (hd : o.dst = some d) (hw : Region.wanted o (yielded L.toArray a.tmps) = true)
    (hv : ∀ w, C w → (execOp a.eval o).run P w = .ok (.value v) w) (h : wpSteps P L.toArray C Q K l (a.put (some d) v) w) : wpSteps P L.toArray C Q K (.rd i :: l) a w :=
  wpSteps_val v (at_list ho) hw hv (by rw [hd]; exact h)
/-- .. the frame to be written out ahead of the next one. -/
theorem stp_to {K : Act → World → Prop} {a : Act} {w : World} {i : Nat} {l : List Stp} {o : Oper} {d : Nat} (v : Value) (ho : L[i]? = some o) (hd : o.dst = some d) (hw : Region.wanted o (yielded L.toArray a.tmps) = true)
    (hv : ∀ w, C w → (execOp a.eval o).run P w = .ok (.value v) w) (h : ∀ K' : Act → Prop, (∀ a, wpSteps P L.toArray C Q K l a w → K' a) → K' (a.put (some d) v)) : wpSteps P L.toArray C Q K (.rd i :: l) a w :=
  stp_val v ho hd hw hv (h _ fun _ h => h)
theorem stp_not {K : Act → World → Prop} {a : Act} {w : World} {i : Nat} {l : List Stp} {o : Oper} {d : Nat} (ho : L[i]? = some o) (hd : o.dst = some d) (hw : Region.wanted o (yielded L.toArray a.tmps) = false)
    (h : ∀ K' : Act → Prop, (∀ a, wpSteps P L.toArray C Q K l a w → K' a) → K' (a.put (some d) undef)) : wpSteps P L.toArray C Q K (.rd i :: l) a w :=
  wpSteps_rd (at_list ho) fun K' hK' => by rw [if_neg (by rw [hw]; decide), hd]; exact h K' hK'
/-- A read that a guard leaves out. -/
theorem stp_no {K : Act → World → Prop} {a : Act} {w : World} {i : Nat} {l : List Stp} {o : Oper} {d : Nat} (ho : L[i]? = some o) (hd : o.dst = some d) (hw : Region.wanted o (yielded L.toArray a.tmps) = false)
    (h : wpSteps P L.toArray C Q K l (a.put (some d) undef) w) : wpSteps P L.toArray C Q K (.rd i :: l) a w :=
  wpSteps_rd (at_list ho) fun K' hK' => by rw [if_neg (by rw [hw]; decide), hd]; exact hK' _ h
/-- The one that may come. -/
theorem stp_dn {K : Act → World → Prop} {a : Act} {w : World} {i : Nat} {l : List Stp} {o : Oper} (ho : L[i]? = some o)
    (h : ∀ K' : Act → World → Prop, (∀ a w, C w → wpSteps P L.toArray C Q K l a w → K' a w) → wpList P L.toArray (Exit.then K' Q) [o] a w) : wpSteps P L.toArray C Q K (.dn i :: l) a w :=
  wpSteps_dn (at_list ho) h
/-- .. and a guard leaves it out. -/
theorem stp_dn_no {K : Act → World → Prop} {a : Act} {w : World} {i : Nat} {l : List Stp} {o : Oper} {d : Nat} (ho : L[i]? = some o) (hd : o.dst = some d) (hw : Region.wanted o (yielded L.toArray a.tmps) = false) (hC : C w)
    (h : wpSteps P L.toArray C Q K l (a.put (some d) undef) w) : wpSteps P L.toArray C Q K (.dn i :: l) a w := by
  simp only [wpSteps, wpOp, at_list ho]
  rw [if_neg (by rw [hw]; decide), hd]
  exact ⟨hC, h⟩
/-- The tail, one by one. -/
theorem stp_num {n : Nat} {a : Act} {w : World} {i : Nat} {l : List Nat} {o : Oper} (ho : L[i]? = some o)
    (h : wpList P L.toArray (Exit.then (fun a' w' => (i < n → C w') ∧ wpNums P L.toArray C n Q l a' w') Q) [o] a w) : wpNums P L.toArray C n Q (i :: l) a w :=
  wpNums_cons (at_list ho) h
theorem stp_do {n : Nat} {a : Act} {w : World} {i : Nat} {l : List Nat} {o : Oper} (ho : L[i]? = some o) (hin : ¬ i < n)
    (h : ∀ K' : Act → World → Prop, (∀ a w, wpNums P L.toArray C n Q l a w → K' a w) → wpList P L.toArray (Exit.then K' Q) [o] a w) : wpNums P L.toArray C n Q (i :: l) a w := by
  refine stp_num ho ?_
  exact h (fun a' w' => (i < n → C w') ∧ wpNums P L.toArray C n Q l a' w') (fun a w h => ⟨fun h' => absurd h' hin, h⟩)
/-- .. of which one only reckons. -/
theorem stp_num_val {n : Nat} {a : Act} {w : World} {i : Nat} {l : List Nat} {o : Oper} {d : Nat} (v : Value) (ho : L[i]? = some o) (hd : o.dst = some d) (hw : Region.wanted o (yielded L.toArray a.tmps) = true) (hin : ¬ i < n)
    (hv : (execOp a.eval o).run P w = .ok (.value v) w) (h : wpNums P L.toArray C n Q l (a.put (some d) v) w) : wpNums P L.toArray C n Q (i :: l) a w := by
  simp only [wpNums, wpOp, at_list ho]
  rw [if_pos hw]
  refine .inl ?_
  unfold Oper.wp
  rw [hv]
  simp only [Oper.upon, hd]
  exact ⟨fun h => absurd h hin, h⟩
theorem stp_num_no {n : Nat} {a : Act} {w : World} {i : Nat} {l : List Nat} {o : Oper} {d : Nat} (ho : L[i]? = some o) (hd : o.dst = some d) (hw : Region.wanted o (yielded L.toArray a.tmps) = false) (hin : ¬ i < n)
    (h : wpNums P L.toArray C n Q l (a.put (some d) undef) w) : wpNums P L.toArray C n Q (i :: l) a w := by
  simp only [wpNums, wpOp, at_list ho]
  rw [if_neg (by rw [hw]; decide), hd]
  exact ⟨fun h => absurd h hin, h⟩
end
end Go.Proofs.YtkhcdbafcigeoaaDoor

/-
  Program-independent: a region or an 'if' of a function's text, by its number: for walking a piece of a long function in a theorem of its own.
-/
namespace Go.Proofs.YtkhcdbafcigeoaaDoor
open Go
def regionOf (n : Nat) : Code → Option Code
  | .region k ops d => if k = n then some (.region k ops d) else none
  | .seq a b => match regionOf n a with
    | some c => some c
    | none => regionOf n b
  | .cond _ a b => match regionOf n a with
    | some c => some c
    | none => regionOf n b
  | .block _ c => regionOf n c
  | .loop c => regionOf n c
  | .scope c => regionOf n c
  | _ => none
def condOf (n : Nat) : Code → Option Code
  | .seq a b => match condOf n a with
    | some c => some c
    | none => condOf n b
  | .cond (.tmp t) a b => if t = n then some (.cond (.tmp t) a b) else match condOf n a with
    | some c => some c
    | none => condOf n b
  | .cond _ a b => match condOf n a with
    | some c => some c
    | none => condOf n b
  | .block _ c => condOf n c
  | .loop c => condOf n c
  | .scope c => condOf n c
  | _ => none
/-- The last one. -/
def condLast (n : Nat) : Code → Option Code
  | .seq a b => match condLast n b with
    | some c => some c
    | none => condLast n a
  | .cond (.tmp t) a b => if t = n then some (.cond (.tmp t) a b) else match condLast n b with
    | some c => some c
    | none => condLast n a
  | .cond _ a b => match condLast n b with
    | some c => some c
    | none => condLast n a
  | .block _ c => condLast n c
  | .loop c => condLast n c
  | .scope c => condLast n c
  | _ => none
def blockOf (n : Nat) : Code → Option Code
  | .seq a b => match blockOf n a with
    | some c => some c
    | none => blockOf n b
  | .cond _ a b => match blockOf n a with
    | some c => some c
    | none => blockOf n b
  | .block k c => if k = n then some (.block k c) else blockOf n c
  | .loop c => blockOf n c
  | .scope c => blockOf n c
  | _ => none
/-- What a region's steps ask of the exits. -/
def PanicOk (Q : Exit → Act → World → Prop) : Prop := ∀ (c : List PanicEntry) (a : Act) (d : Tmp) (v : Value) (w : World), Q (.panic c) (a.put (some d) v) w → Q (.panic c) a w
end Go.Proofs.YtkhcdbafcigeoaaDoor
