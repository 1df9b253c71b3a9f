/-
  Texts merged by a program of this claim's: Reg, DiskI.
-/
import Derived.Test.YtoikjiojhlfgiaaGreatDoorM1
import Derived.Test.YtoikjiojhlfgiaaGreatDoorM5
/-
  Program-independent: a drawn region in which some operations only read, whatever else the others turn (in a class of worlds): those may be taken first, in the text's order; then a few that do something, then a tail that waits for all of them.
-/
namespace Go.Proofs.YtoikjiojhlfgiaaGreatDoor
open Go Go.RowKit

section
variable {P : Program} {ops : Array Oper} {md : Region.Mode} {C : World → Prop} {Q : Exit → Act → World → Prop}

/-- In every world of the class the operation hands back v, and turns nothing. -/
def YieldsW (P : Program) (ops : Array Oper) (C : World → Prop) (o : Oper) (v : Value) (a : Act) : Prop :=
  (Region.wanted o (yielded ops a.tmps) = true ∧ ∀ w, C w → (execOp a.eval o).run P w = .ok (.value v) w) ∨
  (Region.wanted o (yielded ops a.tmps) = false ∧ v = undef)

theorem YieldsW.of_same {o : Oper} {v : Value} {a a' : Act} (hy : YieldsW P ops C o v a) (he : execOp a'.eval o = execOp a.eval o)
    (hw : Region.wanted o (yielded ops a'.tmps) = Region.wanted o (yielded ops a.tmps)) : YieldsW P ops C o v a' := by
  unfold YieldsW at *
  rw [he, hw]
  exact hy
theorem YieldsW.wpOp {i : Nat} {o : Oper} {v : Value} {a : Act} (hi : ops[i]? = some o) (hy : YieldsW P ops C o v a)
    {K : Act → World → Prop} {w : World} (hC : C w) (h : K (a.put o.dst v) w) : wpOp P ops Q i K a w := by
  unfold Go.wpOp
  simp only [hi]
  rcases hy with ⟨hw, hv⟩ | ⟨hw, rfl⟩
  · simp only [hw, if_true, Oper.wp, hv w hC, Oper.upon]; exact .inl h
  · simp only [hw, Bool.false_eq_true, if_false]; exact h

theorem wpOp_putW {j : Nat} {oi oj : Oper} {v : Value} (hj : ops[j]? = some oj) (hap : oi.apart ops oj = true)
    (hsi : ∀ cs b, oi.op ≠ .select cs b) (hsj : ∀ cs b, oj.op ≠ .select cs b)
    (hQ : ∀ c a w, Q (.panic c) (a.put oi.dst v) w → Q (.panic c) a w) {D : World → Prop} {K : Act → World → Prop} {a : Act} {w : World}
    (hy : YieldsW P ops C oi v a) (h : wpOp P ops Q j (fun a' w' => D w' ∧ K a' w') (a.put oi.dst v) w) :
    wpOp P ops Q j (fun a' w' => D w' ∧ YieldsW P ops C oi v a' ∧ K (a'.put oi.dst v) w') a w := by
  obtain ⟨h1, h2, h3⟩ := Oper.apart_spec hap
  have keep : ∀ (a : Act), YieldsW P ops C oi v a → ∀ u, YieldsW P ops C oi v (a.put oj.dst u) := fun a hy u =>
    hy.of_same (execOp_put oi hsi a oj.dst u h3) (wanted_put oi a oj.dst u h3)
  have keepD : ∀ d, YieldsW P ops C oi v { a with defers := d :: a.defers } := fun d => hy.of_same rfl rfl
  unfold wpOp at *
  simp only [hj] at *
  rw [wanted_put oj a oi.dst v h1] at h
  split
  · rename_i hw
    simp only [hw, if_true] at h
    rcases h with h | ⟨hasks, hlets⟩
    case inr => exact .inr ⟨by unfold Oper.asks at *; rw [execOp_put oj hsj a oi.dst v h1] at hasks; exact hasks, hlets⟩
    refine .inl ?_
    unfold Oper.wp at *
    rw [execOp_put oj hsj a oi.dst v h1] at h
    generalize (execOp a.eval oj).run P w = r at *
    cases r with
    | ok n w' =>
      cases n <;> simp only [Oper.upon] at h ⊢
      case value u => exact ⟨h.1, keep a hy u, by rw [← Act.put_comm a v u h2]; exact h.2⟩
      case skip => exact ⟨h.1, keep a hy _, by rw [← Act.put_comm a v undef h2]; exact h.2⟩
      case defer d =>
        refine ⟨h.1, keep _ (keepD d) _, ?_⟩
        rw [← Act.put_comm _ v undef h2, ← Act.put_defers]
        exact h.2
      case enter f args =>
        refine Calls.mono h fun e w'' he => ?_
        cases e with
        | returned u => exact ⟨he.1, keep a hy u, by rw [← Act.put_comm a v u h2]; exact he.2⟩
        | panicked c => exact hQ _ _ _ he
        | outgrown => exact he
      case row row args => exact Rows.mono h fun u w'' he => ⟨he.1, keep a hy u, by rw [← Act.put_comm a v u h2]; exact he.2⟩
    | halt x w' =>
      cases x <;> simp only [Oper.upon] at h ⊢
      case panic u => exact hQ _ _ _ h
  · rename_i hw
    simp only [hw] at h
    exact ⟨h.1, keep a hy _, by rw [← Act.put_comm a v undef h2]; exact h.2⟩

/-- Every order; the operations ahead of number n stay in the class. -/
def wpAnyK (P : Program) (md : Region.Mode) (ops : Array Oper) (C : World → Prop) (n : Nat) (Q : Exit → Act → World → Prop) : Nat → Array Bool → Act → World → Prop
  | 0, listed, a, w => Region.ready md ops listed = [] ∧ Q .normal a w
  | f + 1, listed, a, w =>
    (Region.ready md ops listed = [] → Q .normal a w) ∧
    ∀ i ∈ Region.ready md ops listed, wpOp P ops Q i (fun a' w' => (i < n → C w') ∧ wpAnyK P md ops C n Q f (listed.setIfInBounds i true) a' w') a w

theorem wpAny_of_K {n : Nat} : ∀ (f : Nat) (listed : Array Bool) (a : Act) (w : World), wpAnyK P md ops C n Q f listed a w → wpAny P md ops Q f listed a w
  | 0, _, _, _, h => h
  | f + 1, _, _, _, h => ⟨h.1, fun i hi => wpOp_mono (fun a' w' h' => wpAny_of_K f _ a' w' h'.2) (h.2 i hi)⟩

theorem wpAnyK_first {n i : Nat} {oi : Oper} {v : Value} (hi : ops[i]? = some oi) (hsel : ∀ (j : Nat) (o : Oper) cs b, ops[j]? = some o → o.op ≠ .select cs b)
    (hQ : ∀ c a w, Q (.panic c) (a.put oi.dst v) w → Q (.panic c) a w)
    (hs : Region.sinkB md ops n = true) (hc : Region.chainB md ops n = true) (hn : n < ops.size) (hin : i < n) :
    ∀ (f : Nat) (listed : Array Bool) (a : Act) (w : World), C w → HeadInv md ops n listed →
      (∀ j oj, ops[j]? = some oj → j ≠ i → listed.getD j true = false → (∀ e ∈ oj.after, Region.binds md e = true → e.on ≠ i) → oi.apart ops oj = true) →
      i ∈ Region.ready md ops listed → YieldsW P ops C oi v a →
      wpAnyK P md ops C n Q f (listed.setIfInBounds i true) (a.put oi.dst v) w → wpAnyK P md ops C n Q (f + 1) listed a w := by
  intro f
  induction f with
  | zero =>
    intro listed a w hC _ _ hr hy H
    refine ⟨fun h => (by rw [h] at hr; cases hr), fun j hj => ?_⟩
    by_cases hji : j = i
    · subst hji; exact hy.wpOp hi hC ⟨fun _ => hC, H⟩
    · have := ready_mono hj hji
      rw [H.1] at this
      cases this
  | succ f ih =>
    intro listed a w hC inv hfree hr hy H
    have hun := (mem_ready.1 hr).1
    refine ⟨fun h => (by rw [h] at hr; cases hr), fun j hj => ?_⟩
    have hjn : j < n := by
      rcases Nat.lt_or_ge j n with h | h
      · exact h
      · exact absurd hj (tail_waits hs hc hn inv _ i rfl hin hun j h)
    by_cases hji : j = i
    · subst hji; exact hy.wpOp hi hC ⟨fun _ => hC, H⟩
    · have h1 := H.2 j (ready_mono hj hji)
      obtain ⟨hjun, oj, hoj, hall⟩ := mem_ready.1 hj
      have hnot : ∀ e ∈ oj.after, Region.binds md e = true → e.on ≠ i := fun e he hb heq => by
        have h1 := hall e he hb
        rw [heq, getD_both hun] at h1
        cases h1
      have h2 := wpOp_putW hoj (hfree j oj hoj hji hjun hnot) (fun cs b => hsel i oi cs b hi) (fun cs b => hsel j oj cs b hoj) hQ hy h1
      have hfree' : ∀ k ok, ops[k]? = some ok → k ≠ i → (listed.setIfInBounds j true).getD k true = false →
          (∀ e ∈ ok.after, Region.binds md e = true → e.on ≠ i) → oi.apart ops ok = true := fun k ok hk hki hun hno => by
        refine hfree k ok hk hki ?_ hno
        by_cases hjk : j = k
        · subst hjk; exact hjun
        · rw [getD_set_ne true hjk] at hun; exact hun
      refine wpOp_mono (fun a' w' h3 => ⟨h3.1, ih (listed.setIfInBounds j true) a' w' (h3.1 hjn) (inv.set hj hjn) hfree' (ready_mono hr (Ne.symm hji)) h3.2.1 ?_⟩) h2
      rw [Array.setIfInBounds_comm _ _ hji]
      exact h3.2.2

/-- The operations of a list of numbers, one by one, each in its turn; those ahead of n stay in the class. -/
def wpNums (P : Program) (ops : Array Oper) (C : World → Prop) (n : Nat) (Q : Exit → Act → World → Prop) : List Nat → Act → World → Prop
  | [], a, w => Q .normal a w
  | i :: l, a, w => wpOp P ops Q i (fun a' w' => (i < n → C w') ∧ wpNums P ops C n Q l a' w') a w
def Region.numsB (md : Region.Mode) (ops : Array Oper) : List Nat → Array Bool → Bool
  | [], listed => (Region.ready md ops listed).isEmpty
  | i :: l, listed => decide (Region.ready md ops listed = [i]) && Region.numsB md ops l (listed.setIfInBounds i true)
theorem wpAnyK_nums {n : Nat} : ∀ (l : List Nat) (listed : Array Bool) (a : Act) (w : World), Region.numsB md ops l listed = true → wpNums P ops C n Q l a w → wpAnyK P md ops C n Q l.length listed a w
  | [], listed, a, w, hB, h => ⟨by simpa [Region.numsB] using hB, h⟩
  | i :: l, listed, a, w, hB, h => by
    simp only [Region.numsB, Bool.and_eq_true, decide_eq_true_eq] at hB
    refine ⟨fun h1 => (by rw [hB.1] at h1; cases h1), fun j hj => ?_⟩
    rw [hB.1] at hj
    have : j = i := by simpa using hj
    subst this
    exact wpOp_mono (fun a' w' h' => ⟨h'.1, wpAnyK_nums l _ a' w' hB.2 h'.2⟩) h

/-- One operation that only reads, in the class. -/
def Oper.reads (P : Program) (o : Oper) (a : Act) (C : World → Prop) (next : Act → Prop) : Prop := ∃ v, (∀ w, C w → (execOp a.eval o).run P w = .ok (.value v) w) ∧ next (a.put o.dst v)
def wpReads (P : Program) (ops : Array Oper) (C : World → Prop) (K : Act → Prop) : List Nat → Act → Prop
  | [], a => K a
  | i :: l, a => match ops[i]? with
    | none => False
    | some o => if Region.wanted o (yielded ops a.tmps) then Oper.reads P o a C (wpReads P ops C K l) else wpReads P ops C K l (a.put o.dst undef)
def Region.readsB (md : Region.Mode) (ops : Array Oper) (n : Nat) (r : List Nat) : List Nat → Array Bool → Bool
  | [], listed => Region.numsB md ops r listed
  | i :: l, listed => decide (i < n) && (Region.ready md ops listed).contains i && Region.free md ops listed i && Region.readsB md ops n r l (listed.setIfInBounds i true)

theorem wpAnyK_reads {n : Nat} (hsel : Region.noSelect ops = true) (hs : Region.sinkB md ops n = true) (hc : Region.chainB md ops n = true) (hn : n < ops.size)
    (hQ : ∀ (c : List PanicEntry) (a : Act) (d : Tmp) (v : Value) (w : World), Q (.panic c) (a.put (some d) v) w → Q (.panic c) a w) (r : List Nat) (w : World) (hC : C w) :
    ∀ (l : List Nat) (listed : Array Bool) (a : Act), HeadInv md ops n listed → Region.readsB md ops n r l listed = true → wpReads P ops C (fun a' => wpNums P ops C n Q r a' w) l a →
      wpAnyK P md ops C n Q (l.length + r.length) listed a w
  | [], listed, a, _, hB, h => by rw [List.length_nil, Nat.zero_add]; exact wpAnyK_nums r listed a w hB h
  | i :: l, listed, a, inv, hB, h => by
    simp only [Region.readsB, Bool.and_eq_true, decide_eq_true_eq] at hB
    obtain ⟨⟨⟨hin, hr⟩, hf⟩, hB'⟩ := hB
    have hr' : i ∈ Region.ready md ops listed := by simpa using hr
    obtain ⟨_, o, ho, _⟩ := mem_ready.1 hr'
    simp only [wpReads, ho] at h
    have key : ∃ v, YieldsW P ops C o v a ∧ wpReads P ops C (fun a' => wpNums P ops C n Q r a' w) l (a.put o.dst v) := by
      by_cases hw : Region.wanted o (yielded ops a.tmps) = true
      · simp only [hw, if_true] at h
        obtain ⟨v, h1, h2⟩ := h
        exact ⟨v, .inl ⟨hw, h1⟩, h2⟩
      · simp only [hw] at h
        exact ⟨undef, .inr ⟨by simpa using hw, rfl⟩, h⟩
    obtain ⟨v, hy, hK⟩ := key
    rw [show (i :: l).length + r.length = (l.length + r.length) + 1 by simp only [List.length_cons]; omega]
    exact wpAnyK_first ho (Region.noSelect_spec hsel) (fun c a w h => by cases hdst : o.dst with | none => (rw [hdst] at h; exact h) | some d => (rw [hdst] at h; exact hQ c a d v w h)) hs hc hn hin (l.length + r.length) listed a w hC inv (Region.free_spec ho hf) hr' hy
      (wpAnyK_reads hsel hs hc hn hQ r w hC l _ _ (inv.set hr' hin) hB' hK)

/-- The whole: 'hd': what only reads; 'r': what is done, and the tail (from n on), in this order. -/
def Region.mixB (ops : Array Oper) (n : Nat) (hd r : List Nat) : Bool :=
  Region.noSelect ops && decide (n < ops.size) && Region.sinkB .any ops n && Region.chainB .any ops n && decide (hd.length + r.length = ops.size) && Region.readsB .any ops n r hd (Array.replicate ops.size false)

theorem wp_region_mix {id : Nat} {a : Act} {w : World} {l : List Oper} (n : Nat) (hd r : List Nat) (C : World → Prop) (hm : P.follows .mixedOrders = true) (hB : Region.mixB l.toArray n hd r = true)
    (hQ : ∀ (c : List PanicEntry) (a : Act) (d : Tmp) (v : Value) (w : World), Q (.panic c) (a.put (some d) v) w → Q (.panic c) a w) (hC : C w.drew)
    (h : wpReads P l.toArray C (fun a' => wpNums P l.toArray C n Q r a' w.drew) hd a) : (Code.region id l.toArray true).wp P Q a w := by
  simp only [Region.mixB, Bool.and_eq_true, decide_eq_true_eq] at hB
  obtain ⟨⟨⟨⟨⟨hsel, hn⟩, hs⟩, hc⟩, hlen⟩, hR⟩ := hB
  have inv0 : HeadInv .any l.toArray n (Array.replicate l.toArray.size false) :=
    ⟨by simp, fun j oj _ hl => (by rw [getD_replicate_false] at hl; cases hl), fun t _ ht => getD_in (by simpa using ht) (getD_replicate_false _ _)⟩
  have H := wpAnyK_reads (md := .any) hsel hs hc hn hQ r w.drew hC hd _ a inv0 hR h
  have H' := wpAny_of_K _ _ _ _ H
  rw [hlen] at H'
  exact wp_region_any hm H'

/-! The steps of such a walk -/
theorem wpReads_nil {K : Act → Prop} {a : Act} (h : K a) : wpReads P ops C K [] a := h
theorem wpReads_cons {K : Act → Prop} {a : Act} {i : Nat} {l : List Nat} {o : Oper} (ho : ops[i]? = some o)
    (h : ∀ K' : Act → Prop, (∀ a, wpReads P ops C K l a → K' a) → if Region.wanted o (yielded ops a.tmps) then Oper.reads P o a C K' else K' (a.put o.dst undef)) : wpReads P ops C K (i :: l) a := by
  simp only [wpReads, ho]; exact h _ (fun _ h => h)
theorem wpNums_cons {n : Nat} {a : Act} {w : World} {i : Nat} {l : List Nat} {o : Oper} (ho : ops[i]? = some o)
    (h : wpList P ops (Exit.then (fun a' w' => (i < n → C w') ∧ wpNums P ops C n Q l a' w') Q) [o] a w) : wpNums P ops C n Q (i :: l) a w := by
  simp only [wpNums, wpOp, ho]
  simp only [wpList] at h
  split
  · rename_i hw
    rw [if_pos hw] at h
    rcases h with h | ⟨h1, h2⟩
    · refine .inl ?_
      unfold Oper.wp at *
      generalize (execOp a.eval o).run P w = r at *
      cases r with
      | ok n w' =>
        cases n <;> simp only [Oper.upon] at h ⊢
        case value u => exact h
        case skip => exact h
        case defer d => exact h
        case enter f args => exact Calls.mono h fun e w'' he => by cases e <;> exact he
        case row row args => exact h
      | halt x w' =>
        cases x <;> simp only [Oper.upon] at h ⊢
        case panic u => exact h
    · exact .inr ⟨h1, h2⟩
  · rename_i hw
    rw [if_neg hw] at h
    exact h
theorem wpNums_nil {n : Nat} {a : Act} {w : World} (h : Q .normal a w) : wpNums P ops C n Q [] a w := h
end

/-- A world of the class, under one name. -/
structure InC (C : World → Prop) where
  w : World
  h : C w
theorem wp_region_in {P : Program} {Q : Exit → Act → World → Prop} {id : Nat} {a : Act} {w : World} {l : List Oper} (n : Nat) (hd r : List Nat) (C : World → Prop) (hm : P.follows .mixedOrders = true) (hB : Region.mixB l.toArray n hd r = true)
    (hQ : ∀ (c : List PanicEntry) (a : Act) (d : Tmp) (v : Value) (w : World), Q (.panic c) (a.put (some d) v) w → Q (.panic c) a w) (hC : C w.drew)
    (h : wpReads P l.toArray (fun w' => ∃ p : InC C, w' = p.w) (fun a' => wpNums P l.toArray (fun w' => ∃ p : InC C, w' = p.w) n Q r a' w.drew) hd a) : (Code.region id l.toArray true).wp P Q a w :=
  wp_region_mix n hd r (fun w' => ∃ p : InC C, w' = p.w) hm hB hQ ⟨⟨_, hC⟩, rfl⟩ h
attribute [go_sem] Oper.reads
end Go.Proofs.YtoikjiojhlfgiaaGreatDoor

/-
  What an Append does.
-/
namespace Go.Proofs.YtoikjiojhlfgiaaGreatDoor
open Go Go.RowKit Go.Sort
set_option maxRecDepth 100000
set_option maxHeartbeats 800000

theorem mayAppend_zero {d : Dsk} {n : Str} {l : List UInt8} (h : d.mayAppend n l = 0) : okName n = true ∧ (usedF d.files + l.length : Nat) ≤ d.most ∧ (n ∉ namesF d.files → d.files.length < 200) := by
  unfold Dsk.mayAppend at h
  split at h
  · rename_i hok
    split at h
    · exact absurd h (by decide)
    · rename_i hn
      exact ⟨hok, by omega, fun hm => by
        rcases Nat.lt_or_ge d.files.length 200 with h | h
        · exact h
        · exact absurd (.inr ⟨hm, h⟩) hn⟩
  · exact absurd h (by decide)

theorem slice_form {α : Type} {f : α → Value} {e : TypeId} {w : World} {v : Value} {l : List α} (h : RowF f e w v l) : ∃ a cap, v = .slice a l.length cap := by
  obtain ⟨a, cap, h, _⟩ := h.rd.len; exact ⟨a, cap, h⟩

/-- The disk's own block of a file's bytes is none of the others'. -/
theorem own_ne {w : World} {b m : Nat} {d : Dsk} {A B : List FE} {f : FE} (h : DiskAt w b m d (A ++ f :: B)) : f.sl.ownBlock ≠ some b ∧ f.sl.ownBlock ≠ some m ∧ f.sl.ownBlock ≠ some f.fb := by
  have hnd := h.nodup
  rw [dskBlocks_mid] at hnd
  refine ⟨fun e => ?_, fun e => ?_, fun e => ?_⟩ <;> rw [e] at hnd
  · exact (List.nodup_append.1 hnd).2.2 b (by simp) b (by simp) rfl
  · exact (List.nodup_append.1 hnd).2.2 m (by simp) m (by simp) rfl
  · exact (List.nodup_cons.1 (List.nodup_append.1 hnd).2.1).1 (by simp)

/-- What stands ahead of the last statement: the file is there. -/
structure Ready2 (w w3 : World) (b m : Nat) (d d3 : Dsk) (S : Nat → Prop) (n : Str) (l : List UInt8) (A B : List FE) (f : FE) : Prop where
  at3 : DiskAt w3 b m d3 (A ++ f :: B)
  name : f.name = n
  nA : n ∉ A.map FE.name
  ptr : ptrOf (A ++ f :: B) n = some ⟨f.fb, 0, none⟩
  goal : ({ d3 with files := setF d3.files n ⟨f.file.bytes ++ l, f.file.synced⟩ } : Dsk) = { d with files := setF d.files n ⟨(fileOf d.files n).bytes ++ l, (fileOf d.files n).synced⟩ }
  only : Only S w w3
  blocks : ∀ k ∈ dskBlocks b m (A ++ f :: B), S k ∨ w.heap.size ≤ k
  used : (usedF (A.map FE.nf) + (f.file.bytes ++ l).length + usedF (B.map FE.nf) : Nat) ≤ d3.most
  synced : f.file.synced ≤ f.file.bytes.length

theorem ptrOf_new {A : List FE} {f : FE} {B : List FE} (hA : f.name ∉ A.map FE.name) : ptrOf (A ++ f :: B) f.name = some ⟨f.fb, 0, none⟩ := by
  have hn : A.find? (·.name == f.name) = none := by
    rw [List.find?_eq_none]
    intro g hg hc
    exact hA (List.mem_map.2 ⟨g, hg, by simpa using hc⟩)
  simp [ptrOf, List.find?_append, hn]

theorem Append2_ok {w : World} {b : Nat} {d : Dsk} {S : Nat → Prop} (h : DiskIn w b d S) (n : Str) (l : List UInt8) (pn pd pb : Nat) (src : Value)
    (hn : w.cell? ⟨pn, 0, none⟩ = some (.string ⟨n.toArray⟩)) (hd : w.cell? ⟨pd, 0, none⟩ = some (.pointer (some ⟨b, 0, none⟩))) (hb : w.cell? ⟨pb, 0, none⟩ = some src) (hs : Bs w src l)
    (hsep : l ≠ [] → ∀ g, src.ownBlock = some g → ¬ S g) (hpn : ¬ S pn) (hpd : ¬ S pd) (hpb : ¬ S pb)
    (hmay : d.mayAppend n l = 0) :
    Calls Tryz.prog 91 #[.pointer (some ⟨pd, 0, none⟩), .pointer (some ⟨pn, 0, none⟩), .pointer (some ⟨pb, 0, none⟩)] w fun e w' =>
      e = .returned (.tuple #[]) ∧ DiskTo S w w' b { d with files := setF d.files n ⟨(fileOf d.files n).bytes ++ l, (fileOf d.files n).synced⟩ } := by
  obtain ⟨m, fs, hD, hS⟩ := h
  obtain ⟨i0, hi, hz0, hz1, hz2⟩ := info_parts Tryz.infoByte
  obtain ⟨c0, c1, -, -, -⟩ := hdr_cells hD.hdr
  obtain ⟨clock, hmap, hclk⟩ := hD.map
  obtain ⟨hok, hroom, hfew⟩ := mayAppend_zero hmay
  have hmost := hD.ok.most1
  obtain ⟨sa, sc, rfl, hll⟩ := hs.len
  have hpnl : pn < w.heap.size := World.block_lt_of_cell? w _ hn
  have hpdl : pd < w.heap.size := World.block_lt_of_cell? w _ hd
  have hpbl : pb < w.heap.size := World.block_lt_of_cell? w _ hb
  have d0 := cellG hn
  have d1 := cellG hd
  have d3 := cellG c0
  have hlk : ∀ p : Regrown, (Instr.lookup 113 (.map (some m)) (.string ⟨n.toArray⟩) false).run Tryz.prog (grow (redrawn w p.d) p.os) = .ok (.pointer (ptrOf fs n)) (grow (redrawn w p.d) p.os) := fun p =>
    look_file ((Nw.of_regrown ⟨p, rfl⟩ : Nw w _).at_ hmap) n
  rcases ptrOf_spec hD n with hcs | hcs
  case' inl =>
    obtain ⟨hnn, hp, hg⟩ := hcs
    rw [hp] at hlk
    have HP := Lib.hid hp
    have HM := Lib.hid hmap
    have HCLK := Lib.hid hclk
    have HG := Lib.hid hg
    clear hp hmap hclk hg
    go_enter Tryz.func91, Tryz.ntmps91
    go_wp2
    refine wp_region_quiet_below (by kernel_rfl) (by kernel_rfl) ?_
    repeat (first | go_big_quiet_step (fail) | quiet_step (fail))
    refine wpQuiet_nil ?_
    intro w1 hw1
    have hw1 := Nw.of_regrown hw1
    clear hlk d0 d1 d3
    have n1 := hw1.cell hn
    have e1 := hw1.cell hd
    have b1 := hw1.cell hb
    have s1 := Lib.hid (hs.nw hw1)
    have m1 := hw1.at_ HM.out
    have D1 := Lib.hid (hD.keep (w' := w1) fun k hk => hw1.block k (hD.lt k hk) (fun hf => hf))
    have k0 := hw1.cell c0
    have HN := Lib.hid hw1
    clear hn hd hb hs HM hD c0 c1 hw1
    go_wp2
    have g0 : ∀ p : InC (Nw w1), p.w.cell? ⟨pn, 0, none⟩ = some (.string ⟨n.toArray⟩) := fun p => p.h.cell n1
    have g1 : ∀ p : InC (Nw w1), p.w.cell? ⟨pd, 0, none⟩ = some (.pointer (some ⟨b, 0, none⟩)) := fun p => p.h.cell e1
    have g2 : ∀ p : InC (Nw w1), p.w.cell? ⟨b, 0, none⟩ = some (.map (some m)) := fun p => p.h.cell k0
    refine wp_region_in 7 [0, 1, 2, 3, 4, 5] [6, 7] (Nw w1) (by kernel_rfl) (by kernel_rfl) (fun _ _ _ _ _ h => h) ((Nw.refl _).drew) ?_
    repeat (refine wpReads_cons rfl (fun K hK => ?_); go_simp; first | (refine hK _ ?_; clear hK K) | (refine ⟨_, fun _ => rfl, ?_⟩; refine hK _ ?_; clear hK K))
    refine wpReads_nil ?_
    refine wpNums_cons rfl ?_
    go_wp2
    refine ⟨fun _ => ⟨⟨_, ((Nw.refl _).alloc _).drew⟩, rfl⟩, ?_⟩
    have hw2 : Nw w1 (w1.alloc (.cells #[.slice none 0 0, .int .i64 0] 126)).drew := ((Nw.refl _).alloc _).drew
    have hkn : n ∉ (fs.map FE.en).map En.key := by
      have h := hnn; rw [D1.out.files, names_of_FE] at h
      rw [List.map_map]; exact h
    have hst := run_store_miss (P := Tryz.prog) (L := fs.map FE.en) Tryz.underlying113 Tryz.underlying9 (hw2.at_ m1) (k := n) hkn (.pointer (some ⟨w1.heap.size, 0, none⟩))
    clear g0 g1 g2
    have HW2 := Lib.hid hw2
    have HKN := Lib.hid hkn
    clear hw2 hkn
    refine wpNums_cons rfl ?_
    go_wp2
    refine ⟨fun h => absurd h (by omega), ?_⟩
    refine wpNums_nil ?_
    have hsz2 : (w1.alloc (.cells #[.slice none 0 0, .int .i64 0] 126)).drew.heap.size = w1.heap.size + 1 := by simp
    have hm3 := setBlk_same (o' := .map (ents (fs.map FE.en ++ [⟨n, .pointer (some ⟨w1.heap.size, 0, none⟩), clock⟩])) (clock + 1)) (HW2.out.at_ m1)
    have ho3 : Only (fun k => k = m) w1 (World.setBlk (w1.alloc (.cells #[.slice none 0 0, .int .i64 0] 126)).drew m (.map (ents (fs.map FE.en ++ [⟨n, .pointer (some ⟨w1.heap.size, 0, none⟩), clock⟩])) (clock + 1))) :=
      Only.setBlk (S := fun k => k = m) HW2.out.only (fun _ => rfl) _
    have hmw : m < w1.heap.size := lt_of_block m1
    have hfb3 : (World.setBlk (w1.alloc (.cells #[.slice none 0 0, .int .i64 0] 126)).drew m (.map (ents (fs.map FE.en ++ [⟨n, .pointer (some ⟨w1.heap.size, 0, none⟩), clock⟩])) (clock + 1))).heap[w1.heap.size]? = some (.cells #[.slice none 0 0, .int .i64 0] 126 (0, 0)) := by
      rw [setBlk_other (by omega)]; exact heap_alloc_new w1 _
    have hsz3 : (World.setBlk (w1.alloc (.cells #[.slice none 0 0, .int .i64 0] 126)).drew m (.map (ents (fs.map FE.en ++ [⟨n, .pointer (some ⟨w1.heap.size, 0, none⟩), clock⟩])) (clock + 1))).heap.size = w1.heap.size + 1 := by rw [setBlk_size]; simp
    generalize World.setBlk (w1.alloc (.cells #[.slice none 0 0, .int .i64 0] 126)).drew m (.map (ents (fs.map FE.en ++ [⟨n, .pointer (some ⟨w1.heap.size, 0, none⟩), clock⟩])) (clock + 1)) = w3 at hm3 ho3 hfb3 hsz3 ⊢
    have hD1 := D1.out
    have hnA : n ∉ fs.map FE.name := by have h := hnn; rwa [hD1.files, names_of_FE] at h
    have hR : Ready2 w w3 b m d { d with files := d.files ++ [(n, ⟨[], 0⟩)] } S n l fs [] ⟨n, ⟨[], 0⟩, w1.heap.size, .slice none 0 0, clock⟩ := by
      refine ⟨hD1.add n w1.heap.size HCLK.out hm3 hfb3 (Nat.le_refl _) (fun k hk hkm => ho3.block k hk hkm) hnn hok (hfew hnn), rfl, hnA, ptrOf_new hnA, ?_, ?_, ?_, ?_, Nat.le_refl _⟩
      · have e1 : setF d.files n ⟨(fileOf d.files n).bytes ++ l, (fileOf d.files n).synced⟩ = d.files ++ [(n, ⟨[] ++ l, 0⟩)] := by
          rw [setF_miss hnn]; simp [fileOf, HG.out]
        rw [e1]
        show ({ d with files := setF (d.files ++ [(n, ⟨[], 0⟩)]) n ⟨[] ++ l, 0⟩ } : Dsk) = _
        rw [setF_hit hnn]
      · exact HN.out.only.trans (ho3.mono fun k _ e => by subst e; exact (hS _).2 (by simp [dskBlocks]))
      · intro k hk
        have : dskBlocks b m (fs ++ [⟨n, ⟨[], 0⟩, w1.heap.size, .slice none 0 0, clock⟩]) = dskBlocks b m fs ++ [w1.heap.size] := by simp [dskBlocks, FE.blocks, Value.ownBlock]
        rw [this, List.mem_append] at hk
        rcases hk with hk | hk
        · exact .inl ((hS k).2 hk)
        · simp at hk; subst hk; exact .inr HN.out.size
      · have := hroom
        rw [hD1.files] at this
        simpa [usedF] using this
    have R : Hid (∃ d3 A B f, Ready2 w w3 b m d d3 S n l A B f) := ⟨_, _, _, _, hR⟩
    have n3 := ho3.cell n1 (fun e => hpn ((show pn = m from e) ▸ (hS m).2 (by simp [dskBlocks])))
    have e3 := ho3.cell e1 (fun e => hpd ((show pd = m from e) ▸ (hS m).2 (by simp [dskBlocks])))
    have b3 := ho3.cell b1 (fun e => hpb ((show pb = m from e) ▸ (hS m).2 (by simp [dskBlocks])))
    have s3 := Lib.hid (s1.out.keep ho3 (fun hne g hg e => hsep hne g hg (e ▸ (hS m).2 (by simp [dskBlocks]))))
    clear hD1 hnA hR hst HW2 HKN hm3 ho3 hfb3 hsz3 hsz2 hmw n1 e1 b1 s1 m1 k0 HP HG HCLK HN D1
    clear clock
  case' inr =>
    obtain ⟨A, f, B, hfs, hfn, hnA, hp, hnn, hg⟩ := hcs
    rw [hp] at hlk
    have HM := Lib.hid hmap
    clear hmap hclk
    go_enter Tryz.func91, Tryz.ntmps91
    go_wp2
    refine wp_region_quiet_below (by kernel_rfl) (by kernel_rfl) ?_
    repeat (first | go_big_quiet_step (fail) | quiet_step (fail))
    refine wpQuiet_nil ?_
    intro w3 hw1
    have hw1 := Nw.of_regrown hw1
    clear hlk d0 d1 d3
    have n3 := hw1.cell hn
    have e3 := hw1.cell hd
    have b3 := hw1.cell hb
    have s3 := Lib.hid (hs.nw hw1)
    have hf := hD.file f (by rw [hfs]; simp)
    have hfo : fileOf d.files n = f.file := by simp [fileOf, hg]
    have hmem : d.files = A.map FE.nf ++ (f.name, f.file) :: B.map FE.nf := by rw [hD.files, hfs, nf_mid]
    have hR : Ready2 w w3 b m d d S n l A B f := by
      refine ⟨?_, hfn, hnA, ?_, by rw [hfo], hw1.only, fun k hk => .inl ((hS k).2 (by rw [hfs]; exact hk)), ?_, ?_⟩
      · rw [← hfs]; exact hD.keep (w' := w3) fun k hk => hw1.block k (hD.lt k hk) (fun hf => hf)
      · rw [← hfs]; exact hp
      · have := hroom
        rw [hmem, usedF_mid] at this
        rw [List.length_append]; omega
      · exact hD.ok.synced (f.name, f.file) (by rw [hmem]; simp)
    have R : Hid (∃ d3 A B f, Ready2 w w3 b m d d3 S n l A B f) := ⟨_, _, _, _, hR⟩
    clear hR hf hfo hmem hn hd hb hs hD c0 c1 hw1 hfs hfn hnA hp hg HM hnn
  all_goals
    go_wp2
    obtain ⟨d3, A', B', f', hR⟩ := R.out
    have hD3 := hR.at3
    have hbl := hR.blocks
    obtain ⟨k3, -, -, -, -⟩ := hdr_cells hD3.hdr
    obtain ⟨clk, map3, -⟩ := hD3.map
    have hf3 := hD3.mem
    obtain ⟨fa, fc, hsl⟩ := slice_form hf3.own
    have f0 : w3.cell? ⟨f'.fb, 0, none⟩ = some f'.sl := by simp [World.cell?, hf3.blk]
    obtain ⟨nb, nm, nf⟩ := own_ne hD3
    have hne : ∀ x : Nat, ¬ S x → x < w.heap.size → f'.sl.ownBlock ≠ some x := fun x hx hlt e => by
      rcases hbl x (by rw [dskBlocks_mid]; simp [e]) with h | h
      · exact hx h
      · omega
    have n4 := hne pn hpn hpnl
    have d4 := hne pd hpd hpdl
    have b4 := hne pb hpb hpbl
    have fused := hR.used
    have hmost3 := hD3.ok.most1
    rw [List.length_append] at fused
    have hl1 : f'.file.bytes.length + l.length ≤ 16777216 := by omega
    have hrow : RowF u8 5 w3.drew (.slice fa f'.file.bytes.length fc) f'.file.bytes := by rw [← hsl]; exact hf3.own.keep (fun g hg => rfl)
    have hsrc : Rd u8 w3.drew (.slice sa l.length sc) l := s3.out.nw ((Nw.refl w3).drew)
    have hown : (Value.slice fa f'.file.bytes.length fc).ownBlock = f'.sl.ownBlock := by rw [hsl]
    rw [hsl] at f0
    have hlk3 : ∀ p : InC (Only (fun k => f'.sl.ownBlock = some k) w3), (Instr.lookup 113 (.map (some m)) (.string ⟨n.toArray⟩) false).run Tryz.prog p.w = .ok (.pointer (some ⟨f'.fb, 0, none⟩)) p.w := fun p => by
      rw [← hR.ptr]; exact look_file (p.h.at_ map3 nm) n
    have g0 : ∀ p : InC (Only (fun k => f'.sl.ownBlock = some k) w3), p.w.cell? ⟨pn, 0, none⟩ = some (.string ⟨n.toArray⟩) := fun p => p.h.cell n3 n4
    have g1 : ∀ p : InC (Only (fun k => f'.sl.ownBlock = some k) w3), p.w.cell? ⟨pd, 0, none⟩ = some (.pointer (some ⟨b, 0, none⟩)) := fun p => p.h.cell e3 d4
    have g2 : ∀ p : InC (Only (fun k => f'.sl.ownBlock = some k) w3), p.w.cell? ⟨b, 0, none⟩ = some (.map (some m)) := fun p => p.h.cell k3 nb
    have g3 : ∀ p : InC (Only (fun k => f'.sl.ownBlock = some k) w3), p.w.cell? ⟨pb, 0, none⟩ = some (.slice sa l.length sc) := fun p => p.h.cell b3 b4
    have g4 : ∀ p : InC (Only (fun k => f'.sl.ownBlock = some k) w3), p.w.cell? ⟨f'.fb, 0, none⟩ = some (.slice fa f'.file.bytes.length fc) := fun p => p.h.cell f0 nf
    have HR := Lib.hid hR
    have HD := Lib.hid hD3
    have HF := Lib.hid hf3
    have HS := Lib.hid hsl
    have HW := Lib.hid hown
    have HB := Lib.hid hbl
    have HROW := Lib.hid hrow
    have HSRC := Lib.hid hsrc
    have HNF := Lib.hid nf
    have HF0 := Lib.hid f0
    clear hR hD3 hf3 hsl hown hbl hrow hsrc nb nm nf hne n4 d4 b4 k3 map3 n3 e3 b3 f0 R hmay hroom hfew hsep hpn hpd hpb hpnl hpdl hpbl fused
    refine wp_region_in 19 [0, 1, 2, 3, 4, 5, 6, 7, 8, 9, 10, 11, 12, 13, 14, 15] [16, 17, 18, 19] (Only (fun k => f'.sl.ownBlock = some k) w3) (by kernel_rfl) (by kernel_rfl) (fun _ _ _ _ _ h => h) ((Only.refl _).drew) ?_
    repeat (refine wpReads_cons rfl (fun K hK => ?_); go_simp; first | (refine hK _ ?_; clear hK K) | (refine ⟨_, fun _ => rfl, ?_⟩; refine hK _ ?_; clear hK K))
    refine wpReads_nil ?_
    refine wpNums_cons rfl ?_
    refine wpList_append_row u8_one rfl _ _ 45 rfl 5 i0 (.int .u8 0) 1 Tryz.underlying45 hi hz0 hz1 hz2 rfl rfl rfl HROW.out HSRC.out (by unfold maxLen; omega) (by omega) ?_
    intro v' w4 hr4 ho4 hfr hnil
    obtain ⟨va, vc, rfl⟩ := slice_form hr4
    have hC4 : Only (fun k => f'.sl.ownBlock = some k) w3 w4 := ((Only.refl w3).drew).trans (by rw [← HW.out]; exact ho4)
    have HR4 := Lib.hid hr4
    have HFR := Lib.hid hfr
    have HC4 := Lib.hid hC4
    have f4 : w4.heap[f'.fb]? = some (.cells #[f'.sl, .int .i64 f'.file.synced] 126 (0, 0)) := hC4.at_ HF.out.blk HNF.out
    have q1 : w4.cell? ⟨f'.fb, 0, none⟩ = some (.slice fa f'.file.bytes.length fc) := by rw [← HS.out]; simp [World.cell?, f4]
    have q2 : w4.frozen? ⟨f'.fb, 0, none⟩ = false := by simp [World.frozen?, f4]
    have HF4 := Lib.hid f4
    clear hr4 ho4 hfr hnil hC4 f4 hlk3 g0 g1 g2 g3 g4
    refine wpList_nil ?_
    go_wp2
    refine ⟨fun _ => ⟨⟨w4, HC4.out⟩, rfl⟩, ?_⟩
    refine wpNums_cons rfl ?_
    go_wp2
    refine ⟨fun _ => ⟨⟨w4, HC4.out⟩, rfl⟩, ?_⟩
    refine wpNums_cons rfl ?_
    go_wp2
    refine ⟨fun _ => ⟨⟨w4, HC4.out⟩, rfl⟩, ?_⟩
    refine wpNums_cons rfl ?_
    go_wp2
    refine ⟨fun h => absurd h (by omega), ?_⟩
    refine wpNums_nil ?_
    go_wp2
    refine bodyPost_end (results_none rfl _ _ _) rfl ⟨rfl, ?_⟩
    have hlen : (Value.slice va (f'.file.bytes.length + l.length) vc) = .slice va (f'.file.bytes ++ l).length vc := by rw [List.length_append]
    rw [hlen]
    have hf3l : f'.fb < w3.heap.size := lt_of_block HF.out.blk
    have hsl' : (Value.slice va (f'.file.bytes ++ l).length vc).ownBlock = f'.sl.ownBlock ∨ ∀ k, (Value.slice va (f'.file.bytes ++ l).length vc).ownBlock = some k → w3.heap.size ≤ k := by
      rcases HFR.out with h | h
      · exact .inl (h.trans HW.out)
      · exact .inr h
    have hto := HD.out.upd (w' := w4.setCell ⟨f'.fb, 0, none⟩ (.slice va (f'.file.bytes ++ l).length vc)) ⟨f'.file.bytes ++ l, f'.file.synced⟩ (.slice va (f'.file.bytes ++ l).length vc)
      (fun k hk hn => by
        simp only [FE.blocks, List.mem_cons, Option.mem_toList, not_or] at hn
        rw [Below.heap_setCell _ _ _ _ hn.1]; exact HC4.out.block k hk hn.2)
      ⟨by rw [heap_setCell_at HF4.out 0 _]; simp, HR4.out.keep fun g hg => by
        rw [Below.heap_setCell]
        rintro e
        have e' : g = f'.fb := e
        rcases hsl' with h | h
        · exact HNF.out (by rw [← h, hg, e'])
        · have := h g hg; omega⟩
      hsl' (by rw [HR.out.name]; exact HR.out.nA) (by show f'.file.synced ≤ (f'.file.bytes ++ l).length; rw [List.length_append]; have := HR.out.synced; omega) HR.out.used
    have hto0 := hto
    have hgoal := HR.out.goal
    have hto' : DiskAt (w4.setCell ⟨f'.fb, 0, none⟩ (.slice va (f'.file.bytes ++ l).length vc)) b m { d with files := setF d.files n ⟨(fileOf d.files n).bytes ++ l, (fileOf d.files n).synced⟩ } (A' ++ { f' with file := ⟨f'.file.bytes ++ l, f'.file.synced⟩, sl := .slice va (f'.file.bytes ++ l).length vc } :: B') := by rw [← hgoal, ← HR.out.name]; exact hto0
    refine ⟨_, ⟨m, _, hto', fun k => Iff.rfl⟩, ?_, ?_⟩
    · refine HR.out.only.trans' ((HC4.out.mono (T := fun k => k ∈ f'.blocks) fun k _ e => by simp [FE.blocks, e]).setCell (fun _ => by simp [FE.blocks]) _) fun k hk hkf => ?_
      rcases HB.out k (by simp only [dskBlocks, List.mem_cons, List.mem_flatMap]; exact .inr (.inr ⟨f', by simp, hkf⟩)) with h | h
      · exact h
      · omega
    · intro k hk
      rcases blocks_upd hsl' k hk with h | h
      · exact HB.out k h
      · exact .inr (Nat.le_trans HR.out.only.size h)
end Go.Proofs.YtoikjiojhlfgiaaGreatDoor
