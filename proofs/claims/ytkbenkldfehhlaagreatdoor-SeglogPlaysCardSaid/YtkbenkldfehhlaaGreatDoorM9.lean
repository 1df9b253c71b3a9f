/-
  Texts merged by a program of this claim's: OkPlain, Mix, Stp, Piece, SameDisk, Cut, Ref02E, Ref02F.
-/
import Derived.Test.YtkbenkldfehhlaaGreatDoorM5
import Derived.Test.YtkbenkldfehhlaaGreatDoorM8
import Derived.Test.YtkbenkldfehhlaaGreatDoorM6
import Derived.Test.YtkbenkldfehhlaaGreatDoorM4
import Derived.WalkKit
import Derived.Test.YtkbenkldfehhlaaGreatDoorM1
import Derived.Laws.Slices
namespace Go.Proofs.YtkbenkldfehhlaaGreatDoor
open Go Go.RowKit Go.Sort
set_option maxRecDepth 100000
set_option maxHeartbeats 800000
section
variable {d d' : Dsk} {n : Str} {x : Int}
theorem ok_setF (ok : d.Ok) {g : DFile} (hok : okName n = true) (hs : g.synced ≤ g.bytes.length) (hf : n ∈ namesF d.files ∨ d.files.length < 200) (hu : (usedF (setF d.files n g) : Int) ≤ d.most) : ({ d with files := setF d.files n g } : Dsk).Ok := by
  rcases split_name n d.files with h | ⟨A, f, B, hd, hA⟩
  · have hl : d.files.length < 200 := hf.resolve_left h
    have h1 := ok.add h hok hl
    rw [setF_miss h] at hu ⊢
    refine ⟨ok.most0, ok.most1, ok.arm0, ok.arm1, ?_, ?_, ?_, hu, ?_⟩
    · have := h1.names
      simpa [namesF] using this
    · have := h1.named
      simpa [namesF] using this
    · have := h1.few
      simpa using this
    · intro y hy
      rcases List.mem_append.1 hy with hy | hy
      · exact ok.synced y hy
      · rw [List.mem_singleton.1 hy]; exact hs
  · rw [hd, setF_hit hA] at hu ⊢
    exact ok.upd hd hs (by rw [usedF_mid] at hu; exact hu)
theorem ok_op (ok : d.Ok) {may : Int} {act : List (Str × DFile) → List (Str × DFile)} (hact : may = 0 → ({ d with files := act d.files } : Dsk).Ok) (hr : d.op may act = (d', x)) : d'.Ok := by
  unfold Dsk.op at hr
  split at hr
  · obtain ⟨rfl, -⟩ := Prod.mk.inj hr; exact ok
  · split at hr
    · obtain ⟨rfl, -⟩ := Prod.mk.inj hr; exact ok
    · rename_i hm
      split at hr
      · obtain ⟨rfl, -⟩ := Prod.mk.inj hr
        exact ⟨ok.most0, ok.most1, by simp, by simp, ok.names, ok.named, ok.few, ok.used, ok.synced⟩
      · obtain ⟨rfl, -⟩ := Prod.mk.inj hr
        have h := hact (by omega)
        have := ok.arm0; have := ok.arm1
        exact ⟨h.most0, h.most1, by simp only; omega, by simp only; omega, h.names, h.named, h.few, h.used, h.synced⟩
theorem mem_of_there (h : d.there n = 0) : n ∈ namesF d.files := by
  unfold Dsk.there at h
  split at h
  · assumption
  · exact absurd h (by decide)
theorem ok_append (ok : d.Ok) {l : List UInt8} (hr : d.append n l = (d', x)) : d'.Ok := by
  refine ok_op ok (fun hm => ?_) hr
  unfold Dsk.mayAppend at hm
  split at hm
  · rename_i hok
    split at hm
    · exact absurd hm (by decide)
    · rename_i hc
      have h2 := usedF_setF d.files n ⟨(fileOf d.files n).bytes ++ l, (fileOf d.files n).synced⟩
      have h3 := ok.le n
      simp only [List.length_append] at h2
      have hc1 : ¬ (d.most < (usedF d.files + l.length : Nat)) := fun h => hc (.inl h)
      have hc2 : ¬ (n ∉ namesF d.files ∧ 200 ≤ d.files.length) := fun h => hc (.inr h)
      refine ok_setF ok hok (by simp only [List.length_append]; omega) ?_ (by omega)
      by_cases hn : n ∈ namesF d.files
      · exact .inl hn
      · refine .inr ?_
        exact Nat.lt_of_not_le fun h => hc2 ⟨hn, h⟩
  · exact absurd hm (by decide)
theorem ok_sync (ok : d.Ok) (hr : d.sync n = (d', x)) : d'.Ok := by
  refine ok_op ok (fun hm => ?_) hr
  have hn := mem_of_there hm
  have h2 := usedF_setF d.files n ⟨(fileOf d.files n).bytes, (fileOf d.files n).bytes.length⟩
  have := ok.used
  exact ok_setF ok (ok.named n hn) (by simp) (.inl hn) (by simp only at h2; omega)
theorem ok_cut (ok : d.Ok) {k : Int} (hr : d.cut n k = (d', x)) : d'.Ok := by
  refine ok_op ok (fun hm => ?_) hr
  unfold Dsk.mayCut at hm
  split at hm
  · exact absurd hm (by decide)
  · rename_i f hg
    split at hm
    · exact absurd hm (by decide)
    · rename_i hc
      have hn : n ∈ namesF d.files := by
        rcases split_name n d.files with h | ⟨A, g, B, hd, hA⟩
        · rw [(getF_none _ _).2 h] at hg; cases hg
        · rw [hd]; simp [namesF]
      have hfo : fileOf d.files n = f := by unfold fileOf; rw [hg]; rfl
      have h2 := usedF_setF d.files n ⟨(fileOf d.files n).bytes.take k.toNat, k.toNat⟩
      have := ok.used
      simp only [List.length_take] at h2
      rw [hfo] at h2 ⊢
      have hk : ¬ (k < 0) := fun h => hc (.inl h)
      have hk2 : ¬ ((f.bytes.length : Int) < k) := fun h => hc (.inr h)
      exact ok_setF ok (ok.named n hn) (by simp; omega) (.inl hn) (by omega)
theorem ok_remove (ok : d.Ok) (hr : d.remove n = (d', x)) : d'.Ok := by
  refine ok_op ok (fun hm => ?_) hr
  have hn := mem_of_there hm
  rcases split_name n d.files with h | ⟨A, g, B, hd, hA⟩
  · exact absurd hn h
  · rw [show delF d.files n = A ++ B by rw [hd]; exact delF_hit hA]
    exact ok.del hd
theorem ok_rename (ok : d.Ok) {a b : Str} (hr : d.rename a b = (d', x)) : d'.Ok := by
  refine ok_op ok (fun hm => ?_) hr
  split at hm
  · rename_i hb
    exact ok.rename (mem_of_there hm) hb
  · exact absurd hm (by decide)
theorem ok_crashF (ok : d.Ok) : ∀ (ns : List Str) (ks : List Int) (L : List (Str × DFile)), ({ d with files := L } : Dsk).Ok → (∀ m ∈ ns, m ∈ namesF L) → ({ d with files := crashF ns ks L } : Dsk).Ok
  | [], _, _, h, _ => h
  | m :: ns, ks, L, h, hn => by
    have hm := hn m List.mem_cons_self
    have h2 := usedF_setF L m (leaves (fileOf L m) (ks.headD 0))
    have h3 := h.le m
    have hl : (leaves (fileOf L m) (ks.headD 0)).bytes.length ≤ (fileOf L m).bytes.length := by simp only [leaves, List.length_take]; omega
    have hu : (usedF L : Int) ≤ d.most := h.used
    have h4 := ok_setF (d := { d with files := L }) h (g := leaves (fileOf L m) (ks.headD 0)) (h.named m hm) (Nat.le_of_eq (leaves_le _ _ h3)) (.inl hm) (by show (usedF (setF L m _) : Int) ≤ d.most; omega)
    refine ok_crashF ok ns ks.tail _ h4 (fun y hy => ?_)
    have hy' := hn y (List.mem_cons_of_mem _ hy)
    rcases split_name m L with hx | ⟨A, g, B, hd, hA⟩
    · exact absurd hm hx
    · rw [hd, setF_hit hA]; rw [hd] at hy'; simpa [namesF] using hy'
theorem ok_crash (ok : d.Ok) (ks : List Int) : (d.crash ks).Ok := by
  have h := ok_crashF ok d.list ks d.files ok (fun m hm => by unfold Dsk.list at hm; exact List.mem_mergeSort.1 hm)
  exact ⟨h.most0, h.most1, by simp [Dsk.crash], by simp [Dsk.crash], h.names, h.named, h.few, h.used, h.synced⟩
end
end Go.Proofs.YtkbenkldfehhlaaGreatDoor

namespace Go.Proofs.YtkbenkldfehhlaaGreatDoor
open Go Go.RowKit

inductive Stp where
  | rd (i : Nat)
  | dn (i : Nat)

section
variable {P : Program} {ops : Array Oper} {md : Region.Mode} {C : World → Prop} {Q : Exit → Act → World → Prop}
def wpSteps (P : Program) (ops : Array Oper) (C : World → Prop) (Q : Exit → Act → World → Prop) (K : Act → World → Prop) : List Stp → Act → World → Prop
  | [], a, w => K a w
  | .rd i :: l, a, w => match ops[i]? with
    | none => False
    | some o => if Region.wanted o (yielded ops a.tmps) then Oper.reads P o a C (fun a' => wpSteps P ops C Q K l a' w) else wpSteps P ops C Q K l (a.put o.dst undef) w
  | .dn i :: l, a, w => wpOp P ops Q i (fun a' w' => C w' ∧ wpSteps P ops C Q K l a' w') a w
def Region.stepsB (md : Region.Mode) (ops : Array Oper) (n : Nat) (r : List Nat) : List Stp → Array Bool → Bool
  | [], listed => Region.numsB md ops r listed
  | .rd i :: l, listed => decide (i < n) && (Region.ready md ops listed).contains i && Region.free md ops listed i && Region.stepsB md ops n r l (listed.setIfInBounds i true)
  | .dn i :: l, listed => decide (i < n) && decide (Region.ready md ops listed = [i]) && Region.stepsB md ops n r l (listed.setIfInBounds i true)

theorem wpAnyK_steps {n : Nat} (hsel : Region.noSelect ops = true) (hs : Region.sinkB md ops n = true) (hc : Region.chainB md ops n = true) (hn : n < ops.size)
    (hQ : ∀ (c : List PanicEntry) (a : Act) (d : Tmp) (v : Value) (w : World), Q (.panic c) (a.put (some d) v) w → Q (.panic c) a w) (r : List Nat) :
    ∀ (l : List Stp) (listed : Array Bool) (a : Act) (w : World), C w → HeadInv md ops n listed → Region.stepsB md ops n r l listed = true → wpSteps P ops C Q (fun a' w' => wpNums P ops C n Q r a' w') l a w →
      wpAnyK P md ops C n Q (l.length + r.length) listed a w
  | [], listed, a, w, _, _, hB, h => by rw [List.length_nil, Nat.zero_add]; exact wpAnyK_nums r listed a w hB h
  | .dn i :: l, listed, a, w, hC, inv, hB, h => by
    simp only [Region.stepsB, Bool.and_eq_true, decide_eq_true_eq] at hB
    rw [show (Stp.dn i :: l).length + r.length = (l.length + r.length) + 1 by simp only [List.length_cons]; omega]
    refine ⟨fun h1 => (by rw [hB.1.2] at h1; cases h1), fun j hj => ?_⟩
    have hji : j = i := by rw [hB.1.2] at hj; simpa using hj
    subst hji
    exact wpOp_mono (fun a' w' h' => ⟨fun _ => h'.1, wpAnyK_steps hsel hs hc hn hQ r l _ a' w' h'.1 (inv.set hj hB.1.1) hB.2 h'.2⟩) h
  | .rd i :: l, listed, a, w, hC, inv, hB, h => by
    simp only [Region.stepsB, Bool.and_eq_true, decide_eq_true_eq] at hB
    obtain ⟨⟨⟨hin, hr⟩, hf⟩, hB'⟩ := hB
    have hr' : i ∈ Region.ready md ops listed := by simpa using hr
    obtain ⟨hun, o, ho, _⟩ := mem_ready.1 hr'
    simp only [wpSteps, ho] at h
    have key : ∃ v, YieldsW P ops C o v a ∧ wpSteps P ops C Q (fun a' w' => wpNums P ops C n Q r a' w') l (a.put o.dst v) w := by
      by_cases hw : Region.wanted o (yielded ops a.tmps) = true
      · simp only [hw, if_true] at h
        obtain ⟨v, h1, h2⟩ := h
        exact ⟨v, .inl ⟨hw, h1⟩, h2⟩
      · simp only [hw] at h
        exact ⟨undef, .inr ⟨by simpa using hw, rfl⟩, h⟩
    obtain ⟨v, hy, hK⟩ := key
    rw [show (Stp.rd i :: l).length + r.length = (l.length + r.length) + 1 by simp only [List.length_cons]; omega]
    exact wpAnyK_first ho (Region.noSelect_spec hsel) (fun c a w h => by cases hdst : o.dst with | none => (rw [hdst] at h; exact h) | some d => (rw [hdst] at h; exact hQ c a d v w h)) hs hc hn hin (l.length + r.length) listed a w hC inv (Region.free_spec ho hf) hr' hy
      (wpAnyK_steps hsel hs hc hn hQ r l _ _ w hC (inv.set hr' hin) hB' hK)

def Region.stpB (ops : Array Oper) (n : Nat) (l : List Stp) (r : List Nat) : Bool :=
  Region.noSelect ops && decide (n < ops.size) && Region.sinkB .any ops n && Region.chainB .any ops n && decide (l.length + r.length = ops.size) && Region.stepsB .any ops n r l (Array.replicate ops.size false)

theorem wp_region_steps {id : Nat} {a : Act} {w : World} {l : List Oper} (n : Nat) (st : List Stp) (r : List Nat) (C : World → Prop) (hm : P.follows .mixedOrders = true) (hB : Region.stpB l.toArray n st r = true)
    (hQ : ∀ (c : List PanicEntry) (a : Act) (d : Tmp) (v : Value) (w : World), Q (.panic c) (a.put (some d) v) w → Q (.panic c) a w) (hC : C w.drew)
    (h : wpSteps P l.toArray C Q (fun a' w' => wpNums P l.toArray C n Q r a' w') st a w.drew) : (Code.region id l.toArray true).wp P Q a w := by
  simp only [Region.stpB, Bool.and_eq_true, decide_eq_true_eq] at hB
  obtain ⟨⟨⟨⟨⟨hsel, hn⟩, hs⟩, hc⟩, hlen⟩, hR⟩ := hB
  have inv0 : HeadInv .any l.toArray n (Array.replicate l.toArray.size false) :=
    ⟨by simp, fun j oj _ hl => (by rw [getD_replicate_false] at hl; cases hl), fun t _ ht => getD_in (by simpa using ht) (getD_replicate_false _ _)⟩
  have H := wpAnyK_steps (md := .any) hsel hs hc hn hQ r st _ a w.drew hC inv0 hR h
  have H' := wpAny_of_K _ _ _ _ H
  rw [hlen] at H'
  exact wp_region_any hm H'
theorem wpSteps_nil {K : Act → World → Prop} {a : Act} {w : World} (h : K a w) : wpSteps P ops C Q K [] a w := h
theorem wpSteps_rd {K : Act → World → Prop} {a : Act} {w : World} {i : Nat} {l : List Stp} {o : Oper} (ho : ops[i]? = some o)
    (h : ∀ K' : Act → Prop, (∀ a, wpSteps P ops C Q K l a w → K' a) → if Region.wanted o (yielded ops a.tmps) then Oper.reads P o a C K' else K' (a.put o.dst undef)) : wpSteps P ops C Q K (.rd i :: l) a w := by
  simp only [wpSteps, ho]; exact h _ (fun _ h => h)
theorem wpSteps_val {K : Act → World → Prop} {a : Act} {w : World} {i : Nat} {l : List Stp} {o : Oper} (v : Value) (ho : ops[i]? = some o) (hw : Region.wanted o (yielded ops a.tmps) = true)
    (hv : ∀ w, C w → (execOp a.eval o).run P w = .ok (.value v) w) (h : wpSteps P ops C Q K l (a.put o.dst v) w) : wpSteps P ops C Q K (.rd i :: l) a w := by
  simp only [wpSteps, ho, hw, if_true]; exact ⟨v, hv, h⟩
theorem wpSteps_dn {K : Act → World → Prop} {a : Act} {w : World} {i : Nat} {l : List Stp} {o : Oper} (ho : ops[i]? = some o)
    (h : ∀ K' : Act → World → Prop, (∀ a w, C w → wpSteps P ops C Q K l a w → K' a w) → wpList P ops (Exit.then K' Q) [o] a w) : wpSteps P ops C Q K (.dn i :: l) a w := by
  have h := h (fun a' w' => C w' ∧ wpSteps P ops C Q K l a' w') (fun a w h1 h2 => ⟨h1, h2⟩)
  simp only [wpSteps, wpOp, ho]
  simp only [wpList] at h
  split
  · rename_i hw
    rw [if_pos hw] at h
    rcases h with h | ⟨h1, h2⟩
    · refine .inl ?_
      unfold Oper.wp at *
      generalize (execOp a.eval o).run P w = r at *
      cases r with
      | ok n w' =>
        cases n <;> simp only [Oper.upon] at h ⊢
        case value u => exact h
        case skip => exact h
        case defer d => exact h
        case enter f args => exact Calls.mono h fun e w'' he => by cases e <;> exact he
        case row row args => exact h
      | halt x w' =>
        cases x <;> simp only [Oper.upon] at h ⊢
        case panic u => exact h
    · exact .inr ⟨h1, h2⟩
  · rename_i hw
    rw [if_neg hw] at h
    exact h
end
end Go.Proofs.YtkbenkldfehhlaaGreatDoor

namespace Go.Proofs.YtkbenkldfehhlaaGreatDoor
open Go Go.RowKit
section
variable {P : Program} {L : List Oper} {C : World → Prop} {Q : Exit → Act → World → Prop}
theorem at_list {i : Nat} {o : Oper} (h : L[i]? = some o) : L.toArray[i]? = some o := by simpa using h
theorem stp_val {K : Act → World → Prop} {a : Act} {w : World} {i : Nat} {l : List Stp} {o : Oper} {d : Nat} (v : Value) (ho : L[i]? = some o) (hd : o.dst = some d) (hw : Region.wanted o (yielded L.toArray a.tmps) = true)
    (hv : ∀ w, C w → (execOp a.eval o).run P w = .ok (.value v) w) (h : wpSteps P L.toArray C Q K l (a.put (some d) v) w) : wpSteps P L.toArray C Q K (.rd i :: l) a w :=
  wpSteps_val v (at_list ho) hw hv (by rw [hd]; exact h)
theorem stp_to {K : Act → World → Prop} {a : Act} {w : World} {i : Nat} {l : List Stp} {o : Oper} {d : Nat} (v : Value) (ho : L[i]? = some o) (hd : o.dst = some d) (hw : Region.wanted o (yielded L.toArray a.tmps) = true)
    (hv : ∀ w, C w → (execOp a.eval o).run P w = .ok (.value v) w) (h : ∀ K' : Act → Prop, (∀ a, wpSteps P L.toArray C Q K l a w → K' a) → K' (a.put (some d) v)) : wpSteps P L.toArray C Q K (.rd i :: l) a w :=
  stp_val v ho hd hw hv (h _ fun _ h => h)
theorem stp_no {K : Act → World → Prop} {a : Act} {w : World} {i : Nat} {l : List Stp} {o : Oper} {d : Nat} (ho : L[i]? = some o) (hd : o.dst = some d) (hw : Region.wanted o (yielded L.toArray a.tmps) = false)
    (h : wpSteps P L.toArray C Q K l (a.put (some d) undef) w) : wpSteps P L.toArray C Q K (.rd i :: l) a w :=
  wpSteps_rd (at_list ho) fun K' hK' => by rw [if_neg (by rw [hw]; decide), hd]; exact hK' _ h
theorem stp_dn {K : Act → World → Prop} {a : Act} {w : World} {i : Nat} {l : List Stp} {o : Oper} (ho : L[i]? = some o)
    (h : ∀ K' : Act → World → Prop, (∀ a w, C w → wpSteps P L.toArray C Q K l a w → K' a w) → wpList P L.toArray (Exit.then K' Q) [o] a w) : wpSteps P L.toArray C Q K (.dn i :: l) a w :=
  wpSteps_dn (at_list ho) h
theorem stp_num {n : Nat} {a : Act} {w : World} {i : Nat} {l : List Nat} {o : Oper} (ho : L[i]? = some o)
    (h : wpList P L.toArray (Exit.then (fun a' w' => (i < n → C w') ∧ wpNums P L.toArray C n Q l a' w') Q) [o] a w) : wpNums P L.toArray C n Q (i :: l) a w :=
  wpNums_cons (at_list ho) h
theorem stp_do {n : Nat} {a : Act} {w : World} {i : Nat} {l : List Nat} {o : Oper} (ho : L[i]? = some o) (hin : ¬ i < n)
    (h : ∀ K' : Act → World → Prop, (∀ a w, wpNums P L.toArray C n Q l a w → K' a w) → wpList P L.toArray (Exit.then K' Q) [o] a w) : wpNums P L.toArray C n Q (i :: l) a w := by
  refine stp_num ho ?_
  exact h (fun a' w' => (i < n → C w') ∧ wpNums P L.toArray C n Q l a' w') (fun a w h => ⟨fun h' => absurd h' hin, h⟩)
end
end Go.Proofs.YtkbenkldfehhlaaGreatDoor

namespace Go.Proofs.YtkbenkldfehhlaaGreatDoor
open Go
def regionOf (n : Nat) : Code → Option Code
  | .region k ops d => if k = n then some (.region k ops d) else none
  | .seq a b => match regionOf n a with
    | some c => some c
    | none => regionOf n b
  | .cond _ a b => match regionOf n a with
    | some c => some c
    | none => regionOf n b
  | .block _ c => regionOf n c
  | .loop c => regionOf n c
  | .scope c => regionOf n c
  | _ => none
def condOf (n : Nat) : Code → Option Code
  | .seq a b => match condOf n a with
    | some c => some c
    | none => condOf n b
  | .cond (.tmp t) a b => if t = n then some (.cond (.tmp t) a b) else match condOf n a with
    | some c => some c
    | none => condOf n b
  | .cond _ a b => match condOf n a with
    | some c => some c
    | none => condOf n b
  | .block _ c => condOf n c
  | .loop c => condOf n c
  | .scope c => condOf n c
  | _ => none
def condLast (n : Nat) : Code → Option Code
  | .seq a b => match condLast n b with
    | some c => some c
    | none => condLast n a
  | .cond (.tmp t) a b => if t = n then some (.cond (.tmp t) a b) else match condLast n b with
    | some c => some c
    | none => condLast n a
  | .cond _ a b => match condLast n b with
    | some c => some c
    | none => condLast n a
  | .block _ c => condLast n c
  | .loop c => condLast n c
  | .scope c => condLast n c
  | _ => none
def blockOf (n : Nat) : Code → Option Code
  | .seq a b => match blockOf n a with
    | some c => some c
    | none => blockOf n b
  | .cond _ a b => match blockOf n a with
    | some c => some c
    | none => blockOf n b
  | .block k c => if k = n then some (.block k c) else blockOf n c
  | .loop c => blockOf n c
  | .scope c => blockOf n c
  | _ => none
def PanicOk (Q : Exit → Act → World → Prop) : Prop := ∀ (c : List PanicEntry) (a : Act) (d : Tmp) (v : Value) (w : World), Q (.panic c) (a.put (some d) v) w → Q (.panic c) a w
end Go.Proofs.YtkbenkldfehhlaaGreatDoor

namespace Go.Proofs.YtkbenkldfehhlaaGreatDoor
open Go Go.RowKit Go.Sort
set_option maxRecDepth 100000
set_option maxHeartbeats 3200000
section
variable {X : Nat → Prop}

theorem getF_at {L : List (Str × DFile)} (hn : (namesF L).Nodup) (k : Nat) (hk : k < L.length) : getF L L[k].1 = some L[k].2 := by
  induction L generalizing k with
  | nil => exact absurd hk (by simp)
  | cons x L ih =>
    obtain ⟨m, f⟩ := x
    have hn' : m ∉ namesF L ∧ (namesF L).Nodup := by simpa [namesF] using hn
    cases k with
    | zero => simp [getF]
    | succ k =>
      have hk' : k < L.length := by simpa using hk
      have hne : ¬ m = L[k].1 := fun e => hn'.1 (by rw [e]; exact List.mem_map_of_mem (List.getElem_mem hk'))
      simp only [List.getElem_cons_succ, getF, if_neg hne]
      exact ih hn'.2 k hk'

theorem sd2 {wc : World} {b p : Nat} {S : Nat → Prop} {d : Dsk} {most left : Int} {a la : Option Addr} {cap lc : Nat} {down : Bool} {L : List (Str × DFile)} (HD : Hid (DiskIn wc b d S)) (HB : Hid (wc.heap[p]? = some (DB (.int .i64 most) (.slice a L.length cap) (.int .i64 left) (.bool down)))) (HR : Hid (RefD X wc (.agg #[.int .i64 most, .slice a L.length cap, .int .i64 left, .bool down]) ⟨most, L, left, down⟩)) (hdn : Hid (d.down = down)) (hus : Hid (usedF d.files = usedF L)) (hul : Hid (usedF L ≤ 16777216))  {u1 u2 u4 u6 u7 u8 u9 u10 u11 u12 u13 u14 u15 u16 u17 u18 u19 u20 u21 u22 u23 u24 u25 u26 u27 u28 u29 u30 u31 u32 u33 u34 u35 u36 u37 u38 u39 u40 u41 u42 u43 u44 u45 u46 u47 u48 u49 u50 u51 u52 u53 u54 u55 u56 u57 u58 u59 u60 u61 u62 u63 u64 u65 u66 u67 u68 u69 u70 u71 u72 u73 u74 u75 u76 u77 u78 u79 u80 u81 u82 u83 u84 u85 u86 u87 u88 u89 u90 u91 u92 u93 u94 u95 u96 u97 : Value} {Q : Exit → Act → World → Prop} (hP : PanicOk Q)
    (hQ : ∀ (s12 s13 s14 s15 s16 s17 s18 s19 s20 s21 s22 s23 s24 s25 s26 s27 s28 s29 s30 : Value)  (wx : World), Nw wc wx → Q .normal ⟨#[.pointer (some ⟨b, 0, none⟩), u1, u2, .pointer (some ⟨p, 0, none⟩), u4, .slice la L.length lc, u6, u7, u8, u9, u10, u11, s12, s13, s14, s15, s16, s17, s18, s19, s20, s21, s22, s23, s24, s25, s26, s27, s28, s29, s30, .bool false, u32, u33, u34, u35, u36, u37, u38, u39, u40, u41, u42, u43, u44, u45, u46, u47, u48, u49, u50, u51, u52, u53, u54, u55, u56, u57, u58, u59, u60, u61, u62, u63, u64, u65, u66, u67, u68, u69, u70, u71, u72, u73, u74, u75, u76, u77, u78, u79, u80, u81, u82, u83, u84, u85, u86, u87, u88, u89, u90, u91, u92, u93, u94, u95, u96, u97], []⟩ wx) :
    Code.wp Tryz.prog ((Tryz.f12.body.bind (regionOf 2)).getD .skip) Q ⟨#[.pointer (some ⟨b, 0, none⟩), u1, u2, .pointer (some ⟨p, 0, none⟩), u4, .slice la L.length lc, u6, u7, u8, u9, u10, u11, u12, u13, u14, u15, u16, u17, u18, u19, u20, u21, u22, u23, u24, u25, u26, u27, u28, u29, u30, u31, u32, u33, u34, u35, u36, u37, u38, u39, u40, u41, u42, u43, u44, u45, u46, u47, u48, u49, u50, u51, u52, u53, u54, u55, u56, u57, u58, u59, u60, u61, u62, u63, u64, u65, u66, u67, u68, u69, u70, u71, u72, u73, u74, u75, u76, u77, u78, u79, u80, u81, u82, u83, u84, u85, u86, u87, u88, u89, u90, u91, u92, u93, u94, u95, u96, u97], []⟩ wc := by
  have _hP := hP
  dsimp only at hQ ⊢
  conv => arg 2; whnf
  have HQ := Lib.hid hQ
  clear hQ
  obtain ⟨b0, b1, b2, b3, -⟩ := box_cells HB.out
  have d0 := cellG b0
  have d1 := cellG b1
  have d2 := cellG b2
  have d3 := cellG b3
  clear b0 b1 b2 b3
  have C1 : Hid (∀ p' : Regrown, Calls Tryz.prog 49 #[.pointer (some ⟨b, 0, none⟩)] (grow (redrawn wc p'.d) p'.os) fun e w'' => e = .returned (.bool down) ∧ ∃ p'' : Regrown, w'' = grow (redrawn wc p''.d) p''.os) := Lib.hid (fun p' => quiet_nw fun w2 hw2 => (Down_ok (HD.out.nw hw2)).mono fun e w' ⟨he, hw⟩ => ⟨by rw [he, hdn.out], by rw [← hw]; exact Nw.refl _⟩)
  have C2 : Hid (∀ p' : Regrown, Calls Tryz.prog 50 #[.pointer (some ⟨b, 0, none⟩)] (grow (redrawn wc p'.d) p'.os) fun e w'' => e = .returned (.int .i64 (usedF L)) ∧ ∃ p'' : Regrown, w'' = grow (redrawn wc p''.d) p''.os) := Lib.hid (fun p' => quiet_nw fun w2 hw2 => by have := Used_ok (HD.out.nw hw2); rw [hus.out] at this; exact this)
  have C3 : Hid (∀ p' : Regrown, Calls Tryz.prog 51 #[.agg #[.int .i64 most, .slice a L.length cap, .int .i64 left, .bool down]] (grow (redrawn wc p'.d) p'.os) fun e w'' => e = .returned (.int .i64 (usedF L)) ∧ ∃ p'' : Regrown, w'' = grow (redrawn wc p''.d) p''.os) := Lib.hid (fun p' => quiet_nw fun w2 hw2 => rUsed_ok (HR.out.nw hw2) (by show usedF L ≤ _; have := hul.out; omega))
  refine wp_region_quiet_below (by kernel_rfl) (by kernel_rfl) ?_
  repeat (first | go_big_quiet_step (first | with_reducible exact C1.out _ | with_reducible exact C2.out _ | with_reducible exact C3.out _) | quiet_step (first | with_reducible exact C1.out _ | with_reducible exact C2.out _ | with_reducible exact C3.out _))
  refine wpQuiet_nil ?_
  intro w2 hw2
  exact HQ.out _ _ _ _ _ _ _ _ _ _ _ _ _ _ _ _ _ _ _  _ (Nw.of_regrown hw2)

theorem sd8 {wc : World} {b pf lg lo nl lc k xc : Nat} {S : Nat → Prop} {d : Dsk} {nm : Str} {x2 : List UInt8} {x3 : Nat} {xa : Option Addr} (hk : k < nl) (hnl : nl ≤ lc) (HD : Hid (DiskIn wc b d S)) (HL : Hid (wc.cell? ⟨lg, lo + k, none⟩ = some (.string ⟨nm.toArray⟩))) (HF : Hid (wc.heap[pf]? = some (.cells #[.string ⟨nm.toArray⟩, .slice xa x2.length xc, .int .i64 x3] 104 (0, 0)))) (hf : Hid (fileOf d.files nm = ⟨x2, x3⟩))  {u1 u2 u3 u4 u8 u9 u10 u11 u12 u13 u14 u15 u16 u17 u18 u19 u20 u21 u22 u23 u24 u25 u26 u27 u28 u29 u30 u31 u32 u33 u34 u35 u36 u37 u38 u39 u40 u41 u42 u43 u44 u45 u46 u47 u48 u49 u50 u51 u52 u53 u54 u55 u56 u57 u58 u59 u60 u61 u62 u63 u64 u65 u66 u67 u68 u69 u70 u71 u72 u73 u74 u75 u76 u77 u78 u79 u80 u81 u82 u83 u84 u85 u86 u87 u88 u89 u90 u91 u92 u93 u94 u95 u96 u97 : Value} {Q : Exit → Act → World → Prop} (hP : PanicOk Q)
    (hQ : ∀ (s43 s44 s45 s46 s47 s48 s49 s50 s51 s52 s53 s54 s55 s56 s57 s58 s59 s60 s61 s62 s63 s64 s65 s66 s67 s68 s69 s70 s71 : Value)  (wx : World), Nw wc wx → Q .normal ⟨#[.pointer (some ⟨b, 0, none⟩), u1, u2, u3, u4, .slice (some ⟨lg, lo, none⟩) nl lc, .int .i64 k, .pointer (some ⟨pf, 0, none⟩), u8, u9, u10, u11, u12, u13, u14, u15, u16, u17, u18, u19, u20, u21, u22, u23, u24, u25, u26, u27, u28, u29, u30, u31, u32, u33, u34, u35, u36, u37, u38, u39, u40, u41, u42, s43, s44, s45, s46, s47, s48, s49, s50, s51, s52, s53, s54, s55, s56, s57, s58, s59, s60, s61, s62, s63, s64, s65, s66, s67, s68, s69, s70, s71, .bool false, u73, u74, u75, u76, u77, u78, u79, u80, u81, u82, u83, u84, u85, u86, u87, u88, u89, u90, u91, u92, u93, u94, u95, u96, u97], []⟩ wx) :
    Code.wp Tryz.prog ((Tryz.f12.body.bind (regionOf 8)).getD .skip) Q ⟨#[.pointer (some ⟨b, 0, none⟩), u1, u2, u3, u4, .slice (some ⟨lg, lo, none⟩) nl lc, .int .i64 k, .pointer (some ⟨pf, 0, none⟩), u8, u9, u10, u11, u12, u13, u14, u15, u16, u17, u18, u19, u20, u21, u22, u23, u24, u25, u26, u27, u28, u29, u30, u31, u32, u33, u34, u35, u36, u37, u38, u39, u40, u41, u42, u43, u44, u45, u46, u47, u48, u49, u50, u51, u52, u53, u54, u55, u56, u57, u58, u59, u60, u61, u62, u63, u64, u65, u66, u67, u68, u69, u70, u71, u72, u73, u74, u75, u76, u77, u78, u79, u80, u81, u82, u83, u84, u85, u86, u87, u88, u89, u90, u91, u92, u93, u94, u95, u96, u97], []⟩ wc := by
  have _hP := hP
  dsimp only at hQ ⊢
  conv => arg 2; whnf
  have HQ := Lib.hid hQ
  clear hQ
  obtain ⟨f0, f1, f2, -⟩ := box_cells3 HF.out
  have d0 := cellG f0
  have d1 := cellG f1
  have d2 := cellG f2
  have d3 := cellG HL.out
  clear f0 f1 f2
  have hk0 : (0 : Int) ≤ (k : Int) := by omega
  have hk1 : (k : Int) < (nl : Int) := by omega
  have C1 : Hid (∀ p' : Regrown, Calls Tryz.prog 41 #[.pointer (some ⟨b, 0, none⟩), .string ⟨nm.toArray⟩] (grow (redrawn wc p'.d) p'.os) fun e w'' => e = .returned (.int .i64 x2.length) ∧ ∃ p'' : Regrown, w'' = grow (redrawn wc p''.d) p''.os) := Lib.hid (fun p' => quiet_nw fun w2 hw2 => by have := Size_ok (HD.out.nw hw2) nm; rw [hf.out] at this; exact this)
  have C2 : Hid (∀ p' : Regrown, Calls Tryz.prog 52 #[.pointer (some ⟨b, 0, none⟩), .string ⟨nm.toArray⟩] (grow (redrawn wc p'.d) p'.os) fun e w'' => e = .returned (.int .i64 x3) ∧ ∃ p'' : Regrown, w'' = grow (redrawn wc p''.d) p''.os) := Lib.hid (fun p' => quiet_nw fun w2 hw2 => by have := Synced_ok (HD.out.nw hw2) nm; rw [hf.out] at this; exact this)
  have C3 := C2
  refine wp_region_quiet_below (by kernel_rfl) (by kernel_rfl) ?_
  repeat (first | go_big_quiet_step (first | with_reducible exact C1.out _ | with_reducible exact C2.out _ | with_reducible exact C3.out _) | quiet_step (first | with_reducible exact C1.out _ | with_reducible exact C2.out _ | with_reducible exact C3.out _))
  refine wpQuiet_nil ?_
  intro w2 hw2
  exact HQ.out _ _ _ _ _ _ _ _ _ _ _ _ _ _ _ _ _ _ _ _ _ _ _ _ _ _ _ _ _  _ (Nw.of_regrown hw2)

theorem sd11 {wc : World} {p pf xc bc cap : Nat} {most left : Int} {a xa ba : Option Addr} {down : Bool} {L : List (Str × DFile)} {nm : Str} {x2 bl : List UInt8} {x3 : Nat} {e : Int} (HB : Hid (wc.heap[p]? = some (DB (.int .i64 most) (.slice a L.length cap) (.int .i64 left) (.bool down)))) (HF : Hid (wc.heap[pf]? = some (.cells #[.string ⟨nm.toArray⟩, .slice xa x2.length xc, .int .i64 x3] 104 (0, 0)))) (HX : Hid (Bs wc (.slice xa x2.length xc) x2)) (HBL : Hid (Bs wc (.slice ba bl.length bc) bl)) (hrd : Hid ((bl, e) = if down then ([], 15) else (x2, 0)))  {u0 u1 u2 u4 u5 u6 u10 u11 u12 u13 u14 u15 u16 u17 u18 u19 u20 u21 u22 u23 u24 u25 u26 u27 u28 u29 u30 u31 u32 u33 u34 u35 u36 u37 u38 u39 u40 u41 u42 u43 u44 u45 u46 u47 u48 u49 u50 u51 u52 u53 u54 u55 u56 u57 u58 u59 u60 u61 u62 u63 u64 u65 u66 u67 u68 u69 u70 u71 u72 u73 u74 u75 u76 u77 u78 u79 u80 u81 u82 u83 u84 u85 u86 u87 u88 u89 u90 u91 u92 u93 u94 u95 u96 u97 : Value} {Q : Exit → Act → World → Prop} (hP : PanicOk Q)
    (hQ : ∀ (s82 s83 s84 s85 s86 s87 s88 s89 s90 s91 s92 s93 s94 s95 s96 : Value)  (wx : World), wx = wc → Q .normal ⟨#[u0, u1, u2, .pointer (some ⟨p, 0, none⟩), u4, u5, u6, .pointer (some ⟨pf, 0, none⟩), .slice ba bl.length bc, .int .i64 e, u10, u11, u12, u13, u14, u15, u16, u17, u18, u19, u20, u21, u22, u23, u24, u25, u26, u27, u28, u29, u30, u31, u32, u33, u34, u35, u36, u37, u38, u39, u40, u41, u42, u43, u44, u45, u46, u47, u48, u49, u50, u51, u52, u53, u54, u55, u56, u57, u58, u59, u60, u61, u62, u63, u64, u65, u66, u67, u68, u69, u70, u71, u72, u73, u74, u75, u76, u77, u78, u79, u80, u81, s82, s83, s84, s85, s86, s87, s88, s89, s90, s91, s92, s93, s94, s95, s96, .bool false], []⟩ wx) :
    Code.wp Tryz.prog ((Tryz.f12.body.bind (regionOf 11)).getD .skip) Q ⟨#[u0, u1, u2, .pointer (some ⟨p, 0, none⟩), u4, u5, u6, .pointer (some ⟨pf, 0, none⟩), .slice ba bl.length bc, .int .i64 e, u10, u11, u12, u13, u14, u15, u16, u17, u18, u19, u20, u21, u22, u23, u24, u25, u26, u27, u28, u29, u30, u31, u32, u33, u34, u35, u36, u37, u38, u39, u40, u41, u42, u43, u44, u45, u46, u47, u48, u49, u50, u51, u52, u53, u54, u55, u56, u57, u58, u59, u60, u61, u62, u63, u64, u65, u66, u67, u68, u69, u70, u71, u72, u73, u74, u75, u76, u77, u78, u79, u80, u81, u82, u83, u84, u85, u86, u87, u88, u89, u90, u91, u92, u93, u94, u95, u96, u97], []⟩ wc := by
  have _hP := hP
  dsimp only at hQ ⊢
  conv => arg 2; whnf
  have HQ := Lib.hid hQ
  clear hQ
  obtain ⟨b0, b1, b2, b3, -⟩ := box_cells HB.out
  obtain ⟨f0, f1, f2, -⟩ := box_cells3 HF.out
  have h := hrd.out
  cases down
  · simp only [Bool.false_eq_true, if_false] at h
    obtain ⟨rfl, rfl⟩ := Prod.mk.inj h
    clear h
    go_wp2_with fail
    refine (SameBytes_ok HBL.out HX.out).mono ?_
    rintro e w2 ⟨rfl, rfl⟩
    rw [show (bl == bl) = true by simp]
    go_wp2_with fail
    exact HQ.out _ _ _ _ _ _ _ _ _ _ _ _ _ _ _  _ rfl
  · simp only [if_true] at h
    obtain ⟨rfl, rfl⟩ := Prod.mk.inj h
    clear h
    go_wp2_with fail
    exact HQ.out _ _ _ _ _ _ _ _ _ _ _ _ _ _ _  _ rfl

theorem SameDisk_ok {w : World} {b : Nat} {d r : Dsk} {S : Nat → Prop} {v : Value} (h : DiskIn w b d S) (hr : RefD X w v r) (ho : RefOf d r) :
    Calls Tryz.prog 12 #[.pointer (some ⟨b, 0, none⟩), v] w fun e w' => e = .returned (.bool true) ∧ Nw w w' := by
  have ok := h.ok
  have hlist := ho.list ok
  have HD := Lib.hid h
  have HR := Lib.hid hr
  obtain ⟨sv, rfl, hFL⟩ := hr
  obtain ⟨a, cap, rfl, h1, h2, hel⟩ := hFL.elem
  obtain ⟨most, L, left, down⟩ := r
  have hus : Hid (usedF d.files = usedF L) := Lib.hid (ho.used ok).symm
  have hdn : Hid (d.down = down) := Lib.hid ho.down.symm
  have hul : Hid (usedF L ≤ 16777216) := Lib.hid (ROk.of ok ho).used
  have HO := Lib.hid ho
  simp only at h1 h2 hel hlist HR
  have HE := Lib.hid hel
  have HLS := Lib.hid hlist
  clear hFL hel hlist h ho ok
  unfold maxLen at h2
  have HB0 := Lib.hid (heap_alloc_new w (DB (.int .i64 most) (.slice a L.length cap) (.int .i64 left) (.bool down)))
  have N0 := Lib.hid ((Nw.refl w).alloc (DB (.int .i64 most) (.slice a L.length cap) (.int .i64 left) (.bool down)))
  go_enter Tryz.func12, Tryz.ntmps12
  go_wp2_with fail
  generalize w.alloc (.cells #[.int .i64 most, .slice a L.length cap, .int .i64 left, .bool down] 28) = W0 at HB0 N0 ⊢
  have LO := List_ok (HD.out.nw N0.out)
  rw [HLS.out] at LO
  refine LO.mono ?_
  clear LO
  rintro e w1 ⟨v1, rfl, hv1, n1, -⟩
  obtain ⟨la, lc, rfl, hl1, hl2, hle⟩ := hv1.elems
  have HLE := Lib.hid hle
  have N1 := Lib.hid (N0.out.trans n1)
  have B1 := Lib.hid (n1.at_ HB0.out)
  have hnl : (namesF L).length = L.length := by simp [namesF]
  rw [hnl] at hl1
  clear hv1 hle n1
  rw [hnl]
  have HNL := Lib.hid hnl
  clear hnl
  unfold maxLen at hl2
  go_upto_region 2 with fail
  refine sd2 (Lib.hid (HD.out.nw N1.out)) B1 (Lib.hid (HR.out.nw N1.out)) hdn hus hul (fun _ _ _ _ _ h => h) ?_
  intro s12 s13 s14 s15 s16 s17 s18 s19 s20 s21 s22 s23 s24 s25 s26 s27 s28 s29 s30 w2 hw2
  have N2 := Lib.hid hw2
  have B2 := Lib.hid (hw2.at_ B1.out)
  clear hw2
  go_wp2
  go_loopw [6] (fun i wr => ∃ k : Nat, k ≤ L.length ∧ i = .int .i64 k ∧ Nw w2 wr) (fun i _ => L.length - (intOf i).toNat)
  case atStart => exact ⟨0, Nat.zero_le _, rfl, Nw.refl _⟩
  case round =>
    obtain ⟨k, hk, rfl, hwr⟩ := hrel
    have HW := Lib.hid hwr
    clear hwr
    have NR := Lib.hid ((N1.out.trans N2.out).trans HW.out)
    have BR := Lib.hid (HW.out.at_ B2.out)
    by_cases hlt : k < L.length
    · obtain ⟨g, o, bb, rfl, c0, c1, c2, hb⟩ := HE.out k hlt
      have c0 := NR.out.cell c0
      have c1 := NR.out.cell c1
      have c2 := NR.out.cell c2
      obtain ⟨xa, xc, rfl, -⟩ := hb.len
      obtain ⟨lg, lo, rfl, -, hcl⟩ := HLE.out k (by rw [HNL.out]; exact hlt)
      have hcl := (N2.out.trans HW.out).cell hcl
      have hname : (namesF L)[k]'(by rw [HNL.out]; exact hlt) = L[k].1 := by simp [namesF]
      rw [hname] at hcl
      have hget : getF L L[k].1 = some L[k].2 := getF_at (srt_nodup HO.out.srt) k hlt
      have HX := Lib.hid hb
      have HG := Lib.hid hget
      clear hb hname hget
      obtain ⟨b0, b1, b2, b3, -⟩ := box_cells BR.out
      generalize L[k] = x at *
      obtain ⟨x1, x2, x3⟩ := x
      simp only at c0 c1 c2 hcl HG HX
      have HCL := Lib.hid (show wr.cell? ⟨lg, lo + k, none⟩ = some (.string ⟨x1.toArray⟩) from hcl)
      clear hcl
      go_upto_region 8 with fail
      have F2 := Lib.hid (heap_alloc_new wr (.cells #[.string ⟨x1.toArray⟩, .slice xa x2.length xc, .int .i64 x3] 104))
      have NA := Lib.hid ((Nw.refl wr).alloc (.cells #[.string ⟨x1.toArray⟩, .slice xa x2.length xc, .int .i64 x3] 104))
      generalize hpf : wr.heap.size = pf at F2 ⊢
      generalize wr.alloc (.cells #[.string ⟨x1.toArray⟩, .slice xa x2.length xc, .int .i64 x3] 104) = W3 at F2 NA ⊢
      clear c0 c1 c2 b0 b1 b2 b3 hpf
      have hfd : fileOf d.files x1 = ⟨x2, x3⟩ := by rw [← HO.out.file]; simp [fileOf, HG.out]
      have HFD := Lib.hid hfd
      have hrd0 : d.read x1 = if down then ([], 15) else (x2, 0) := by
        unfold Dsk.read
        rw [hdn.out, ← HO.out.get, HG.out]
      have HRD := Lib.hid hrd0
      clear hfd hrd0
      have N3 := Lib.hid (NR.out.trans NA.out)
      refine sd8 hlt hl1 (Lib.hid (HD.out.nw N3.out)) (Lib.hid (NA.out.cell HCL.out)) F2 HFD (fun _ _ _ _ _ h => h) ?_
      intro s43 s44 s45 s46 s47 s48 s49 s50 s51 s52 s53 s54 s55 s56 s57 s58 s59 s60 s61 s62 s63 s64 s65 s66 s67 s68 s69 s70 s71 w4 hw4
      have N4 := Lib.hid hw4
      clear hw4
      have hcl := N4.out.cell (NA.out.cell HCL.out)
      have hk0 : (0 : Int) ≤ (k : Int) := by omega
      have hk1 : (k : Int) < (L.length : Int) := by omega
      go_wp2_with fail
      refine (Read_ok (HD.out.nw (N3.out.trans N4.out)) x1).mono ?_
      rintro e w5 ⟨v5, rfl, hown, n5, -⟩
      obtain ⟨ba, bc, hbv, -⟩ := hown.rd.len
      obtain ⟨bl, ee, hbe⟩ : ∃ bl ee, d.read x1 = (bl, ee) := ⟨_, _, rfl⟩
      rw [hbe] at hown hbv ⊢
      simp only at hown hbv
      subst hbv
      have BL := Lib.hid hown.rd
      have N5 := Lib.hid n5
      have HBE := Lib.hid hbe
      clear hown n5 hbe hcl
      go_upto_region 11 with fail
      have N35 := Lib.hid ((NA.out.trans N4.out).trans N5.out)
      refine sd11 (Lib.hid (N35.out.at_ BR.out)) (Lib.hid (N5.out.at_ (N4.out.at_ F2.out))) (Lib.hid (HX.out.1.nw (NR.out.trans N35.out))) BL (Lib.hid (HBE.out.symm.trans HRD.out)) (fun _ _ _ _ _ h => h) ?_
      intro s82 s83 s84 s85 s86 s87 s88 s89 s90 s91 s92 s93 s94 s95 s96 w6 hw6
      subst hw6
      go_wp2
      go_roundw
      case rel => exact ⟨k + 1, by omega, by go_num, HW.out.trans N35.out⟩
      case measure => simp [intOf]; omega
    · go_wp2
      go_ret
      exact ⟨rfl, NR.out⟩

end
end Go.Proofs.YtkbenkldfehhlaaGreatDoor

namespace Go.Proofs.YtkbenkldfehhlaaGreatDoor
open Go Go.RowKit
section
variable {α : Type} {f : α → Value} {w : World} {a : Option Addr} {n c k : Nat} {l : List α}
theorem Rd.take (h : Rd f w (.slice a n c) l) (hk : k ≤ l.length) : Rd f w (sliced a 0 k c 1) (l.take k) := by
  rcases h with ⟨a', h1, rfl⟩ | ⟨g, o, cap, h1, h2, h3, h4, h5⟩
  · cases h1
    obtain rfl : k = 0 := by simpa using hk
    exact .inl ⟨a, by simp [sliced], by simp⟩
  · cases h1
    refine .inr ⟨g, o, c, ?_, ?_, h3, h4, fun i hi => ?_⟩
    · unfold sliced; split <;> simp [Addr.add, Nat.min_eq_left hk]
    · rw [List.length_take]; omega
    · rw [List.length_take] at hi
      rw [List.getElem_take]
      exact h5 i (by omega)
theorem Rd.drop (h : Rd f w (.slice a n c) l) (hk : k ≤ l.length) : Rd f w (sliced a k n c 1) (l.drop k) := by
  rcases h with ⟨a', h1, rfl⟩ | ⟨g, o, cap, h1, h2, h3, h4, h5⟩
  · cases h1
    obtain rfl : k = 0 := by simpa using hk
    exact .inl ⟨a, by simp [sliced], by simp⟩
  · cases h1
    by_cases hc : c = k
    · subst hc
      have : l.length = c := by omega
      refine .inr ⟨g, o, 0, ?_, ?_, by simp, h4, fun i hi => ?_⟩
      · unfold sliced; simp
      · rw [List.length_drop]; omega
      · rw [List.length_drop] at hi; omega
    · refine .inr ⟨g, o + k, c - k, ?_, ?_, by omega, h4, fun i hi => ?_⟩
      · unfold sliced; simp [hc, Addr.add]
      · rw [List.length_drop]; omega
      · rw [List.length_drop] at hi
        rw [List.getElem_drop, Nat.add_assoc]
        exact h5 (k + i) (by omega)
end
end Go.Proofs.YtkbenkldfehhlaaGreatDoor

namespace Go.Proofs.YtkbenkldfehhlaaGreatDoor
open Go Go.RowKit Go.Sort
set_option maxRecDepth 100000
set_option maxHeartbeats 3200000
section
variable {X : Nat → Prop}


theorem rCut_ok {w : World} {v : Value} {r : Dsk} (hX : ∀ k, w.heap.size ≤ k → X k) (h : RefD X w v r) (hk : ROk r) (n : Str) (kz : Int) : Calls Tryz.prog 59 #[v, .string ⟨n.toArray⟩, .int .i64 kz] w fun e w' =>
    ∃ v', e = .returned (.tuple #[v', .int .i64 (r.rCut n kz).2]) ∧ RefD X w' v' (r.rCut n kz).1 ∧ Nw w w' := by
  have HX := Lib.hid hX
  clear hX
  have HR := Lib.hid h
  obtain ⟨sv, rfl, hFL⟩ := h
  obtain ⟨a, cap, rfl, h1, h2, hel⟩ := hFL.elem
  obtain ⟨most, L, left, down⟩ := r
  obtain ⟨few, used, most0, most1, arm0, arm1⟩ := hk
  simp only at h1 h2 HR few used most0 most1 arm0 arm1 hel
  have HFL := Lib.hid hFL
  have HE := Lib.hid hel
  simp only at HFL
  clear hFL hel
  unfold maxLen at h2
  cases down
  case true =>
    have r : Hid (Dsk.rCut ⟨most, L, left, true⟩ n kz = (⟨most, L, left, true⟩, 15)) := Lib.hid (by simp [Dsk.rCut, Dsk.op])
    rw [r.out]
    go_enter Tryz.func59, Tryz.ntmps59
    go_wp2
    refine bodyPost_ret (v := .tuple #[.agg #[.int .i64 most, .slice a L.length cap, .int .i64 left, .bool true], .int .i64 15]) (by simp [results, Tryz.results59, go_sem]) rfl ?_
    have hN := ((Nw.refl w).alloc (DB (.int .i64 most) (.slice a L.length cap) (.int .i64 left) (.bool true))).alloc (DB (.int .i64 most) (.slice a L.length cap) (.int .i64 left) (.bool true))
    exact ⟨_, rfl, ⟨_, rfl, HFL.out.nw hN⟩, hN⟩
  case false =>
    have TB := two_boxes w #[.int .i64 most, .slice a L.length cap, .int .i64 left, .bool false] #[.int .i64 0, .slice none 0 0, .int .i64 0, .bool false] 28 28
    go_enter Tryz.func59, Tryz.ntmps59
    go_wp2_with fail
    generalize (w.alloc (.cells #[.int .i64 most, .slice a L.length cap, .int .i64 left, .bool false] 28)).alloc (.cells #[.int .i64 0, .slice none 0 0, .int .i64 0, .bool false] 28) = W0 at TB ⊢
    obtain ⟨t1, t2, t3, t4⟩ := TB
    have T1 := Lib.hid t1
    have T2 := Lib.hid t2
    have T3 := Lib.hid t3
    have T4 := Lib.hid t4
    clear t1 t2 t3 t4
    refine (rFind_ok (HR.out.nw T1.out) n).mono ?_
    rintro e w1 ⟨rfl, n1⟩
    have N1 := Lib.hid (T1.out.trans n1)
    have B1 := Lib.hid (n1.at_ T2.out)
    have Q1 := Lib.hid (n1.at_ T3.out)
    have hs1 : w.heap.size + 1 < w1.heap.size := by have := n1.size; have := T4.out; omega
    obtain ⟨b0, b1, b2, b3, bf0, bf1, bf2, bf3⟩ := box_cells B1.out
    obtain ⟨r0, r1, r2, r3, rf0, rf1, rf2, rf3⟩ := box_cells Q1.out
    simp only
    clear n1
    by_cases hn : n ∈ namesF L
    case neg =>
      have r : Hid (Dsk.rCut ⟨most, L, left, false⟩ n kz = (⟨most, L, left, false⟩, 13)) := Lib.hid (by simp [Dsk.rCut, Dsk.op, Dsk.mayCut, (getF_none _ _).2 hn])
      rw [rfind_no hn]
      clear hn
      go_wp2
      refine bodyPost_ret (v := .tuple #[.agg #[.int .i64 most, .slice a L.length cap, .int .i64 left, .bool false], .int .i64 13]) (by simp [results, Tryz.results59, go_sem, r0, r1, r2, r3]) rfl ?_
      have hN := N1.out.trans' (only_set4q w1 (w.heap.size + 1) (.int .i64 most) (.slice a L.length cap) (.int .i64 left) (.bool false)) (fun k hk e => by omega)
      rw [r.out]
      exact ⟨_, rfl, ⟨_, rfl, HFL.out.nw hN⟩, hN⟩
    case pos =>
      obtain ⟨k, hk, hfi, hkn, hfo⟩ := rfind_mem hn
      obtain ⟨g, o, b, rfl, e0, e1, e2, hb⟩ := HE.out k hk
      obtain ⟨xa, xc, rfl, hxl, -⟩ := hb.1.elems
      have c0 := N1.out.cell e0
      have c1 := N1.out.cell e1
      have c2 := N1.out.cell e2
      have HBX := Lib.hid hb.1
      have HXL := Lib.hid hxl
      have hul := rfile_le L n
      rw [hfo] at hul
      rw [hkn] at c0
      have HACT : Hid (L[k].2 = fileOf L n) := Lib.hid hfo.symm
      have hmay : Dsk.mayCut ⟨most, L, left, false⟩ n kz = if kz < 0 ∨ (L[k].2.bytes.length : Int) < kz then 2 else 0 := by
        unfold Dsk.mayCut
        rw [← hfo]
        unfold fileOf
        cases hg : getF L n with
        | none => exact absurd hn ((getF_none _ _).1 hg)
        | some f => rfl
      have HMAY := Lib.hid hmay
      clear hb e0 e1 e2 hkn hfo hxl hmay
      generalize L[k] = x at *
      obtain ⟨x1, x2, x3⟩ := x
      simp only at c1 c2 hul HACT HBX HXL HMAY
      have hks : (k : Int) ≤ (L.length : Int) := by omega
      by_cases hbad : kz < 0 ∨ (x2.length : Int) < kz
      · have hm := HMAY.out
        rw [if_pos hbad] at hm
        have r : Hid (Dsk.rCut ⟨most, L, left, false⟩ n kz = (⟨most, L, left, false⟩, 2)) := Lib.hid (by simp [Dsk.rCut, Dsk.op, hm])
        clear hm
        rw [hfi]
        clear hfi hn
        have NA : Hid (Nw w1 (w1.alloc (.cells #[.string ⟨n.toArray⟩, .slice xa x2.length xc, .int .i64 x3] 104))) := Lib.hid ((Nw.refl w1).alloc _)
        have hneq : ¬ w.heap.size + 1 = w1.heap.size := by omega
        have hneq0 : ¬ w.heap.size = w1.heap.size := by omega
        have hltp : w.heap.size < w1.heap.size := by omega
        have hc : kz < 0 ∨ (0 ≤ kz ∧ (x2.length : Int) < kz) := by omega
        clear hbad
        rcases hc with hc | ⟨hc, hc'⟩
        all_goals
          go_wp2
          refine bodyPost_ret (v := .tuple #[.agg #[.int .i64 most, .slice (some ⟨g, o, none⟩) L.length cap, .int .i64 left, .bool false], .int .i64 2]) (by simp [results, Tryz.results59, go_sem, r0, r1, r2, r3, hneq, hneq0, hltp, hs1]) rfl ?_
          have hN := (N1.out.trans' (only_set4q w1 (w.heap.size + 1) (.int .i64 most) (.slice (some ⟨g, o, none⟩) L.length cap) (.int .i64 left) (.bool false)) (fun k hk e => by omega)).alloc (.cells #[.string ⟨n.toArray⟩, .slice xa x2.length xc, .int .i64 x3] 104)
          rw [r.out]
          exact ⟨_, rfl, ⟨_, rfl, HFL.out.nw hN⟩, hN⟩
      obtain ⟨kn, rfl⟩ := Int.eq_ofNat_of_zero_le (show 0 ≤ kz by omega)
      have hkl : kn ≤ x2.length := by omega
      have hm := HMAY.out
      rw [if_neg hbad] at hm
      have HM := Lib.hid hm
      obtain ⟨pf, hpf⟩ : ∃ pf, pf = w1.heap.size := ⟨_, rfl⟩
      have hpf1 : w.heap.size + 1 < pf := by omega
      have hneq0 : ¬ w.heap.size = w1.heap.size := by omega
      have hltp : w.heap.size < w1.heap.size := by omega
      have gk : decide ((kn : Int) < 0) = false := by simp
      have gl : decide ((x2.length : Int) < (kn : Int)) = false := by simp; omega
      have gl2 : decide (x2.length < kn) = false := by simp; omega
      clear hbad hm
      have HN := Lib.hid hn
      rw [hfi]
      clear hfi hn
      go_wp2_with fail
      have hnew := heap_alloc_new w1 (.cells #[.string ⟨n.toArray⟩, .slice xa x2.length xc, .int .i64 x3] 104)
      have NA : Nw w1 (w1.alloc (.cells #[.string ⟨n.toArray⟩, .slice xa x2.length xc, .int .i64 x3] 104)) := (Nw.refl w1).alloc _
      rw [← hpf] at hnew
      simp only [← hpf]
      generalize w1.alloc (.cells #[.string ⟨n.toArray⟩, .slice xa x2.length xc, .int .i64 x3] 104) = wa at hnew NA ⊢
      have F1 := Lib.hid hnew
      have N1 := Lib.hid (N1.out.trans NA)
      have B1 := Lib.hid (NA.at_ B1.out)
      have Q1 := Lib.hid (NA.at_ Q1.out)
      have hs1 : w.heap.size + 1 < wa.heap.size := by have := NA.size; omega
      have hpf2 : pf < wa.heap.size := lt_of_block hnew
      clear hnew NA gk gl gl2 c0 c1 c2 hneq0 hltp hpf
      refine (opn_ok _ most left (some ⟨g, o, none⟩) L.length cap false arm0 arm1).mono ?_
      rintro e w2 ⟨n2, he⟩
      have N2 := Lib.hid (N1.out.trans n2)
      have B2 := Lib.hid (n2.at_ B1.out)
      have Q2 := Lib.hid (n2.at_ Q1.out)
      have F2 := Lib.hid (n2.at_ F1.out)
      have hs2 : w.heap.size + 1 < w2.heap.size := by have := n2.size; omega
      clear b0 b1 b2 b3 bf0 bf1 bf2 bf3 r0 r1 r2 r3 rf0 rf1 rf2 rf3 n2
      obtain ⟨b0, b1, b2, b3, bf0, bf1, bf2, bf3⟩ := box_cells B2.out
      obtain ⟨r0, r1, r2, r3, rf0, rf1, rf2, rf3⟩ := box_cells Q2.out
      by_cases hz : left = 0
      · have r : Hid (Dsk.rCut ⟨most, L, left, false⟩ n kn = (⟨most, L, -1, true⟩, 15)) := Lib.hid (by have hm := HM.out; rw [hz] at hm; simp [Dsk.rCut, Dsk.op, hm, hz])
        rw [if_pos hz] at he
        subst he
        clear hz
        go_wp2
        refine bodyPost_ret (v := .tuple #[.agg #[.int .i64 most, .slice (some ⟨g, o, none⟩) L.length cap, .int .i64 (-1), .bool true], .int .i64 15]) (by simp [results, Tryz.results59, go_sem, r0, r1, r2, r3]) rfl ?_
        have hN := (N2.out.trans' (only_set4 w2 w.heap.size (.int .i64 most) (.slice (some ⟨g, o, none⟩) L.length cap) (.int .i64 (-1)) (.bool true)) (fun k hk e => by omega)).trans' (only_set4q _ (w.heap.size + 1) (.int .i64 most) (.slice (some ⟨g, o, none⟩) L.length cap) (.int .i64 (-1)) (.bool true)) (fun k hk e => by omega)
        rw [r.out]
        exact ⟨_, rfl, ⟨_, rfl, HFL.out.nw hN⟩, hN⟩
      · rw [if_neg hz] at he
        subst he
        obtain ⟨f0, f1, f2, ff0, ff1, ff2⟩ := box_cells3 F2.out
        have hb3 := HBX.out
        have hkt : kn ≤ x2.length := by omega
        have R9 := hb3.take hkt
        have hxl := HXL.out
        have hsl : ∀ w, (Instr.slice 79 (.slice xa x2.length xc) none (some (.int .i64 kn)) none).run Tryz.prog w = .ok (sliced xa 0 kn xc 1) w := fun w => by
          have h1 : (kn : Int) ≤ (xc : Int) := by omega
          have h2 : (0 : Int) ≤ (kn : Int) := by omega
          go_simp
        generalize sliced xa 0 kn xc 1 = s9 at R9 hsl
        have R9 := Lib.hid R9
        clear hb3
        have hne1 : ¬ w.heap.size = pf := by omega
        have hne2 : ¬ pf = w.heap.size := by omega
        go_wp2_with fail
        generalize hW3 : (((w2.setCell ⟨w.heap.size, 0, none⟩ (.int .i64 most)).setCell ⟨w.heap.size, 1, none⟩ (.slice (some ⟨g, o, none⟩) L.length cap)).setCell ⟨w.heap.size, 2, none⟩ (.int .i64 (max (left - 1) (-1)))).setCell ⟨w.heap.size, 3, none⟩ (.bool false) = W3
        have HO3 : Hid (Only (fun k => k = w.heap.size) w2 W3) := Lib.hid (hW3 ▸ only_set4 w2 w.heap.size _ _ _ _)
        have B3 : Hid (W3.heap[w.heap.size]? = some (DB (.int .i64 most) (.slice (some ⟨g, o, none⟩) L.length cap) (.int .i64 (max (left - 1) (-1))) (.bool false))) := Lib.hid (hW3 ▸ heap_set4 B2.out _ _ _ _)
        have Q3 := Lib.hid (HO3.out.at_ Q2.out (by omega))
        have N3 := Lib.hid (N2.out.trans' HO3.out (fun k hk e => by omega))
        have hs3 : w.heap.size + 1 < W3.heap.size := by have := HO3.out.size; omega
        clear hW3 f0 f1 f2 ff0 ff1 ff2 hne1 hne2 b0 b1 b2 b3 bf0 bf1 bf2 bf3 r0 r1 r2 r3 rf0 rf1 rf2 rf3
        have R3 : Hid (RefD X W3 (.agg #[.int .i64 most, .slice (some ⟨g, o, none⟩) L.length cap, .int .i64 (max (left - 1) (-1)), .bool false]) ⟨most, L, max (left - 1) (-1), false⟩) := Lib.hid ⟨_, rfl, HFL.out.nw N3.out⟩
        have r : Hid (Dsk.rCut ⟨most, L, left, false⟩ n kn = (⟨most, rwith L (n, ⟨(fileOf L n).bytes.take kn, kn⟩), max (left - 1) (-1), false⟩, 0)) := Lib.hid (by simp [Dsk.rCut, Dsk.op, HM.out, hz])
        have HZ := Lib.hid hz
        clear hz
        have F3 := Lib.hid (HO3.out.at_ F2.out (by omega))
        have hpf3 : pf < W3.heap.size := lt_of_block F3.out
        obtain ⟨f0, f1, f2, ff0, ff1, ff2⟩ := box_cells3 F3.out
        obtain ⟨b0, b1, b2, b3, -⟩ := box_cells B3.out
        have hne1 : ¬ w.heap.size = pf := by omega
        have hne2 : ¬ pf = w.heap.size := by omega
        have BN : Bs W3 (.slice none 0 0) [] := .inl ⟨none, rfl, rfl⟩
        have hj : (x2.take kn).length + ([] : List UInt8).length ≤ 140737488355328 := by simp; omega
        refine (joined_ok (R9.out.nw N3.out) BN hj).mono ?_
        rintro e w6 ⟨v6, rfl, hv6, n6, hnew6⟩
        rw [List.append_nil] at hv6
        have V6 := Lib.hid hv6
        have NEW6 := Lib.hid hnew6
        have N6 := Lib.hid n6
        obtain ⟨a6, c6, rfl, -⟩ := hv6.len
        clear f0 f1 f2 ff0 ff1 ff2 b0 b1 b2 b3 hsl hv6 n6 hnew6
        obtain ⟨f0, f1, f2, ff0, ff1, ff2⟩ := box_cells3 (N6.out.at_ F3.out)
        obtain ⟨b0, b1, b2, b3, -⟩ := box_cells (N6.out.at_ B3.out)
        go_wp2_with fail
        have hlen : (x2.take kn).length = kn := by simp; omega
        generalize hW7 : (w6.setCell ⟨pf, 1, none⟩ (.slice a6 kn c6)).setCell ⟨pf, 2, none⟩ (.int .i64 kn) = W7
        have HO7 : Hid (Only (fun k => k = pf) w6 W7) := Lib.hid (by
          rw [← hW7]
          refine Only.setCell (S := fun k => k = pf) (p := ⟨pf, 2, none⟩) ?_ (fun _ => rfl) _
          exact Only.setCell (S := fun k => k = pf) (p := ⟨pf, 1, none⟩) (Only.refl w6) (fun _ => rfl) _)
        have NB : Hid (Nw w W7) := Lib.hid ((N3.out.trans N6.out).trans' HO7.out (fun k hk e => by omega))
        have QB : Hid (W7.heap[w.heap.size + 1]? = _) := Lib.hid (HO7.out.at_ (N6.out.at_ Q3.out) (by omega))
        have BB : Hid (BsX X W7 (.slice a6 (x2.take kn).length c6) (x2.take kn)) := Lib.hid (by
          refine ⟨?_, fun _ g hg => HX.out g (by have := NEW6.out g hg; have := N3.out.size; omega)⟩
          have h1 := V6.out.keep HO7.out.size (fun g hg => HO7.out.block g (V6.out.lt g hg) (fun e => by have := NEW6.out g hg; omega))
          have h2 : (x2.take kn).length = ((x2.take kn).map u8).length := by simp
          exact Vec.rd (f := u8) h1)
        have hs7 : w.heap.size + 1 < W7.heap.size := by have := HO7.out.size; have := N6.out.size; omega
        clear hW7
        have RX : RefD X W7 (.agg #[.int .i64 most, .slice (some ⟨g, o, none⟩) L.length cap, .int .i64 (max (left - 1) (-1)), .bool false]) ⟨most, L, max (left - 1) (-1), false⟩ := ⟨_, rfl, HFL.out.nw NB.out⟩
        have RW := rwith_ok RX.b (Nw.refl W7) n ⟨x2.take kn, kn⟩ a6 c6 BB.out (by show L.length ≤ 100000; omega)
        rw [show (⟨x2.take kn, kn⟩ : DFile).bytes.length = kn from hlen] at RW
        refine RW.mono ?_
        clear RW RX hlen
        rintro e w4 ⟨v4, rfl, hr4, n4⟩
        have hx : (⟨x2.take kn, kn⟩ : DFile) = ⟨(fileOf L n).bytes.take kn, kn⟩ := by rw [← HACT.out]
        rw [hx] at hr4
        clear hx
        obtain ⟨sv4, cs4, rfl, hsv4, hfc4, hnw4⟩ := hr4
        obtain ⟨a4, c4, rfl, -⟩ := hsv4.len
        have RR : Hid (FL X w4 (.slice a4 (rwith L (n, ⟨(fileOf L n).bytes.take kn, kn⟩)).length c4) (rwith L (n, ⟨(fileOf L n).bytes.take kn, kn⟩))) := Lib.hid ⟨cs4, hsv4, hfc4.nw n4, fun _ g hg => HX.out g (by have := hnw4 g hg; have := NB.out.size; omega)⟩
        have N4 := Lib.hid (NB.out.trans n4)
        have Q4 := n4.at_ QB.out
        obtain ⟨r0, r1, r2, r3, rf0, rf1, rf2, rf3⟩ := box_cells Q4
        have hs4 : w.heap.size + 1 < w4.heap.size := by have := n4.size; (try simp at this); omega
        have QQ := Lib.hid Q4
        clear hsv4 hfc4 hnw4 n4 Q4
        simp only
        go_wp2
        refine bodyPost_ret (v := .tuple #[.agg #[.int .i64 most, .slice a4 (rwith L (n, ⟨(fileOf L n).bytes.take kn, kn⟩)).length c4, .int .i64 (max (left - 1) (-1)), .bool false], .int .i64 0]) (by simp [results, Tryz.results59, go_sem, r0, r1, r2, r3]) rfl ?_
        have hN := N4.out.trans' (only_set4q w4 (w.heap.size + 1) (.int .i64 most) (.slice a4 (rwith L (n, ⟨(fileOf L n).bytes.take kn, kn⟩)).length c4) (.int .i64 (max (left - 1) (-1))) (.bool false)) (fun k hk e => by omega)
        rw [r.out]
        exact ⟨_, rfl, ⟨_, rfl, RR.out.box QQ.out (only_set4q w4 (w.heap.size + 1) (.int .i64 most) (.slice a4 (rwith L (n, ⟨(fileOf L n).bytes.take kn, kn⟩)).length c4) (.int .i64 (max (left - 1) (-1))) (.bool false))⟩, hN⟩

end
end Go.Proofs.YtkbenkldfehhlaaGreatDoor

namespace Go.Proofs.YtkbenkldfehhlaaGreatDoor
open Go Go.RowKit Go.Sort
set_option maxRecDepth 100000
set_option maxHeartbeats 3200000
section
variable {X : Nat → Prop}

theorem rArm_ok {w : World} {v : Value} {r : Dsk} (h : RefD X w v r) (n : Int) : Calls Tryz.prog 14 #[v, .int .i64 n] w fun e w' =>
    ∃ v', e = .returned v' ∧ RefD X w' v' (r.armed n) ∧ Nw w w' := by
  obtain ⟨sv, rfl, hFL⟩ := h
  obtain ⟨a, cap, rfl, h1, h2, -⟩ := hFL.elem
  obtain ⟨most, L, left, down⟩ := r
  simp only at h1 h2
  have HFL := Lib.hid hFL
  simp only at HFL
  clear hFL
  cases down
  case true =>
    have r : Hid (Dsk.armed ⟨most, L, left, true⟩ n = ⟨most, L, left, true⟩) := Lib.hid (by simp [Dsk.armed])
    rw [r.out]
    go_enter Tryz.func14, Tryz.ntmps14
    go_wp2
    refine bodyPost_ret (v := .agg #[.int .i64 most, .slice a L.length cap, .int .i64 left, .bool true]) (by simp [results, Tryz.results14, go_sem]) rfl ?_
    have hN := ((Nw.refl w).alloc (DB (.int .i64 most) (.slice a L.length cap) (.int .i64 left) (.bool true))).alloc (DB (.int .i64 most) (.slice a L.length cap) (.int .i64 left) (.bool true))
    exact ⟨_, rfl, ⟨_, rfl, HFL.out.nw hN⟩, hN⟩
  case false =>
    have hc : n < 0 ∨ 0 ≤ n := by omega
    rcases hc with hc | hc
    · have hc' : decide (n < 0) = true := by simp; exact hc
      have r : Hid (Dsk.armed ⟨most, L, left, false⟩ n = ⟨most, L, 0, false⟩) := Lib.hid (by simp [Dsk.armed]; omega)
      rw [r.out]
      go_enter Tryz.func14, Tryz.ntmps14
      go_wp2
      refine bodyPost_ret (v := .agg #[.int .i64 most, .slice a L.length cap, .int .i64 0, .bool false]) (by simp [results, Tryz.results14, go_sem]) rfl ?_
      have hN := ((Nw.refl w).alloc (DB (.int .i64 most) (.slice a L.length cap) (.int .i64 0) (.bool false))).alloc (DB (.int .i64 most) (.slice a L.length cap) (.int .i64 0) (.bool false))
      exact ⟨_, rfl, ⟨_, rfl, HFL.out.nw hN⟩, hN⟩
    · have hc' : decide (n < 0) = false := by simp; exact hc
      have r : Hid (Dsk.armed ⟨most, L, left, false⟩ n = ⟨most, L, n, false⟩) := Lib.hid (by simp [Dsk.armed]; omega)
      rw [r.out]
      go_enter Tryz.func14, Tryz.ntmps14
      go_wp2
      refine bodyPost_ret (v := .agg #[.int .i64 most, .slice a L.length cap, .int .i64 n, .bool false]) (by simp [results, Tryz.results14, go_sem]) rfl ?_
      have hN := ((Nw.refl w).alloc (DB (.int .i64 most) (.slice a L.length cap) (.int .i64 n) (.bool false))).alloc (DB (.int .i64 most) (.slice a L.length cap) (.int .i64 n) (.bool false))
      exact ⟨_, rfl, ⟨_, rfl, HFL.out.nw hN⟩, hN⟩

end
end Go.Proofs.YtkbenkldfehhlaaGreatDoor
