/-
  Texts merged by a program of this claim's: CompRun, CompS, Rgn, RgnH, Inv.
-/
import Derived.Test.YtjapijndljknnaaGreatDoorM32
import Derived.Test.YtjapijndljknnaaGreatDoorM35
import Derived.Test.YtjapijndljknnaaGreatDoorM25
import Derived.Test.YtjapijndljknnaaGreatDoorM15
import Derived.Test.YtjapijndljknnaaGreatDoorM28
/-
  Compaction as a list of steps, in plain words.
-/
namespace Go.Proofs.YtjapijndljknnaaGreatDoor
open Go
set_option maxRecDepth 100000
end Go.Proofs.YtjapijndljknnaaGreatDoor

/-
  compact.Compact: its list of closures, run one by one.
-/
namespace Go.Proofs.YtjapijndljknnaaGreatDoor
open Go Go.RowKit Go.Sort
set_option maxRecDepth 100000
set_option maxHeartbeats 1600000
abbrev bx (p : Nat) : Value := .pointer (some ⟨p, 0, none⟩)
/-- What the closures find in memory. -/
structure CompM (X : Nat → Prop) (w : World) (p b xb po pd pn pb k : Nat) (bs : List UInt8) (xa : Option Addr) (xc : Nat) (ps : List Nat) (A : List Pc) : Prop where
  cl : w.cell? ⟨xb, 0, none⟩ = some (bx p)
  co : w.cell? ⟨po, 1, none⟩ = some (.int .i64 k)
  cd : w.cell? ⟨pd, 0, none⟩ = some (bx b)
  cn : w.cell? ⟨pn, 0, none⟩ = some (.string ⟨(dName k).toArray⟩)
  cb : w.cell? ⟨pb, 0, none⟩ = some (.slice xa bs.length xc)
  bb : Bs w (.slice xa bs.length xc) bs
  len : ps.length = A.length
  cp : ∀ j (h : j < ps.length) (h' : j < A.length), w.cell? ⟨ps[j], 0, none⟩ = some (.string ⟨A[j].name.toArray⟩)
  xs : X xb ∧ X po ∧ X pd ∧ X pn ∧ X pb
  xp : ∀ j (h : j < ps.length), X ps[j]
  xx : ∀ g, (Value.slice xa bs.length xc).ownBlock = some g → X g
theorem kept_cell {X : Nat → Prop} {w w' : World} (hk : Kept X w w') {g i : Nat} {v : Value} (hx : X g) (h : w.cell? ⟨g, i, none⟩ = some v) : w'.cell? ⟨g, i, none⟩ = some v := by
  have hl : g < w.heap.size := World.block_lt_of_cell? _ _ h
  rw [World.cell?_of_block (w := w) (hk.2 g hx hl)]
  exact h
theorem CompM.kept {X : Nat → Prop} {w w' : World} {p b xb po pd pn pb k : Nat} {bs : List UInt8} {xa : Option Addr} {xc : Nat} {ps : List Nat} {A : List Pc} (h : CompM X w p b xb po pd pn pb k bs xa xc ps A) (hk : Kept X w w') : CompM X w' p b xb po pd pn pb k bs xa xc ps A :=
  ⟨kept_cell hk h.xs.1 h.cl, kept_cell hk h.xs.2.1 h.co, kept_cell hk h.xs.2.2.1 h.cd, kept_cell hk h.xs.2.2.2.1 h.cn, kept_cell hk h.xs.2.2.2.2 h.cb, h.bb.kept hk (fun _ g hg => h.xx g hg), h.len, fun j h1 h2 => kept_cell hk (h.xp j h1) (h.cp j h1 h2), h.xs, h.xp, h.xx⟩
section
variable {X : Nat → Prop} {w0 w : World} {p b xb po pd pn pb k g o cap : Nat} {d : Dsk} {L : Lg} {bs : List UInt8} {xa : Option Addr} {xc : Nat} {ps : List Nat} {A : List Pc} {R : CompR}
end
end Go.Proofs.YtjapijndljknnaaGreatDoor

/-
  Program-independent: a drawn region's steps over a frame that is told by the list of what was put into it (puts A l): each operation is reckoned from the few slots that it reads; guarded ones, and calls, likewise.
-/
namespace Go.Proofs.YtjapijndljknnaaGreatDoor
open Go Go.RowKit
def puts (A : Act) : List (Nat × Value) → Act
  | [] => A
  | (d, v) :: l => (puts A l).put (some d) v
section
variable {A : Act} {l : List (Nat × Value)} {t : Nat} {v : Value}
theorem eval_of {a : Act} (h : a.tmps[t]? = some v) : a.eval (.tmp t) = v := by
  unfold Act.eval
  simp only [Array.getD_eq_getD_getElem?, h, Option.getD_some]
variable {P : Program} {L : List Oper} {C : World → Prop} {Q : Exit → Act → World → Prop} {K : Act → World → Prop} {w : World} {i : Nat} {st : List Stp} {o : Oper} {d : Nat}
theorem w_none {f : Nat → Option Bool} (h : o.guard = none) : Region.wanted o f = true := by unfold Region.wanted; rw [h]
abbrev Consts (ρ : Operand → Value) : Prop := (∀ c, ρ (.const c) = c) ∧ (∀ f, ρ (.func f) = .func (.func f) #[] #[])
end
end Go.Proofs.YtjapijndljknnaaGreatDoor

/-
  Program-independent: small helps for printed walks of drawn regions (XRgn).
-/
namespace Go.Proofs.YtjapijndljknnaaGreatDoor
open Go Go.RowKit Go.Sort
set_option maxRecDepth 100000
theorem forall_nil {p : Nat × Value → Prop} : ∀ x ∈ ([] : List (Nat × Value)), p x := fun _ h => by cases h
theorem forall_cons {p : Nat × Value → Prop} {a : Nat × Value} {l : List (Nat × Value)} (h : p a) (h' : ∀ x ∈ l, p x) : ∀ x ∈ a :: l, p x := fun x hx => by
  rcases List.mem_cons.1 hx with rfl | hx
  · exact h
  · exact h' x hx
section
variable {L : List Oper}
end
end Go.Proofs.YtjapijndljknnaaGreatDoor

/-
  Program-independent: a drawn region by an invariant: what holds behind the operations that are done (D), and each operation that may come takes it on. However many orders there are, each operation is walked once.
-/
namespace Go.Proofs.YtjapijndljknnaaGreatDoor
open Go Go.RowKit
section
variable {P : Program} {ops : Array Oper} {Q : Exit → Act → World → Prop}
/-- What is done, and i. -/
def Done (i : Nat) (D : Nat → Prop) : Nat → Prop := fun j => j = i ∨ D j
theorem Done.old {i j : Nat} {D : Nat → Prop} (h : Done i D j) (hn : j ≠ i) : D j := Or.resolve_left h hn
theorem Done.now {i : Nat} {D : Nat → Prop} : Done i D i := .inl rfl
def Region.backB (ops : Array Oper) : Bool := (List.range ops.size).all fun i => ((ops[i]?).map fun o => o.after.all fun e => !Region.binds .any e || decide (e.on < i)).getD true
theorem Region.backB_spec {ops : Array Oper} (h : Region.backB ops = true) {i : Nat} {o : Oper} (ho : ops[i]? = some o) : ∀ e ∈ o.after, Region.binds .any e = true → e.on < i := by
  intro e he hb
  have hi : i < ops.size := by
    rcases Nat.lt_or_ge i ops.size with h1 | h1
    · exact h1
    · rw [Array.getElem?_eq_none h1] at ho; cases ho
  have h1 := List.all_eq_true.1 h i (List.mem_range.2 hi)
  rw [ho] at h1
  simp only [Option.map_some, Option.getD_some] at h1
  have h2 := Array.all_eq_true'.1 h1 e he
  rw [hb] at h2
  simpa using h2
theorem ready_all (hb : Region.backB ops = true) {listed : Array Bool} (hs : listed.size = ops.size) (hr : Region.ready .any ops listed = []) : ∀ i, i < ops.size → listed.getD i false = true := by
  intro i
  induction i using Nat.strongRecOn with
  | ind i ih =>
    intro hi
    cases hl : listed.getD i false with
    | true => rfl
    | false =>
      exfalso
      have ho : ops[i]? = some ops[i] := by simp [hi]
      have : i ∈ Region.ready .any ops listed := mem_ready.2 ⟨getD_in (by omega) hl, ops[i], ho, fun e he hbi => by
        have h1 := Region.backB_spec hb ho e he hbi
        exact ih e.on h1 (by omega)⟩
      rw [hr] at this
      cases this
theorem wpAny_inv (I : (Nat → Prop) → Act → World → Prop) (hb : Region.backB ops = true)
    (hs : ∀ (D : Nat → Prop) (i : Nat) (o : Oper), ops[i]? = some o → (∀ e ∈ o.after, Region.binds .any e = true → D e.on) → ¬ D i → ∀ a w, I D a w → wpOp P ops Q i (fun a' w' => I (fun j => j = i ∨ D j) a' w') a w)
    (he : ∀ D a w, (∀ i, i < ops.size → D i) → I D a w → Q .normal a w) :
    ∀ (f : Nat) (listed : Array Bool) (D : Nat → Prop) (a : Act) (w : World), listed.size = ops.size → (∀ i, i < ops.size → (listed.getD i false = true ↔ D i)) → listed.toList.count false = f → I D a w → wpAny P .any ops Q f listed a w
  | 0, listed, D, a, w, h1, h2, h3, h4 => by
    have hall : ∀ i, i < ops.size → listed.getD i false = true := fun i hi => by
      cases hl : listed.getD i false with
      | true => rfl
      | false =>
        exfalso
        have hi' : i < listed.size := by omega
        have : false ∈ listed.toList := by
          simp [hi'] at hl
          rw [← hl]
          exact Array.getElem_mem_toList hi'
        have := List.count_pos_iff.2 this
        omega
    refine ⟨?_, he D a w (fun i hi => (h2 i hi).1 (hall i hi)) h4⟩
    cases hr : Region.ready .any ops listed with
    | nil => rfl
    | cons j l =>
      exfalso
      obtain ⟨h5, o, ho, -⟩ := mem_ready.1 (show j ∈ Region.ready .any ops listed by rw [hr]; simp)
      have hj : j < ops.size := by
        rcases Nat.lt_or_ge j ops.size with h | h
        · exact h
        · rw [Array.getElem?_eq_none h] at ho; cases ho
      have := hall j hj
      rw [getD_both h5] at this
      cases this
  | f + 1, listed, D, a, w, h1, h2, h3, h4 => by
    refine ⟨fun hr => he D a w (fun i hi => (h2 i hi).1 (ready_all hb h1 hr i hi)) h4, fun i hi => ?_⟩
    obtain ⟨h5, o, ho, h6⟩ := mem_ready.1 hi
    have hil : i < ops.size := by
      rcases Nat.lt_or_ge i ops.size with h | h
      · exact h
      · rw [Array.getElem?_eq_none h] at ho; cases ho
    have h7 := getD_both h5
    have hD : ¬ D i := fun hc => by
      have := (h2 i hil).2 hc
      rw [h7] at this
      cases this
    have hback := Region.backB_spec hb ho
    refine wpOp_mono (fun a' w' h' => wpAny_inv I hb hs he f _ (fun j => j = i ∨ D j) a' w' (by simpa using h1) (fun j hj => ?_) ?_ h') (hs D i o ho (fun e he' hbi => (h2 e.on (by have := hback e he' hbi; omega)).1 (h6 e he' hbi)) hD a w h4)
    · by_cases hji : j = i
      · subst hji
        simp [h1, hil]
      · rw [getD_set_ne false (Ne.symm hji), h2 j hj]
        simp [hji]
    · have hi' : i < listed.toList.length := by simpa [h1] using hil
      have hlf : listed.toList[i] = false := by simp [h1, hil] at h7; simpa using h7
      rw [Array.toList_setIfInBounds, List.count_set hi', hlf, h3]
      simp
def waits (o : Oper) (j : Nat) : Bool := o.after.toList.any fun e => Region.binds .any e && Nat.beq e.on j
theorem waits_of {o : Oper} {D : Nat → Prop} (h : ∀ e ∈ o.after, Region.binds .any e = true → D e.on) (j : Nat) (hj : waits o j = true) : D j := by
  unfold waits at hj
  obtain ⟨e, he, hb⟩ := List.any_eq_true.1 hj
  simp only [Bool.and_eq_true] at hb
  obtain ⟨hb, h1⟩ := hb
  obtain rfl := Nat.eq_of_beq_eq_true h1
  exact h e (by simpa using he) hb
/-- The operations of a list, one by one. -/
def EachO (p : Nat → Oper → Prop) : Nat → List Oper → Prop
  | _, [] => True
  | k, x :: l => p k x ∧ EachO p (k + 1) l
theorem EachO.at_ {p : Nat → Oper → Prop} : ∀ {l : List Oper} {k : Nat} (i : Nat) (o : Oper), EachO p k l → l[i]? = some o → p (k + i) o
  | [], _, _, _, _, h => by simp at h
  | x :: l, k, 0, o, h, ho => by simp at ho; subst ho; exact h.1
  | x :: l, k, i + 1, o, h, ho => by
    have := EachO.at_ (k := k + 1) i o h.2 (by simpa using ho)
    rwa [show k + 1 + i = k + (i + 1) by omega] at this
theorem of_each {p : Nat → Oper → Prop} {l : List Oper} (h : EachO p 0 l) : ∀ (i : Nat) (o : Oper), l[i]? = some o → p i o := fun i o ho => by
  have := EachO.at_ i o h ho
  rwa [Nat.zero_add] at this
/-- Facts by the numbers of the operations that lay them. -/
def AllF (D : Nat → Prop) : Nat → List Prop → Prop
  | _, [] => True
  | k, p :: l => (D k → p) ∧ AllF D (k + 1) l
theorem AllF.none : ∀ (l : List Prop) (k : Nat), AllF (fun _ => False) k l
  | [], _ => trivial
  | _ :: l, k => ⟨fun h => h.elim, AllF.none l (k + 1)⟩
theorem AllF.more {D : Nat → Prop} {i : Nat} : ∀ {l : List Prop} {k : Nat}, AllF D k l → i < k → AllF (fun j => j = i ∨ D j) k l
  | [], _, _, _ => trivial
  | p :: l, k, h, hi => ⟨fun hk => h.1 (hk.resolve_left (by omega)), AllF.more h.2 (by omega)⟩
theorem AllF.step_at {D : Nat → Prop} {p : Prop} (hp : p) : ∀ {l : List Prop} {k : Nat} (i : Nat), AllF D k l → AllF (fun j => j = k + i ∨ D j) k (l.set i p)
  | [], _, _, _ => by simp [AllF]
  | q :: l, k, 0, h => ⟨fun _ => hp, AllF.more h.2 (by omega)⟩
  | q :: l, k, i + 1, h => ⟨fun hk => h.1 (hk.resolve_left (by omega)), by have := AllF.step_at hp (k := k + 1) i h.2; rwa [show k + 1 + i = k + (i + 1) by omega] at this⟩
theorem AllF.step {D : Nat → Prop} {p : Prop} {l : List Prop} (i : Nat) (h : AllF D 0 l) (hp : p) : AllF (Done i D) 0 (l.set i p) := by
  have := AllF.step_at hp (k := 0) i h
  rw [Nat.zero_add] at this
  exact this
end
end Go.Proofs.YtjapijndljknnaaGreatDoor
