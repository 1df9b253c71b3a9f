/-
  Texts merged by a program of this claim's: Lib, Reg, Mix, Stp, Inv, Fork.
-/
import Derived.WalkKit
import Derived.Lib.Hide
import Derived.Lib.QuietBelow
import Derived.Deep.QuietTactic
import Derived.BigQuiet
import Derived.StillTailTactics
namespace Go.Proofs.YtcmaedoolinijaaGreatDoor
open Go Go.RowKit
structure Only (S : Nat → Prop) (w w' : World) : Prop where
  os : w'.os = w.os
  tape : w'.tape = w.tape
  output : w'.output = w.output
  size : w.heap.size ≤ w'.heap.size
  block : ∀ k, k < w.heap.size → ¬ S k → w'.heap[k]? = w.heap[k]?

def Nw (w w' : World) : Prop := Only (fun _ => False) w w'

section
variable {S T : Nat → Prop} {w w' w'' : World}
theorem Only.refl (w : World) : Only S w w := ⟨rfl, rfl, rfl, Nat.le_refl _, fun _ _ _ => rfl⟩
theorem Only.mono (h : Only S w w') (hST : ∀ k, k < w.heap.size → S k → T k) : Only T w w' :=
  ⟨h.os, h.tape, h.output, h.size, fun k hk hn => h.block k hk (fun hs => hn (hST k hk hs))⟩
theorem Only.trans (h : Only S w w') (h' : Only S w' w'') : Only S w w'' :=
  ⟨h'.os.trans h.os, h'.tape.trans h.tape, h'.output.trans h.output, Nat.le_trans h.size h'.size,
    fun k hk hn => (h'.block k (Nat.lt_of_lt_of_le hk h.size) hn).trans (h.block k hk hn)⟩
theorem Only.trans' (h : Only S w w') (h' : Only T w' w'') (hT : ∀ k, k < w.heap.size → T k → S k) : Only S w w'' :=
  ⟨h'.os.trans h.os, h'.tape.trans h.tape, h'.output.trans h.output, Nat.le_trans h.size h'.size,
    fun k hk hn => (h'.block k (Nat.lt_of_lt_of_le hk h.size) (fun ht => hn (hT k hk ht))).trans (h.block k hk hn)⟩
theorem Only.drew (h : Only S w w') : Only S w w'.drew := ⟨h.os, h.tape, h.output, h.size, h.block⟩
theorem Only.drewN (h : Only S w w') (n : Nat) : Only S w (w'.drewN n) := ⟨h.os, h.tape, h.output, h.size, h.block⟩
theorem Only.alloc (h : Only S w w') (o : Obj) : Only S w (w'.alloc o) :=
  h.trans ⟨rfl, rfl, rfl, by simp, fun k hk _ => Below.heap_alloc _ _ _ hk⟩
theorem Only.setCell (h : Only S w w') {p : Addr} (hp : p.block < w.heap.size → S p.block) (u : Value) : Only S w (w'.setCell p u) :=
  h.trans' (T := fun k => k = p.block) ⟨rfl, rfl, rfl, by simp, fun k _ hn => Below.heap_setCell _ _ _ _ hn⟩ (fun k hk e => by subst e; exact hp hk)
theorem Only.setRow (h : Only S w w') {g : Nat} (hp : g < w.heap.size → S g) (cs : Array Value) : Only S w (w'.setRow g cs) :=
  h.trans' (T := fun k => k = g) ⟨rfl, rfl, rfl, by simp [World.setRow], fun k _ hn => setRow_other _ _ _ _ hn⟩ (fun k hk e => by subst e; exact hp hk)
theorem Only.of_below {B : Nat} (h : Below B w w') (hB : ∀ k, k < w.heap.size → ¬ S k → k < B) : Only S w w' :=
  ⟨h.os, h.tape, h.output, h.size, fun k hk hn => h.block k (hB k hk hn)⟩
theorem Only.below {B : Nat} (h : Only S w w') (hB : ∀ k, k < B → k < w.heap.size ∧ ¬ S k) : Below B w w' :=
  ⟨h.os, h.tape, h.output, h.size, fun k hk => h.block k (hB k hk).1 (hB k hk).2⟩
theorem Only.at_ (h : Only S w w') {k : Nat} {o : Obj} (hk : w.heap[k]? = some o) (hn : ¬ S k) : w'.heap[k]? = some o :=
  (h.block k (lt_of_block hk) hn).trans hk
theorem Only.cell (h : Only S w w') {a : Addr} {v : Value} (hk : w.cell? a = some v) (hn : ¬ S a.block) : w'.cell? a = some v :=
  (World.cell?_of_block (h.block _ (World.block_lt_of_cell? w a hk) hn)).trans hk
theorem Only.grown {row : Option Nat} (h : Only S w w') (hg : w'.grownBy w'' row) (hr : ∀ k, row = some k → k < w.heap.size → S k) : Only S w w'' :=
  h.trans' (T := fun k => row = some k) ⟨hg.os, hg.tape, hg.output, hg.size, fun k hk hn => hg.block k hk (fun e => hn e.symm)⟩ (fun k hk e => hr k e hk)

theorem Nw.refl (w : World) : Nw w w := Only.refl w
theorem Nw.trans (h : Nw w w') (h' : Nw w' w'') : Nw w w'' := Only.trans h h'
theorem Nw.only (h : Nw w w') : Only S w w' := Only.mono h (fun _ _ hf => hf.elim)
theorem Nw.drew (h : Nw w w') : Nw w w'.drew := Only.drew h
theorem Nw.drewN (h : Nw w w') (n : Nat) : Nw w (w'.drewN n) := Only.drewN h n
theorem Nw.alloc (h : Nw w w') (o : Obj) : Nw w (w'.alloc o) := Only.alloc h o
theorem Nw.at_ (h : Nw w w') {k : Nat} {o : Obj} (hk : w.heap[k]? = some o) : w'.heap[k]? = some o := Only.at_ h hk (fun hf => hf)
theorem Nw.cell (h : Nw w w') {a : Addr} {v : Value} (hk : w.cell? a = some v) : w'.cell? a = some v := Only.cell h hk (fun hf => hf)
theorem Nw.of_below (h : Below w.heap.size w w') : Nw w w' := Only.of_below h (fun _ hk _ => hk)
theorem Nw.below (h : Nw w w') : Below w.heap.size w w' := Only.below h (fun _ hk => ⟨hk, fun hf => hf⟩)
theorem Nw.regrown (h : Nw w w') : ∃ p : Regrown, w' = Go.Sort.grow (redrawn w p.d) p.os := regrown_of_below h.below
theorem Nw.of_regrown (h : ∃ p : Regrown, w' = Go.Sort.grow (redrawn w p.d) p.os) : Nw w w' := by
  obtain ⟨p, rfl⟩ := h; exact Nw.of_below (below_regrown w p.d p.os)
end
section
variable {P : Program} {ops : Array Oper} {md : Region.Mode} {C : World → Prop}

end
end Go.Proofs.YtcmaedoolinijaaGreatDoor

namespace Go.Proofs.YtcmaedoolinijaaGreatDoor
open Go Go.RowKit

section
variable {P : Program} {ops : Array Oper} {md : Region.Mode} {C : World → Prop} {Q : Exit → Act → World → Prop}
def YieldsW (P : Program) (ops : Array Oper) (C : World → Prop) (o : Oper) (v : Value) (a : Act) : Prop :=
  (Region.wanted o (yielded ops a.tmps) = true ∧ ∀ w, C w → (execOp a.eval o).run P w = .ok (.value v) w) ∨
  (Region.wanted o (yielded ops a.tmps) = false ∧ v = undef)

theorem YieldsW.of_same {o : Oper} {v : Value} {a a' : Act} (hy : YieldsW P ops C o v a) (he : execOp a'.eval o = execOp a.eval o)
    (hw : Region.wanted o (yielded ops a'.tmps) = Region.wanted o (yielded ops a.tmps)) : YieldsW P ops C o v a' := by
  unfold YieldsW at *
  rw [he, hw]
  exact hy
theorem YieldsW.wpOp {i : Nat} {o : Oper} {v : Value} {a : Act} (hi : ops[i]? = some o) (hy : YieldsW P ops C o v a)
    {K : Act → World → Prop} {w : World} (hC : C w) (h : K (a.put o.dst v) w) : wpOp P ops Q i K a w := by
  unfold Go.wpOp
  simp only [hi]
  rcases hy with ⟨hw, hv⟩ | ⟨hw, rfl⟩
  · simp only [hw, if_true, Oper.wp, hv w hC, Oper.upon]; exact .inl h
  · simp only [hw, Bool.false_eq_true, if_false]; exact h

theorem wpOp_putW {j : Nat} {oi oj : Oper} {v : Value} (hj : ops[j]? = some oj) (hap : oi.apart ops oj = true)
    (hsi : ∀ cs b, oi.op ≠ .select cs b) (hsj : ∀ cs b, oj.op ≠ .select cs b)
    (hQ : ∀ c a w, Q (.panic c) (a.put oi.dst v) w → Q (.panic c) a w) {D : World → Prop} {K : Act → World → Prop} {a : Act} {w : World}
    (hy : YieldsW P ops C oi v a) (h : wpOp P ops Q j (fun a' w' => D w' ∧ K a' w') (a.put oi.dst v) w) :
    wpOp P ops Q j (fun a' w' => D w' ∧ YieldsW P ops C oi v a' ∧ K (a'.put oi.dst v) w') a w := by
  obtain ⟨h1, h2, h3⟩ := Oper.apart_spec hap
  have keep : ∀ (a : Act), YieldsW P ops C oi v a → ∀ u, YieldsW P ops C oi v (a.put oj.dst u) := fun a hy u =>
    hy.of_same (execOp_put oi hsi a oj.dst u h3) (wanted_put oi a oj.dst u h3)
  have keepD : ∀ d, YieldsW P ops C oi v { a with defers := d :: a.defers } := fun d => hy.of_same rfl rfl
  unfold wpOp at *
  simp only [hj] at *
  rw [wanted_put oj a oi.dst v h1] at h
  split
  · rename_i hw
    simp only [hw, if_true] at h
    rcases h with h | ⟨hasks, hlets⟩
    case inr => exact .inr ⟨by unfold Oper.asks at *; rw [execOp_put oj hsj a oi.dst v h1] at hasks; exact hasks, hlets⟩
    refine .inl ?_
    unfold Oper.wp at *
    rw [execOp_put oj hsj a oi.dst v h1] at h
    generalize (execOp a.eval oj).run P w = r at *
    cases r with
    | ok n w' =>
      cases n <;> simp only [Oper.upon] at h ⊢
      case value u => exact ⟨h.1, keep a hy u, by rw [← Act.put_comm a v u h2]; exact h.2⟩
      case skip => exact ⟨h.1, keep a hy _, by rw [← Act.put_comm a v undef h2]; exact h.2⟩
      case defer d =>
        refine ⟨h.1, keep _ (keepD d) _, ?_⟩
        rw [← Act.put_comm _ v undef h2, ← Act.put_defers]
        exact h.2
      case enter f args =>
        refine Calls.mono h fun e w'' he => ?_
        cases e with
        | returned u => exact ⟨he.1, keep a hy u, by rw [← Act.put_comm a v u h2]; exact he.2⟩
        | panicked c => exact hQ _ _ _ he
        | outgrown => exact he
      case row row args => exact Rows.mono h fun u w'' he => ⟨he.1, keep a hy u, by rw [← Act.put_comm a v u h2]; exact he.2⟩
    | halt x w' =>
      cases x <;> simp only [Oper.upon] at h ⊢
      case panic u => exact hQ _ _ _ h
  · rename_i hw
    simp only [hw] at h
    exact ⟨h.1, keep a hy _, by rw [← Act.put_comm a v undef h2]; exact h.2⟩
def wpAnyK (P : Program) (md : Region.Mode) (ops : Array Oper) (C : World → Prop) (n : Nat) (Q : Exit → Act → World → Prop) : Nat → Array Bool → Act → World → Prop
  | 0, listed, a, w => Region.ready md ops listed = [] ∧ Q .normal a w
  | f + 1, listed, a, w =>
    (Region.ready md ops listed = [] → Q .normal a w) ∧
    ∀ i ∈ Region.ready md ops listed, wpOp P ops Q i (fun a' w' => (i < n → C w') ∧ wpAnyK P md ops C n Q f (listed.setIfInBounds i true) a' w') a w

theorem wpAny_of_K {n : Nat} : ∀ (f : Nat) (listed : Array Bool) (a : Act) (w : World), wpAnyK P md ops C n Q f listed a w → wpAny P md ops Q f listed a w
  | 0, _, _, _, h => h
  | f + 1, _, _, _, h => ⟨h.1, fun i hi => wpOp_mono (fun a' w' h' => wpAny_of_K f _ a' w' h'.2) (h.2 i hi)⟩

theorem wpAnyK_first {n i : Nat} {oi : Oper} {v : Value} (hi : ops[i]? = some oi) (hsel : ∀ (j : Nat) (o : Oper) cs b, ops[j]? = some o → o.op ≠ .select cs b)
    (hQ : ∀ c a w, Q (.panic c) (a.put oi.dst v) w → Q (.panic c) a w)
    (hs : Region.sinkB md ops n = true) (hc : Region.chainB md ops n = true) (hn : n < ops.size) (hin : i < n) :
    ∀ (f : Nat) (listed : Array Bool) (a : Act) (w : World), C w → HeadInv md ops n listed →
      (∀ j oj, ops[j]? = some oj → j ≠ i → listed.getD j true = false → (∀ e ∈ oj.after, Region.binds md e = true → e.on ≠ i) → oi.apart ops oj = true) →
      i ∈ Region.ready md ops listed → YieldsW P ops C oi v a →
      wpAnyK P md ops C n Q f (listed.setIfInBounds i true) (a.put oi.dst v) w → wpAnyK P md ops C n Q (f + 1) listed a w := by
  intro f
  induction f with
  | zero =>
    intro listed a w hC _ _ hr hy H
    refine ⟨fun h => (by rw [h] at hr; cases hr), fun j hj => ?_⟩
    by_cases hji : j = i
    · subst hji; exact hy.wpOp hi hC ⟨fun _ => hC, H⟩
    · have := ready_mono hj hji
      rw [H.1] at this
      cases this
  | succ f ih =>
    intro listed a w hC inv hfree hr hy H
    have hun := (mem_ready.1 hr).1
    refine ⟨fun h => (by rw [h] at hr; cases hr), fun j hj => ?_⟩
    have hjn : j < n := by
      rcases Nat.lt_or_ge j n with h | h
      · exact h
      · exact absurd hj (tail_waits hs hc hn inv _ i rfl hin hun j h)
    by_cases hji : j = i
    · subst hji; exact hy.wpOp hi hC ⟨fun _ => hC, H⟩
    · have h1 := H.2 j (ready_mono hj hji)
      obtain ⟨hjun, oj, hoj, hall⟩ := mem_ready.1 hj
      have hnot : ∀ e ∈ oj.after, Region.binds md e = true → e.on ≠ i := fun e he hb heq => by
        have h1 := hall e he hb
        rw [heq, getD_both hun] at h1
        cases h1
      have h2 := wpOp_putW hoj (hfree j oj hoj hji hjun hnot) (fun cs b => hsel i oi cs b hi) (fun cs b => hsel j oj cs b hoj) hQ hy h1
      have hfree' : ∀ k ok, ops[k]? = some ok → k ≠ i → (listed.setIfInBounds j true).getD k true = false →
          (∀ e ∈ ok.after, Region.binds md e = true → e.on ≠ i) → oi.apart ops ok = true := fun k ok hk hki hun hno => by
        refine hfree k ok hk hki ?_ hno
        by_cases hjk : j = k
        · subst hjk; exact hjun
        · rw [getD_set_ne true hjk] at hun; exact hun
      refine wpOp_mono (fun a' w' h3 => ⟨h3.1, ih (listed.setIfInBounds j true) a' w' (h3.1 hjn) (inv.set hj hjn) hfree' (ready_mono hr (Ne.symm hji)) h3.2.1 ?_⟩) h2
      rw [Array.setIfInBounds_comm _ _ hji]
      exact h3.2.2
def wpNums (P : Program) (ops : Array Oper) (C : World → Prop) (n : Nat) (Q : Exit → Act → World → Prop) : List Nat → Act → World → Prop
  | [], a, w => Q .normal a w
  | i :: l, a, w => wpOp P ops Q i (fun a' w' => (i < n → C w') ∧ wpNums P ops C n Q l a' w') a w
def Region.numsB (md : Region.Mode) (ops : Array Oper) : List Nat → Array Bool → Bool
  | [], listed => (Region.ready md ops listed).isEmpty
  | i :: l, listed => decide (Region.ready md ops listed = [i]) && Region.numsB md ops l (listed.setIfInBounds i true)
theorem wpAnyK_nums {n : Nat} : ∀ (l : List Nat) (listed : Array Bool) (a : Act) (w : World), Region.numsB md ops l listed = true → wpNums P ops C n Q l a w → wpAnyK P md ops C n Q l.length listed a w
  | [], listed, a, w, hB, h => ⟨by simpa [Region.numsB] using hB, h⟩
  | i :: l, listed, a, w, hB, h => by
    simp only [Region.numsB, Bool.and_eq_true, decide_eq_true_eq] at hB
    refine ⟨fun h1 => (by rw [hB.1] at h1; cases h1), fun j hj => ?_⟩
    rw [hB.1] at hj
    have : j = i := by simpa using hj
    subst this
    exact wpOp_mono (fun a' w' h' => ⟨h'.1, wpAnyK_nums l _ a' w' hB.2 h'.2⟩) h
def Oper.reads (P : Program) (o : Oper) (a : Act) (C : World → Prop) (next : Act → Prop) : Prop := ∃ v, (∀ w, C w → (execOp a.eval o).run P w = .ok (.value v) w) ∧ next (a.put o.dst v)
theorem wpNums_cons {n : Nat} {a : Act} {w : World} {i : Nat} {l : List Nat} {o : Oper} (ho : ops[i]? = some o)
    (h : wpList P ops (Exit.then (fun a' w' => (i < n → C w') ∧ wpNums P ops C n Q l a' w') Q) [o] a w) : wpNums P ops C n Q (i :: l) a w := by
  simp only [wpNums, wpOp, ho]
  simp only [wpList] at h
  split
  · rename_i hw
    rw [if_pos hw] at h
    rcases h with h | ⟨h1, h2⟩
    · refine .inl ?_
      unfold Oper.wp at *
      generalize (execOp a.eval o).run P w = r at *
      cases r with
      | ok n w' =>
        cases n <;> simp only [Oper.upon] at h ⊢
        case value u => exact h
        case skip => exact h
        case defer d => exact h
        case enter f args => exact Calls.mono h fun e w'' he => by cases e <;> exact he
        case row row args => exact h
      | halt x w' =>
        cases x <;> simp only [Oper.upon] at h ⊢
        case panic u => exact h
    · exact .inr ⟨h1, h2⟩
  · rename_i hw
    rw [if_neg hw] at h
    exact h
theorem wpNums_nil {n : Nat} {a : Act} {w : World} (h : Q .normal a w) : wpNums P ops C n Q [] a w := h
end

end Go.Proofs.YtcmaedoolinijaaGreatDoor

namespace Go.Proofs.YtcmaedoolinijaaGreatDoor
open Go Go.RowKit

inductive Stp where
  | rd (i : Nat)
  | dn (i : Nat)

section
variable {P : Program} {ops : Array Oper} {md : Region.Mode} {C : World → Prop} {Q : Exit → Act → World → Prop}
def wpSteps (P : Program) (ops : Array Oper) (C : World → Prop) (Q : Exit → Act → World → Prop) (K : Act → World → Prop) : List Stp → Act → World → Prop
  | [], a, w => K a w
  | .rd i :: l, a, w => match ops[i]? with
    | none => False
    | some o => if Region.wanted o (yielded ops a.tmps) then Oper.reads P o a C (fun a' => wpSteps P ops C Q K l a' w) else wpSteps P ops C Q K l (a.put o.dst undef) w
  | .dn i :: l, a, w => wpOp P ops Q i (fun a' w' => C w' ∧ wpSteps P ops C Q K l a' w') a w
def Region.stepsB (md : Region.Mode) (ops : Array Oper) (n : Nat) (r : List Nat) : List Stp → Array Bool → Bool
  | [], listed => Region.numsB md ops r listed
  | .rd i :: l, listed => decide (i < n) && (Region.ready md ops listed).contains i && Region.free md ops listed i && Region.stepsB md ops n r l (listed.setIfInBounds i true)
  | .dn i :: l, listed => decide (i < n) && decide (Region.ready md ops listed = [i]) && Region.stepsB md ops n r l (listed.setIfInBounds i true)

theorem wpAnyK_steps {n : Nat} (hsel : Region.noSelect ops = true) (hs : Region.sinkB md ops n = true) (hc : Region.chainB md ops n = true) (hn : n < ops.size)
    (hQ : ∀ (c : List PanicEntry) (a : Act) (d : Tmp) (v : Value) (w : World), Q (.panic c) (a.put (some d) v) w → Q (.panic c) a w) (r : List Nat) :
    ∀ (l : List Stp) (listed : Array Bool) (a : Act) (w : World), C w → HeadInv md ops n listed → Region.stepsB md ops n r l listed = true → wpSteps P ops C Q (fun a' w' => wpNums P ops C n Q r a' w') l a w →
      wpAnyK P md ops C n Q (l.length + r.length) listed a w
  | [], listed, a, w, _, _, hB, h => by rw [List.length_nil, Nat.zero_add]; exact wpAnyK_nums r listed a w hB h
  | .dn i :: l, listed, a, w, hC, inv, hB, h => by
    simp only [Region.stepsB, Bool.and_eq_true, decide_eq_true_eq] at hB
    rw [show (Stp.dn i :: l).length + r.length = (l.length + r.length) + 1 by simp only [List.length_cons]; omega]
    refine ⟨fun h1 => (by rw [hB.1.2] at h1; cases h1), fun j hj => ?_⟩
    have hji : j = i := by rw [hB.1.2] at hj; simpa using hj
    subst hji
    exact wpOp_mono (fun a' w' h' => ⟨fun _ => h'.1, wpAnyK_steps hsel hs hc hn hQ r l _ a' w' h'.1 (inv.set hj hB.1.1) hB.2 h'.2⟩) h
  | .rd i :: l, listed, a, w, hC, inv, hB, h => by
    simp only [Region.stepsB, Bool.and_eq_true, decide_eq_true_eq] at hB
    obtain ⟨⟨⟨hin, hr⟩, hf⟩, hB'⟩ := hB
    have hr' : i ∈ Region.ready md ops listed := by simpa using hr
    obtain ⟨hun, o, ho, _⟩ := mem_ready.1 hr'
    simp only [wpSteps, ho] at h
    have key : ∃ v, YieldsW P ops C o v a ∧ wpSteps P ops C Q (fun a' w' => wpNums P ops C n Q r a' w') l (a.put o.dst v) w := by
      by_cases hw : Region.wanted o (yielded ops a.tmps) = true
      · simp only [hw, if_true] at h
        obtain ⟨v, h1, h2⟩ := h
        exact ⟨v, .inl ⟨hw, h1⟩, h2⟩
      · simp only [hw] at h
        exact ⟨undef, .inr ⟨by simpa using hw, rfl⟩, h⟩
    obtain ⟨v, hy, hK⟩ := key
    rw [show (Stp.rd i :: l).length + r.length = (l.length + r.length) + 1 by simp only [List.length_cons]; omega]
    exact wpAnyK_first ho (Region.noSelect_spec hsel) (fun c a w h => by cases hdst : o.dst with | none => (rw [hdst] at h; exact h) | some d => (rw [hdst] at h; exact hQ c a d v w h)) hs hc hn hin (l.length + r.length) listed a w hC inv (Region.free_spec ho hf) hr' hy
      (wpAnyK_steps hsel hs hc hn hQ r l _ _ w hC (inv.set hr' hin) hB' hK)

def Region.stpB (ops : Array Oper) (n : Nat) (l : List Stp) (r : List Nat) : Bool :=
  Region.noSelect ops && decide (n < ops.size) && Region.sinkB .any ops n && Region.chainB .any ops n && decide (l.length + r.length = ops.size) && Region.stepsB .any ops n r l (Array.replicate ops.size false)

theorem wp_region_steps {id : Nat} {a : Act} {w : World} {l : List Oper} (n : Nat) (st : List Stp) (r : List Nat) (C : World → Prop) (hm : P.follows .mixedOrders = true) (hB : Region.stpB l.toArray n st r = true)
    (hQ : ∀ (c : List PanicEntry) (a : Act) (d : Tmp) (v : Value) (w : World), Q (.panic c) (a.put (some d) v) w → Q (.panic c) a w) (hC : C w.drew)
    (h : wpSteps P l.toArray C Q (fun a' w' => wpNums P l.toArray C n Q r a' w') st a w.drew) : (Code.region id l.toArray true).wp P Q a w := by
  simp only [Region.stpB, Bool.and_eq_true, decide_eq_true_eq] at hB
  obtain ⟨⟨⟨⟨⟨hsel, hn⟩, hs⟩, hc⟩, hlen⟩, hR⟩ := hB
  have inv0 : HeadInv .any l.toArray n (Array.replicate l.toArray.size false) :=
    ⟨by simp, fun j oj _ hl => (by rw [getD_replicate_false] at hl; cases hl), fun t _ ht => getD_in (by simpa using ht) (getD_replicate_false _ _)⟩
  have H := wpAnyK_steps (md := .any) hsel hs hc hn hQ r st _ a w.drew hC inv0 hR h
  have H' := wpAny_of_K _ _ _ _ H
  rw [hlen] at H'
  exact wp_region_any hm H'
theorem wpSteps_nil {K : Act → World → Prop} {a : Act} {w : World} (h : K a w) : wpSteps P ops C Q K [] a w := h
theorem wpSteps_val {K : Act → World → Prop} {a : Act} {w : World} {i : Nat} {l : List Stp} {o : Oper} (v : Value) (ho : ops[i]? = some o) (hw : Region.wanted o (yielded ops a.tmps) = true)
    (hv : ∀ w, C w → (execOp a.eval o).run P w = .ok (.value v) w) (h : wpSteps P ops C Q K l (a.put o.dst v) w) : wpSteps P ops C Q K (.rd i :: l) a w := by
  simp only [wpSteps, ho, hw, if_true]; exact ⟨v, hv, h⟩
theorem wpSteps_dn {K : Act → World → Prop} {a : Act} {w : World} {i : Nat} {l : List Stp} {o : Oper} (ho : ops[i]? = some o)
    (h : ∀ K' : Act → World → Prop, (∀ a w, C w → wpSteps P ops C Q K l a w → K' a w) → wpList P ops (Exit.then K' Q) [o] a w) : wpSteps P ops C Q K (.dn i :: l) a w := by
  have h := h (fun a' w' => C w' ∧ wpSteps P ops C Q K l a' w') (fun a w h1 h2 => ⟨h1, h2⟩)
  simp only [wpSteps, wpOp, ho]
  simp only [wpList] at h
  split
  · rename_i hw
    rw [if_pos hw] at h
    rcases h with h | ⟨h1, h2⟩
    · refine .inl ?_
      unfold Oper.wp at *
      generalize (execOp a.eval o).run P w = r at *
      cases r with
      | ok n w' =>
        cases n <;> simp only [Oper.upon] at h ⊢
        case value u => exact h
        case skip => exact h
        case defer d => exact h
        case enter f args => exact Calls.mono h fun e w'' he => by cases e <;> exact he
        case row row args => exact h
      | halt x w' =>
        cases x <;> simp only [Oper.upon] at h ⊢
        case panic u => exact h
    · exact .inr ⟨h1, h2⟩
  · rename_i hw
    rw [if_neg hw] at h
    exact h
end
end Go.Proofs.YtcmaedoolinijaaGreatDoor

namespace Go.Proofs.YtcmaedoolinijaaGreatDoor
open Go Go.RowKit
section
variable {P : Program} {L : List Oper} {C : World → Prop} {Q : Exit → Act → World → Prop}
theorem at_list {i : Nat} {o : Oper} (h : L[i]? = some o) : L.toArray[i]? = some o := by simpa using h
theorem stp_val {K : Act → World → Prop} {a : Act} {w : World} {i : Nat} {l : List Stp} {o : Oper} {d : Nat} (v : Value) (ho : L[i]? = some o) (hd : o.dst = some d) (hw : Region.wanted o (yielded L.toArray a.tmps) = true)
    (hv : ∀ w, C w → (execOp a.eval o).run P w = .ok (.value v) w) (h : wpSteps P L.toArray C Q K l (a.put (some d) v) w) : wpSteps P L.toArray C Q K (.rd i :: l) a w :=
  wpSteps_val v (at_list ho) hw hv (by rw [hd]; exact h)
theorem stp_to {K : Act → World → Prop} {a : Act} {w : World} {i : Nat} {l : List Stp} {o : Oper} {d : Nat} (v : Value) (ho : L[i]? = some o) (hd : o.dst = some d) (hw : Region.wanted o (yielded L.toArray a.tmps) = true)
    (hv : ∀ w, C w → (execOp a.eval o).run P w = .ok (.value v) w) (h : ∀ K' : Act → Prop, (∀ a, wpSteps P L.toArray C Q K l a w → K' a) → K' (a.put (some d) v)) : wpSteps P L.toArray C Q K (.rd i :: l) a w :=
  stp_val v ho hd hw hv (h _ fun _ h => h)
theorem stp_dn {K : Act → World → Prop} {a : Act} {w : World} {i : Nat} {l : List Stp} {o : Oper} (ho : L[i]? = some o)
    (h : ∀ K' : Act → World → Prop, (∀ a w, C w → wpSteps P L.toArray C Q K l a w → K' a w) → wpList P L.toArray (Exit.then K' Q) [o] a w) : wpSteps P L.toArray C Q K (.dn i :: l) a w :=
  wpSteps_dn (at_list ho) h
theorem stp_num {n : Nat} {a : Act} {w : World} {i : Nat} {l : List Nat} {o : Oper} (ho : L[i]? = some o)
    (h : wpList P L.toArray (Exit.then (fun a' w' => (i < n → C w') ∧ wpNums P L.toArray C n Q l a' w') Q) [o] a w) : wpNums P L.toArray C n Q (i :: l) a w :=
  wpNums_cons (at_list ho) h
theorem stp_do {n : Nat} {a : Act} {w : World} {i : Nat} {l : List Nat} {o : Oper} (ho : L[i]? = some o) (hin : ¬ i < n)
    (h : ∀ K' : Act → World → Prop, (∀ a w, wpNums P L.toArray C n Q l a w → K' a w) → wpList P L.toArray (Exit.then K' Q) [o] a w) : wpNums P L.toArray C n Q (i :: l) a w := by
  refine stp_num ho ?_
  exact h (fun a' w' => (i < n → C w') ∧ wpNums P L.toArray C n Q l a' w') (fun a w h => ⟨fun h' => absurd h' hin, h⟩)
end
end Go.Proofs.YtcmaedoolinijaaGreatDoor

namespace Go.Proofs.YtcmaedoolinijaaGreatDoor
open Go Go.RowKit
section
variable {P : Program} {ops : Array Oper} {Q : Exit → Act → World → Prop}
def Done (i : Nat) (D : Nat → Prop) : Nat → Prop := fun j => j = i ∨ D j
theorem Done.old {i j : Nat} {D : Nat → Prop} (h : Done i D j) (hn : j ≠ i) : D j := Or.resolve_left h hn
def Region.backB (ops : Array Oper) : Bool := (List.range ops.size).all fun i => ((ops[i]?).map fun o => o.after.all fun e => !Region.binds .any e || decide (e.on < i)).getD true
theorem Region.backB_spec {ops : Array Oper} (h : Region.backB ops = true) {i : Nat} {o : Oper} (ho : ops[i]? = some o) : ∀ e ∈ o.after, Region.binds .any e = true → e.on < i := by
  intro e he hb
  have hi : i < ops.size := by
    rcases Nat.lt_or_ge i ops.size with h1 | h1
    · exact h1
    · rw [Array.getElem?_eq_none h1] at ho; cases ho
  have h1 := List.all_eq_true.1 h i (List.mem_range.2 hi)
  rw [ho] at h1
  simp only [Option.map_some, Option.getD_some] at h1
  have h2 := Array.all_eq_true'.1 h1 e he
  rw [hb] at h2
  simpa using h2
theorem ready_all (hb : Region.backB ops = true) {listed : Array Bool} (hs : listed.size = ops.size) (hr : Region.ready .any ops listed = []) : ∀ i, i < ops.size → listed.getD i false = true := by
  intro i
  induction i using Nat.strongRecOn with
  | ind i ih =>
    intro hi
    cases hl : listed.getD i false with
    | true => rfl
    | false =>
      exfalso
      have ho : ops[i]? = some ops[i] := by simp [hi]
      have : i ∈ Region.ready .any ops listed := mem_ready.2 ⟨getD_in (by omega) hl, ops[i], ho, fun e he hbi => by
        have h1 := Region.backB_spec hb ho e he hbi
        exact ih e.on h1 (by omega)⟩
      rw [hr] at this
      cases this
theorem wpAny_inv (I : (Nat → Prop) → Act → World → Prop) (hb : Region.backB ops = true)
    (hs : ∀ (D : Nat → Prop) (i : Nat) (o : Oper), ops[i]? = some o → (∀ e ∈ o.after, Region.binds .any e = true → D e.on) → ¬ D i → ∀ a w, I D a w → wpOp P ops Q i (fun a' w' => I (fun j => j = i ∨ D j) a' w') a w)
    (he : ∀ D a w, (∀ i, i < ops.size → D i) → I D a w → Q .normal a w) :
    ∀ (f : Nat) (listed : Array Bool) (D : Nat → Prop) (a : Act) (w : World), listed.size = ops.size → (∀ i, i < ops.size → (listed.getD i false = true ↔ D i)) → listed.toList.count false = f → I D a w → wpAny P .any ops Q f listed a w
  | 0, listed, D, a, w, h1, h2, h3, h4 => by
    have hall : ∀ i, i < ops.size → listed.getD i false = true := fun i hi => by
      cases hl : listed.getD i false with
      | true => rfl
      | false =>
        exfalso
        have hi' : i < listed.size := by omega
        have : false ∈ listed.toList := by
          simp [hi'] at hl
          rw [← hl]
          exact Array.getElem_mem_toList hi'
        have := List.count_pos_iff.2 this
        omega
    refine ⟨?_, he D a w (fun i hi => (h2 i hi).1 (hall i hi)) h4⟩
    cases hr : Region.ready .any ops listed with
    | nil => rfl
    | cons j l =>
      exfalso
      obtain ⟨h5, o, ho, -⟩ := mem_ready.1 (show j ∈ Region.ready .any ops listed by rw [hr]; simp)
      have hj : j < ops.size := by
        rcases Nat.lt_or_ge j ops.size with h | h
        · exact h
        · rw [Array.getElem?_eq_none h] at ho; cases ho
      have := hall j hj
      rw [getD_both h5] at this
      cases this
  | f + 1, listed, D, a, w, h1, h2, h3, h4 => by
    refine ⟨fun hr => he D a w (fun i hi => (h2 i hi).1 (ready_all hb h1 hr i hi)) h4, fun i hi => ?_⟩
    obtain ⟨h5, o, ho, h6⟩ := mem_ready.1 hi
    have hil : i < ops.size := by
      rcases Nat.lt_or_ge i ops.size with h | h
      · exact h
      · rw [Array.getElem?_eq_none h] at ho; cases ho
    have h7 := getD_both h5
    have hD : ¬ D i := fun hc => by
      have := (h2 i hil).2 hc
      rw [h7] at this
      cases this
    have hback := Region.backB_spec hb ho
    refine wpOp_mono (fun a' w' h' => wpAny_inv I hb hs he f _ (fun j => j = i ∨ D j) a' w' (by simpa using h1) (fun j hj => ?_) ?_ h') (hs D i o ho (fun e he' hbi => (h2 e.on (by have := hback e he' hbi; omega)).1 (h6 e he' hbi)) hD a w h4)
    · by_cases hji : j = i
      · subst hji
        simp [h1, hil]
      · rw [getD_set_ne false (Ne.symm hji), h2 j hj]
        simp [hji]
    · have hi' : i < listed.toList.length := by simpa [h1] using hil
      have hlf : listed.toList[i] = false := by simp [h1, hil] at h7; simpa using h7
      rw [Array.toList_setIfInBounds, List.count_set hi', hlf, h3]
      simp
def waits (o : Oper) (j : Nat) : Bool := o.after.toList.any fun e => Region.binds .any e && Nat.beq e.on j
theorem waits_of {o : Oper} {D : Nat → Prop} (h : ∀ e ∈ o.after, Region.binds .any e = true → D e.on) (j : Nat) (hj : waits o j = true) : D j := by
  unfold waits at hj
  obtain ⟨e, he, hb⟩ := List.any_eq_true.1 hj
  simp only [Bool.and_eq_true] at hb
  obtain ⟨hb, h1⟩ := hb
  obtain rfl := Nat.eq_of_beq_eq_true h1
  exact h e (by simpa using he) hb
def EachO (p : Nat → Oper → Prop) : Nat → List Oper → Prop
  | _, [] => True
  | k, x :: l => p k x ∧ EachO p (k + 1) l
theorem EachO.at_ {p : Nat → Oper → Prop} : ∀ {l : List Oper} {k : Nat} (i : Nat) (o : Oper), EachO p k l → l[i]? = some o → p (k + i) o
  | [], _, _, _, _, h => by simp at h
  | x :: l, k, 0, o, h, ho => by simp at ho; subst ho; exact h.1
  | x :: l, k, i + 1, o, h, ho => by
    have := EachO.at_ (k := k + 1) i o h.2 (by simpa using ho)
    rwa [show k + 1 + i = k + (i + 1) by omega] at this
theorem of_each {p : Nat → Oper → Prop} {l : List Oper} (h : EachO p 0 l) : ∀ (i : Nat) (o : Oper), l[i]? = some o → p i o := fun i o ho => by
  have := EachO.at_ i o h ho
  rwa [Nat.zero_add] at this
def AllF (D : Nat → Prop) : Nat → List Prop → Prop
  | _, [] => True
  | k, p :: l => (D k → p) ∧ AllF D (k + 1) l
theorem AllF.none : ∀ (l : List Prop) (k : Nat), AllF (fun _ => False) k l
  | [], _ => trivial
  | _ :: l, k => ⟨fun h => h.elim, AllF.none l (k + 1)⟩
theorem AllF.more {D : Nat → Prop} {i : Nat} : ∀ {l : List Prop} {k : Nat}, AllF D k l → i < k → AllF (fun j => j = i ∨ D j) k l
  | [], _, _, _ => trivial
  | p :: l, k, h, hi => ⟨fun hk => h.1 (hk.resolve_left (by omega)), AllF.more h.2 (by omega)⟩
theorem AllF.step_at {D : Nat → Prop} {p : Prop} (hp : p) : ∀ {l : List Prop} {k : Nat} (i : Nat), AllF D k l → AllF (fun j => j = k + i ∨ D j) k (l.set i p)
  | [], _, _, _ => by simp [AllF]
  | q :: l, k, 0, h => ⟨fun _ => hp, AllF.more h.2 (by omega)⟩
  | q :: l, k, i + 1, h => ⟨fun hk => h.1 (hk.resolve_left (by omega)), by have := AllF.step_at hp (k := k + 1) i h.2; rwa [show k + 1 + i = k + (i + 1) by omega] at this⟩
theorem AllF.step {D : Nat → Prop} {p : Prop} {l : List Prop} (i : Nat) (h : AllF D 0 l) (hp : p) : AllF (Done i D) 0 (l.set i p) := by
  have := AllF.step_at hp (k := 0) i h
  rw [Nat.zero_add] at this
  exact this
end
end Go.Proofs.YtcmaedoolinijaaGreatDoor

namespace Go.Proofs.YtcmaedoolinijaaGreatDoor
open Go Go.RowKit
section
variable {P : Program} {ops : Array Oper} {md : Region.Mode} {C : World → Prop} {Q : Exit → Act → World → Prop}
end
end Go.Proofs.YtcmaedoolinijaaGreatDoor
