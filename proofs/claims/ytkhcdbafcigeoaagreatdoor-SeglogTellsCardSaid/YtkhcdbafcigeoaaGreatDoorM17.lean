/-
  Texts merged by a program of this claim's: GetPlain, Inv, Tab, Ref01R.
-/
import Derived.Test.YtkhcdbafcigeoaaGreatDoorM1
import Derived.Test.YtkhcdbafcigeoaaGreatDoorM10
import Derived.Test.YtkhcdbafcigeoaaGreatDoorM14
import Derived.Test.YtkhcdbafcigeoaaGreatDoorM5
import Derived.Test.YtkhcdbafcigeoaaGreatDoorM7
/-
  Numbers as the document finds them (the first begin that is a number's bytes) are numbers as the program reads them. Plain words.
-/
namespace Go.Proofs.YtkhcdbafcigeoaaGreatDoor
set_option maxRecDepth 100000
def weighsL : List UInt8 → Nat
  | [] => 0
  | c :: l => (c.toNat % 128 + 128 * weighsL l) % 18446744073709551616
theorem weighs_lt (l : List UInt8) : weighsL l < 18446744073709551616 := by
  cases l with
  | nil => show (0 : Nat) < _; decide
  | cons c l => exact Nat.mod_lt _ (by decide)
theorem weighs_uintB (m : Nat) : m < 18446744073709551616 → weighsL (uintB m) = m := by
  induction m using Nat.strongRecOn with
  | ind m ih =>
    intro hm
    by_cases hs : m < 128
    · rw [uintB_small hs]
      have e : (UInt8.ofNat m).toNat = m := by simp; omega
      simp only [weighsL, e]
      omega
    · rw [uintB_big hs]
      have e : (UInt8.ofNat (m % 128 + 128)).toNat = m % 128 + 128 := by simp; omega
      simp only [weighsL, e]
      rw [ih (m / 128) (by omega) (by omega)]
      omega
theorem numF_inv : ∀ (l : List UInt8) (i acc n : Nat) (k : Int), numF i acc l = (n, k) → 0 < k → i ≤ 9 →
    ∃ m j : Nat, l.take j = uintB m ∧ 0 < j ∧ j ≤ l.length ∧ n = acc + m * 2 ^ (7 * i) ∧ k = (i : Int) + j ∧ m * 2 ^ (7 * i) < 2 ^ 64 ∧ (0 < i → 0 < m)
  | [], i, acc, n, k, h, hk, _ => by
    simp only [numF, Prod.mk.injEq] at h
    omega
  | c :: l, i, acc, n, k, h, hk, hi => by
    have hc := c.toNat_lt
    simp only [numF] at h
    split at h
    · simp only [Prod.mk.injEq] at h; omega
    rename_i h9
    split at h
    · rename_i h1
      have hi8 : i ≤ 8 := by
        rcases Nat.lt_or_ge i 9 with h2 | h2
        · omega
        · exact absurd ⟨by omega, by omega⟩ h9
      obtain ⟨m, j, a1, a2, a3, a4, a5, a6, a7⟩ := numF_inv l (i + 1) _ n k h hk (by omega)
      have hm := a7 (by omega)
      refine ⟨c.toNat % 128 + 128 * m, j + 1, ?_, by omega, by simp only [List.length_cons]; omega, ?_, by rw [a5]; omega, ?_, fun _ => by omega⟩
      · rw [uintB_big (by omega), List.take_succ_cons, a1, show (c.toNat % 128 + 128 * m) / 128 = m by omega, show (c.toNat % 128 + 128 * m) % 128 + 128 = c.toNat by omega]
        simp
      · rw [a4, pow7, Nat.add_mul, Nat.add_assoc, Nat.mul_assoc 128 m, Nat.mul_left_comm 128 m]
      · rw [pow7] at a6
        obtain ⟨t, ht⟩ : ∃ t, 2 ^ 64 = t * (128 * 2 ^ (7 * i)) := ⟨2 ^ (64 - 7 * (i + 1)), by rw [← pow7, ← Nat.pow_add]; congr 1; omega⟩
        have hp := pow_pos7 i
        have hmt : m < t := by
          rw [ht] at a6
          exact Nat.lt_of_mul_lt_mul_right a6
        have h2 : (m + 1) * (128 * 2 ^ (7 * i)) ≤ 2 ^ 64 := by rw [ht]; exact Nat.mul_le_mul_right _ hmt
        have h3 : (c.toNat % 128 + 128 * m) * 2 ^ (7 * i) < (m + 1) * (128 * 2 ^ (7 * i)) := by
          rw [← Nat.mul_assoc]
          exact Nat.mul_lt_mul_of_pos_right (by omega) hp
        omega
    · rename_i h1
      split at h
      · simp only [Prod.mk.injEq] at h; omega
      rename_i h0
      simp only [Prod.mk.injEq] at h
      obtain ⟨rfl, rfl⟩ := h
      refine ⟨c.toNat, 1, ?_, by omega, by simp, by rw [Nat.mod_eq_of_lt (by omega)], by omega, ?_, fun hp => by omega⟩
      · rw [uintB_small (by omega)]; simp
      · by_cases h8 : i ≤ 8
        · have h2 : 2 ^ (7 * i) ≤ 2 ^ 56 := Nat.pow_le_pow_right (by decide) (by omega)
          have h3 : c.toNat * 2 ^ (7 * i) ≤ 127 * 2 ^ 56 := Nat.mul_le_mul (by omega) h2
          have h4 : (127 : Nat) * 2 ^ 56 < 2 ^ 64 := by decide
          omega
        · obtain rfl : i = 9 := by omega
          have h3 : c.toNat * 2 ^ (7 * 9) ≤ 1 * 2 ^ (7 * 9) := Nat.mul_le_mul_right _ (by omega)
          have h4 : (1 : Nat) * 2 ^ (7 * 9) < 2 ^ 64 := by decide
          exact Nat.lt_of_le_of_lt h3 h4
theorem numF_zero : ∀ (l : List UInt8) (i acc : Nat), (numF i acc l).2 = 0 → i ≤ 9 → (∀ c ∈ l, 128 ≤ c.toNat) ∧ l.length + i ≤ 9
  | [], i, _, _, hi => ⟨fun c hc => absurd hc (by simp), by simpa using hi⟩
  | c :: l, i, acc, h, hi => by
    simp only [numF] at h
    split at h
    · simp at h
    rename_i h9
    split at h
    · rename_i h1
      have hi8 : i ≤ 8 := by
        rcases Nat.lt_or_ge i 9 with h2 | h2
        · omega
        · exact absurd ⟨by omega, by omega⟩ h9
      obtain ⟨a, b⟩ := numF_zero l (i + 1) _ h (by omega)
      refine ⟨fun x hx => ?_, by simp only [List.length_cons]; omega⟩
      rcases List.mem_cons.1 hx with rfl | hx
      · exact h1
      · exact a x hx
    · split at h
      · simp at h
      · simp only at h; omega
theorem canon_one : ∀ (l : List UInt8), (∀ c ∈ l, 128 ≤ c.toNat) → ∃ m, uintB m = l ++ [1] ∧ 0 < m ∧ m < 2 * 128 ^ l.length
  | [], _ => ⟨1, by rw [uintB_small (by omega)]; rfl, by omega, by simp⟩
  | c :: l, h => by
    have hc := c.toNat_lt
    have h1 := h c (by simp)
    obtain ⟨m, a, b, d⟩ := canon_one l fun x hx => h x (by simp [hx])
    refine ⟨c.toNat % 128 + 128 * m, ?_, by omega, ?_⟩
    · rw [uintB_big (by omega), show (c.toNat % 128 + 128 * m) / 128 = m by omega, show (c.toNat % 128 + 128 * m) % 128 + 128 = c.toNat by omega, a]
      simp
    · rw [List.length_cons, Nat.pow_succ]
      omega
/-- Is a list a number's bytes? -/
theorem get_found {rest : List UInt8} {k : Nat} (hk : k ≤ rest.length) (h : uintB (weighsL (rest.take k)) = rest.take k) : numF 0 0 rest = (weighsL (rest.take k), (k : Int)) := by
  have hw := weighs_lt (rest.take k)
  have := numF_uintB (rest.drop k) (weighsL (rest.take k)) 0 0 (by omega) (by simpa using hw) (by omega)
  rw [h, List.take_append_drop, List.length_take, Nat.min_eq_left hk] at this
  simpa using this
theorem get_none {rest : List UInt8} (h : ∀ k, 1 ≤ k → k ≤ 10 → k ≤ rest.length → uintB (weighsL (rest.take k)) ≠ rest.take k) : (numF 0 0 rest).2 ≤ 0 := by
  rcases Int.lt_or_le 0 (numF 0 0 rest).2 with h1 | h1
  · exfalso
    obtain ⟨m, j, a1, a2, a3, -, -, a6, -⟩ := numF_inv rest 0 0 _ _ rfl h1 (by omega)
    simp only [Nat.mul_zero, Nat.pow_zero, Nat.mul_one] at a6
    have hj : j ≤ 10 := by
      have h128 : (2 : Nat) ^ 64 ≤ 128 ^ 10 := by decide
      have h2 := uintB_len m 10 (by omega) (by omega)
      rw [← a1, List.length_take] at h2
      omega
    exact h j a2 hj a3 (by rw [a1, weighs_uintB m a6])
  · exact h1
theorem get_begin {rest : List UInt8} (h : (numF 0 0 rest).2 ≤ 0) : ((rest ++ [1]).length ≤ 10 ∧ uintB (weighsL (rest ++ [1])) = rest ++ [1]) ↔ (numF 0 0 rest).2 = 0 := by
  constructor
  · rintro ⟨-, h2⟩
    have hw := weighs_lt (rest ++ [1])
    have hl := congrArg List.length h2
    rw [List.length_append, List.length_singleton] at hl
    have := numF_cut (weighsL (rest ++ [1])) 0 0 rest.length (by omega) (by simpa using hw) (by omega)
    rw [h2, List.take_left] at this
    rw [this]
  · intro h0
    obtain ⟨a, b⟩ := numF_zero rest 0 0 h0 (by omega)
    obtain ⟨m, c1, c2, c3⟩ := canon_one rest a
    have hm : m < 18446744073709551616 := by
      have h2 : 128 ^ rest.length ≤ 128 ^ 9 := Nat.pow_le_pow_right (by decide) (by omega)
      have h3 : (2 : Nat) * 128 ^ 9 = 18446744073709551616 := by decide
      omega
    refine ⟨by rw [List.length_append, List.length_singleton]; omega, ?_⟩
    rw [← c1, weighs_uintB m hm]
end Go.Proofs.YtkhcdbafcigeoaaGreatDoor

/-
  Program-independent: a drawn region by an invariant: what holds behind the operations that are done (D), and each operation that may come takes it on. However many orders there are, each operation is walked once.
-/
namespace Go.Proofs.YtkhcdbafcigeoaaGreatDoor
open Go Go.RowKit
section
variable {P : Program} {ops : Array Oper} {Q : Exit → Act → World → Prop}
/-- What is done, and i. -/
def Done (i : Nat) (D : Nat → Prop) : Nat → Prop := fun j => j = i ∨ D j
theorem Done.old {i j : Nat} {D : Nat → Prop} (h : Done i D j) (hn : j ≠ i) : D j := Or.resolve_left h hn
def Region.backB (ops : Array Oper) : Bool := (List.range ops.size).all fun i => ((ops[i]?).map fun o => o.after.all fun e => !Region.binds .any e || decide (e.on < i)).getD true
theorem Region.backB_spec {ops : Array Oper} (h : Region.backB ops = true) {i : Nat} {o : Oper} (ho : ops[i]? = some o) : ∀ e ∈ o.after, Region.binds .any e = true → e.on < i := by
  intro e he hb
  have hi : i < ops.size := by
    rcases Nat.lt_or_ge i ops.size with h1 | h1
    · exact h1
    · rw [Array.getElem?_eq_none h1] at ho; cases ho
  have h1 := List.all_eq_true.1 h i (List.mem_range.2 hi)
  rw [ho] at h1
  simp only [Option.map_some, Option.getD_some] at h1
  have h2 := Array.all_eq_true'.1 h1 e he
  rw [hb] at h2
  simpa using h2
theorem ready_all (hb : Region.backB ops = true) {listed : Array Bool} (hs : listed.size = ops.size) (hr : Region.ready .any ops listed = []) : ∀ i, i < ops.size → listed.getD i false = true := by
  intro i
  induction i using Nat.strongRecOn with
  | ind i ih =>
    intro hi
    cases hl : listed.getD i false with
    | true => rfl
    | false =>
      exfalso
      have ho : ops[i]? = some ops[i] := by simp [hi]
      have : i ∈ Region.ready .any ops listed := mem_ready.2 ⟨getD_in (by omega) hl, ops[i], ho, fun e he hbi => by
        have h1 := Region.backB_spec hb ho e he hbi
        exact ih e.on h1 (by omega)⟩
      rw [hr] at this
      cases this
theorem wpAny_inv (I : (Nat → Prop) → Act → World → Prop) (hb : Region.backB ops = true)
    (hs : ∀ (D : Nat → Prop) (i : Nat) (o : Oper), ops[i]? = some o → (∀ e ∈ o.after, Region.binds .any e = true → D e.on) → ¬ D i → ∀ a w, I D a w → wpOp P ops Q i (fun a' w' => I (fun j => j = i ∨ D j) a' w') a w)
    (he : ∀ D a w, (∀ i, i < ops.size → D i) → I D a w → Q .normal a w) :
    ∀ (f : Nat) (listed : Array Bool) (D : Nat → Prop) (a : Act) (w : World), listed.size = ops.size → (∀ i, i < ops.size → (listed.getD i false = true ↔ D i)) → listed.toList.count false = f → I D a w → wpAny P .any ops Q f listed a w
  | 0, listed, D, a, w, h1, h2, h3, h4 => by
    have hall : ∀ i, i < ops.size → listed.getD i false = true := fun i hi => by
      cases hl : listed.getD i false with
      | true => rfl
      | false =>
        exfalso
        have hi' : i < listed.size := by omega
        have : false ∈ listed.toList := by
          simp [hi'] at hl
          rw [← hl]
          exact Array.getElem_mem_toList hi'
        have := List.count_pos_iff.2 this
        omega
    refine ⟨?_, he D a w (fun i hi => (h2 i hi).1 (hall i hi)) h4⟩
    cases hr : Region.ready .any ops listed with
    | nil => rfl
    | cons j l =>
      exfalso
      obtain ⟨h5, o, ho, -⟩ := mem_ready.1 (show j ∈ Region.ready .any ops listed by rw [hr]; simp)
      have hj : j < ops.size := by
        rcases Nat.lt_or_ge j ops.size with h | h
        · exact h
        · rw [Array.getElem?_eq_none h] at ho; cases ho
      have := hall j hj
      rw [getD_both h5] at this
      cases this
  | f + 1, listed, D, a, w, h1, h2, h3, h4 => by
    refine ⟨fun hr => he D a w (fun i hi => (h2 i hi).1 (ready_all hb h1 hr i hi)) h4, fun i hi => ?_⟩
    obtain ⟨h5, o, ho, h6⟩ := mem_ready.1 hi
    have hil : i < ops.size := by
      rcases Nat.lt_or_ge i ops.size with h | h
      · exact h
      · rw [Array.getElem?_eq_none h] at ho; cases ho
    have h7 := getD_both h5
    have hD : ¬ D i := fun hc => by
      have := (h2 i hil).2 hc
      rw [h7] at this
      cases this
    have hback := Region.backB_spec hb ho
    refine wpOp_mono (fun a' w' h' => wpAny_inv I hb hs he f _ (fun j => j = i ∨ D j) a' w' (by simpa using h1) (fun j hj => ?_) ?_ h') (hs D i o ho (fun e he' hbi => (h2 e.on (by have := hback e he' hbi; omega)).1 (h6 e he' hbi)) hD a w h4)
    · by_cases hji : j = i
      · subst hji
        simp [h1, hil]
      · rw [getD_set_ne false (Ne.symm hji), h2 j hj]
        simp [hji]
    · have hi' : i < listed.toList.length := by simpa [h1] using hil
      have hlf : listed.toList[i] = false := by simp [h1, hil] at h7; simpa using h7
      rw [Array.toList_setIfInBounds, List.count_set hi', hlf, h3]
      simp
def waits (o : Oper) (j : Nat) : Bool := o.after.toList.any fun e => Region.binds .any e && Nat.beq e.on j
theorem waits_of {o : Oper} {D : Nat → Prop} (h : ∀ e ∈ o.after, Region.binds .any e = true → D e.on) (j : Nat) (hj : waits o j = true) : D j := by
  unfold waits at hj
  obtain ⟨e, he, hb⟩ := List.any_eq_true.1 hj
  simp only [Bool.and_eq_true] at hb
  obtain ⟨hb, h1⟩ := hb
  obtain rfl := Nat.eq_of_beq_eq_true h1
  exact h e (by simpa using he) hb
/-- The operations of a list, one by one. -/
def EachO (p : Nat → Oper → Prop) : Nat → List Oper → Prop
  | _, [] => True
  | k, x :: l => p k x ∧ EachO p (k + 1) l
theorem EachO.at_ {p : Nat → Oper → Prop} : ∀ {l : List Oper} {k : Nat} (i : Nat) (o : Oper), EachO p k l → l[i]? = some o → p (k + i) o
  | [], _, _, _, _, h => by simp at h
  | x :: l, k, 0, o, h, ho => by simp at ho; subst ho; exact h.1
  | x :: l, k, i + 1, o, h, ho => by
    have := EachO.at_ (k := k + 1) i o h.2 (by simpa using ho)
    rwa [show k + 1 + i = k + (i + 1) by omega] at this
theorem of_each {p : Nat → Oper → Prop} {l : List Oper} (h : EachO p 0 l) : ∀ (i : Nat) (o : Oper), l[i]? = some o → p i o := fun i o ho => by
  have := EachO.at_ i o h ho
  rwa [Nat.zero_add] at this
/-- Facts by the numbers of the operations that lay them. -/
def AllF (D : Nat → Prop) : Nat → List Prop → Prop
  | _, [] => True
  | k, p :: l => (D k → p) ∧ AllF D (k + 1) l
theorem AllF.none : ∀ (l : List Prop) (k : Nat), AllF (fun _ => False) k l
  | [], _ => trivial
  | _ :: l, k => ⟨fun h => h.elim, AllF.none l (k + 1)⟩
theorem AllF.more {D : Nat → Prop} {i : Nat} : ∀ {l : List Prop} {k : Nat}, AllF D k l → i < k → AllF (fun j => j = i ∨ D j) k l
  | [], _, _, _ => trivial
  | p :: l, k, h, hi => ⟨fun hk => h.1 (hk.resolve_left (by omega)), AllF.more h.2 (by omega)⟩
theorem AllF.step_at {D : Nat → Prop} {p : Prop} (hp : p) : ∀ {l : List Prop} {k : Nat} (i : Nat), AllF D k l → AllF (fun j => j = k + i ∨ D j) k (l.set i p)
  | [], _, _, _ => by simp [AllF]
  | q :: l, k, 0, h => ⟨fun _ => hp, AllF.more h.2 (by omega)⟩
  | q :: l, k, i + 1, h => ⟨fun hk => h.1 (hk.resolve_left (by omega)), by have := AllF.step_at hp (k := k + 1) i h.2; rwa [show k + 1 + i = k + (i + 1) by omega] at this⟩
theorem AllF.step {D : Nat → Prop} {p : Prop} {l : List Prop} (i : Nat) (h : AllF D 0 l) (hp : p) : AllF (Done i D) 0 (l.set i p) := by
  have := AllF.step_at hp (k := 0) i h
  rw [Nat.zero_add] at this
  exact this
theorem AllF.get_at {D : Nat → Prop} : ∀ {l : List Prop} {k : Nat} (i : Nat), AllF D k l → D (k + i) → ∀ p, l[i]? = some p → p
  | [], _, _, _, _, _, h => by simp at h
  | q :: l, k, 0, h, hd, p, hp => (Option.some.inj (show some q = some p from hp)) ▸ h.1 hd
  | q :: l, k, i + 1, h, hd, p, hp => AllF.get_at (k := k + 1) i h.2 (by rwa [show k + 1 + i = k + (i + 1) by omega]) p (by simpa using hp)
theorem AllF.get {D : Nat → Prop} {l : List Prop} (i : Nat) (h : AllF D 0 l) (hd : D i) {p : Prop} (hp : l[i]? = some p) : p := AllF.get_at (k := 0) i h (by rwa [Nat.zero_add]) p hp
end
end Go.Proofs.YtkhcdbafcigeoaaGreatDoor

/-
  Program-independent: a drawn region by a table: what each operation's slot holds behind it. However many orders there are, each operation is reckoned once, from the few slots that it reads.
-/
namespace Go.Proofs.YtkhcdbafcigeoaaGreatDoor
open Go Go.RowKit Go.Sort
set_option maxRecDepth 100000
/-- What a slot holds: it stays so while only new blocks are made. -/
structure Ent where
  p : Value → World → Prop
  m : ∀ v w w', p v w → Nw w w' → p v w'
def isV (V : Value) : Ent := ⟨fun v _ => v = V, fun _ _ _ h _ => h⟩
def anyV : Ent := ⟨fun _ _ => True, fun _ _ _ h _ => h⟩
def got (tab : List Ent) (i : Nat) : Ent := tab[i]?.getD anyV
section
variable {P : Program} {L lit : List Oper} {o : Oper} {a A0 : Act} {w w5 : World} {R : Value → World → Prop} {dst : List Nat} {i : Nat}
/-- What an operation does: it yields a value, in a world, of which R holds. -/
def OpOk (P : Program) (L : List Oper) (o : Oper) (a : Act) (w : World) (R : Value → World → Prop) : Prop :=
  (Region.wanted o (yielded L.toArray a.tmps) = false ∧ R undef w) ∨
  (Region.wanted o (yielded L.toArray a.tmps) = true ∧ ((∃ v w', (execOp a.eval o).run P w = .ok (.value v) w' ∧ R v w') ∨ ∃ f args, (execOp a.eval o).run P w = .ok (.enter f args) w ∧ Calls P f args w fun e w' => ∃ v, e = .returned v ∧ R v w'))
theorem OpOk.wp {Q : Exit → Act → World → Prop} {K : Act → World → Prop} {d : Nat} (ho : L[i]? = some o) (hd : o.dst = some d) (h : OpOk P L o a w R) (hK : ∀ v w', R v w' → K (a.put (some d) v) w') : wpOp P L.toArray Q i K a w := by
  simp only [wpOp, at_list ho]
  rcases h with ⟨hw, h⟩ | ⟨hw, ⟨v, w', hr, h⟩ | ⟨f, args, hr, hc⟩⟩
  · rw [if_neg (by rw [hw]; simp), hd]
    exact hK _ _ h
  · rw [if_pos hw]
    refine .inl ?_
    unfold Oper.wp
    rw [hr]
    simp only [Oper.upon]
    rw [hd]
    exact hK _ _ h
  · rw [if_pos hw]
    refine .inl ?_
    unfold Oper.wp
    rw [hr]
    simp only [Oper.upon]
    refine hc.mono fun e w' he => ?_
    obtain ⟨v, rfl, h⟩ := he
    rw [hd]
    exact hK _ _ h
theorem OpOk.skip (h : Region.wanted o (yielded L.toArray a.tmps) = false) (hR : R undef w) : OpOk P L o a w R := .inl ⟨h, hR⟩
theorem OpOk.val (v : Value) (h : Region.wanted o (yielded L.toArray a.tmps) = true) (fs : List (Nat × Value)) (hf : ∀ x ∈ fs, a.tmps[x.1]? = some x.2)
    (hv : ∀ ρ : Operand → Value, (∀ x ∈ fs, ρ (.tmp x.1) = x.2) → Consts ρ → (execOp ρ o).run P w = .ok (.value v) w) (hR : R v w) : OpOk P L o a w R :=
  .inr ⟨h, .inl ⟨v, w, hv _ (fun x hx => eval_of (hf x hx)) ⟨fun _ => rfl, fun _ => rfl⟩, hR⟩⟩
/-- .. that makes blocks. -/
theorem OpOk.made (v : Value) (w' : World) (h : Region.wanted o (yielded L.toArray a.tmps) = true) (fs : List (Nat × Value)) (hf : ∀ x ∈ fs, a.tmps[x.1]? = some x.2)
    (hv : ∀ ρ : Operand → Value, (∀ x ∈ fs, ρ (.tmp x.1) = x.2) → Consts ρ → (execOp ρ o).run P w = .ok (.value v) w') (hR : R v w') : OpOk P L o a w R :=
  .inr ⟨h, .inl ⟨v, w', hv _ (fun x hx => eval_of (hf x hx)) ⟨fun _ => rfl, fun _ => rfl⟩, hR⟩⟩
theorem OpOk.call {f : FuncId} {args : Array Value} {R' : Ending → World → Prop} (h : Region.wanted o (yielded L.toArray a.tmps) = true) (fs : List (Nat × Value)) (hf : ∀ x ∈ fs, a.tmps[x.1]? = some x.2)
    (hv : ∀ ρ : Operand → Value, (∀ x ∈ fs, ρ (.tmp x.1) = x.2) → Consts ρ → (execOp ρ o).run P w = .ok (.enter f args) w) (hc : Calls P f args w R') (hR : ∀ e w', R' e w' → ∃ v, e = .returned v ∧ R v w') : OpOk P L o a w R :=
  .inr ⟨h, .inr ⟨f, args, hv _ (fun x hx => eval_of (hf x hx)) ⟨fun _ => rfl, fun _ => rfl⟩, hc.mono hR⟩⟩
theorem tab_yielded {tmps : Array Value} {j dj : Nat} {x : Bool} (hL : L.map Oper.dst = dst.map some) (hj : dst[j]? = some dj) (hy : tmps[dj]? = some (.bool x)) : yielded L.toArray tmps j = some x := by
  have h : (L.map Oper.dst)[j]? = (dst.map some)[j]? := by rw [hL]
  rw [List.getElem?_map, List.getElem?_map, hj] at h
  cases h2 : L[j]? with
  | none => rw [h2] at h; cases h
  | some oj => rw [h2] at h; exact yielded_at h2 (by simpa using h) hy
theorem tab_yes {tmps : Array Value} {j dj : Nat} {b : Bool} (hL : L.map Oper.dst = dst.map some) (hg : o.guard = some (j, b)) (hj : dst[j]? = some dj) (hy : tmps[dj]? = some (.bool b)) : Region.wanted o (yielded L.toArray tmps) = true := by
  unfold Region.wanted
  rw [hg]
  simp only [tab_yielded hL hj hy]
  cases b <;> rfl
theorem tab_no {tmps : Array Value} {j dj : Nat} {b : Bool} (hL : L.map Oper.dst = dst.map some) (hg : o.guard = some (j, b)) (hj : dst[j]? = some dj) (hy : tmps[dj]? = some (.bool (!b))) : Region.wanted o (yielded L.toArray tmps) = false := by
  unfold Region.wanted
  rw [hg]
  simp only [tab_yielded hL hj hy]
  cases b <;> rfl
/-- A drawn region by its table. -/
theorem wp_region_tab {id : Nat} {Q : Exit → Act → World → Prop} (dst : List Nat) (tab : List Ent) (hm : P.follows .mixedOrders = true) (hb : Region.backB lit.toArray = true) (hdst : lit.map Oper.dst = dst.map some) (hnd : dst.Nodup) (hin : ∀ d ∈ dst, d < A0.tmps.size)
    (hs : ∀ L : List Oper, L.map Oper.dst = dst.map some → EachO (fun i o => ∀ a w, Nw w5 w → (∀ t v, dst.contains t = false → A0.tmps[t]? = some v → a.tmps[t]? = some v) → (∀ j d, waits o j = true → dst[j]? = some d → ∃ v, a.tmps[d]? = some v ∧ (got tab j).p v w) →
      OpOk P L o a w fun v w' => Nw w w' ∧ (got tab i).p v w') 0 lit)
    (he : ∀ a w, Nw w5 w → a.tmps.size = A0.tmps.size → a.defers = A0.defers → (∀ t, dst.contains t = false → a.tmps[t]? = A0.tmps[t]?) → (∀ i d, dst[i]? = some d → ∃ v, a.tmps[d]? = some v ∧ (got tab i).p v w) → Q .normal a w) :
    (Code.region id lit.toArray true).wp P Q A0 w5 := by
  have hlen : lit.length = dst.length := by have := congrArg List.length hdst; simpa using this
  refine wp_region_any hm (wpAny_inv (fun D a w => Nw w5 w ∧ a.tmps.size = A0.tmps.size ∧ a.defers = A0.defers ∧ (∀ t, dst.contains t = false → a.tmps[t]? = A0.tmps[t]?) ∧ ∀ i d, D i → dst[i]? = some d → ∃ v, a.tmps[d]? = some v ∧ (got tab i).p v w) hb
    (fun D i o ho h1 h2 a w h3 => ?_) (fun D a w h1 h2 => ?_) _ _ (fun _ => False) A0 w5.drew (by simp) (fun i hi => ?_) (by simp) ?_)
  · obtain ⟨k1, k2, k3, k4, k5⟩ := h3
    have ho' : lit[i]? = some o := by simpa using ho
    have hd : ∃ d, dst[i]? = some d ∧ o.dst = some d := by
      have h : (lit.map Oper.dst)[i]? = (dst.map some)[i]? := by rw [hdst]
      rw [List.getElem?_map, List.getElem?_map, ho'] at h
      cases h2 : dst[i]? with
      | none => rw [h2] at h; cases h
      | some d => rw [h2] at h; exact ⟨d, rfl, by simpa using h⟩
    obtain ⟨d, hd, hod⟩ := hd
    have hdm : d ∈ dst := List.mem_of_getElem? hd
    have hE := of_each (hs lit hdst) i o ho' a w k1 (fun t v ht hv => by rw [k4 t ht]; exact hv) (fun j dj hj hdj => k5 j dj (waits_of h1 j hj) hdj)
    refine hE.wp ho' hod fun v w' ⟨n, hp⟩ => ⟨k1.trans n, ?_, ?_, ?_, ?_⟩
    · simp [Act.put, k2]
    · simp [Act.put, k3]
    · intro t ht
      have hne : d ≠ t := fun e => by
        subst e
        have : dst.contains d = true := by simpa using hdm
        rw [this] at ht
        cases ht
      rw [put_at hne]
      exact k4 t ht
    · intro j dj hj hdj
      by_cases hji : j = i
      · subst hji
        rw [hd] at hdj
        cases hdj
        have hlt : d < a.tmps.size := by rw [k2]; exact hin d hdm
        exact ⟨v, by simp [Act.put, hlt], hp⟩
      · have hne : d ≠ dj := fun e => by
          subst e
          obtain ⟨p1, q1⟩ := List.getElem?_eq_some_iff.1 hd
          obtain ⟨p2, q2⟩ := List.getElem?_eq_some_iff.1 hdj
          exact hji ((List.getElem_inj hnd).1 (q2.trans q1.symm))
        obtain ⟨u, e1, e2⟩ := k5 j dj (hj.resolve_left hji) hdj
        exact ⟨u, by rw [put_at hne]; exact e1, (got tab j).m _ _ _ e2 n⟩
  · obtain ⟨k1, k2, k3, k4, k5⟩ := h2
    refine he a w k1 k2 k3 k4 fun i d hd => k5 i d (h1 i ?_) hd
    obtain ⟨p1, -⟩ := List.getElem?_eq_some_iff.1 hd
    simp only [List.size_toArray]
    omega
  · rw [getD_replicate_false]; simp
  · exact ⟨(Nw.refl w5).drew, rfl, rfl, fun _ _ => rfl, fun _ _ h => h.elim⟩
/-- The frame behind a region, written out. -/
def laid (dst : List Nat) (l : List Value) (S : Nat → Value) : List Value := l.zipIdx.map fun x => bif dst.contains x.2 then S x.2 else x.1
theorem frame_lit {l : List Value} (hA : A0 = ⟨l.toArray, []⟩) (hsz : a.tmps.size = A0.tmps.size) (hdf : a.defers = A0.defers) (old : ∀ t, dst.contains t = false → a.tmps[t]? = A0.tmps[t]?) {l' : List Value} (hl : laid dst l (fun t => (a.tmps[t]?).getD undef) = l') : a = ⟨l'.toArray, []⟩ := by
  subst hA hl
  obtain ⟨tm, df⟩ := a
  simp only at hsz hdf old ⊢
  subst hdf
  congr 1
  apply Array.ext_getElem?
  intro t
  simp only [laid]
  by_cases ht : t < l.length
  · have ht' : t < tm.size := by rw [hsz]; simpa using ht
    have e : ((l.zipIdx.map fun x => bif dst.contains x.2 then tm[x.2]?.getD undef else x.1).toArray)[t]? = some (bif dst.contains t then tm[t]?.getD undef else l[t]) := by
      rw [List.getElem?_toArray, List.getElem?_map, List.getElem?_zipIdx, List.getElem?_eq_getElem ht]
      simp
    rw [e]
    cases hc : dst.contains t with
    | true => simp [ht']
    | false =>
      have := old t hc
      rw [this]
      simp [ht]
  · rw [Array.getElem?_eq_none (by rw [hsz]; simpa using ht), Array.getElem?_eq_none (by simpa [laid] using ht)]
theorem tab_frame {Q : Exit → Act → World → Prop} {a b : Act} {w : World} (h : a = b) (h' : Q .normal b w) : Q .normal a w := h ▸ h'
end
theorem name_act {P : Program} {c : Code} {Q : Exit → Act → World → Prop} {a : Act} {w : World} (h : ∀ B : Act, B = a → Code.wp P c Q B w) : Code.wp P c Q a w := h a rfl
end Go.Proofs.YtkhcdbafcigeoaaGreatDoor

/-
  The document's bytes (amanuensisref01): drawn regions. Printed by wip/gen_r1.py.
-/
namespace Go.Proofs.YtkhcdbafcigeoaaGreatDoor
open Go Go.RowKit Go.Sort
set_option maxRecDepth 100000
set_option maxHeartbeats 1600000 in
theorem us4 {w5 : World} {va a2 : Option Addr} {n c m c2 sl : Nat} {S l : List UInt8}
    (CA : Hid (∀ W, Nw w5 W → Calls Tryz.prog 65 #[.slice a2 m c2] W fun e w' => ∃ a c, e = .returned (.slice a sl c) ∧ Bs w' (.slice a sl c) S ∧ Nw W w'))
    (B0 : Hid (Bs w5 (.slice va n c) l))
    {u1 u2 u3 u5 u6 u7 u8 u9 u10 u11 u12 u13 u14 u15 u16 u17 u18 u19 u20 : Value} {Q : Exit → Act → World → Prop}
    (hQ : ∀ (s14 s15 s16 s17 s18 s19 : Value) (wx : World), Nw w5 wx → s19 = .bool (S == l) → Q .normal ⟨#[.slice va n c, u1, u2, u3, .slice a2 m c2, u5, u6, u7, u8, u9, u10, u11, u12, u13, s14, s15, s16, s17, s18, s19, u20], []⟩ wx) :
    Code.wp Tryz.prog ((Tryz.f70.body.bind (regionOf 4)).getD .skip) Q ⟨#[.slice va n c, u1, u2, u3, .slice a2 m c2, u5, u6, u7, u8, u9, u10, u11, u12, u13, u14, u15, u16, u17, u18, u19, u20], []⟩ w5 := by
  (try dsimp only at hQ ⊢)
  conv => arg 2; whnf
  have HQ := Lib.hid hQ
  clear hQ
  refine name_act fun A hA => ?_
  have hA0 : A.tmps[0]? = some (.slice va n c) := by rw [hA]; rfl
  have hA4 : A.tmps[4]? = some (.slice a2 m c2) := by rw [hA]; rfl
  have hlt0 : ∀ d ∈ ([14, 15, 16, 17, 18, 19] : List Nat), d < 21 := by decide
  refine wp_region_tab [14, 15, 16, 17, 18, 19] [isV (.slice a2 m c2), (⟨fun x w => ∃ a c, x = .slice a sl c ∧ Bs w x S, fun x w w' ⟨a, c, h1, h2⟩ n => ⟨a, c, h1, h2.nw n⟩⟩), isV (.string ⟨S.toArray⟩), isV (.slice va n c), isV (.string ⟨l.toArray⟩), isV (.bool (S == l))] (by kernel_rfl) (by kernel_rfl) (by kernel_rfl) (of_decide_eq_true (by kernel_rfl)) (fun d hd => by rw [hA]; exact hlt0 d hd) (fun L hL => ⟨?a0, ?a1, ?a2, ?a3, ?a4, ?a5, trivial⟩) ?he
  · intro a w hN old new
    have e4 := old 4 (.slice a2 m c2) rfl hA4
    exact OpOk.val (.slice a2 m c2) (w_none rfl) [(4, _)] (forall_cons e4 <| forall_nil) (fun ρ e ⟨c1, c2⟩ => by (try simp only [List.forall_mem_cons] at e); go_simp) ⟨Nw.refl _, rfl⟩
  · intro a w hN old new
    obtain ⟨y14, e14, g14⟩ := new 0 14 rfl rfl
    obtain rfl : y14 = .slice a2 m c2 := g14
    refine OpOk.call (w_none rfl) [(14, _)] (forall_cons e14 <| forall_nil) (fun ρ e ⟨c1, c2⟩ => by (try simp only [List.forall_mem_cons] at e); go_simp) (CA.out _ hN) (fun e w1 h => ?_)
    obtain ⟨a1, c1, rfl, q1, n1⟩ := h
    exact ⟨_, rfl, n1, ⟨_, _, rfl, q1⟩⟩
  · intro a w hN old new
    obtain ⟨y15, e15, g15⟩ := new 1 15 rfl rfl
    obtain ⟨a0, c0, rfl, q0⟩ := g15
    have hcv := conv_str q0
    exact OpOk.val (.string ⟨S.toArray⟩) (w_none rfl) [(15, _)] (forall_cons e15 <| forall_nil) (fun ρ e ⟨c1, c2⟩ => by (try simp only [List.forall_mem_cons] at e); go_simp) ⟨Nw.refl _, rfl⟩
  · intro a w hN old new
    have e0 := old 0 (.slice va n c) rfl hA0
    exact OpOk.val (.slice va n c) (w_none rfl) [(0, _)] (forall_cons e0 <| forall_nil) (fun ρ e ⟨c1, c2⟩ => by (try simp only [List.forall_mem_cons] at e); go_simp) ⟨Nw.refl _, rfl⟩
  · intro a w hN old new
    obtain ⟨y17, e17, g17⟩ := new 3 17 rfl rfl
    obtain rfl : y17 = .slice va n c := g17
    have hcv := conv_str (B0.out.nw hN)
    exact OpOk.val (.string ⟨l.toArray⟩) (w_none rfl) [(17, _)] (forall_cons e17 <| forall_nil) (fun ρ e ⟨c1, c2⟩ => by (try simp only [List.forall_mem_cons] at e); go_simp) ⟨Nw.refl _, rfl⟩
  · intro a w hN old new
    obtain ⟨y16, e16, g16⟩ := new 2 16 rfl rfl
    obtain rfl : y16 = .string ⟨S.toArray⟩ := g16
    obtain ⟨y18, e18, g18⟩ := new 4 18 rfl rfl
    obtain rfl : y18 = .string ⟨l.toArray⟩ := g18
    exact OpOk.val (.bool (S == l)) (w_none rfl) [(16, _), (18, _)] (forall_cons e16 <| forall_cons e18 <| forall_nil) (fun ρ e ⟨c1, c2⟩ => by (try simp only [List.forall_mem_cons] at e); go_simp) ⟨Nw.refl _, rfl⟩
  · intro a w hN hsz hdf old new
    obtain ⟨y19, e19, g19⟩ := new 5 19 rfl
    exact tab_frame (frame_lit (dst := [14, 15, 16, 17, 18, 19]) (l := [.slice va n c, u1, u2, u3, .slice a2 m c2, u5, u6, u7, u8, u9, u10, u11, u12, u13, u14, u15, u16, u17, u18, u19, u20]) hA hsz hdf old (l' := [.slice va n c, u1, u2, u3, .slice a2 m c2, u5, u6, u7, u8, u9, u10, u11, u12, u13, (a.tmps[14]?.getD undef), (a.tmps[15]?.getD undef), (a.tmps[16]?.getD undef), (a.tmps[17]?.getD undef), (a.tmps[18]?.getD undef), (a.tmps[19]?.getD undef), u20]) (by kernel_rfl)) (HQ.out _ _ _ _ _ _ w hN (by rw [e19]; exact g19))
set_option maxHeartbeats 1600000 in
theorem wg3 {w5 : World} {g o n c m c1 cb tl q t2 r : Nat} {a1 : Option Addr} (hn : 0 < n)
    (H9 : Hid (Int.tmod (cb : Int) 128 = (q : Int))) (H10 : Hid (IntKind.u64.wrap (q : Int) = (q : Int))) (H14 : Hid (IntKind.u64.wrap (128 * (tl : Int)) = (t2 : Int))) (H15 : Hid (IntKind.u64.wrap ((q : Int) + (t2 : Int)) = (r : Int)))
    (CA : Hid (∀ W, Nw w5 W → Calls Tryz.prog 131 #[.slice a1 m c1] W fun e w' => e = .returned (.int .u64 tl) ∧ Nw W w'))
    (C0 : Hid (w5.cell? ⟨g, o, none⟩ = some (.int .u8 cb))) (G0 : Hid (g < w5.heap.size))
    (SL : Hid (∀ W, (Instr.slice 23 (.slice (some ⟨g, o, none⟩) n c) (some (.int .i64 1)) none none).run Tryz.prog W = .ok (.slice a1 m c1) W))
    {u1 u2 u3 u4 u5 u6 u7 u8 u9 u10 u11 u12 u13 u14 u15 : Value} {Q : Exit → Act → World → Prop}
    (hQ : ∀ (s2 s6 s7 s8 s9 s10 s11 s12 s13 s14 s15 : Value) (wx : World), Nw w5 wx → s2 = .int .u64 r → Q .normal ⟨#[.slice (some ⟨g, o, none⟩) n c, u1, s2, u3, u4, u5, s6, s7, s8, s9, s10, s11, s12, s13, s14, s15], []⟩ wx) :
    Code.wp Tryz.prog ((Tryz.f131.body.bind (regionOf 3)).getD .skip) Q ⟨#[.slice (some ⟨g, o, none⟩) n c, u1, u2, u3, u4, u5, u6, u7, u8, u9, u10, u11, u12, u13, u14, u15], []⟩ w5 := by
  (try dsimp only at hQ ⊢)
  conv => arg 2; whnf
  have HQ := Lib.hid hQ
  clear hQ
  refine name_act fun A hA => ?_
  have hA0 : A.tmps[0]? = some (.slice (some ⟨g, o, none⟩) n c) := by rw [hA]; rfl
  have hlt0 : ∀ d ∈ ([6, 7, 8, 9, 10, 11, 12, 13, 14, 15, 2] : List Nat), d < 16 := by decide
  refine wp_region_tab [6, 7, 8, 9, 10, 11, 12, 13, 14, 15, 2] [isV (.slice (some ⟨g, o, none⟩) n c), isV (.pointer (some ⟨g, o, none⟩)), isV (.int .u8 cb), isV (.int .u8 q), isV (.int .u64 q), isV (.slice (some ⟨g, o, none⟩) n c), isV (.slice a1 m c1), isV (.int .u64 tl), isV (.int .u64 t2), isV (.int .u64 r), isV (.int .u64 r)] (by kernel_rfl) (by kernel_rfl) (by kernel_rfl) (of_decide_eq_true (by kernel_rfl)) (fun d hd => by rw [hA]; exact hlt0 d hd) (fun L hL => ⟨?a0, ?a1, ?a2, ?a3, ?a4, ?a5, ?a6, ?a7, ?a8, ?a9, ?a10, trivial⟩) ?he
  · intro a w hN old new
    have e0 := old 0 (.slice (some ⟨g, o, none⟩) n c) rfl hA0
    exact OpOk.val (.slice (some ⟨g, o, none⟩) n c) (w_none rfl) [(0, _)] (forall_cons e0 <| forall_nil) (fun ρ e ⟨c1, c2⟩ => by (try simp only [List.forall_mem_cons] at e); go_simp) ⟨Nw.refl _, rfl⟩
  · intro a w hN old new
    obtain ⟨y6, e6, g6⟩ := new 0 6 rfl rfl
    obtain rfl : y6 = .slice (some ⟨g, o, none⟩) n c := g6
    have h0 : ¬ (n : Int) ≤ 0 := (by omega)
    have h1 : 0 < n := (by omega)
    exact OpOk.val (.pointer (some ⟨g, o, none⟩)) (w_none rfl) [(6, _)] (forall_cons e6 <| forall_nil) (fun ρ e ⟨c1, c2⟩ => by (try simp only [List.forall_mem_cons] at e); go_simp) ⟨Nw.refl _, rfl⟩
  · intro a w hN old new
    obtain ⟨y7, e7, g7⟩ := new 1 7 rfl rfl
    obtain rfl : y7 = .pointer (some ⟨g, o, none⟩) := g7
    have hc := hN.cell C0.out
    have hl := Nat.lt_of_lt_of_le G0.out hN.size
    exact OpOk.val (.int .u8 cb) (w_none rfl) [(7, _)] (forall_cons e7 <| forall_nil) (fun ρ e ⟨c1, c2⟩ => by (try simp only [List.forall_mem_cons] at e); go_simp) ⟨Nw.refl _, rfl⟩
  · intro a w hN old new
    obtain ⟨y8, e8, g8⟩ := new 2 8 rfl rfl
    obtain rfl : y8 = .int .u8 cb := g8
    have hm := H9.out
    exact OpOk.val (.int .u8 q) (w_none rfl) [(8, _)] (forall_cons e8 <| forall_nil) (fun ρ e ⟨c1, c2⟩ => by (try simp only [List.forall_mem_cons] at e); go_simp) ⟨Nw.refl _, rfl⟩
  · intro a w hN old new
    obtain ⟨y9, e9, g9⟩ := new 3 9 rfl rfl
    obtain rfl : y9 = .int .u8 q := g9
    have hm := H10.out
    have hm2 : (q : Int) % 18446744073709551616 = (q : Int) := (by rw [IntKind.wrap_u64] at hm; exact hm)
    exact OpOk.val (.int .u64 q) (w_none rfl) [(9, _)] (forall_cons e9 <| forall_nil) (fun ρ e ⟨c1, c2⟩ => by (try simp only [List.forall_mem_cons] at e); go_simp) ⟨Nw.refl _, rfl⟩
  · intro a w hN old new
    have e0 := old 0 (.slice (some ⟨g, o, none⟩) n c) rfl hA0
    exact OpOk.val (.slice (some ⟨g, o, none⟩) n c) (w_none rfl) [(0, _)] (forall_cons e0 <| forall_nil) (fun ρ e ⟨c1, c2⟩ => by (try simp only [List.forall_mem_cons] at e); go_simp) ⟨Nw.refl _, rfl⟩
  · intro a w hN old new
    obtain ⟨y11, e11, g11⟩ := new 5 11 rfl rfl
    obtain rfl : y11 = .slice (some ⟨g, o, none⟩) n c := g11
    have hs := SL.out w
    exact OpOk.val (.slice a1 m c1) (w_none rfl) [(11, _)] (forall_cons e11 <| forall_nil) (fun ρ e ⟨c1, c2⟩ => by (try simp only [List.forall_mem_cons] at e); go_simp) ⟨Nw.refl _, rfl⟩
  · intro a w hN old new
    obtain ⟨y12, e12, g12⟩ := new 6 12 rfl rfl
    obtain rfl : y12 = .slice a1 m c1 := g12
    refine OpOk.call (w_none rfl) [(12, _)] (forall_cons e12 <| forall_nil) (fun ρ e ⟨c1, c2⟩ => by (try simp only [List.forall_mem_cons] at e); go_simp) (CA.out _ hN) (fun e w1 h => ?_)
    obtain ⟨rfl, n1⟩ := h
    exact ⟨_, rfl, n1, rfl⟩
  · intro a w hN old new
    obtain ⟨y13, e13, g13⟩ := new 7 13 rfl rfl
    obtain rfl : y13 = .int .u64 tl := g13
    have hm := H14.out
    have hm2 : (128 * (tl : Int)) % 18446744073709551616 = (t2 : Int) := (by rw [IntKind.wrap_u64] at hm; exact hm)
    exact OpOk.val (.int .u64 t2) (w_none rfl) [(13, _)] (forall_cons e13 <| forall_nil) (fun ρ e ⟨c1, c2⟩ => by (try simp only [List.forall_mem_cons] at e); go_simp) ⟨Nw.refl _, rfl⟩
  · intro a w hN old new
    obtain ⟨y10, e10, g10⟩ := new 4 10 rfl rfl
    obtain rfl : y10 = .int .u64 q := g10
    obtain ⟨y14, e14, g14⟩ := new 8 14 rfl rfl
    obtain rfl : y14 = .int .u64 t2 := g14
    have hm := H15.out
    have hm2 : ((q : Int) + (t2 : Int)) % 18446744073709551616 = (r : Int) := (by rw [IntKind.wrap_u64] at hm; exact hm)
    exact OpOk.val (.int .u64 r) (w_none rfl) [(10, _), (14, _)] (forall_cons e10 <| forall_cons e14 <| forall_nil) (fun ρ e ⟨c1, c2⟩ => by (try simp only [List.forall_mem_cons] at e); go_simp) ⟨Nw.refl _, rfl⟩
  · intro a w hN old new
    obtain ⟨y15, e15, g15⟩ := new 9 15 rfl rfl
    obtain rfl : y15 = .int .u64 r := g15
    exact OpOk.val (.int .u64 r) (w_none rfl) [(15, _)] (forall_cons e15 <| forall_nil) (fun ρ e ⟨c1, c2⟩ => by (try simp only [List.forall_mem_cons] at e); go_simp) ⟨Nw.refl _, rfl⟩
  · intro a w hN hsz hdf old new
    obtain ⟨y2, e2, g2⟩ := new 10 2 rfl
    exact tab_frame (frame_lit (dst := [6, 7, 8, 9, 10, 11, 12, 13, 14, 15, 2]) (l := [.slice (some ⟨g, o, none⟩) n c, u1, u2, u3, u4, u5, u6, u7, u8, u9, u10, u11, u12, u13, u14, u15]) hA hsz hdf old (l' := [.slice (some ⟨g, o, none⟩) n c, u1, (a.tmps[2]?.getD undef), u3, u4, u5, (a.tmps[6]?.getD undef), (a.tmps[7]?.getD undef), (a.tmps[8]?.getD undef), (a.tmps[9]?.getD undef), (a.tmps[10]?.getD undef), (a.tmps[11]?.getD undef), (a.tmps[12]?.getD undef), (a.tmps[13]?.getD undef), (a.tmps[14]?.getD undef), (a.tmps[15]?.getD undef)]) (by kernel_rfl)) (HQ.out _ _ _ _ _ _ _ _ _ _ _ w hN (by rw [e2]; exact g2))
set_option maxHeartbeats 1600000 in
theorem gu8 {w5 : World} {va a1 : Option Addr} {n c k c1 v sl : Nat} {S l : List UInt8}
    (CA : Hid (∀ W, Nw w5 W → Calls Tryz.prog 75 #[.int .u64 v] W fun e w' => ∃ a c, e = .returned (.slice a sl c) ∧ Bs w' (.slice a sl c) S ∧ Nw W w'))
    (B0 : Hid (Bs w5 (.slice a1 k c1) l))
    (SL : Hid (∀ W, (Instr.slice 23 (.slice va n c) none (some (.int .i64 k)) none).run Tryz.prog W = .ok (.slice a1 k c1) W))
    {u0 u1 u2 u3 u4 u5 u6 u10 u11 u12 u13 u14 u15 u16 u17 u18 u19 u20 u21 u22 u23 u24 u25 u26 u27 u28 u29 u30 u31 u32 u33 u34 u35 u36 u37 u38 u39 u40 u41 u42 u43 u44 u45 u46 u47 u48 u49 u50 u51 u52 u53 u54 u55 u56 u57 u58 u59 u60 u61 u62 : Value} {Q : Exit → Act → World → Prop}
    (hQ : ∀ (s36 s37 s38 s39 s40 s41 s42 s43 : Value) (wx : World), Nw w5 wx → s43 = .bool (S == l) → Q .normal ⟨#[u0, u1, u2, u3, u4, u5, u6, .slice va n c, .int .i64 k, .int .u64 v, u10, u11, u12, u13, u14, u15, u16, u17, u18, u19, u20, u21, u22, u23, u24, u25, u26, u27, u28, u29, u30, u31, u32, u33, u34, u35, s36, s37, s38, s39, s40, s41, s42, s43, u44, u45, u46, u47, u48, u49, u50, u51, u52, u53, u54, u55, u56, u57, u58, u59, u60, u61, u62], []⟩ wx) :
    Code.wp Tryz.prog ((Tryz.f71.body.bind (regionOf 8)).getD .skip) Q ⟨#[u0, u1, u2, u3, u4, u5, u6, .slice va n c, .int .i64 k, .int .u64 v, u10, u11, u12, u13, u14, u15, u16, u17, u18, u19, u20, u21, u22, u23, u24, u25, u26, u27, u28, u29, u30, u31, u32, u33, u34, u35, u36, u37, u38, u39, u40, u41, u42, u43, u44, u45, u46, u47, u48, u49, u50, u51, u52, u53, u54, u55, u56, u57, u58, u59, u60, u61, u62], []⟩ w5 := by
  (try dsimp only at hQ ⊢)
  conv => arg 2; whnf
  have HQ := Lib.hid hQ
  clear hQ
  refine name_act fun A hA => ?_
  have hA7 : A.tmps[7]? = some (.slice va n c) := by rw [hA]; rfl
  have hA8 : A.tmps[8]? = some (.int .i64 k) := by rw [hA]; rfl
  have hA9 : A.tmps[9]? = some (.int .u64 v) := by rw [hA]; rfl
  have hlt0 : ∀ d ∈ ([36, 37, 38, 39, 40, 41, 42, 43] : List Nat), d < 63 := by decide
  refine wp_region_tab [36, 37, 38, 39, 40, 41, 42, 43] [isV (.int .u64 v), (⟨fun x w => ∃ a c, x = .slice a sl c ∧ Bs w x S, fun x w w' ⟨a, c, h1, h2⟩ n => ⟨a, c, h1, h2.nw n⟩⟩), isV (.string ⟨S.toArray⟩), isV (.slice va n c), isV (.int .i64 k), isV (.slice a1 k c1), isV (.string ⟨l.toArray⟩), isV (.bool (S == l))] (by kernel_rfl) (by kernel_rfl) (by kernel_rfl) (of_decide_eq_true (by kernel_rfl)) (fun d hd => by rw [hA]; exact hlt0 d hd) (fun L hL => ⟨?a0, ?a1, ?a2, ?a3, ?a4, ?a5, ?a6, ?a7, trivial⟩) ?he
  · intro a w hN old new
    have e9 := old 9 (.int .u64 v) rfl hA9
    exact OpOk.val (.int .u64 v) (w_none rfl) [(9, _)] (forall_cons e9 <| forall_nil) (fun ρ e ⟨c1, c2⟩ => by (try simp only [List.forall_mem_cons] at e); go_simp) ⟨Nw.refl _, rfl⟩
  · intro a w hN old new
    obtain ⟨y36, e36, g36⟩ := new 0 36 rfl rfl
    obtain rfl : y36 = .int .u64 v := g36
    refine OpOk.call (w_none rfl) [(36, _)] (forall_cons e36 <| forall_nil) (fun ρ e ⟨c1, c2⟩ => by (try simp only [List.forall_mem_cons] at e); go_simp) (CA.out _ hN) (fun e w1 h => ?_)
    obtain ⟨a1, c1, rfl, q1, n1⟩ := h
    exact ⟨_, rfl, n1, ⟨_, _, rfl, q1⟩⟩
  · intro a w hN old new
    obtain ⟨y37, e37, g37⟩ := new 1 37 rfl rfl
    obtain ⟨a0, c0, rfl, q0⟩ := g37
    have hcv := conv_str q0
    exact OpOk.val (.string ⟨S.toArray⟩) (w_none rfl) [(37, _)] (forall_cons e37 <| forall_nil) (fun ρ e ⟨c1, c2⟩ => by (try simp only [List.forall_mem_cons] at e); go_simp) ⟨Nw.refl _, rfl⟩
  · intro a w hN old new
    have e7 := old 7 (.slice va n c) rfl hA7
    exact OpOk.val (.slice va n c) (w_none rfl) [(7, _)] (forall_cons e7 <| forall_nil) (fun ρ e ⟨c1, c2⟩ => by (try simp only [List.forall_mem_cons] at e); go_simp) ⟨Nw.refl _, rfl⟩
  · intro a w hN old new
    have e8 := old 8 (.int .i64 k) rfl hA8
    exact OpOk.val (.int .i64 k) (w_none rfl) [(8, _)] (forall_cons e8 <| forall_nil) (fun ρ e ⟨c1, c2⟩ => by (try simp only [List.forall_mem_cons] at e); go_simp) ⟨Nw.refl _, rfl⟩
  · intro a w hN old new
    obtain ⟨y39, e39, g39⟩ := new 3 39 rfl rfl
    obtain rfl : y39 = .slice va n c := g39
    obtain ⟨y40, e40, g40⟩ := new 4 40 rfl rfl
    obtain rfl : y40 = .int .i64 k := g40
    have hs := SL.out w
    exact OpOk.val (.slice a1 k c1) (w_none rfl) [(39, _), (40, _)] (forall_cons e39 <| forall_cons e40 <| forall_nil) (fun ρ e ⟨c1, c2⟩ => by (try simp only [List.forall_mem_cons] at e); go_simp) ⟨Nw.refl _, rfl⟩
  · intro a w hN old new
    obtain ⟨y41, e41, g41⟩ := new 5 41 rfl rfl
    obtain rfl : y41 = .slice a1 k c1 := g41
    have hcv := conv_str (B0.out.nw hN)
    exact OpOk.val (.string ⟨l.toArray⟩) (w_none rfl) [(41, _)] (forall_cons e41 <| forall_nil) (fun ρ e ⟨c1, c2⟩ => by (try simp only [List.forall_mem_cons] at e); go_simp) ⟨Nw.refl _, rfl⟩
  · intro a w hN old new
    obtain ⟨y38, e38, g38⟩ := new 2 38 rfl rfl
    obtain rfl : y38 = .string ⟨S.toArray⟩ := g38
    obtain ⟨y42, e42, g42⟩ := new 6 42 rfl rfl
    obtain rfl : y42 = .string ⟨l.toArray⟩ := g42
    exact OpOk.val (.bool (S == l)) (w_none rfl) [(38, _), (42, _)] (forall_cons e38 <| forall_cons e42 <| forall_nil) (fun ρ e ⟨c1, c2⟩ => by (try simp only [List.forall_mem_cons] at e); go_simp) ⟨Nw.refl _, rfl⟩
  · intro a w hN hsz hdf old new
    obtain ⟨y43, e43, g43⟩ := new 7 43 rfl
    exact tab_frame (frame_lit (dst := [36, 37, 38, 39, 40, 41, 42, 43]) (l := [u0, u1, u2, u3, u4, u5, u6, .slice va n c, .int .i64 k, .int .u64 v, u10, u11, u12, u13, u14, u15, u16, u17, u18, u19, u20, u21, u22, u23, u24, u25, u26, u27, u28, u29, u30, u31, u32, u33, u34, u35, u36, u37, u38, u39, u40, u41, u42, u43, u44, u45, u46, u47, u48, u49, u50, u51, u52, u53, u54, u55, u56, u57, u58, u59, u60, u61, u62]) hA hsz hdf old (l' := [u0, u1, u2, u3, u4, u5, u6, .slice va n c, .int .i64 k, .int .u64 v, u10, u11, u12, u13, u14, u15, u16, u17, u18, u19, u20, u21, u22, u23, u24, u25, u26, u27, u28, u29, u30, u31, u32, u33, u34, u35, (a.tmps[36]?.getD undef), (a.tmps[37]?.getD undef), (a.tmps[38]?.getD undef), (a.tmps[39]?.getD undef), (a.tmps[40]?.getD undef), (a.tmps[41]?.getD undef), (a.tmps[42]?.getD undef), (a.tmps[43]?.getD undef), u44, u45, u46, u47, u48, u49, u50, u51, u52, u53, u54, u55, u56, u57, u58, u59, u60, u61, u62]) (by kernel_rfl)) (HQ.out _ _ _ _ _ _ _ _ w hN (by rw [e43]; exact g43))
set_option maxHeartbeats 1600000 in
theorem gu11s {w5 : World} {va : Option Addr} {n c v sl : Nat} {S l : List UInt8}
    (CW : Hid (∀ W, Nw w5 W → Calls Tryz.prog 131 #[.slice va n c] W fun e w' => e = .returned (.int .u64 v) ∧ Nw W w'))
    (CA : Hid (∀ W, Nw w5 W → Calls Tryz.prog 75 #[.int .u64 v] W fun e w' => ∃ a c, e = .returned (.slice a sl c) ∧ Bs w' (.slice a sl c) S ∧ Nw W w'))
    (B0 : Hid (Bs w5 (.slice va n c) l)) (hn : n ≤ 10)
    {u0 u1 u2 u3 u4 u5 u6 u7 u8 u9 u11 u12 u13 u14 u15 u16 u17 u18 u19 u20 u21 u22 u23 u24 u25 u26 u27 u28 u29 u30 u31 u32 u33 u34 u35 u36 u37 u38 u39 u40 u41 u42 u43 u44 u45 u46 u47 u48 u49 u50 u51 u52 u53 u54 u55 u56 u57 u58 u59 u60 u61 u62 : Value} {Q : Exit → Act → World → Prop}
    (hQ : ∀ (s51 s52 s53 s54 s55 s56 s57 s58 s59 s60 s61 s62 : Value) (wx : World), Nw w5 wx → s62 = .bool (S == l) → Q .normal ⟨#[u0, u1, u2, u3, u4, u5, u6, u7, u8, u9, .slice va n c, u11, u12, u13, u14, u15, u16, u17, u18, u19, u20, u21, u22, u23, u24, u25, u26, u27, u28, u29, u30, u31, u32, u33, u34, u35, u36, u37, u38, u39, u40, u41, u42, u43, u44, u45, u46, u47, u48, u49, u50, s51, s52, s53, s54, s55, s56, s57, s58, s59, s60, s61, s62], []⟩ wx) :
    Code.wp Tryz.prog ((Tryz.f71.body.bind (regionOf 11)).getD .skip) Q ⟨#[u0, u1, u2, u3, u4, u5, u6, u7, u8, u9, .slice va n c, u11, u12, u13, u14, u15, u16, u17, u18, u19, u20, u21, u22, u23, u24, u25, u26, u27, u28, u29, u30, u31, u32, u33, u34, u35, u36, u37, u38, u39, u40, u41, u42, u43, u44, u45, u46, u47, u48, u49, u50, u51, u52, u53, u54, u55, u56, u57, u58, u59, u60, u61, u62], []⟩ w5 := by
  (try dsimp only at hQ ⊢)
  conv => arg 2; whnf
  have HQ := Lib.hid hQ
  clear hQ
  refine name_act fun A hA => ?_
  have hA10 : A.tmps[10]? = some (.slice va n c) := by rw [hA]; rfl
  have hlt0 : ∀ d ∈ ([51, 52, 53, 54, 55, 56, 57, 58, 59, 60, 61, 62] : List Nat), d < 63 := by decide
  refine wp_region_tab [51, 52, 53, 54, 55, 56, 57, 58, 59, 60, 61, 62] [isV (.slice va n c), isV (.int .i64 n), isV (.bool true), isV (.bool true), isV (.slice va n c), isV (.int .u64 v), (⟨fun x w => ∃ a c, x = .slice a sl c ∧ Bs w x S, fun x w w' ⟨a, c, h1, h2⟩ n => ⟨a, c, h1, h2.nw n⟩⟩), isV (.string ⟨S.toArray⟩), isV (.slice va n c), isV (.string ⟨l.toArray⟩), isV (.bool (S == l)), isV (.bool (S == l))] (by kernel_rfl) (by kernel_rfl) (by kernel_rfl) (of_decide_eq_true (by kernel_rfl)) (fun d hd => by rw [hA]; exact hlt0 d hd) (fun L hL => ⟨?a0, ?a1, ?a2, ?a3, ?a4, ?a5, ?a6, ?a7, ?a8, ?a9, ?a10, ?a11, trivial⟩) ?he
  · intro a w hN old new
    have e10 := old 10 (.slice va n c) rfl hA10
    exact OpOk.val (.slice va n c) (w_none rfl) [(10, _)] (forall_cons e10 <| forall_nil) (fun ρ e ⟨c1, c2⟩ => by (try simp only [List.forall_mem_cons] at e); go_simp) ⟨Nw.refl _, rfl⟩
  · intro a w hN old new
    obtain ⟨y51, e51, g51⟩ := new 0 51 rfl rfl
    obtain rfl : y51 = .slice va n c := g51
    exact OpOk.val (.int .i64 n) (w_none rfl) [(51, _)] (forall_cons e51 <| forall_nil) (fun ρ e ⟨c1, c2⟩ => by (try simp only [List.forall_mem_cons] at e); go_simp) ⟨Nw.refl _, rfl⟩
  · intro a w hN old new
    obtain ⟨y52, e52, g52⟩ := new 1 52 rfl rfl
    obtain rfl : y52 = .int .i64 n := g52
    exact OpOk.val (.bool true) (w_none rfl) [(52, _)] (forall_cons e52 <| forall_nil) (fun ρ e ⟨c1, c2⟩ => by (try simp only [List.forall_mem_cons] at e); (first | (go_simp; done) | (go_simp; omega))) ⟨Nw.refl _, rfl⟩
  · intro a w hN old new
    obtain ⟨y53, e53, g53⟩ := new 2 53 rfl rfl
    obtain rfl : y53 = .bool true := g53
    exact OpOk.val (.bool true) (w_none rfl) [(53, _)] (forall_cons e53 <| forall_nil) (fun ρ e ⟨c1, c2⟩ => by (try simp only [List.forall_mem_cons] at e); go_simp) ⟨Nw.refl _, rfl⟩
  · intro a w hN old new
    obtain ⟨y54, e54, g54⟩ := new 3 54 rfl rfl
    obtain rfl : y54 = .bool true := g54
    have e10 := old 10 (.slice va n c) rfl hA10
    exact OpOk.val (.slice va n c) (tab_yes hL rfl rfl e54) [(10, _)] (forall_cons e10 <| forall_nil) (fun ρ e ⟨c1, c2⟩ => by (try simp only [List.forall_mem_cons] at e); go_simp) ⟨Nw.refl _, rfl⟩
  · intro a w hN old new
    obtain ⟨y54, e54, g54⟩ := new 3 54 rfl rfl
    obtain rfl : y54 = .bool true := g54
    obtain ⟨y55, e55, g55⟩ := new 4 55 rfl rfl
    obtain rfl : y55 = .slice va n c := g55
    refine OpOk.call (tab_yes hL rfl rfl e54) [(55, _)] (forall_cons e55 <| forall_nil) (fun ρ e ⟨c1, c2⟩ => by (try simp only [List.forall_mem_cons] at e); go_simp) (CW.out _ hN) (fun e w1 h => ?_)
    obtain ⟨rfl, n1⟩ := h
    exact ⟨_, rfl, n1, rfl⟩
  · intro a w hN old new
    obtain ⟨y54, e54, g54⟩ := new 3 54 rfl rfl
    obtain rfl : y54 = .bool true := g54
    obtain ⟨y56, e56, g56⟩ := new 5 56 rfl rfl
    obtain rfl : y56 = .int .u64 v := g56
    refine OpOk.call (tab_yes hL rfl rfl e54) [(56, _)] (forall_cons e56 <| forall_nil) (fun ρ e ⟨c1, c2⟩ => by (try simp only [List.forall_mem_cons] at e); go_simp) (CA.out _ hN) (fun e w1 h => ?_)
    obtain ⟨a1, c1, rfl, q1, n1⟩ := h
    exact ⟨_, rfl, n1, ⟨_, _, rfl, q1⟩⟩
  · intro a w hN old new
    obtain ⟨y54, e54, g54⟩ := new 3 54 rfl rfl
    obtain rfl : y54 = .bool true := g54
    obtain ⟨y57, e57, g57⟩ := new 6 57 rfl rfl
    obtain ⟨a0, c0, rfl, q0⟩ := g57
    have hcv := conv_str q0
    exact OpOk.val (.string ⟨S.toArray⟩) (tab_yes hL rfl rfl e54) [(57, _)] (forall_cons e57 <| forall_nil) (fun ρ e ⟨c1, c2⟩ => by (try simp only [List.forall_mem_cons] at e); go_simp) ⟨Nw.refl _, rfl⟩
  · intro a w hN old new
    obtain ⟨y54, e54, g54⟩ := new 3 54 rfl rfl
    obtain rfl : y54 = .bool true := g54
    have e10 := old 10 (.slice va n c) rfl hA10
    exact OpOk.val (.slice va n c) (tab_yes hL rfl rfl e54) [(10, _)] (forall_cons e10 <| forall_nil) (fun ρ e ⟨c1, c2⟩ => by (try simp only [List.forall_mem_cons] at e); go_simp) ⟨Nw.refl _, rfl⟩
  · intro a w hN old new
    obtain ⟨y54, e54, g54⟩ := new 3 54 rfl rfl
    obtain rfl : y54 = .bool true := g54
    obtain ⟨y59, e59, g59⟩ := new 8 59 rfl rfl
    obtain rfl : y59 = .slice va n c := g59
    have hcv := conv_str (B0.out.nw hN)
    exact OpOk.val (.string ⟨l.toArray⟩) (tab_yes hL rfl rfl e54) [(59, _)] (forall_cons e59 <| forall_nil) (fun ρ e ⟨c1, c2⟩ => by (try simp only [List.forall_mem_cons] at e); go_simp) ⟨Nw.refl _, rfl⟩
  · intro a w hN old new
    obtain ⟨y54, e54, g54⟩ := new 3 54 rfl rfl
    obtain rfl : y54 = .bool true := g54
    obtain ⟨y58, e58, g58⟩ := new 7 58 rfl rfl
    obtain rfl : y58 = .string ⟨S.toArray⟩ := g58
    obtain ⟨y60, e60, g60⟩ := new 9 60 rfl rfl
    obtain rfl : y60 = .string ⟨l.toArray⟩ := g60
    exact OpOk.val (.bool (S == l)) (tab_yes hL rfl rfl e54) [(58, _), (60, _)] (forall_cons e58 <| forall_cons e60 <| forall_nil) (fun ρ e ⟨c1, c2⟩ => by (try simp only [List.forall_mem_cons] at e); go_simp) ⟨Nw.refl _, rfl⟩
  · intro a w hN old new
    obtain ⟨y54, e54, g54⟩ := new 3 54 rfl rfl
    obtain rfl : y54 = .bool true := g54
    obtain ⟨y61, e61, g61⟩ := new 10 61 rfl rfl
    obtain rfl : y61 = .bool (S == l) := g61
    exact OpOk.val (.bool (S == l)) (w_none rfl) [(54, _), (61, _)] (forall_cons e54 <| forall_cons e61 <| forall_nil) (fun ρ e ⟨c1, c2⟩ => by (try simp only [List.forall_mem_cons] at e); go_simp) ⟨Nw.refl _, rfl⟩
  · intro a w hN hsz hdf old new
    obtain ⟨y62, e62, g62⟩ := new 11 62 rfl
    exact tab_frame (frame_lit (dst := [51, 52, 53, 54, 55, 56, 57, 58, 59, 60, 61, 62]) (l := [u0, u1, u2, u3, u4, u5, u6, u7, u8, u9, .slice va n c, u11, u12, u13, u14, u15, u16, u17, u18, u19, u20, u21, u22, u23, u24, u25, u26, u27, u28, u29, u30, u31, u32, u33, u34, u35, u36, u37, u38, u39, u40, u41, u42, u43, u44, u45, u46, u47, u48, u49, u50, u51, u52, u53, u54, u55, u56, u57, u58, u59, u60, u61, u62]) hA hsz hdf old (l' := [u0, u1, u2, u3, u4, u5, u6, u7, u8, u9, .slice va n c, u11, u12, u13, u14, u15, u16, u17, u18, u19, u20, u21, u22, u23, u24, u25, u26, u27, u28, u29, u30, u31, u32, u33, u34, u35, u36, u37, u38, u39, u40, u41, u42, u43, u44, u45, u46, u47, u48, u49, u50, (a.tmps[51]?.getD undef), (a.tmps[52]?.getD undef), (a.tmps[53]?.getD undef), (a.tmps[54]?.getD undef), (a.tmps[55]?.getD undef), (a.tmps[56]?.getD undef), (a.tmps[57]?.getD undef), (a.tmps[58]?.getD undef), (a.tmps[59]?.getD undef), (a.tmps[60]?.getD undef), (a.tmps[61]?.getD undef), (a.tmps[62]?.getD undef)]) (by kernel_rfl)) (HQ.out _ _ _ _ _ _ _ _ _ _ _ _ w hN (by rw [e62]; exact g62))
set_option maxHeartbeats 1600000 in
theorem gu11l {w5 : World} {va : Option Addr} {n c v sl : Nat} {S l : List UInt8}
    (CW : Hid (∀ W, Nw w5 W → Calls Tryz.prog 131 #[.slice va n c] W fun e w' => e = .returned (.int .u64 v) ∧ Nw W w'))
    (CA : Hid (∀ W, Nw w5 W → Calls Tryz.prog 75 #[.int .u64 v] W fun e w' => ∃ a c, e = .returned (.slice a sl c) ∧ Bs w' (.slice a sl c) S ∧ Nw W w'))
    (B0 : Hid (Bs w5 (.slice va n c) l)) (hn : ¬ n ≤ 10)
    {u0 u1 u2 u3 u4 u5 u6 u7 u8 u9 u11 u12 u13 u14 u15 u16 u17 u18 u19 u20 u21 u22 u23 u24 u25 u26 u27 u28 u29 u30 u31 u32 u33 u34 u35 u36 u37 u38 u39 u40 u41 u42 u43 u44 u45 u46 u47 u48 u49 u50 u51 u52 u53 u54 u55 u56 u57 u58 u59 u60 u61 u62 : Value} {Q : Exit → Act → World → Prop}
    (hQ : ∀ (s51 s52 s53 s54 s55 s56 s57 s58 s59 s60 s61 s62 : Value) (wx : World), Nw w5 wx → s62 = .bool false → Q .normal ⟨#[u0, u1, u2, u3, u4, u5, u6, u7, u8, u9, .slice va n c, u11, u12, u13, u14, u15, u16, u17, u18, u19, u20, u21, u22, u23, u24, u25, u26, u27, u28, u29, u30, u31, u32, u33, u34, u35, u36, u37, u38, u39, u40, u41, u42, u43, u44, u45, u46, u47, u48, u49, u50, s51, s52, s53, s54, s55, s56, s57, s58, s59, s60, s61, s62], []⟩ wx) :
    Code.wp Tryz.prog ((Tryz.f71.body.bind (regionOf 11)).getD .skip) Q ⟨#[u0, u1, u2, u3, u4, u5, u6, u7, u8, u9, .slice va n c, u11, u12, u13, u14, u15, u16, u17, u18, u19, u20, u21, u22, u23, u24, u25, u26, u27, u28, u29, u30, u31, u32, u33, u34, u35, u36, u37, u38, u39, u40, u41, u42, u43, u44, u45, u46, u47, u48, u49, u50, u51, u52, u53, u54, u55, u56, u57, u58, u59, u60, u61, u62], []⟩ w5 := by
  (try dsimp only at hQ ⊢)
  conv => arg 2; whnf
  have HQ := Lib.hid hQ
  clear hQ
  refine name_act fun A hA => ?_
  have hA10 : A.tmps[10]? = some (.slice va n c) := by rw [hA]; rfl
  have hlt0 : ∀ d ∈ ([51, 52, 53, 54, 55, 56, 57, 58, 59, 60, 61, 62] : List Nat), d < 63 := by decide
  refine wp_region_tab [51, 52, 53, 54, 55, 56, 57, 58, 59, 60, 61, 62] [isV (.slice va n c), isV (.int .i64 n), isV (.bool false), isV (.bool false), isV (undef), isV (undef), isV (undef), isV (undef), isV (undef), isV (undef), isV (undef), isV (.bool false)] (by kernel_rfl) (by kernel_rfl) (by kernel_rfl) (of_decide_eq_true (by kernel_rfl)) (fun d hd => by rw [hA]; exact hlt0 d hd) (fun L hL => ⟨?a0, ?a1, ?a2, ?a3, ?a4, ?a5, ?a6, ?a7, ?a8, ?a9, ?a10, ?a11, trivial⟩) ?he
  · intro a w hN old new
    have e10 := old 10 (.slice va n c) rfl hA10
    exact OpOk.val (.slice va n c) (w_none rfl) [(10, _)] (forall_cons e10 <| forall_nil) (fun ρ e ⟨c1, c2⟩ => by (try simp only [List.forall_mem_cons] at e); go_simp) ⟨Nw.refl _, rfl⟩
  · intro a w hN old new
    obtain ⟨y51, e51, g51⟩ := new 0 51 rfl rfl
    obtain rfl : y51 = .slice va n c := g51
    exact OpOk.val (.int .i64 n) (w_none rfl) [(51, _)] (forall_cons e51 <| forall_nil) (fun ρ e ⟨c1, c2⟩ => by (try simp only [List.forall_mem_cons] at e); go_simp) ⟨Nw.refl _, rfl⟩
  · intro a w hN old new
    obtain ⟨y52, e52, g52⟩ := new 1 52 rfl rfl
    obtain rfl : y52 = .int .i64 n := g52
    exact OpOk.val (.bool false) (w_none rfl) [(52, _)] (forall_cons e52 <| forall_nil) (fun ρ e ⟨c1, c2⟩ => by (try simp only [List.forall_mem_cons] at e); (first | (go_simp; done) | (go_simp; omega))) ⟨Nw.refl _, rfl⟩
  · intro a w hN old new
    obtain ⟨y53, e53, g53⟩ := new 2 53 rfl rfl
    obtain rfl : y53 = .bool false := g53
    exact OpOk.val (.bool false) (w_none rfl) [(53, _)] (forall_cons e53 <| forall_nil) (fun ρ e ⟨c1, c2⟩ => by (try simp only [List.forall_mem_cons] at e); go_simp) ⟨Nw.refl _, rfl⟩
  · intro a w hN old new
    obtain ⟨y54, e54, g54⟩ := new 3 54 rfl rfl
    obtain rfl : y54 = .bool false := g54
    exact OpOk.skip (tab_no hL rfl rfl e54) ⟨Nw.refl _, rfl⟩
  · intro a w hN old new
    obtain ⟨y54, e54, g54⟩ := new 3 54 rfl rfl
    obtain rfl : y54 = .bool false := g54
    exact OpOk.skip (tab_no hL rfl rfl e54) ⟨Nw.refl _, rfl⟩
  · intro a w hN old new
    obtain ⟨y54, e54, g54⟩ := new 3 54 rfl rfl
    obtain rfl : y54 = .bool false := g54
    exact OpOk.skip (tab_no hL rfl rfl e54) ⟨Nw.refl _, rfl⟩
  · intro a w hN old new
    obtain ⟨y54, e54, g54⟩ := new 3 54 rfl rfl
    obtain rfl : y54 = .bool false := g54
    exact OpOk.skip (tab_no hL rfl rfl e54) ⟨Nw.refl _, rfl⟩
  · intro a w hN old new
    obtain ⟨y54, e54, g54⟩ := new 3 54 rfl rfl
    obtain rfl : y54 = .bool false := g54
    exact OpOk.skip (tab_no hL rfl rfl e54) ⟨Nw.refl _, rfl⟩
  · intro a w hN old new
    obtain ⟨y54, e54, g54⟩ := new 3 54 rfl rfl
    obtain rfl : y54 = .bool false := g54
    exact OpOk.skip (tab_no hL rfl rfl e54) ⟨Nw.refl _, rfl⟩
  · intro a w hN old new
    obtain ⟨y54, e54, g54⟩ := new 3 54 rfl rfl
    obtain rfl : y54 = .bool false := g54
    exact OpOk.skip (tab_no hL rfl rfl e54) ⟨Nw.refl _, rfl⟩
  · intro a w hN old new
    obtain ⟨y54, e54, g54⟩ := new 3 54 rfl rfl
    obtain rfl : y54 = .bool false := g54
    obtain ⟨y61, e61, g61⟩ := new 10 61 rfl rfl
    obtain rfl : y61 = undef := g61
    exact OpOk.val (.bool false) (w_none rfl) [(54, _), (61, _)] (forall_cons e54 <| forall_cons e61 <| forall_nil) (fun ρ e ⟨c1, c2⟩ => by (try simp only [List.forall_mem_cons] at e); go_simp) ⟨Nw.refl _, rfl⟩
  · intro a w hN hsz hdf old new
    obtain ⟨y62, e62, g62⟩ := new 11 62 rfl
    exact tab_frame (frame_lit (dst := [51, 52, 53, 54, 55, 56, 57, 58, 59, 60, 61, 62]) (l := [u0, u1, u2, u3, u4, u5, u6, u7, u8, u9, .slice va n c, u11, u12, u13, u14, u15, u16, u17, u18, u19, u20, u21, u22, u23, u24, u25, u26, u27, u28, u29, u30, u31, u32, u33, u34, u35, u36, u37, u38, u39, u40, u41, u42, u43, u44, u45, u46, u47, u48, u49, u50, u51, u52, u53, u54, u55, u56, u57, u58, u59, u60, u61, u62]) hA hsz hdf old (l' := [u0, u1, u2, u3, u4, u5, u6, u7, u8, u9, .slice va n c, u11, u12, u13, u14, u15, u16, u17, u18, u19, u20, u21, u22, u23, u24, u25, u26, u27, u28, u29, u30, u31, u32, u33, u34, u35, u36, u37, u38, u39, u40, u41, u42, u43, u44, u45, u46, u47, u48, u49, u50, (a.tmps[51]?.getD undef), (a.tmps[52]?.getD undef), (a.tmps[53]?.getD undef), (a.tmps[54]?.getD undef), (a.tmps[55]?.getD undef), (a.tmps[56]?.getD undef), (a.tmps[57]?.getD undef), (a.tmps[58]?.getD undef), (a.tmps[59]?.getD undef), (a.tmps[60]?.getD undef), (a.tmps[61]?.getD undef), (a.tmps[62]?.getD undef)]) (by kernel_rfl)) (HQ.out _ _ _ _ _ _ _ _ _ _ _ _ w hN (by rw [e62]; exact g62))
end Go.Proofs.YtkhcdbafcigeoaaGreatDoor
