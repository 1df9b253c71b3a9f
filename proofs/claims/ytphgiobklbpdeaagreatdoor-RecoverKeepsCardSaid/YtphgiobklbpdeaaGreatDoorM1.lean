/-
  Texts merged by a program of this claim's: BytesPlain, EventPlain, Lib.
-/
import Derived.WalkKit
import Derived.Lib.Hide
import Derived.Lib.QuietBelow
import Derived.Deep.QuietTactic
import Derived.BigQuiet
import Derived.StillTailTactics
/-
  Numbers, sums, events, frames as bytes: plain words (packages bytes, event, segment of the program): no program in sight.
-/
namespace Go.Proofs.YtphgiobklbpdeaaGreatDoor

/-! ### Numbers -/
def uintB (n : Nat) : List UInt8 := if h : n < 128 then [UInt8.ofNat n] else UInt8.ofNat (n % 128 + 128) :: uintB (n / 128)
termination_by n
decreasing_by omega
theorem uintB_small {n : Nat} (h : n < 128) : uintB n = [UInt8.ofNat n] := by rw [uintB, dif_pos h]
theorem uintB_big {n : Nat} (h : ¬ n < 128) : uintB n = UInt8.ofNat (n % 128 + 128) :: uintB (n / 128) := by rw [uintB, dif_neg h]
/-- How a number is read: the value, and how many bytes it has (0: they may be the begin of one; below 0: they are none). -/
def numF : Nat → Nat → List UInt8 → Nat × Int
  | _, _, [] => (0, 0)
  | i, acc, c :: l =>
    if i = 9 ∧ 1 < c.toNat then (0, -1)
    else if 128 ≤ c.toNat then numF (i + 1) (acc + c.toNat % 128 * 2 ^ (7 * i)) l
    else if c.toNat = 0 ∧ 0 < i then (0, -1)
    else (acc + c.toNat % 128 * 2 ^ (7 * i), (i : Int) + 1)
theorem pow7 (i : Nat) : (2 : Nat) ^ (7 * (i + 1)) = 128 * 2 ^ (7 * i) := by rw [Nat.mul_add, Nat.pow_add, Nat.mul_comm]
theorem pow_pos7 (i : Nat) : 0 < (2 : Nat) ^ (7 * i) := Nat.pow_pos (by decide)
theorem numF_uintB (rest : List UInt8) : ∀ (m i acc : Nat), i ≤ 9 → m * 2 ^ (7 * i) < 2 ^ 64 → (0 < i → 0 < m) → numF i acc (uintB m ++ rest) = (acc + m * 2 ^ (7 * i), (i : Int) + (uintB m).length) := by
  intro m
  induction m using Nat.strongRecOn with
  | ind m ih =>
    intro i acc hi hm h0
    by_cases hs : m < 128
    · rw [uintB_small hs]
      have e : (UInt8.ofNat m).toNat = m := by simp; omega
      have h9 : ¬ (i = 9 ∧ 1 < m) := by
        rintro ⟨rfl, h1⟩
        have : 2 * 2 ^ (7 * 9) ≤ m * 2 ^ (7 * 9) := Nat.mul_le_mul_right _ h1
        have e2 : (2 : Nat) * 2 ^ (7 * 9) = 2 ^ 64 := by decide
        omega
      simp only [List.cons_append, List.nil_append, numF, e]
      rw [if_neg h9, if_neg (by omega), if_neg (by rintro ⟨rfl, h⟩; exact absurd (h0 h) (by omega)), Nat.mod_eq_of_lt hs]
      simp
    · rw [uintB_big hs]
      have e : (UInt8.ofNat (m % 128 + 128)).toNat = m % 128 + 128 := by simp; omega
      have h9 : ¬ i = 9 := by
        rintro rfl
        have : 128 * 2 ^ (7 * 9) ≤ m * 2 ^ (7 * 9) := Nat.mul_le_mul_right _ (by omega)
        have e2 : (2 : Nat) ^ 64 < 128 * 2 ^ (7 * 9) := by decide
        omega
      have hdm : m / 128 * 128 + m % 128 = m := by omega
      have hkey : acc + (m % 128 + 128) % 128 * 2 ^ (7 * i) + m / 128 * 2 ^ (7 * (i + 1)) = acc + m * 2 ^ (7 * i) := by
        rw [pow7, Nat.add_mod_right, Nat.mod_mod, Nat.add_assoc, ← Nat.mul_assoc, ← Nat.add_mul]
        congr 2; omega
      simp only [List.cons_append, numF, e]
      rw [if_neg (fun h => h9 h.1), if_pos (by omega), ih (m / 128) (by omega) (i + 1) _ (by omega) (by omega) (by omega), hkey]
      simp only [List.length_cons]
      congr 1
      omega
/-- A number that is cut short may be the begin of one. -/
theorem numF_cut : ∀ (m i acc k : Nat), i ≤ 9 → m * 2 ^ (7 * i) < 2 ^ 64 → k < (uintB m).length → numF i acc ((uintB m).take k) = (0, 0) := by
  intro m
  induction m using Nat.strongRecOn with
  | ind m ih =>
    intro i acc k hi hm hk
    by_cases hs : m < 128
    · rw [uintB_small hs] at hk ⊢
      obtain rfl : k = 0 := by simpa using hk
      rfl
    · rw [uintB_big hs] at hk ⊢
      cases k with
      | zero => rfl
      | succ k =>
        have e : (UInt8.ofNat (m % 128 + 128)).toNat = m % 128 + 128 := by simp; omega
        have h9 : ¬ i = 9 := by
          rintro rfl
          have : 128 * 2 ^ (7 * 9) ≤ m * 2 ^ (7 * 9) := Nat.mul_le_mul_right _ (by omega)
          have e2 : (2 : Nat) ^ 64 < 128 * 2 ^ (7 * 9) := by decide
          omega
        have hle : m / 128 * 2 ^ (7 * (i + 1)) ≤ m * 2 ^ (7 * i) := by
          rw [pow7, ← Nat.mul_assoc]
          exact Nat.mul_le_mul_right _ (by omega)
        simp only [List.take_succ_cons, numF, e]
        rw [if_neg (fun h => h9 h.1), if_pos (by omega), ih (m / 128) (by omega) (i + 1) _ k (by omega) (by omega) (by simpa using hk)]
theorem uintB_len (m : Nat) : ∀ k, 0 < k → m < 128 ^ k → (uintB m).length ≤ k := by
  induction m using Nat.strongRecOn with
  | ind m ih =>
    intro k hk hm
    by_cases hs : m < 128
    · rw [uintB_small hs]; exact hk
    · rw [uintB_big hs]
      cases k with
      | zero => omega
      | succ k =>
        have hk0 : 0 < k := by
          cases k with
          | zero => simp at hm; omega
          | succ k => omega
        have := ih (m / 128) (by omega) k hk0 (by rw [Nat.pow_succ] at hm; omega)
        simpa using this
theorem uintB_pos (m : Nat) : 0 < (uintB m).length := by
  by_cases hs : m < 128
  · rw [uintB_small hs]; simp
  · rw [uintB_big hs]; simp
/-- What the program's GetUint answers: the number, what follows, the error. -/
def getU (b : List UInt8) (at_ : Int) : Nat × Int × Int :=
  if at_ < 0 ∨ (b.length : Int) < at_ then (0, 0, 2)
  else if (numF 0 0 (b.drop at_.toNat)).2 = 0 then (0, 0, 11)
  else if (numF 0 0 (b.drop at_.toNat)).2 < 0 then (0, 0, 10)
  else ((numF 0 0 (b.drop at_.toNat)).1, at_ + (numF 0 0 (b.drop at_.toNat)).2, 0)
theorem getU_at (a rest : List UInt8) (m : Nat) (hm : m < 2 ^ 64) : getU (a ++ (uintB m ++ rest)) a.length = (m, (((a ++ uintB m).length : Nat) : Int), 0) := by
  have h := numF_uintB rest m 0 0 (by omega) (by simpa using hm) (by omega)
  simp only [Nat.mul_zero, Nat.pow_zero, Nat.mul_one, Nat.zero_add, Int.natCast_zero, Int.zero_add] at h
  have hp := uintB_pos m
  unfold getU
  rw [if_neg (by simp; omega)]
  simp only [Int.toNat_natCast, List.drop_left, h]
  rw [if_neg (by show ¬ ((uintB m).length : Int) = 0; omega), if_neg (by show ¬ ((uintB m).length : Int) < 0; omega)]
  simp

/-! ### Signed numbers -/
def zig (n : Int) : Nat := if 0 ≤ n then (2 * n).toNat else (-2 * n - 1).toNat
def zag (n : Nat) : Int := if n % 2 = 0 then (n / 2 : Nat) else -((n / 2 : Nat) : Int) - 1
theorem zag_zig (n : Int) : zag (zig n) = n := by
  unfold zig
  split
  · unfold zag
    rw [if_pos (by omega)]; omega
  · unfold zag
    rw [if_neg (by omega)]; omega
theorem zig_lt {n : Int} (h0 : -9223372036854775808 ≤ n) (h1 : n ≤ 9223372036854775807) : zig n < 2 ^ 64 := by
  unfold zig
  split <;> omega
end Go.Proofs.YtphgiobklbpdeaaGreatDoor

/-
  Events and frames as bytes: plain words (packages event, segment): the sum is any function of bytes.
-/
namespace Go.Proofs.YtphgiobklbpdeaaGreatDoor

structure Ev where
  thread : Int
  op : UInt8
  obj : Int
  a : Int
  b : Int
def Ev.zero : Ev := ⟨0, 0, 0, 0, 0⟩
def in64 (n : Int) : Prop := -9223372036854775808 ≤ n ∧ n ≤ 9223372036854775807
structure Ev.Ok (e : Ev) : Prop where
  thread : in64 e.thread
  obj : in64 e.obj
  a : in64 e.a
  b : in64 e.b
/-- A difference, as a machine has it. -/
def w64 (n : Int) : Int := (n + 9223372036854775808) % 18446744073709551616 - 9223372036854775808
theorem w64_in (n : Int) : in64 (w64 n) := by unfold w64 in64; omega
theorem w64_self {n : Int} (h : in64 n) : w64 n = n := by unfold in64 at h; unfold w64; omega
theorem w64_back {a b : Int} (h : in64 b) : w64 (a + w64 (b - a)) = b := by unfold in64 at h; unfold w64; omega
def intB (n : Int) : List UInt8 := uintB (zig n)
def putE (h e : Ev) : List UInt8 := e.op :: (intB (w64 (e.thread - h.thread)) ++ intB (w64 (e.obj - h.obj)) ++ intB (w64 (e.a - h.a)) ++ intB (w64 (e.b - h.b)))
def putL : Ev → List Ev → List UInt8
  | _, [] => []
  | h, e :: l => putE h e ++ putL e l
/-- The last event, or the one ahead. -/
def lastE (h : Ev) (l : List Ev) : Ev := l.getLastD h
theorem putL_snoc : ∀ (l : List Ev) (h e : Ev), putL h (l ++ [e]) = putL h l ++ putE (lastE h l) e
  | [], h, e => by simp [putL, lastE]
  | x :: l, h, e => by
    simp only [List.cons_append, putL, putL_snoc l x e, List.append_assoc]
    congr 2
    unfold lastE
    cases l <;> simp [List.getLast?_cons]
def bodyB (l : List Ev) : List UInt8 := uintB l.length ++ putL Ev.zero l
section
variable (sum : List UInt8 → List UInt8)
def sealB (b : List UInt8) : List UInt8 := b ++ sum b
def frameB (l : List Ev) : List UInt8 := uintB (bodyB l).length ++ sealB sum (bodyB l)
end
theorem intB_len {n : Int} (h : in64 n) : (intB n).length ≤ 10 := uintB_len _ 10 (by omega) (Nat.lt_trans (zig_lt h.1 h.2) (by decide))
theorem putE_len (h e : Ev) : (putE h e).length ≤ 41 := by
  have h1 := intB_len (w64_in (e.thread - h.thread))
  have h2 := intB_len (w64_in (e.obj - h.obj))
  have h3 := intB_len (w64_in (e.a - h.a))
  have h4 := intB_len (w64_in (e.b - h.b))
  simp only [putE, List.length_cons, List.length_append]
  omega
theorem putL_len : ∀ (l : List Ev) (h : Ev), (putL h l).length ≤ 41 * l.length
  | [], _ => by simp [putL]
  | e :: l, h => by
    have h1 := putE_len h e
    have h2 := putL_len l e
    simp only [putL, List.length_append, List.length_cons]
    omega
theorem bodyB_len (l : List Ev) (h : l.length ≤ 4096) : (bodyB l).length ≤ 41 * l.length + 2 := by
  have h1 := putL_len l Ev.zero
  have h2 := uintB_len l.length 2 (by omega) (by omega)
  simp only [bodyB, List.length_append]
  omega
theorem frameB_len {sum : List UInt8 → List UInt8} (hs : ∀ b, (sum b).length = 4) (l : List Ev) (h : l.length ≤ 4096) : (frameB sum l).length ≤ 41 * l.length + 9 := by
  have h1 := bodyB_len l h
  have h2 := uintB_len (bodyB l).length 3 (by omega) (by omega)
  simp only [frameB, sealB, List.length_append, hs]
  omega
end Go.Proofs.YtphgiobklbpdeaaGreatDoor

/-
  Program-independent words and laws for the walks of this seat: what a call may have turned ('Only', 'Nw'); a drawn region whose head only reads (in a class of worlds) and whose tail runs in the text's order.
-/
namespace Go.Proofs.YtphgiobklbpdeaaGreatDoor
open Go Go.RowKit

/-! ### What has turned -/

/-- Of the blocks that were there, those outside S are as they were. -/
structure Only (S : Nat → Prop) (w w' : World) : Prop where
  os : w'.os = w.os
  tape : w'.tape = w.tape
  output : w'.output = w.output
  size : w.heap.size ≤ w'.heap.size
  block : ∀ k, k < w.heap.size → ¬ S k → w'.heap[k]? = w.heap[k]?

def Nw (w w' : World) : Prop := Only (fun _ => False) w w'

section
variable {S T : Nat → Prop} {w w' w'' : World}
theorem Only.refl (w : World) : Only S w w := ⟨rfl, rfl, rfl, Nat.le_refl _, fun _ _ _ => rfl⟩
theorem Only.mono (h : Only S w w') (hST : ∀ k, k < w.heap.size → S k → T k) : Only T w w' :=
  ⟨h.os, h.tape, h.output, h.size, fun k hk hn => h.block k hk (fun hs => hn (hST k hk hs))⟩
theorem Only.trans (h : Only S w w') (h' : Only S w' w'') : Only S w w'' :=
  ⟨h'.os.trans h.os, h'.tape.trans h.tape, h'.output.trans h.output, Nat.le_trans h.size h'.size,
    fun k hk hn => (h'.block k (Nat.lt_of_lt_of_le hk h.size) hn).trans (h.block k hk hn)⟩
/-- The second step may also turn what the first has made. -/
theorem Only.trans' (h : Only S w w') (h' : Only T w' w'') (hT : ∀ k, k < w.heap.size → T k → S k) : Only S w w'' :=
  ⟨h'.os.trans h.os, h'.tape.trans h.tape, h'.output.trans h.output, Nat.le_trans h.size h'.size,
    fun k hk hn => (h'.block k (Nat.lt_of_lt_of_le hk h.size) (fun ht => hn (hT k hk ht))).trans (h.block k hk hn)⟩
theorem Only.drew (h : Only S w w') : Only S w w'.drew := ⟨h.os, h.tape, h.output, h.size, h.block⟩
theorem Only.drewN (h : Only S w w') (n : Nat) : Only S w (w'.drewN n) := ⟨h.os, h.tape, h.output, h.size, h.block⟩
theorem Only.alloc (h : Only S w w') (o : Obj) : Only S w (w'.alloc o) :=
  h.trans ⟨rfl, rfl, rfl, by simp, fun k hk _ => Below.heap_alloc _ _ _ hk⟩
theorem Only.setCell (h : Only S w w') {p : Addr} (hp : p.block < w.heap.size → S p.block) (u : Value) : Only S w (w'.setCell p u) :=
  h.trans' (T := fun k => k = p.block) ⟨rfl, rfl, rfl, by simp, fun k _ hn => Below.heap_setCell _ _ _ _ hn⟩ (fun k hk e => by subst e; exact hp hk)
theorem Only.setRow (h : Only S w w') {g : Nat} (hp : g < w.heap.size → S g) (cs : Array Value) : Only S w (w'.setRow g cs) :=
  h.trans' (T := fun k => k = g) ⟨rfl, rfl, rfl, by simp [World.setRow], fun k _ hn => setRow_other _ _ _ _ hn⟩ (fun k hk e => by subst e; exact hp hk)
theorem Only.of_below {B : Nat} (h : Below B w w') (hB : ∀ k, k < w.heap.size → ¬ S k → k < B) : Only S w w' :=
  ⟨h.os, h.tape, h.output, h.size, fun k hk hn => h.block k (hB k hk hn)⟩
theorem Only.below {B : Nat} (h : Only S w w') (hB : ∀ k, k < B → k < w.heap.size ∧ ¬ S k) : Below B w w' :=
  ⟨h.os, h.tape, h.output, h.size, fun k hk => h.block k (hB k hk).1 (hB k hk).2⟩
theorem Only.at_ (h : Only S w w') {k : Nat} {o : Obj} (hk : w.heap[k]? = some o) (hn : ¬ S k) : w'.heap[k]? = some o :=
  (h.block k (lt_of_block hk) hn).trans hk
theorem Only.cell (h : Only S w w') {a : Addr} {v : Value} (hk : w.cell? a = some v) (hn : ¬ S a.block) : w'.cell? a = some v :=
  (World.cell?_of_block (h.block _ (World.block_lt_of_cell? w a hk) hn)).trans hk
theorem Only.grown {row : Option Nat} (h : Only S w w') (hg : w'.grownBy w'' row) (hr : ∀ k, row = some k → k < w.heap.size → S k) : Only S w w'' :=
  h.trans' (T := fun k => row = some k) ⟨hg.os, hg.tape, hg.output, hg.size, fun k hk hn => hg.block k hk (fun e => hn e.symm)⟩ (fun k hk e => hr k e hk)

theorem Nw.refl (w : World) : Nw w w := Only.refl w
theorem Nw.trans (h : Nw w w') (h' : Nw w' w'') : Nw w w'' := Only.trans h h'
theorem Nw.only (h : Nw w w') : Only S w w' := Only.mono h (fun _ _ hf => hf.elim)
theorem Nw.drew (h : Nw w w') : Nw w w'.drew := Only.drew h
theorem Nw.drewN (h : Nw w w') (n : Nat) : Nw w (w'.drewN n) := Only.drewN h n
theorem Nw.alloc (h : Nw w w') (o : Obj) : Nw w (w'.alloc o) := Only.alloc h o
theorem Nw.at_ (h : Nw w w') {k : Nat} {o : Obj} (hk : w.heap[k]? = some o) : w'.heap[k]? = some o := Only.at_ h hk (fun hf => hf)
theorem Nw.cell (h : Nw w w') {a : Addr} {v : Value} (hk : w.cell? a = some v) : w'.cell? a = some v := Only.cell h hk (fun hf => hf)
theorem Nw.of_below (h : Below w.heap.size w w') : Nw w w' := Only.of_below h (fun _ hk _ => hk)
theorem Nw.below (h : Nw w w') : Below w.heap.size w w' := Only.below h (fun _ hk => ⟨hk, fun hf => hf⟩)
theorem Nw.regrown (h : Nw w w') : ∃ p : Regrown, w' = Go.Sort.grow (redrawn w p.d) p.os := regrown_of_below h.below
theorem Nw.of_regrown (h : ∃ p : Regrown, w' = Go.Sort.grow (redrawn w p.d) p.os) : Nw w w' := by
  obtain ⟨p, rfl⟩ := h; exact Nw.of_below (below_regrown w p.d p.os)
end

/-! ### A drawn region: a head that only reads, in a class of worlds, and a tail in the text's order -/
section
variable {P : Program} {ops : Array Oper} {md : Region.Mode} {C : World → Prop}

def wpHead (P : Program) (md : Region.Mode) (ops : Array Oper) (C : World → Prop) (n : Nat) (L : Array Bool → Act → Prop) : Nat → Array Bool → Act → Prop
  | 0, listed, a => L listed a
  | f + 1, listed, a =>
    Region.ready md ops listed ≠ [] ∧ ∀ i ∈ Region.ready md ops listed, i < n ∧ qOp P ops C i (wpHead P md ops C n L f (listed.setIfInBounds i true)) a

theorem wpAny_of_wpHead {n g : Nat} {L : Array Bool → Act → Prop} {Q' : Exit → Act → World → Prop} (hL : ∀ listed a w, C w → L listed a → wpAny P md ops Q' g listed a w) :
    ∀ (f : Nat) (listed : Array Bool) (a : Act) (w : World), C w → wpHead P md ops C n L f listed a → wpAny P md ops Q' (f + g) listed a w
  | 0, listed, a, w, hw, h => by rw [Nat.zero_add]; exact hL _ _ _ hw h
  | f + 1, listed, a, w, hw, h => by
    rw [show f + 1 + g = (f + g) + 1 by omega]
    exact ⟨fun h0 => absurd h0 h.1, fun i hi => wpOp_of_qOp hw (fun a' w' hw' h' => wpAny_of_wpHead hL f _ a' w' hw' h') (h.2 i hi).2⟩

theorem wpHead_first {n i : Nat} {oi : Oper} {v : Value} {L : Array Bool → Act → Prop} (hi : ops[i]? = some oi) (hsel : ∀ (j : Nat) (o : Oper) cs b, ops[j]? = some o → o.op ≠ .select cs b)
    (hs : Region.sinkB md ops n = true) (hc : Region.chainB md ops n = true) (hn : n < ops.size) (hin : i < n)
    (hdone : ∀ listed a, L listed a → ∀ j ∈ Region.ready md ops listed, n ≤ j) :
    ∀ (f : Nat) (listed : Array Bool) (a : Act), HeadInv md ops n listed →
      (∀ j oj, ops[j]? = some oj → j ≠ i → listed.getD j true = false → (∀ e ∈ oj.after, Region.binds md e = true → e.on ≠ i) → oi.apart ops oj = true) →
      i ∈ Region.ready md ops listed → YieldsIn P ops C oi v a →
      wpHead P md ops C n L f (listed.setIfInBounds i true) (a.put oi.dst v) → wpHead P md ops C n L (f + 1) listed a := by
  intro f
  induction f with
  | zero =>
    intro listed a inv _ hr hy H
    have hun := (mem_ready.1 hr).1
    refine ⟨fun h => (by rw [h] at hr; cases hr), fun j hj => ?_⟩
    have hjn : j < n := by
      rcases Nat.lt_or_ge j n with h | h
      · exact h
      · exact absurd hj (tail_waits hs hc hn inv _ i rfl hin hun j h)
    refine ⟨hjn, ?_⟩
    by_cases hji : j = i
    · subst hji; exact hy.qOp hi H
    · have := hdone _ _ H j (ready_mono hj hji)
      omega
  | succ f ih =>
    intro listed a inv hfree hr hy H
    have hun := (mem_ready.1 hr).1
    refine ⟨fun h => (by rw [h] at hr; cases hr), fun j hj => ?_⟩
    have hjn : j < n := by
      rcases Nat.lt_or_ge j n with h | h
      · exact h
      · exact absurd hj (tail_waits hs hc hn inv _ i rfl hin hun j h)
    refine ⟨hjn, ?_⟩
    by_cases hji : j = i
    · subst hji; exact hy.qOp hi H
    · have h1 := (H.2 j (ready_mono hj hji)).2
      obtain ⟨hjun, oj, hoj, hall⟩ := mem_ready.1 hj
      have hnot : ∀ e ∈ oj.after, Region.binds md e = true → e.on ≠ i := fun e he hb heq => by
        have h1 := hall e he hb
        rw [heq, getD_both hun] at h1
        cases h1
      have h2 := qOp_put hoj (hfree j oj hoj hji hjun hnot) (fun cs b => hsel i oi cs b hi) (fun cs b => hsel j oj cs b hoj) hy h1
      have hfree' : ∀ k ok, ops[k]? = some ok → k ≠ i → (listed.setIfInBounds j true).getD k true = false →
          (∀ e ∈ ok.after, Region.binds md e = true → e.on ≠ i) → oi.apart ops ok = true := fun k ok hk hki hun hno => by
        refine hfree k ok hk hki ?_ hno
        by_cases hjk : j = k
        · subst hjk; exact hjun
        · rw [getD_set_ne true hjk] at hun; exact hun
      refine qOp_mono (fun a' h3 => ih (listed.setIfInBounds j true) a' (inv.set hj hjn) hfree' (ready_mono hr (Ne.symm hji)) h3.1 ?_) h2
      rw [Array.setIfInBounds_comm _ _ hji]
      exact h3.2

theorem wpHead_lex {n g : Nat} {Lq : Act → Prop} (hsel : Region.noSelect ops = true) (hs : Region.sinkB md ops n = true) (hc : Region.chainB md ops n = true) (hn : n < ops.size) :
    ∀ (l : List Oper) (k : Nat) (listed : Array Bool) (a : Act), (∀ j, j < l.length → l[j]? = ops[k + j]?) → k + l.length = n → HeadInv md ops n listed →
    Region.lexHead md ops g l.length k listed = true → wpQuiet P ops C Lq l a →
    wpHead P md ops C n (fun listed' a' => Region.seqB md ops g n listed' = true ∧ Lq a') l.length listed a
  | [], k, listed, a, _, hk, _, hB, h => by
    have : k = n := by simpa using hk
    subst this
    exact ⟨by simpa [Region.lexHead] using hB, h⟩
  | o :: l, k, listed, a, hl, hk, inv, hB, h => by
    have h0 : ops[k]? = some o := by simpa using (hl 0 (by simp)).symm
    simp only [List.length_cons, Region.lexHead, Bool.and_eq_true] at hB
    obtain ⟨⟨hr, hf⟩, hB'⟩ := hB
    have hkn : k < n := by simp only [List.length_cons] at hk; omega
    have hr' : k ∈ Region.ready md ops listed := by simpa using hr
    have hst : qOp P ops C k (wpQuiet P ops C Lq l) a := by unfold qOp; simp only [h0]; exact h
    obtain ⟨v, hy, hK⟩ := yieldsIn_of_qOp h0 hst
    exact wpHead_first h0 (Region.noSelect_spec hsel) hs hc hn hkn (fun listed' a' hL => seqB_ready hL.1) l.length listed a inv (Region.free_spec h0 hf) hr' hy
      (wpHead_lex hsel hs hc hn l (k + 1) _ _ (fun j hj => by have := hl (j + 1) (by simp; omega); simpa [Nat.add_assoc, Nat.add_comm 1 j] using this) (by simp only [List.length_cons] at hk; omega) (inv.set hr' hkn) hB' hK)

/-- The first n operations only read (in the class C); the others run behind them, in the text's order. -/
theorem wp_region_head_tail {id : Nat} {Q : Exit → Act → World → Prop} {a : Act} {w : World} {l : List Oper} (n : Nat) (hm : P.follows .mixedOrders = true) (hB : Region.lexTailB .any l.toArray n = true)
    (hC : C { w with drawn := w.drawn + 1 })
    (h : wpQuiet P l.toArray C (fun a' => ∀ w', C w' → wpList P l.toArray Q (l.drop n) a' w') (l.take n) a) : (Code.region id l.toArray true).wp P Q a w := by
  simp only [Region.lexTailB, Bool.and_eq_true, decide_eq_true_eq] at hB
  obtain ⟨⟨⟨⟨hsel, hn⟩, hs⟩, hc⟩, hlex⟩ := hB
  have hn' : n < l.length := by simpa using hn
  have htl : (l.take n).length = n := by simp; omega
  have hdl : (l.drop n).length = l.toArray.size - n := by simp
  have inv0 : HeadInv .any l.toArray n (Array.replicate l.toArray.size false) :=
    ⟨by simp, fun j oj _ hl => (by rw [getD_replicate_false] at hl; cases hl), fun t _ ht => getD_in (by simpa using ht) (getD_replicate_false _ _)⟩
  have H := wpHead_lex (md := .any) (g := l.toArray.size - n) hsel hs hc hn (l.take n) 0 _ a (fun j hj => by
    have hj' : j < n := by rw [htl] at hj; exact hj
    simp [hj']) (by simpa using htl) inv0 (by rw [htl]; exact hlex) h
  refine wp_region_any hm ?_
  have := wpAny_of_wpHead (Q' := Q) (g := l.toArray.size - n) (fun listed a' w' hw' hL => by
    have := wpAny_of_seq (md := .any) (Q' := Q) (l.drop n) n listed a' w' (fun j => by simp [List.getElem?_drop]) (by rw [hdl]; exact hL.1) (hL.2 w' hw')
    rwa [hdl] at this) _ _ _ _ hC H
  rw [htl, show n + (l.toArray.size - n) = l.toArray.size by omega] at this
  exact this

/-- .. in the class 'only new blocks'. -/
theorem wp_region_tail_below {id : Nat} {Q : Exit → Act → World → Prop} {a : Act} {w : World} {l : List Oper} (n : Nat) (hm : P.follows .mixedOrders = true) (hB : Region.lexTailB .any l.toArray n = true)
    (h : wpQuiet P l.toArray (fun w' => ∃ p : Regrown, w' = Go.Sort.grow (redrawn w p.d) p.os) (fun a' => ∀ w', (∃ p : Regrown, w' = Go.Sort.grow (redrawn w p.d) p.os) → wpList P l.toArray Q (l.drop n) a' w') (l.take n) a) : (Code.region id l.toArray true).wp P Q a w :=
  wp_region_head_tail (C := fun w' => ∃ p : Regrown, w' = Go.Sort.grow (redrawn w p.d) p.os) n hm hB ⟨⟨w.drawn + 1, #[]⟩, by rw [Go.Sort.grow_empty]; rfl⟩ h
/-- .. in the class 'some draws'. -/
theorem wp_region_tail_drawn {id : Nat} {Q : Exit → Act → World → Prop} {a : Act} {w : World} {l : List Oper} (n : Nat) (hm : P.follows .mixedOrders = true) (hB : Region.lexTailB .any l.toArray n = true)
    (h : wpQuiet P l.toArray (fun w' => ∃ n, w' = w.drewN n) (fun a' => ∀ w', (∃ n, w' = w.drewN n) → wpList P l.toArray Q (l.drop n) a' w') (l.take n) a) : (Code.region id l.toArray true).wp P Q a w :=
  wp_region_head_tail (C := fun w' => ∃ n, w' = w.drewN n) n hm hB ⟨1, rfl⟩ h
end
end Go.Proofs.YtphgiobklbpdeaaGreatDoor
