/-
  Texts merged by a program of this claim's: PackPlain, EndPlain, CompPlain.
-/
import Derived.Test.YtjapijndljknnaaGreatDoorM19
import Derived.Test.YtjapijndljknnaaGreatDoorM24
import Derived.Test.YtjapijndljknnaaGreatDoorM31
/-
  The denser coding of events (package segment: Pack, Unpack), in plain words; what was packed is told again.
-/
namespace Go.Proofs.YtjapijndljknnaaGreatDoor
open Go

/-! ### Columns as bytes -/
def deltas : Int → List Int → List Int
  | _, [] => []
  | a, x :: l => w64 (x - a) :: deltas x l
/-- How many of the first ones are x. -/
def headRun (x : Int) : List Int → Nat
  | [] => 0
  | y :: l => if y = x then headRun x l + 1 else 0
def runsOf : Nat → List Int → List (Int × Nat)
  | 0, _ => []
  | _ + 1, [] => []
  | f + 1, x :: l => (x, headRun x l + 1) :: runsOf f (l.drop (headRun x l))
def runB (r : Int × Nat) : List UInt8 := intB r.1 ++ uintB r.2
def colB (l : List Int) : List UInt8 := (runsOf l.length (deltas 0 l)).flatMap runB
def picks : List (Ev → Int) := [Ev.thread, fun e => (e.op.toNat : Int), Ev.obj, Ev.a, Ev.b]
def denseS : Str := [65, 77, 68, 49]
def packIn (n : Nat) (l : List Ev) : List UInt8 := denseS ++ (uintB n ++ (uintB l.length ++ picks.flatMap fun f => colB (l.map f)))
def packB (n : Nat) (l : List Ev) : List UInt8 := sealB sumB (packIn n l)
theorem deltas_len : ∀ (l : List Int) (a : Int), (deltas a l).length = l.length
  | [], _ => rfl
  | x :: l, a => by simp [deltas, deltas_len l]
theorem headRun_le (x : Int) : ∀ l : List Int, headRun x l ≤ l.length
  | [] => Nat.le_refl _
  | y :: l => by
    have := headRun_le x l
    unfold headRun
    split <;> simp <;> omega
theorem headRun_take (x : Int) : ∀ l : List Int, l.take (headRun x l) = List.replicate (headRun x l) x
  | [] => rfl
  | y :: l => by
    unfold headRun
    split
    · rename_i h; subst h; rw [List.take_succ_cons, headRun_take, List.replicate_succ]
    · rfl
theorem headRun_next (x : Int) : ∀ l : List Int, (l.drop (headRun x l)).head? ≠ some x
  | [] => by simp
  | y :: l => by
    unfold headRun
    split
    · rw [List.drop_succ_cons]; exact headRun_next x l
    · rename_i h; simpa using h
theorem headRun_split (x : Int) (l : List Int) : l = List.replicate (headRun x l) x ++ l.drop (headRun x l) := by
  rw [← headRun_take, List.take_append_drop]

/-! ### Columns, read -/
/-- The numbers again. -/
def sums : Int → List Int → List Int
  | _, [] => []
  | n, x :: D => w64 (n + x) :: sums (w64 (n + x)) D
theorem sums_deltas : ∀ (l : List Int) (a : Int), (∀ x ∈ l, in64 x) → sums a (deltas a l) = l
  | [], _, _ => rfl
  | x :: l, a, h => by
    have e : w64 (a + w64 (x - a)) = x := w64_back (h x (by simp))
    simp only [deltas, sums, e]
    rw [sums_deltas l x fun y hy => h y (by simp [hy])]
def lastD (n : Int) (l : List Int) : Int := l.getLastD n
theorem sums_append : ∀ (D E : List Int) (n : Int), sums n (D ++ E) = sums n D ++ sums (lastD n (sums n D)) E
  | [], _, _ => rfl
  | x :: D, E, n => by
    simp only [List.cons_append, sums]
    rw [sums_append D E]
    congr 3
    unfold lastD
    cases h : sums (w64 (n + x)) D with
    | nil => simp
    | cons y r =>
      simp only [List.getLastD_cons]
def colR (b : List UInt8) (ok : Int → Bool) (rem : Nat) (first : Bool) (last n at_ : Int) (acc : List Int) : Option (List Int × Int) :=
  if rem = 0 then some (acc, at_) else
  if (getI b at_).2.2 ≠ 0 then none else
  if _h : (getU b (getI b at_).2.1).2.2 ≠ 0 ∨ (getU b (getI b at_).2.1).1 < 1 ∨ rem < (getU b (getI b at_).2.1).1 ∨ (first = false ∧ (getI b at_).1 = last) then none else
  if (sums n (List.replicate (getU b (getI b at_).2.1).1 (getI b at_).1)).all ok = false then none else
  colR b ok (rem - (getU b (getI b at_).2.1).1) false (getI b at_).1 (lastD n (sums n (List.replicate (getU b (getI b at_).2.1).1 (getI b at_).1))) (getU b (getI b at_).2.1).2.1 (acc ++ sums n (List.replicate (getU b (getI b at_).2.1).1 (getI b at_).1))
termination_by rem
decreasing_by omega
theorem colR_zero {b : List UInt8} {ok : Int → Bool} {first : Bool} {last n at_ : Int} {acc : List Int} : colR b ok 0 first last n at_ acc = some (acc, at_) := by
  unfold colR; rw [if_pos rfl]
theorem colR_at (ok : Int → Bool) : ∀ (f : Nat) (D : List Int), D.length ≤ f → ∀ (a rest : List UInt8) (first : Bool) (last n : Int) (acc : List Int), (∀ x ∈ D, in64 x) → D.length < 2 ^ 64 → (first = false → D.head? ≠ some last) → (sums n D).all ok = true →
    colR (a ++ ((runsOf f D).flatMap runB ++ rest)) ok D.length first last n a.length acc = some (acc ++ sums n D, (((a ++ (runsOf f D).flatMap runB).length : Nat) : Int)) := by
  intro f
  induction f with
  | zero =>
    intro D hD a rest first last n acc h1 h2 h3 h4
    obtain rfl : D = [] := List.eq_nil_of_length_eq_zero (by omega)
    rw [show ([] : List Int).length = 0 from rfl, colR_zero]
    simp [sums, runsOf]
  | succ f ih =>
    intro D hD a rest first last n acc h1 h2 h3 h4
    cases D with
    | nil =>
      rw [show ([] : List Int).length = 0 from rfl, colR_zero]
      simp [sums, runsOf]
    | cons x l =>
      have hle := headRun_le x l
      have hsp := headRun_split x l
      have hnx := headRun_next x l
      have hrun : runsOf (f + 1) (x :: l) = (x, headRun x l + 1) :: runsOf f (l.drop (headRun x l)) := rfl
      generalize headRun x l = k at hle hsp hnx hrun
      obtain ⟨r, hr⟩ : ∃ r, l.drop k = r := ⟨_, rfl⟩
      rw [hr] at hsp hnx hrun
      have hrl : r.length = l.length - k := by rw [← hr, List.length_drop]
      have hx := h1 x (by simp)
      simp only [List.length_cons] at hD h2
      have hxl : x :: l = List.replicate (k + 1) x ++ r := by rw [List.replicate_succ, List.cons_append, ← hsp]
      have hsum : sums n (x :: l) = sums n (List.replicate (k + 1) x) ++ sums (lastD n (sums n (List.replicate (k + 1) x))) r := by rw [hxl, sums_append]
      rw [hsum, List.all_append, Bool.and_eq_true] at h4
      have eb : a ++ ((runsOf (f + 1) (x :: l)).flatMap runB ++ rest) = a ++ (intB x ++ (uintB (k + 1) ++ ((runsOf f r).flatMap runB ++ rest))) := by rw [hrun]; simp [runB]
      have g1 := getI_at a (uintB (k + 1) ++ ((runsOf f r).flatMap runB ++ rest)) hx
      have g2 := getU_at (a ++ intB x) ((runsOf f r).flatMap runB ++ rest) (k + 1) (by omega)
      rw [List.append_assoc] at g2
      rw [eb]
      unfold colR
      rw [if_neg (by simp), g1, if_neg (by simp)]
      simp only
      rw [g2, dif_neg (by
        simp only [List.length_cons]
        rintro (h | h | h | ⟨h, h'⟩)
        · exact h rfl
        · omega
        · omega
        · exact h3 h (by simp [h']))]
      simp only
      rw [if_neg (by rw [h4.1]; simp)]
      have key := ih r (by omega) (a ++ intB x ++ uintB (k + 1)) rest false x (lastD n (sums n (List.replicate (k + 1) x))) (acc ++ sums n (List.replicate (k + 1) x)) (fun y hy => h1 y (by rw [hxl]; simp [hy])) (by omega) (fun _ => hnx) h4.2
      have e1 : a ++ intB x ++ uintB (k + 1) ++ ((runsOf f r).flatMap runB ++ rest) = a ++ (intB x ++ (uintB (k + 1) ++ ((runsOf f r).flatMap runB ++ rest))) := by simp
      rw [e1] at key
      have e2 : (x :: l).length - (k + 1) = r.length := by simp only [List.length_cons]; omega
      rw [e2, show (((a ++ intB x ++ uintB (k + 1)).length : Nat) : Int) = (((a ++ intB x ++ uintB (k + 1)).length : Nat) : Int) from rfl, key, hsum, hrun]
      simp [runB]

/-! ### The whole -/
def okAny : Int → Bool := fun _ => true
def okOp : Int → Bool := fun n => decide (0 ≤ n) && decide (n ≤ 255)
def setT (e : Ev) (v : Int) : Ev := { e with thread := v }
def setOp (e : Ev) (v : Int) : Ev := { e with op := UInt8.ofNat (v % 256).toNat }
def setObj (e : Ev) (v : Int) : Ev := { e with obj := v }
def setA (e : Ev) (v : Int) : Ev := { e with a := v }
def setB (e : Ev) (v : Int) : Ev := { e with b := v }
def cols : List ((Ev → Int → Ev) × (Int → Bool)) := [(setT, okAny), (setOp, okOp), (setObj, okAny), (setA, okAny), (setB, okAny)]
def colsR (b : List UInt8) : List ((Ev → Int → Ev) × (Int → Bool)) → List Ev → Int → Option (List Ev × Int)
  | [], es, at_ => some (es, at_)
  | (set, ok) :: cs, es, at_ => match colR b ok es.length true 0 0 at_ [] with
    | none => none
    | some (vs, x) => colsR b cs (List.zipWith set es vs) x
def unpackIn (u : List UInt8) : Int × List Ev × Int :=
  if ¬ denseS <+: u then (0, [], 10) else
  if (getU u 4).2.2 ≠ 0 ∨ 4611686018427387904 < (getU u 4).1 then (0, [], 10) else
  if (getU u (getU u 4).2.1).2.2 ≠ 0 ∨ (getU u (getU u 4).2.1).1 < 1 ∨ 1048576 < (getU u (getU u 4).2.1).1 then (0, [], 10) else
  match colsR u cols (List.replicate (getU u (getU u 4).2.1).1 Ev.zero) (getU u (getU u 4).2.1).2.1 with
  | none => (0, [], 10)
  | some (es, at_) => if at_ < u.length then (0, [], 10) else (((getU u 4).1 : Int), es, 0)
def unpackB (b : List UInt8) : Int × List Ev × Int := if (unsealB b).2 ≠ 0 then (0, [], (unsealB b).2) else unpackIn (unsealB b).1
theorem deltas_in : ∀ (l : List Int) (a : Int), ∀ x ∈ deltas a l, in64 x
  | [], _, _, h => by cases h
  | y :: l, a, x, h => by
    simp only [deltas, List.mem_cons] at h
    rcases h with rfl | h
    · exact w64_in _
    · exact deltas_in l _ x h
theorem col_at (ok : Int → Bool) (l : List Int) (a rest : List UInt8) (h1 : ∀ x ∈ l, in64 x) (h2 : l.length < 2 ^ 64) (h3 : l.all ok = true) :
    colR (a ++ (colB l ++ rest)) ok l.length true 0 0 a.length [] = some (l, (((a ++ colB l).length : Nat) : Int)) := by
  have := colR_at ok l.length (deltas 0 l) (by rw [deltas_len]; exact Nat.le_refl _) a rest true 0 0 [] (deltas_in l 0) (by rw [deltas_len]; exact h2) (by simp) (by rw [sums_deltas l 0 h1]; exact h3)
  rw [deltas_len, sums_deltas l 0 h1] at this
  exact this
theorem zip_set (set : Ev → Int → Ev) (f : Ev → Int) (g : Ev → Ev) : ∀ (l : List Ev), List.zipWith set (l.map g) (l.map f) = l.map fun e => set (g e) (f e)
  | [] => rfl
  | e :: l => by simp [zip_set set f g l]
theorem unpack_at {n : Nat} (hn : n ≤ 4611686018427387904) {l : List Ev} (h1 : 1 ≤ l.length) (h2 : l.length ≤ 1048576) (h : ∀ e ∈ l, e.Ok) : unpackB (packB n l) = ((n : Int), l, 0) := by
  have hl : l.length < 2 ^ 64 := by omega
  have hin : ∀ f : Ev → Int, (∀ e, e.Ok → in64 (f e)) → ∀ x ∈ l.map f, in64 x := fun f hf x hx => by
    obtain ⟨e, he, rfl⟩ := List.mem_map.1 hx
    exact hf e (h e he)
  have hop : ∀ e : Ev, in64 (e.op.toNat : Int) := fun e => by
    have := e.op.toNat_lt
    unfold in64; omega
  unfold unpackB packB
  rw [unsealB_seal, if_neg (by simp)]
  simp only
  unfold unpackIn
  have hp : denseS <+: packIn n l := ⟨_, rfl⟩
  have g1 := getU_at denseS (uintB l.length ++ picks.flatMap fun f => colB (l.map f)) n (by omega)
  have g2 := getU_at (denseS ++ uintB n) (picks.flatMap fun f => colB (l.map f)) l.length hl
  rw [List.append_assoc] at g2
  have g1 : getU (packIn n l) 4 = (n, (((denseS ++ uintB n).length : Nat) : Int), 0) := g1
  have g2 : getU (packIn n l) ((denseS ++ uintB n).length : Nat) = (l.length, (((denseS ++ uintB n ++ uintB l.length).length : Nat) : Int), 0) := g2
  rw [if_neg (by simpa using hp), g1]
  simp only
  rw [if_neg (by omega), g2]
  simp only
  rw [if_neg (by omega)]
  obtain ⟨a0, ha0⟩ : ∃ a, denseS ++ uintB n ++ uintB l.length = a := ⟨_, rfl⟩
  have hpk : packIn n l = a0 ++ (colB (l.map Ev.thread) ++ (colB (l.map fun e => (e.op.toNat : Int)) ++ (colB (l.map Ev.obj) ++ (colB (l.map Ev.a) ++ (colB (l.map Ev.b) ++ []))))) := by
    rw [← ha0]; simp [packIn, picks]
  rw [ha0, hpk]
  obtain ⟨A, hA⟩ : ∃ A, colB (l.map Ev.thread) = A := ⟨_, rfl⟩
  obtain ⟨B, hB⟩ : ∃ A, colB (l.map fun e => (e.op.toNat : Int)) = A := ⟨_, rfl⟩
  obtain ⟨C, hC⟩ : ∃ A, colB (l.map Ev.obj) = A := ⟨_, rfl⟩
  obtain ⟨D, hD⟩ : ∃ A, colB (l.map Ev.a) = A := ⟨_, rfl⟩
  obtain ⟨E, hE⟩ : ∃ A, colB (l.map Ev.b) = A := ⟨_, rfl⟩
  have c1 := col_at okAny (l.map Ev.thread) a0 (B ++ (C ++ (D ++ (E ++ [])))) (hin _ fun e he => he.thread) (by simpa using hl) (by simp [okAny])
  have c2 := col_at okOp (l.map fun e => (e.op.toNat : Int)) (a0 ++ A) (C ++ (D ++ (E ++ []))) (hin _ fun e _ => hop e) (by simpa using hl) (by
    simp only [List.all_map, List.all_eq_true, Function.comp, okOp, Bool.and_eq_true, decide_eq_true_eq]
    intro e _
    have := e.op.toNat_lt
    omega)
  have c3 := col_at okAny (l.map Ev.obj) (a0 ++ A ++ B) (D ++ (E ++ [])) (hin _ fun e he => he.obj) (by simpa using hl) (by simp [okAny])
  have c4 := col_at okAny (l.map Ev.a) (a0 ++ A ++ B ++ C) (E ++ []) (hin _ fun e he => he.a) (by simpa using hl) (by simp [okAny])
  have c5 := col_at okAny (l.map Ev.b) (a0 ++ A ++ B ++ C ++ D) [] (hin _ fun e he => he.b) (by simpa using hl) (by simp [okAny])
  rw [hA] at c1
  rw [hB] at c2
  rw [hC] at c3
  rw [hD] at c4
  rw [hE] at c5
  simp only [List.append_assoc, List.length_map] at c1 c2 c3 c4 c5
  rw [hA, hB, hC, hD, hE]
  have er : List.replicate l.length Ev.zero = l.map fun _ => Ev.zero := by simp [List.map_const']
  have key : colsR (a0 ++ (A ++ (B ++ (C ++ (D ++ (E ++ [])))))) cols (List.replicate l.length Ev.zero) a0.length = some (l, (((a0 ++ (A ++ (B ++ (C ++ (D ++ E))))).length : Nat) : Int)) := by
    rw [er]
    unfold cols
    simp only [colsR, List.length_map, c1, zip_set, c2, c3, c4, c5]
    congr 2
    refine (List.map_congr_left fun e _ => ?_).trans (List.map_id l)
    have := e.op.toNat_lt
    have e2 : ((e.op.toNat : Int) % 256).toNat = e.op.toNat := by omega
    simp only [setB, setA, setObj, setOp, setT, e2, UInt8.ofNat_toNat, id]
  rw [key]
  simp only
  rw [if_neg (by simp)]
end Go.Proofs.YtjapijndljknnaaGreatDoor

/-
  A log behind some frames of at most 30 events, on any disk: bounds; it is over exactly where a call erred (plain words).
-/
namespace Go.Proofs.YtjapijndljknnaaGreatDoor
open Go
set_option maxRecDepth 100000
theorem frm_le30 {es : List Ev} (h : es.length ≤ 30) : (frmB es).length ≤ 1239 := by
  have := frameB_len (sum := sumB) (fun b => sumB_len b) es (by omega)
  have e : (frmB es).length = (frameB sumB es).length := rfl
  omega
structure Bk (z : Int) (c : Nat) (L : Lg) : Prop where
  some_ : L.l ≠ []
  len : L.l.length ≤ c + 1
  n : L.n ≤ 30 * c
  bytes : L.bytes ≤ 18 + c * 1239
  size : L.size = z
  last : 0 ≤ (lastP L.l).first
theorem Bk.new {z : Int} : Bk z 0 (newLg z) := by
  have hb : (headB 0).length ≤ 18 := headB_len (n := 0) (by omega)
  exact ⟨by simp [newLg], by simp [newLg], by simp [newLg], by simpa [newLg] using hb, rfl, by simp [newLg, lastP]⟩
section
variable {z : Int} {c : Nat} {d : Dsk} {L : Lg} {es : List Ev}
theorem Bk.mono {c' : Nat} (h : Bk z c L) (hc : c ≤ c') : Bk z c' L := ⟨h.some_, by have := h.len; omega, by have := h.n; omega, by have := h.bytes; have := Nat.mul_le_mul_right 1239 hc; omega, h.size, h.last⟩
theorem Bk.same {L' : Lg} (h : Bk z c L) (h1 : L'.l = L.l) (h2 : L'.n = L.n) (h3 : L'.bytes = L.bytes) (h4 : L'.size = L.size) : Bk z c L' :=
  ⟨by rw [h1]; exact h.some_, by rw [h1]; exact h.len, by rw [h2]; exact h.n, by rw [h3]; exact h.bytes, by rw [h4]; exact h.size, by rw [h1]; exact h.last⟩
theorem another_any (L : Lg) (d : Dsk) : (L.another d).L.over = L.over ∧ (L.another d).L.n = L.n ∧ (L.another d).L.size = L.size ∧
    (((L.another d).L.l = L.l ∧ (L.another d).L.bytes = L.bytes) ∨ ((L.another d).L.l = morePcs L ∧ (L.another d).L.bytes = (headB L.n).length)) := by
  unfold Lg.another
  repeat' split
  all_goals exact ⟨rfl, rfl, rfl, by first | exact .inl ⟨rfl, rfl⟩ | exact .inr ⟨rfl, rfl⟩⟩
theorem morePcs_len (h : L.l ≠ []) : (morePcs L).length = L.l.length + 1 := by
  have := List.length_pos_iff.2 h
  simp only [morePcs, List.length_append, List.length_dropLast, List.length_cons, List.length_nil]
  omega
theorem morePcs_last (L : Lg) : lastP (morePcs L) = ⟨segName L.n, L.n, 0, false⟩ := by
  unfold morePcs
  rw [show ∀ (a : List Pc) (x y : Pc), a ++ [x, y] = (a ++ [x]) ++ [y] by intro a x y; simp, lastP_snoc]
theorem Bk.roomed (h : Bk z c L) (hc : c ≤ 1000000) : (L.roomed d).L.over = L.over ∧ (L.roomed d).L.n = L.n ∧ (L.roomed d).L.bytes ≤ 18 + c * 1239 ∧ (L.roomed d).L.size = z ∧ (L.roomed d).L.l ≠ [] ∧ (L.roomed d).L.l.length ≤ c + 2 ∧ 0 ≤ (lastP (L.roomed d).L.l).first := by
  have hl := h.len
  have hs := h.some_
  unfold Lg.roomed
  split
  · obtain ⟨a1, a2, a3, ⟨a4, a5⟩ | ⟨a4, a5⟩⟩ := another_any L d
    · exact ⟨a1, a2, by rw [a5]; exact h.bytes, by rw [a3]; exact h.size, by rw [a4]; exact hs, by rw [a4]; omega, by rw [a4]; exact h.last⟩
    · have hh : (headB L.n).length ≤ 18 := headB_len (n := L.n) (by have := h.n; omega)
      refine ⟨a1, a2, by rw [a5]; omega, by rw [a3]; exact h.size, by rw [a4]; simp [morePcs], by rw [a4, morePcs_len hs]; omega, by rw [a4, morePcs_last]; simp⟩
  · exact ⟨rfl, rfl, h.bytes, h.size, hs, by simp only; omega, h.last⟩
/-- Behind Append. -/
theorem Bk.add (h : Bk z c L) (hc : c ≤ 1000000) (ho : L.over = false) (h1 : es.length ≠ 0) (h2 : es.length ≤ 30) : Bk z (c + 1) (L.add d es).L ∧ (L.add d es).L.over = decide ((L.add d es).e ≠ 0) := by
  obtain ⟨r1, r2, r3, r4, r5, r6, r7⟩ := h.roomed (d := d) hc
  have hf := frm_le30 h2
  have hn := h.n
  have hm : 18 + c * 1239 + 1239 = 18 + (c + 1) * 1239 := by rw [Nat.add_mul]; omega
  unfold Lg.add
  rw [if_neg (by rw [ho]; simp), if_neg h1, if_neg (by omega)]
  split
  · rename_i he
    exact ⟨⟨r5, r6, by simp only; omega, by simp only; omega, r4, r7⟩, by simp [he]⟩
  · rename_i he
    unfold Lg.put
    split
    · rename_i hp
      exact ⟨⟨r5, r6, by simp only; omega, by simp only; omega, r4, r7⟩, by simp [hp]⟩
    · exact ⟨⟨r5, r6, by simp only; omega, by simp only; omega, r4, r7⟩, by simp only; rw [r1, ho]; simp⟩
end
end Go.Proofs.YtjapijndljknnaaGreatDoor

/-
  Compaction (package compact) in plain words; what it leaves tells the same.
-/
namespace Go.Proofs.YtjapijndljknnaaGreatDoor
open Go
set_option maxRecDepth 100000
def rmEach : List Pc → Dsk → Dsk × Int
  | [], d => (d, 0)
  | q :: A, d => if (d.remove q.name).2 ≠ 0 then d.remove q.name else rmEach A (d.remove q.name).1
structure CompR where
  d : Dsk
  L : Lg
  n : Nat
  e : Int
def densePc (n : Nat) : Pc := ⟨dName n, 0, n, true⟩
/-- There is nothing to compact. -/
def lone : List Pc → Bool
  | [] => true
  | [q] => q.dense
  | _ => false
def compD (all : List Ev) (L : Lg) (d : Dsk) : CompR :=
  if L.over then ⟨d, L, 0, 16⟩ else
  if lone L.l.dropLast then ⟨d, L, 0, 0⟩ else
  if d.down then ⟨d, L, 0, 15⟩ else
  if (d.fresh (dName (lastP L.l).first.toNat) (packB 0 (all.take (lastP L.l).first.toNat))).2 ≠ 0 then
    ⟨(d.fresh (dName (lastP L.l).first.toNat) (packB 0 (all.take (lastP L.l).first.toNat))).1, L, 0, (d.fresh (dName (lastP L.l).first.toNat) (packB 0 (all.take (lastP L.l).first.toNat))).2⟩ else
  if (L.swap (d.fresh (dName (lastP L.l).first.toNat) (packB 0 (all.take (lastP L.l).first.toNat))).1 [densePc (lastP L.l).first.toNat]).e ≠ 0 then
    ⟨(L.swap (d.fresh (dName (lastP L.l).first.toNat) (packB 0 (all.take (lastP L.l).first.toNat))).1 [densePc (lastP L.l).first.toNat]).d, (L.swap (d.fresh (dName (lastP L.l).first.toNat) (packB 0 (all.take (lastP L.l).first.toNat))).1 [densePc (lastP L.l).first.toNat]).L, 0,
      (L.swap (d.fresh (dName (lastP L.l).first.toNat) (packB 0 (all.take (lastP L.l).first.toNat))).1 [densePc (lastP L.l).first.toNat]).e⟩ else
  if (rmEach L.l.dropLast (L.swap (d.fresh (dName (lastP L.l).first.toNat) (packB 0 (all.take (lastP L.l).first.toNat))).1 [densePc (lastP L.l).first.toNat]).d).2 ≠ 0 then
    ⟨(rmEach L.l.dropLast (L.swap (d.fresh (dName (lastP L.l).first.toNat) (packB 0 (all.take (lastP L.l).first.toNat))).1 [densePc (lastP L.l).first.toNat]).d).1, (L.swap (d.fresh (dName (lastP L.l).first.toNat) (packB 0 (all.take (lastP L.l).first.toNat))).1 [densePc (lastP L.l).first.toNat]).L, 0,
      (rmEach L.l.dropLast (L.swap (d.fresh (dName (lastP L.l).first.toNat) (packB 0 (all.take (lastP L.l).first.toNat))).1 [densePc (lastP L.l).first.toNat]).d).2⟩ else
  ⟨(rmEach L.l.dropLast (L.swap (d.fresh (dName (lastP L.l).first.toNat) (packB 0 (all.take (lastP L.l).first.toNat))).1 [densePc (lastP L.l).first.toNat]).d).1, (L.swap (d.fresh (dName (lastP L.l).first.toNat) (packB 0 (all.take (lastP L.l).first.toNat))).1 [densePc (lastP L.l).first.toNat]).L, L.l.dropLast.length, 0⟩
theorem dName_inj {a b : Nat} (h : dName a = dName b) : a = b := by
  unfold dName at h
  rw [← valD_dec a, ← valD_dec b, (List.cons.inj h).2]
theorem dName_seg (a b : Nat) : dName a ≠ segName b := fun h => absurd (List.cons.inj h).1 (by decide)
theorem dName_ok {n : Nat} (h : n < 2 ^ 64) : okPiece (dName n) = true := by
  have hl := Lib.nDigits_le20 n (by omega)
  have hd := Lib.decDigits_length n
  have h1 : okName (dName n) = true := by
    unfold okName dName
    simp only [List.isEmpty_cons, Bool.not_false, Bool.true_and, List.length_cons, List.all_cons, Bool.and_eq_true, decide_eq_true_eq]
    refine ⟨by omega, by decide, List.all_eq_true.2 (dec_char n)⟩
  have h2 : dName n ≠ manifestS := fun h => absurd (List.cons.inj h).1 (by decide)
  have h3 : dName n ≠ nextS := fun h => absurd (List.cons.inj h).1 (by decide)
  simp [okPiece, h1, h2, h3]
section
variable {d : Dsk} {L : Lg} {all old : List Ev} {A : List Pc} {p : Pc} {fs : List (List Ev)} {m : Nat} {F F' : List (Str × DFile)}
theorem sealed_pos {seen : List Str} {first : Int} : ∀ {A : List Pc}, sealedFrom seen first A = true → A = [] ∨ first < endOf first A := by
  intro A h
  cases A with
  | nil => exact .inl rfl
  | cons q A =>
    have := (sealed_end _ _ _ h).2 q (by simp)
    exact .inr (by omega)
theorem sealedF_names {U : List UInt8 → Int × List Ev × Int} : ∀ {A : List Pc} {es : List Ev}, sealedF (WholeU U) F A es → ∀ q ∈ A, NameOk q
  | [], _, _, _, hq => by cases hq
  | x :: A, es, ⟨b, e1, e2, h1, h2, h3, h4⟩, q, hq => by
    rcases List.mem_cons.1 hq with rfl | hq
    · exact h2.2.2.2
    · exact sealedF_names h4 q hq
/-- No piece has the new one's name. -/
theorem KIn.fresh_name (h : KIn (WholeU unpackB) F L all A p old fs m) (hl : lone A = false) : ∀ q ∈ L.l, q.name ≠ dName p.first.toNat := by
  intro q hq he
  rw [h.l, List.mem_append, List.mem_singleton] at hq
  rcases hq with hq | rfl
  · have hn := sealedF_names h.old_ q hq
    cases hd : q.dense with
    | false => rw [hn.1 hd] at he; exact dName_seg _ _ he.symm
    | true =>
      obtain ⟨h0, h1⟩ := hn.2 hd
      rw [h1] at he
      have hc := dName_inj he
      have hf := h.right.first
      have hs := h.right.sealed_
      cases A with
      | nil => cases hq
      | cons x A =>
        have hs' := hs
        simp only [sealedFrom, Bool.and_eq_true, decide_eq_true_eq] at hs'
        obtain ⟨⟨⟨⟨-, h2⟩, h3⟩, h4⟩, h5⟩ := hs'
        have e2 := (sealed_end _ _ _ h5)
        rcases List.mem_cons.1 hq with rfl | hq
        · have hA := sealed_pos h5
          simp only [endOf] at hf
          rcases hA with rfl | hA
          · simp [lone, hd] at hl
          · omega
        · have := e2.2 q hq
          omega
  · rw [h.pname] at he; exact dName_seg _ _ he.symm
theorem remove_oth (hn : (namesF d.files).Nodup) (n : Str) : Oth (· = n) d.files (d.remove n).1.files := by
  obtain ⟨d1, x, hr⟩ : ∃ d1 x, d.remove n = (d1, x) := ⟨_, _, rfl⟩
  rw [hr]
  unfold Dsk.remove at hr
  rcases op_cases hr with ⟨rfl, hf, -⟩ | ⟨hx, hf, hc⟩
  · simp only [hf]
    exact ⟨nodup_delF hn n, fun m hm => by rw [fileOf_delF hn, if_neg (Ne.symm hm)]⟩
  · simp only [hf]
    exact Oth.refl hn
theorem rmEach_oth : ∀ (A : List Pc) (d : Dsk), (namesF d.files).Nodup → Oth (fun x => x ∈ A.map Pc.name) d.files (rmEach A d).1.files
  | [], d, hn => Oth.refl hn
  | q :: A, d, hn => by
    have h1 := (remove_oth hn q.name).weak (Q := fun x => x ∈ (q :: A).map Pc.name) fun m hm => by subst hm; simp
    unfold rmEach
    split
    · exact h1
    · exact h1.trans ((rmEach_oth A _ h1.1).weak fun m hm => by simp at hm ⊢; exact .inr hm)
/-- What compaction leaves. -/
theorem comp_keeps (h : KInv (WholeU unpackB) d.files L all) (hok : ∀ e ∈ all, e.Ok) (hall : all.length ≤ 1048576) :
    Rt (WholeU unpackB) (compD all L d).d.files all L.acked ∧ ((compD all L d).e = 0 → KInv (WholeU unpackB) (compD all L d).d.files (compD all L d).L all ∧ (compD all L d).L.acked = L.acked ∧ (compD all L d).L.n = L.n ∧ (compD all L d).L.size = L.size ∧ (compD all L d).L.bytes = L.bytes ∧ lone (compD all L d).L.l.dropLast = true ∧ (compD all L d).L.over = false ∧ lastP (compD all L d).L.l = lastP L.l) := by
  have hk := h
  obtain ⟨A, p, old, fs, m, h⟩ := h
  have hb := right_bound h.right p (by simp)
  have hfi := h.first
  have hpn : p.first.toNat = old.length := by omega
  have hto : all.take p.first.toNat = old := by rw [h.all_, hpn, List.take_left]
  have hlast := h.last
  have hdl : L.l.dropLast = A := by rw [h.l]; simp
  unfold compD
  rw [hlast, hdl, hto]
  split
  · exact ⟨hk.rt, fun h => absurd h (by simp)⟩
  rename_i hov
  have hov : L.over = false := by simpa using hov
  split
  · rename_i hl
    exact ⟨hk.rt, fun _ => ⟨hk, rfl, rfl, rfl, rfl, by rw [hdl]; exact hl, hov, hlast⟩⟩
  rename_i hl
  have hl : lone A = false := by simpa using hl
  split
  · exact ⟨hk.rt, fun h => absurd h (by simp)⟩
  have hfresh := h.fresh_name hl
  obtain ⟨f1, f2⟩ := fresh_files (d := d) (n := dName p.first.toNat) (b := packB 0 old) h.nd
  have hmn : manifestS ≠ dName p.first.toNat := fun hc => absurd (List.cons.inj hc).1 (by decide)
  have hnn : nextS ≠ dName p.first.toNat := fun hc => absurd (List.cons.inj hc).1 (by decide)
  have K1 : KIn (WholeU unpackB) (d.fresh (dName p.first.toNat) (packB 0 old)).1.files L all A p old fs m := h.files f1.1 fun x hx => f1.2 x (by
    rcases hx with rfl | ⟨q, hq, rfl⟩
    · exact hmn
    · exact hfresh q hq)
  generalize d.fresh (dName p.first.toNat) (packB 0 old) = r1 at *
  split
  · exact ⟨(KInv.rt ⟨_, _, _, _, _, K1⟩), fun h => by rename_i h0; exact absurd h h0⟩
  rename_i h0
  have h0 : r1.2 = 0 := by
    rcases Decidable.em (r1.2 = 0) with h | h
    · exact h
    · exact absurd h h0
  have hfile := f2 h0
  have hold1 : 1 ≤ old.length := by
    have := sealed_pos h.right.sealed_
    rcases this with rfl | hh
    · simp [lone] at hl
    · rw [← h.right.first] at hh; omega
  have hup := unpack_at (n := 0) (by omega) hold1 (by have := h.all_; rw [this, List.length_append] at hall; omega) (fun e he => hok e (by rw [h.all_]; simp [he]))
  unfold Lg.swap
  rw [hov, hlast]
  simp only [Bool.false_eq_true, if_false]
  have hl2 : [densePc p.first.toNat] ++ [p] = [densePc p.first.toNat, p] := rfl
  obtain ⟨i1, i2, i3⟩ := install_files (d := r1.1) (l := [densePc p.first.toNat, p]) K1.nd
  have hok2 := right_name h.right
  have K2o : ∀ x, x ∉ [nextS, manifestS] → fileOf (r1.1.install [densePc p.first.toNat, p]).1.files x = fileOf r1.1.files x := fun x hx => i1.2 x (by simpa using hx)
  have hnm : ∀ q ∈ L.l, q.name ∉ [nextS, manifestS] := fun q hq => by
    have := okPiece_name (hok2 q (by rw [← h.l]; exact hq))
    simp [this.2.1, this.2.2]
  generalize hgen : r1.1.install [densePc p.first.toNat, p] = r2 at *
  have hgen' : r1.1.install ([densePc p.first.toNat] ++ [p]) = r2 := hgen
  rw [hgen']
  by_cases hr : rightL ([densePc p.first.toNat] ++ [p]) = false
  · rw [if_pos hr]
    simp only
    rw [if_pos (by decide)]
    exact ⟨(KInv.rt ⟨_, _, _, _, _, K1⟩), fun h => by simp at h⟩
  rw [if_neg hr]
  by_cases h2 : r2.2 = 0
  case neg =>
    rw [if_pos h2]
    simp only
    rw [if_pos h2]
    have K2 : KIn (WholeU unpackB) r2.1.files L all A p old fs m := K1.files i1.1 fun x hx => by
      rcases hx with rfl | ⟨q, hq, rfl⟩
      · exact i3 h2
      · exact K2o _ (hnm q hq)
    exact ⟨(KInv.rt ⟨_, _, _, _, _, K2⟩), fun h => absurd h h2⟩
  rw [if_neg (show ¬ r2.2 ≠ 0 by simp [h2])]
  simp only
  rw [if_neg (show ¬ (0 : Int) ≠ 0 by simp)]
  obtain ⟨i4, i5⟩ := i2 h2
  have hR : RightP [densePc p.first.toNat] p := (rightL_iff _ _).1 i4
  have hdn : dName p.first.toNat ∉ [nextS, manifestS] := by simp [hmn.symm, hnn.symm]
  have hpn' : p.name ≠ dName p.first.toNat := hfresh p (by rw [h.l]; simp)
  have K3 : KIn (WholeU unpackB) r2.1.files { L with l := [densePc p.first.toNat] ++ [p] } all [densePc p.first.toNat] p old fs m := by
    refine ⟨i1.1, rfl, hR, i5, ?_, ?_, h.m_, h.fr, h.first, h.all_, h.n, h.acked, fun k hk hm => ?_, h.pname⟩
    · refine ⟨packB 0 old, old, [], ?_, ⟨?_, ?_, ?_⟩, by simp, rfl⟩
      · show fileOf r2.1.files (dName p.first.toNat) = _
        rw [K2o _ hdn, hfile]
      · show segR unpackB true (packB 0 old) = _
        unfold segR
        rw [hup]
        rfl
      · show ((p.first.toNat : Nat) : Int) = _
        omega
      · refine ⟨?_, ?_⟩
        · unfold packB sealB packIn denseS; simp
        · exact ⟨fun h => by simp [densePc] at h, fun _ => ⟨rfl, by show dName _ = dName ((p.first.toNat : Nat) : Int).toNat; rw [Int.toNat_natCast]⟩⟩
    · rw [K2o _ (hnm p (by rw [h.l]; simp))]; exact K1.open_
    · simp only [List.map_append, List.map_cons, List.map_nil, List.mem_append, List.mem_singleton] at hm
      rcases hm with hm | hm
      · exact dName_seg _ _ hm.symm
      · rw [h.pname] at hm
        have := segName_inj hm
        omega
  have hrm := rmEach_oth A r2.1 K3.nd
  have hnotA : ∀ x ∈ A.map Pc.name, x ≠ manifestS ∧ x ≠ dName p.first.toNat ∧ x ≠ p.name := fun x hx => by
    obtain ⟨q, hq, rfl⟩ := List.mem_map.1 hx
    have hq' : q ∈ L.l := by rw [h.l]; simp [hq]
    exact ⟨(okPiece_name (hok2 q (by simp [hq]))).2.1, hfresh q hq', fun hc => h.right.apart (by rw [← hc]; exact hx)⟩
  have K4 : KIn (WholeU unpackB) (rmEach A r2.1).1.files { L with l := [densePc p.first.toNat] ++ [p] } all [densePc p.first.toNat] p old fs m := K3.files hrm.1 fun x hx => hrm.2 x fun hc => by
    obtain ⟨n1, n2, n3⟩ := hnotA x hc
    rcases hx with rfl | ⟨q, hq, rfl⟩
    · exact n1 rfl
    · simp only [List.mem_append, List.mem_singleton] at hq
      rcases hq with rfl | rfl
      · exact n2 rfl
      · exact n3 rfl
  generalize rmEach A r2.1 = r3 at *
  have hR4 : Rt (WholeU unpackB) r3.1.files all L.acked := KInv.rt (L := { L with l := [densePc p.first.toNat] ++ [p] }) ⟨_, _, _, _, _, K4⟩
  split
  · rename_i h3
    exact ⟨hR4, fun h => absurd h h3⟩
  · refine ⟨hR4, fun _ => ⟨⟨_, _, _, _, _, K4.lg rfl rfl rfl⟩, rfl, rfl, rfl, rfl, rfl, rfl, ?_⟩⟩
    simp only
    rw [lastP_snoc]
end
end Go.Proofs.YtjapijndljknnaaGreatDoor
