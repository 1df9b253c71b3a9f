/-
  Texts merged by a program of this claim's: KeepUse, KeepUse2, Rgn, RgnH, Law6C, KeepsR.
-/
import Derived.Test.YtphgiobklbpdeaaGreatDoorM31
import Derived.Test.YtphgiobklbpdeaaGreatDoorM37
import Derived.Test.YtphgiobklbpdeaaGreatDoorM34
import Derived.Test.YtphgiobklbpdeaaGreatDoorM36
import Derived.Test.YtphgiobklbpdeaaGreatDoorM28
import Derived.Test.YtphgiobklbpdeaaGreatDoorM19
import Derived.Test.YtphgiobklbpdeaaGreatDoorM22
/-
  A log on any disk behind a frame, whether it is over or not, in plain words.
-/
namespace Go.Proofs.YtphgiobklbpdeaaGreatDoor
open Go
theorem Bk.addAny {z : Int} {c : Nat} {d : Dsk} {L : Lg} {es : List Ev} (h : Bk z c L) (hc : c ≤ 1000000) (h1 : es.length ≠ 0) (h2 : es.length ≤ 30) : Bk z (c + 1) (L.add d es).L ∧ (((L.add d es).e == 16) = L.over) ∧ ((L.add d es).e = 0 → L.over = false) := by
  cases ho : L.over
  case true =>
    have e : L.add d es = ⟨d, L, 16⟩ := by unfold Lg.add; rw [if_pos ho]
    rw [e]
    exact ⟨h.mono (by omega), rfl, fun h => absurd h (by simp)⟩
  case false =>
    refine ⟨(h.add hc ho h1 h2).1, ?_, fun _ => by first | rfl | trivial⟩
    have := add_code (d := d) ho es
    simpa using this
theorem Bk.syncAny {z : Int} {c : Nat} {d : Dsk} {L : Lg} (h : Bk z c L) : Bk z c (L.sync d).L := by
  unfold Lg.sync
  split
  · exact h
  · split
    · exact h.same rfl rfl rfl rfl
    · exact h.same rfl rfl rfl rfl
theorem armed_files (d : Dsk) (n : Int) : (d.armed n).files = d.files := by
  unfold Dsk.armed
  split <;> rfl
theorem KInv.okAll {Wh : Pc → List UInt8 → List Ev → Prop} {F : List (Str × DFile)} {L : Lg} {all : List Ev} (_h : KInv Wh F L all) : True := trivial
end Go.Proofs.YtphgiobklbpdeaaGreatDoor

/-
  A log that was opened anew, on any disk, behind frames: what its calls ask; plain words for RecoverKeeps.
-/
namespace Go.Proofs.YtphgiobklbpdeaaGreatDoor
open Go Go.RowKit Go.Sort
set_option maxRecDepth 100000
structure Rk (z : Int) (c : Nat) (L : Lg) : Prop where
  bytes : L.bytes ≤ 16777234 + c * 1239
  size : L.size = z
section
variable {z : Int} {c : Nat} {L : Lg} {d : Dsk} {es all told : List Ev} {Wh : Pc → List UInt8 → List Ev → Prop} {F : List (Str × DFile)}
theorem KInv.facts (h : KInv Wh F L all) : L.n = all.length ∧ L.l.length ≤ 100 ∧ 0 ≤ (lastP L.l).first ∧ L.l ≠ [] := by
  obtain ⟨A, p, old, fs, m, h⟩ := h
  have hr := (rightL_iff A p).2 h.right
  have h2 := (rightL_bound hr).2.1
  have h3 := right_bound h.right p (by simp)
  refine ⟨h.n, by rw [h.l]; exact h2, by rw [h.last]; exact h3.1, by rw [h.l]; simp⟩
theorem another_size (L : Lg) (d : Dsk) : (L.another d).L.size = L.size := by
  unfold Lg.another
  repeat' split
  all_goals rfl
theorem Rk.add (h : Rk z c L) (hn : L.n < 2 ^ 64) (h2 : es.length ≤ 30) : Rk z (c + 1) (L.add d es).L := by
  have hf := frm_le h2
  have hb := h.bytes
  have hr : (L.roomed d).L.bytes ≤ 16777234 + c * 1239 ∧ (L.roomed d).L.size = z := by
    unfold Lg.roomed
    split
    · have h1 := (another_small L d).2
      have h3 := headB_len hn
      exact ⟨by omega, (another_size L d).trans h.size⟩
    · exact ⟨hb, h.size⟩
  unfold Lg.add
  repeat' split
  · exact ⟨by simp only; omega, h.size⟩
  · exact ⟨by simp only; omega, h.size⟩
  · exact ⟨by simp only; omega, h.size⟩
  · exact ⟨by simp only; omega, hr.2⟩
  · unfold Lg.put
    split
    · exact ⟨by simp only; omega, hr.2⟩
    · exact ⟨by simp only; omega, hr.2⟩
theorem Rk.sync (h : Rk z c L) : Rk z c (L.sync d).L := by
  unfold Lg.sync
  repeat' split
  · exact h
  · exact ⟨h.bytes, h.size⟩
  · exact ⟨h.bytes, h.size⟩
theorem Rk.mono {c' : Nat} (h : Rk z c L) (hc : c ≤ c') : Rk z c' L := ⟨by have := h.bytes; have := Nat.mul_le_mul_right 1239 hc; omega, h.size⟩
variable {X : Nat → Prop} {w0 w : World} {p b : Nat}
theorem Rk.call (h : HasL X w0 w p b d L) (hk : KInv Wh d.files L all) (hr : Rk z c L) (hz : in64 z) (hc : c ≤ 1000) (ha : all.length ≤ 1000000) (ht : Tab w0) {v : Value} (hv : Evs w v es) :
    Calls Tryz.prog 54 #[.pointer (some ⟨p, 0, none⟩), v] w (DidL X w0 w p b (L.add d es).d (L.add d es).L (.int .i64 (L.add d es).e)) := by
  obtain ⟨f1, f2, f3, -⟩ := hk.facts
  have hb := hr.bytes
  exact LAppend_ok h ht ⟨by omega, by omega⟩ f3 (by omega) (by rw [hr.size]; exact hz) hv h.pok
end
section
variable {U : List UInt8 → Int × List Ev × Int} {d : Dsk} {size : Int} {told all : List Ev} {s : Nat}
theorem file_le (ok : d.Ok) (n : Str) : (fileOf d.files n).bytes.length ≤ 16777216 := by
  unfold fileOf
  cases hg : getF d.files n with
  | none => simp
  | some f => exact bytes_le ok hg
theorem open_rk (ok : (openD U d size).d.Ok) (h0 : (openD U d size).e = 0) : (openD U d size).L.bytes ≤ 16777234 := by
  have h9 : (headB 0).length ≤ 18 := headB_len (by decide)
  unfold openD at ok h0 ⊢
  split
  · simp only [newLg]; omega
  rename_i c1
  rw [if_neg c1] at ok h0
  split
  · simp only [newLg]; omega
  rename_i c2
  rw [if_neg c2] at ok h0
  split
  · split
    · simp only [newLg]; omega
    · simp only [newLg]; omega
  rename_i c3
  rw [if_neg c3] at ok h0
  split
  · simp only [newLg]; omega
  rename_i c4
  rw [if_neg c4] at ok h0
  simp only at ok
  have hz : (resumeD (mendD U d).d size (mendD U d).ps (mendD U d).es.length).2 = 0 := by
    rcases Decidable.em ((resumeD (mendD U d).d size (mendD U d).ps (mendD U d).es.length).2 = 0) with h | h
    · exact h
    · exact absurd h c4
  simp only [onLg]
  generalize (mendD U d).d = d2 at *
  unfold resumeD at ok hz
  split at hz
  · exact absurd hz (by simp)
  rename_i g1
  rw [if_neg g1] at ok
  split at hz
  · rename_i g2; exact absurd hz g2
  rename_i g2
  rw [if_neg g2] at ok
  obtain ⟨⟨d3, y⟩, hy⟩ : ∃ r, d2.sync (lastP (mendD U d).ps).name = r := ⟨_, rfl⟩
  rw [hy] at ok hz
  unfold Dsk.sync at hy
  rcases op_cases hy with ⟨-, hf, -⟩ | ⟨hne, -, -⟩
  · have := file_le ok (lastP (mendD U d).ps).name
    rw [hf, fileOf_setF, if_pos rfl] at this
    simp only at this
    omega
  · exact absurd hz hne
/-- A log that goes on: what holds of it. -/
theorem Rt.opened (hc : Calm d) (hm : d.most = 1048576) (h : Rt (WholeU U0) d.files told s) (hs : 64 ≤ size) (hs2 : size ≤ 16777216) (ht : told.length ≤ 1000000) (ok : (openD U0 d size).d.Ok) :
    (openD U0 d size).e = 0 ∧ (openD U0 d size).es = told ∧ KInv (WholeU U0) (openD U0 d size).d.files (openD U0 d size).L told ∧ (openD U0 d size).L.acked = told.length ∧ Rk size 0 (openD U0 d size).L ∧ Calm (openD U0 d size).d ∧ (openD U0 d size).d.most = 1048576 := by
  obtain ⟨a1, a2, a3⟩ := h.openCalm hc (by omega) hs hs2 (by omega)
  obtain ⟨b1, b2, b3, b4, -⟩ := (h.open_ (size := size)).1 a1
  exact ⟨a1, b1, b2, b3, ⟨by have := open_rk ok a1; omega, b4⟩, a2, by rw [a3]; exact hm⟩
/-- A crash: a beginning is left, with all that must be there. -/
theorem Rt.crashed (ok : d.Ok) (hn : (namesF d.files).Nodup) (h : Rt (WholeU U0) d.files told s) (ks : List Int) : ∃ i, s ≤ i ∧ i ≤ told.length ∧ Calm (d.crash ks) ∧ (d.crash ks).most = d.most ∧ Rt (WholeU U0) (d.crash ks).files (told.take i) i := by
  obtain ⟨i, i1, i2, i3⟩ := h.cr (crash_cr ok ks)
  exact ⟨i, i1, i2, crash_calm hn ks, rfl, i3⟩
/-- Another opening, whether it fails or not. -/
theorem Rt.again (h : Rt (WholeU U0) d.files told s) : Rt (WholeU U0) (openD U0 d size).d.files told s := by
  have hle := h.le
  obtain ⟨o1, o2⟩ := h.open_ (size := size)
  rcases Decidable.em ((openD U0 d size).e = 0) with he | he
  · obtain ⟨-, k, ka, -⟩ := o1 he
    exact k.rt.low (by rw [ka]; exact hle)
  · exact o2 he
theorem rt_new (m : Int) : Rt (WholeU U0) (newDsk m).files [] 0 := .inl ⟨⟨by simp [newDsk, namesF], by simp [newDsk, namesF]⟩, rfl, rfl⟩
theorem op_most (d : Dsk) (may : Int) (act : List (Str × DFile) → List (Str × DFile)) : (d.op may act).1.most = d.most := by
  unfold Dsk.op
  repeat' split
  all_goals rfl
theorem fresh_most (d : Dsk) (n : Str) (b : List UInt8) : (d.fresh n b).1.most = d.most := by
  have h1 : ∀ d : Dsk, (d.gone n).1.most = d.most := fun d => op_most d _ _
  have h2 : ∀ d : Dsk, (d.append n b).1.most = d.most := fun d => op_most d _ _
  have h3 : ∀ d : Dsk, (d.sync n).1.most = d.most := fun d => op_most d _ _
  unfold Dsk.fresh andThen
  repeat' split
  all_goals first | (rw [h3, h2, h1]) | (rw [h2, h1]) | (rw [h1])
theorem install_most (d : Dsk) (l : List Pc) : (d.install l).1.most = d.most := by
  unfold Dsk.install andThen
  repeat' split
  · exact (op_most _ _ _).trans (fresh_most _ _ _)
  · exact fresh_most _ _ _
  · rfl
theorem another_most (L : Lg) (d : Dsk) : (L.another d).d.most = d.most := by
  have h1 : ∀ (d : Dsk) (n : Str), (d.sync n).1.most = d.most := fun d n => op_most d _ _
  have h2 : ∀ (d : Dsk) (n : Nat), (d.begun n).1.most = d.most := fun d n => fresh_most d _ _
  unfold Lg.another
  repeat' split
  all_goals first | rfl | exact (install_most _ _).trans ((h2 _ _).trans (h1 _ _)) | exact (h2 _ _).trans (h1 _ _) | exact h1 _ _
theorem add_most (L : Lg) (d : Dsk) (es : List Ev) : (L.add d es).d.most = d.most := by
  have hr : (L.roomed d).d.most = d.most := by
    unfold Lg.roomed
    split
    · exact another_most L d
    · rfl
  unfold Lg.add
  repeat' split
  · rfl
  · rfl
  · rfl
  · exact hr
  · unfold Lg.put
    split
    · exact (op_most _ _ _).trans hr
    · exact (op_most _ _ _).trans hr
theorem sync_most (L : Lg) (d : Dsk) : (L.sync d).d.most = d.most := by
  unfold Lg.sync
  repeat' split
  · rfl
  · exact op_most _ _ _
  · exact op_most _ _ _
theorem createD_most (d : Dsk) (size : Int) : (createD d size).1.most = d.most := by
  unfold createD
  repeat' split
  · rfl
  · rfl
  · rfl
  · exact fresh_most _ _ _
  · exact (install_most _ _).trans (fresh_most _ _ _)
theorem rmAll_most (stays : List Str) : ∀ (l : List Str) (d : Dsk), (rmAll stays l d).1.most = d.most
  | [], d => rfl
  | n :: l, d => by
    unfold rmAll
    repeat' split
    · exact rmAll_most stays l d
    · exact op_most _ _ _
    · exact (rmAll_most stays l _).trans (op_most _ _ _)
theorem mendD_most (U : List UInt8 → Int × List Ev × Int) (d : Dsk) : (mendD U d).d.most = d.most := by
  have hc : ∀ (ps : List Pc) (g : Int), (cutD d ps g).1.most = d.most := fun ps g => by
    unfold cutD
    split
    · exact op_most _ _ _
    · rfl
  unfold mendD mendWith
  repeat' split
  · rfl
  · exact hc _ _
  · exact (rmAll_most _ _ _).trans (hc _ _)
  · exact (rmAll_most _ _ _).trans (hc _ _)
theorem openD_most (U : List UInt8 → Int × List Ev × Int) (d : Dsk) (size : Int) : (openD U d size).d.most = d.most := by
  have hr : ∀ (d : Dsk) (l : List Pc) (n : Int), (resumeD d size l n).1.most = d.most := fun d l n => by
    unfold resumeD
    repeat' split
    · rfl
    · rfl
    · exact op_most _ _ _
  unfold openD
  repeat' split
  · rfl
  · exact mendD_most U d
  · exact (createD_most _ _).trans (mendD_most U d)
  · exact (createD_most _ _).trans (mendD_most U d)
  · exact (hr _ _ _).trans (mendD_most U d)
  · exact (hr _ _ _).trans (mendD_most U d)
end
end Go.Proofs.YtphgiobklbpdeaaGreatDoor

/-
  Program-independent: a drawn region's steps over a frame that is told by the list of what was put into it (puts A l): each operation is reckoned from the few slots that it reads; guarded ones, and calls, likewise.
-/
namespace Go.Proofs.YtphgiobklbpdeaaGreatDoor
open Go Go.RowKit
def puts (A : Act) : List (Nat × Value) → Act
  | [] => A
  | (d, v) :: l => (puts A l).put (some d) v
def seek : List (Nat × Value) → Nat → Option Value
  | [], _ => none
  | (d, v) :: l, t => bif Nat.beq d t then some v else seek l t
section
variable {A : Act} {l : List (Nat × Value)} {t : Nat} {v : Value}
theorem puts_size : ∀ l : List (Nat × Value), (puts A l).tmps.size = A.tmps.size
  | [] => rfl
  | (d, v) :: l => by simp [puts, Act.put, puts_size l]
theorem get_hit : ∀ {l : List (Nat × Value)}, seek l t = some v → t < A.tmps.size → (puts A l).tmps[t]? = some v
  | [], h, _ => by cases h
  | (d, u) :: l, h, ht => by
    unfold seek at h
    by_cases e : d = t
    · subst e
      rw [show Nat.beq d d = true by simp] at h
      simp only [cond_true, Option.some.injEq] at h
      subst h
      simp [puts, Act.put, puts_size l, ht]
    · rw [show Nat.beq d t = false by cases h0 : Nat.beq d t with | false => rfl | true => exact absurd (Nat.eq_of_beq_eq_true h0) e] at h
      simp only [cond_false] at h
      have := get_hit h ht
      simp only [puts]
      rw [put_at e]; exact this
theorem get_old : ∀ {l : List (Nat × Value)}, seek l t = none → A.tmps[t]? = some v → (puts A l).tmps[t]? = some v
  | [], _, ho => ho
  | (d, u) :: l, h, ho => by
    unfold seek at h
    by_cases e : d = t
    · subst e
      rw [show Nat.beq d d = true by simp] at h
      cases h
    · rw [show Nat.beq d t = false by cases h0 : Nat.beq d t with | false => rfl | true => exact absurd (Nat.eq_of_beq_eq_true h0) e] at h
      simp only [cond_false] at h
      simp only [puts]
      rw [put_at e]; exact get_old h ho
theorem eval_of {a : Act} (h : a.tmps[t]? = some v) : a.eval (.tmp t) = v := by
  unfold Act.eval
  simp only [Array.getD_eq_getD_getElem?, h, Option.getD_some]
variable {P : Program} {L : List Oper} {C : World → Prop} {Q : Exit → Act → World → Prop} {K : Act → World → Prop} {w : World} {i : Nat} {st : List Stp} {o : Oper} {d : Nat}
theorem w_none {f : Nat → Option Bool} (h : o.guard = none) : Region.wanted o f = true := by unfold Region.wanted; rw [h]
abbrev Consts (ρ : Operand → Value) : Prop := (∀ c, ρ (.const c) = c) ∧ (∀ f, ρ (.func f) = .func (.func f) #[] #[])
theorem rgn_rd (v : Value) (fs : List (Nat × Value)) (ho : L[i]? = some o) (hd : o.dst = some d) (hg : Region.wanted o (yielded L.toArray (puts A l).tmps) = true) (hf : ∀ x ∈ fs, (puts A l).tmps[x.1]? = some x.2)
    (hv : ∀ ρ : Operand → Value, (∀ x ∈ fs, ρ (.tmp x.1) = x.2) → Consts ρ → ∀ w, C w → (execOp ρ o).run P w = .ok (.value v) w) (h : wpSteps P L.toArray C Q K st (puts A ((d, v) :: l)) w) : wpSteps P L.toArray C Q K (.rd i :: st) (puts A l) w :=
  stp_val v ho hd hg (hv _ (fun x hx => eval_of (hf x hx)) ⟨fun _ => rfl, fun _ => rfl⟩) h
theorem rgn_rd0 (v : Value) (ho : L[i]? = some o) (hd : o.dst = some d) (hg : Region.wanted o (yielded L.toArray (puts A l).tmps) = true)
    (hv : ∀ ρ : Operand → Value, Consts ρ → ∀ w, C w → (execOp ρ o).run P w = .ok (.value v) w) (h : wpSteps P L.toArray C Q K st (puts A ((d, v) :: l)) w) : wpSteps P L.toArray C Q K (.rd i :: st) (puts A l) w :=
  stp_val v ho hd hg (hv _ ⟨fun _ => rfl, fun _ => rfl⟩) h
theorem rgn_rd1 {t1 : Nat} {v1 : Value} (v : Value) (ho : L[i]? = some o) (hd : o.dst = some d) (hg : Region.wanted o (yielded L.toArray (puts A l).tmps) = true) (f1 : (puts A l).tmps[t1]? = some v1)
    (hv : ∀ ρ : Operand → Value, ρ (.tmp t1) = v1 → Consts ρ → ∀ w, C w → (execOp ρ o).run P w = .ok (.value v) w) (h : wpSteps P L.toArray C Q K st (puts A ((d, v) :: l)) w) : wpSteps P L.toArray C Q K (.rd i :: st) (puts A l) w :=
  stp_val v ho hd hg (hv _ (eval_of f1) ⟨fun _ => rfl, fun _ => rfl⟩) h
theorem rgn_rd2 {t1 t2 : Nat} {v1 v2 : Value} (v : Value) (ho : L[i]? = some o) (hd : o.dst = some d) (hg : Region.wanted o (yielded L.toArray (puts A l).tmps) = true) (f1 : (puts A l).tmps[t1]? = some v1) (f2 : (puts A l).tmps[t2]? = some v2)
    (hv : ∀ ρ : Operand → Value, ρ (.tmp t1) = v1 → ρ (.tmp t2) = v2 → Consts ρ → ∀ w, C w → (execOp ρ o).run P w = .ok (.value v) w) (h : wpSteps P L.toArray C Q K st (puts A ((d, v) :: l)) w) : wpSteps P L.toArray C Q K (.rd i :: st) (puts A l) w :=
  stp_val v ho hd hg (hv _ (eval_of f1) (eval_of f2) ⟨fun _ => rfl, fun _ => rfl⟩) h
theorem rgn_no (ho : L[i]? = some o) (hd : o.dst = some d) (hw : Region.wanted o (yielded L.toArray (puts A l).tmps) = false) (h : wpSteps P L.toArray C Q K st (puts A ((d, undef) :: l)) w) : wpSteps P L.toArray C Q K (.rd i :: st) (puts A l) w :=
  stp_no ho hd hw h
theorem rgn_dn_no (ho : L[i]? = some o) (hd : o.dst = some d) (hw : Region.wanted o (yielded L.toArray (puts A l).tmps) = false) (hC : C w) (h : wpSteps P L.toArray C Q K st (puts A ((d, undef) :: l)) w) : wpSteps P L.toArray C Q K (.dn i :: st) (puts A l) w :=
  stp_dn_no ho hd hw hC h
/-- A call. -/
theorem rgn_call {f : FuncId} {args : Array Value} {R : Ending → World → Prop} (fs : List (Nat × Value)) (ho : L[i]? = some o) (hd : o.dst = some d) (hg : Region.wanted o (yielded L.toArray (puts A l).tmps) = true) (hf : ∀ x ∈ fs, (puts A l).tmps[x.1]? = some x.2)
    (hv : ∀ ρ : Operand → Value, (∀ x ∈ fs, ρ (.tmp x.1) = x.2) → Consts ρ → (execOp ρ o).run P w = .ok (.enter f args) w) (hc : Calls P f args w R)
    (h : ∀ e w', R e w' → ∃ v, e = .returned v ∧ C w' ∧ wpSteps P L.toArray C Q K st (puts A ((d, v) :: l)) w') : wpSteps P L.toArray C Q K (.dn i :: st) (puts A l) w := by
  simp only [wpSteps, wpOp, at_list ho]
  rw [if_pos hg]
  refine .inl ?_
  unfold Oper.wp
  rw [hv _ (fun x hx => eval_of (hf x hx)) ⟨fun _ => rfl, fun _ => rfl⟩]
  simp only [Oper.upon]
  refine hc.mono fun e w' hr => ?_
  obtain ⟨v, rfl, h1, h2⟩ := h e w' hr
  rw [hd]
  exact ⟨h1, h2⟩
/-- The last operation, which only reckons. -/
theorem rgn_end {n : Nat} (v : Value) (fs : List (Nat × Value)) (ho : L[i]? = some o) (hd : o.dst = some d) (hg : Region.wanted o (yielded L.toArray (puts A l).tmps) = true) (hin : ¬ i < n) (hf : ∀ x ∈ fs, (puts A l).tmps[x.1]? = some x.2)
    (hv : ∀ ρ : Operand → Value, (∀ x ∈ fs, ρ (.tmp x.1) = x.2) → Consts ρ → (execOp ρ o).run P w = .ok (.value v) w) (h : Q .normal (puts A ((d, v) :: l)) w) :
    wpSteps P L.toArray C Q (fun a' w' => wpNums P L.toArray C n Q [i] a' w') [] (puts A l) w :=
  wpSteps_nil (stp_num_val v ho hd hg hin (hv _ (fun x hx => eval_of (hf x hx)) ⟨fun _ => rfl, fun _ => rfl⟩) (wpNums_nil h))
theorem name_frame {c : Code} {a : Act} (h : ∀ B : Act, B = a → Code.wp P c Q (puts B []) w) : Code.wp P c Q a w := h a rfl
end
end Go.Proofs.YtphgiobklbpdeaaGreatDoor

/-
  Program-independent: small helps for printed walks of drawn regions (XRgn).
-/
namespace Go.Proofs.YtphgiobklbpdeaaGreatDoor
open Go Go.RowKit Go.Sort
set_option maxRecDepth 100000
theorem forall_nil {p : Nat × Value → Prop} : ∀ x ∈ ([] : List (Nat × Value)), p x := fun _ h => by cases h
theorem forall_cons {p : Nat × Value → Prop} {a : Nat × Value} {l : List (Nat × Value)} (h : p a) (h' : ∀ x ∈ l, p x) : ∀ x ∈ a :: l, p x := fun x hx => by
  rcases List.mem_cons.1 hx with rfl | hx
  · exact h
  · exact h' x hx
section
variable {L : List Oper}
theorem at_op {M : List Oper} {i : Nat} {o : Oper} (h : L = M) (h2 : M[i]? = some o) : L[i]? = some o := h ▸ h2
theorem cast_frame {Q : Exit → Act → World → Prop} {a b : Act} {w : World} (h : a = b) (h' : Q .normal b w) : Q .normal a w := h ▸ h'
theorem rgn_open {P : Program} {id : Nat} {ops : List Oper} {Q : Exit → Act → World → Prop} {a : Act} {w : World} (h : ∀ L, L = ops → (Code.region id L.toArray true).wp P Q a w) : (Code.region id ops.toArray true).wp P Q a w := h _ rfl
theorem wanted_un {o oj : Oper} {tmps : Array Value} {j dj : Nat} {b : Bool} (hg : o.guard = some (j, b)) (hj : L[j]? = some oj) (hjd : oj.dst = some dj) (hy : tmps[dj]? = some undef) : Region.wanted o (yielded L.toArray tmps) = false := by
  unfold Region.wanted
  rw [hg]
  have : yielded L.toArray tmps j = none := by
    unfold yielded
    rw [at_list hj]
    simp only [Option.bind_some, hjd, hy]
    rfl
  simp only [this]
  cases b <;> rfl
end
end Go.Proofs.YtphgiobklbpdeaaGreatDoor

/-
  amanuensislow.CopyEvents, walked.
-/
namespace Go.Proofs.YtphgiobklbpdeaaGreatDoor
open Go Go.RowKit Go.Sort
set_option maxRecDepth 100000
set_option maxHeartbeats 1600000
theorem CopyEvents_ok {w : World} {v : Value} {l : List Ev} (h : Evs w v l) (hl : l.length ≤ 1000000) :
    Calls Tryz.prog 55 #[v] w fun e w' => ∃ v', e = .returned v' ∧ Vec 5 w' v' l.length (l.flatMap evV) ∧ Nw w w' ∧ ∀ g, v'.ownBlock = some g → w.heap.size ≤ g := by
  obtain ⟨i0, hi, hz0, hz1, hz2⟩ := info_parts infoEv
  have HI := Lib.hid hi
  have HZ0 := Lib.hid hz0
  have HZ1 := Lib.hid hz1
  have HZ2 := Lib.hid hz2
  have HV := Lib.hid h.src
  obtain ⟨a, cap, rfl, -⟩ := h.elem
  have V0 : Hid (Vec 5 w (.slice none 0 0) 0 []) := Lib.hid Vec.nil
  clear h hi hz0 hz1 hz2
  go_enter Tryz.func55, Tryz.ntmps55
  go_wp2_with (at_builtin; refine wpList_append_vec rfl _ _ 38 rfl 80 i0 (.agg #[.int .i64 0, .int .u8 0, .int .i64 0, .int .i64 0, .int .i64 0]) 5 40 Tryz.underlying38 HI.out HZ0.out HZ1.out HZ2.out rfl (by decide) rfl rfl V0.out HV.out ?c1 ?c2 ?c3 ?_)
  case c1 => exact evV_one l
  case c2 => unfold maxLen; omega
  case c3 => omega
  intro v5 w5 q5 q6 q7
  have Q := Lib.hid (And.intro q5 (And.intro q6 q7))
  clear q5 q6 q7
  go_wp2
  go_ret
  refine ⟨v5, rfl, by simpa using Q.out.1, Q.out.2.1.mono (fun k hk hc => by cases hc), fun g hg => ?_⟩
  rcases Q.out.2.2 with h | h
  · rw [h] at hg; cases hg
  · exact h g hg
end Go.Proofs.YtphgiobklbpdeaaGreatDoor

/-
  amanuensislaw06.RecoverKeeps: append(CopyEvents(all), x.Frames[k]...): a region that draws its order. Printed by wip/gen_rk.py.
-/
namespace Go.Proofs.YtphgiobklbpdeaaGreatDoor.RecoverKeeps
open Go Go.RowKit Go.Sort
set_option maxRecDepth 100000
set_option maxHeartbeats 3200000
theorem r21 {w6 : World} {xb g o nf cf m sc k n ec : Nat} {sa ea : Option Addr} {cs news : List Value}
    (HC : Hid (∀ W, Nw w6 W → Calls Tryz.prog 55 #[.slice sa m sc] W fun e w' => ∃ v', e = .returned v' ∧ Vec 5 w' v' m cs ∧ Nw W w' ∧ ∀ g, v'.ownBlock = some g → W.heap.size ≤ g))
    (C0 : Hid (w6.cell? ⟨xb, 0, none⟩ = some (.slice (some ⟨g, o, none⟩) nf cf))) (L0 : Hid (xb < w6.heap.size)) (C1 : Hid (w6.cell? ⟨g, o + k, none⟩ = some (.slice ea n ec))) (L1 : Hid (g < w6.heap.size)) (HK : Hid (k < nf))
    (X5 : Hid (SrcV 5 w6 (.slice ea n ec) n news)) (h1 : Hid (∀ u ∈ news, u.oneCell' = true)) (hb : m + n ≤ 1000000)
    {u0 u1 u2 u3 u4 u5 u6 u8 u9 u11 u12 u13 u15 u16 u17 u18 u19 u20 u21 u22 u23 u24 u25 u26 u27 u28 u29 u30 u31 u32 u33 u34 u35 u36 u37 u38 u39 u40 u41 u42 u43 u44 u45 u46 u47 u48 u49 u50 u51 u52 u53 u54 u55 u56 u57 u58 u59 u60 u61 u62 u63 u64 u65 u66 u67 u68 u69 u70 u71 u72 u73 u74 u75 u76 u77 u78 u79 u80 u81 u82 u83 u84 u85 u86 u87 u88 u89 u90 u91 u92 u93 u94 u95 u96 u97 u98 u99 u100 u101 u102 u103 u104 u105 u106 u107 u108 u109 u110 u111 u112 u113 u114 u115 u116 u117 u118 u119 u120 u121 u122 u123 u124 u125 u126 u127 u128 u129 u130 u131 u132 u133 u134 u135 u136 u137 u138 u139 u140 u141 u142 u143 u144 u145 u146 u147 u148 u149 u150 u151 u152 u153 u154 u155 u156 u157 u158 u159 u160 u161 u162 u163 u164 u165 u166 u167 u168 u169 u170 u171 u172 u173 u174 u175 u176 u177 u178 u179 u180 u181 u182 u183 u184 u185 u186 u187 u188 u189 u190 u191 u192 u193 u194 u195 u196 u197 u198 u199 u200 u201 u202 u203 u204 u205 u206 u207 u208 u209 u210 u211 u212 u213 u214 u215 u216 u217 u218 u219 u220 u221 u222 u223 u224 u225 u226 u227 u228 u229 u230 u231 u232 u233 u234 u235 u236 u237 u238 u239 u240 u241 u242 u243 u244 u245 : Value} {Q : Exit → Act → World → Prop} (hP : PanicOk Q)
    (hQ : ∀ (s127 s128 s129 s130 s131 s132 s133 s134 s7 : Value) (a' : Option Addr) (c' : Nat) (wx : World), s7 = .slice a' (m + n) c' → Vec 5 wx s7 (m + n) (cs ++ news) → Nw w6 wx → (∀ g, s7.ownBlock = some g → w6.heap.size ≤ g) → Q .normal ⟨#[u0, u1, u2, u3, u4, u5, u6, s7, u8, u9, .pointer (some ⟨xb, 0, none⟩), u11, u12, u13, .int .i64 k, u15, u16, u17, u18, u19, u20, u21, u22, u23, u24, u25, u26, u27, u28, u29, u30, u31, u32, u33, u34, u35, u36, u37, u38, u39, u40, u41, u42, u43, u44, u45, u46, u47, u48, u49, u50, u51, u52, u53, u54, u55, u56, u57, u58, u59, u60, u61, u62, u63, u64, u65, u66, u67, u68, u69, u70, u71, u72, u73, u74, u75, u76, u77, u78, u79, u80, u81, u82, u83, u84, u85, u86, u87, u88, u89, u90, u91, u92, u93, u94, u95, u96, u97, u98, u99, u100, u101, u102, u103, u104, u105, u106, u107, u108, u109, u110, u111, u112, u113, u114, u115, u116, u117, u118, u119, u120, u121, u122, u123, u124, u125, u126, s127, s128, s129, s130, s131, s132, s133, s134, u135, u136, u137, u138, u139, u140, u141, u142, u143, u144, u145, u146, u147, u148, u149, u150, u151, u152, u153, u154, u155, u156, u157, u158, u159, u160, u161, u162, u163, u164, u165, u166, u167, u168, u169, u170, u171, u172, u173, u174, u175, u176, u177, u178, u179, u180, u181, u182, u183, u184, u185, u186, u187, u188, u189, u190, u191, u192, u193, u194, u195, u196, u197, u198, u199, u200, u201, u202, u203, u204, u205, u206, u207, u208, u209, u210, u211, u212, u213, u214, u215, u216, u217, u218, u219, u220, u221, u222, u223, u224, u225, u226, u227, u228, u229, u230, u231, u232, u233, u234, u235, u236, u237, u238, u239, u240, u241, u242, u243, u244, u245], []⟩ wx) :
    Code.wp Tryz.prog ((Tryz.f12.body.bind (regionOf 21)).getD .skip) Q ⟨#[u0, u1, u2, u3, u4, u5, u6, .slice sa m sc, u8, u9, .pointer (some ⟨xb, 0, none⟩), u11, u12, u13, .int .i64 k, u15, u16, u17, u18, u19, u20, u21, u22, u23, u24, u25, u26, u27, u28, u29, u30, u31, u32, u33, u34, u35, u36, u37, u38, u39, u40, u41, u42, u43, u44, u45, u46, u47, u48, u49, u50, u51, u52, u53, u54, u55, u56, u57, u58, u59, u60, u61, u62, u63, u64, u65, u66, u67, u68, u69, u70, u71, u72, u73, u74, u75, u76, u77, u78, u79, u80, u81, u82, u83, u84, u85, u86, u87, u88, u89, u90, u91, u92, u93, u94, u95, u96, u97, u98, u99, u100, u101, u102, u103, u104, u105, u106, u107, u108, u109, u110, u111, u112, u113, u114, u115, u116, u117, u118, u119, u120, u121, u122, u123, u124, u125, u126, u127, u128, u129, u130, u131, u132, u133, u134, u135, u136, u137, u138, u139, u140, u141, u142, u143, u144, u145, u146, u147, u148, u149, u150, u151, u152, u153, u154, u155, u156, u157, u158, u159, u160, u161, u162, u163, u164, u165, u166, u167, u168, u169, u170, u171, u172, u173, u174, u175, u176, u177, u178, u179, u180, u181, u182, u183, u184, u185, u186, u187, u188, u189, u190, u191, u192, u193, u194, u195, u196, u197, u198, u199, u200, u201, u202, u203, u204, u205, u206, u207, u208, u209, u210, u211, u212, u213, u214, u215, u216, u217, u218, u219, u220, u221, u222, u223, u224, u225, u226, u227, u228, u229, u230, u231, u232, u233, u234, u235, u236, u237, u238, u239, u240, u241, u242, u243, u244, u245], []⟩ w6 := by
  dsimp only at hQ ⊢
  conv => arg 2; whnf
  have HQ := Lib.hid hQ
  clear hQ
  refine name_frame fun A hA => ?_
  have hlt : ∀ t, t < 246 → t < A.tmps.size := fun t h => by rw [hA]; exact h
  have hA7 : A.tmps[7]? = some (.slice sa m sc) := by rw [hA]; rfl
  have hA10 : A.tmps[10]? = some (.pointer (some ⟨xb, 0, none⟩)) := by rw [hA]; rfl
  have hA14 : A.tmps[14]? = some (.int .i64 k) := by rw [hA]; rfl
  have HA := Lib.hid hA
  clear hA
  refine rgn_open fun L hL => ?_
  have f0 := at_op (i := 0) hL rfl
  have f1 := at_op (i := 1) hL rfl
  have f2 := at_op (i := 2) hL rfl
  have f3 := at_op (i := 3) hL rfl
  have f4 := at_op (i := 4) hL rfl
  have f5 := at_op (i := 5) hL rfl
  have f6 := at_op (i := 6) hL rfl
  have f7 := at_op (i := 7) hL rfl
  have f8 := at_op (i := 8) hL rfl
  have HL := Lib.hid hL
  refine wp_region_steps 7 (.rd 0 :: .rd 2 :: .rd 3 :: .rd 4 :: .rd 5 :: .rd 6 :: .dn 1 :: []) [7, 8] (fun x => Nw w6 x) (by kernel_rfl) (by rw [hL]; kernel_rfl) hP (Nw.refl _).drew ?_
  have hC : Nw w6 w6.drew := (Nw.refl _).drew
  clear HL hL
  refine rgn_rd1 (.slice sa m sc) f0 rfl (w_none rfl) (get_old (t := 7) rfl hA7) (fun ρ e0 ⟨c1, c2⟩ w hw => by go_simp) ?_
  refine rgn_rd1 (.pointer (some ⟨xb, 0, none⟩)) f2 rfl (w_none rfl) (get_old (t := 10) rfl hA10) (fun ρ e0 ⟨c1, c2⟩ w hw => by go_simp) ?_
  refine rgn_rd1 (.slice (some ⟨g, o, none⟩) nf cf) f3 rfl (w_none rfl) (get_hit (t := 129) rfl (hlt 129 (by decide))) (fun ρ e0 ⟨c1, c2⟩ w hw => by have hc := Nw.cell hw C0.out; have hl := Nat.lt_of_lt_of_le L0.out (Only.size hw); go_simp) ?_
  refine rgn_rd1 (.int .i64 k) f4 rfl (w_none rfl) (get_old (t := 14) rfl hA14) (fun ρ e0 ⟨c1, c2⟩ w hw => by go_simp) ?_
  refine rgn_rd2 (.pointer (some ⟨g, o + k, none⟩)) f5 rfl (w_none rfl) (get_hit (t := 130) rfl (hlt 130 (by decide))) (get_hit (t := 131) rfl (hlt 131 (by decide))) (fun ρ e0 e1 ⟨c1, c2⟩ w hw => by have hk := HK.out; go_simp) ?_
  refine rgn_rd1 (.slice ea n ec) f6 rfl (w_none rfl) (get_hit (t := 132) rfl (hlt 132 (by decide))) (fun ρ e0 ⟨c1, c2⟩ w hw => by have hc := Nw.cell hw C1.out; have hl := Nat.lt_of_lt_of_le L1.out (Only.size hw); go_simp) ?_
  refine rgn_call [(127, .slice sa m sc)] f1 rfl (w_none rfl) (forall_cons (get_hit (t := 127) rfl (hlt 127 (by decide))) <| forall_nil) (fun ρ e ⟨c1, c2⟩ => by simp only [List.forall_mem_cons] at e; go_simp) (HC.out _ hC) ?_
  rintro e wb ⟨v1, rfl, q1, n1, f1⟩
  obtain ⟨va, vc, rfl, -⟩ := q1.len
  have Q1 := Lib.hid (And.intro q1 f1)
  replace hC := hC.trans n1
  clear n1 q1 f1
  refine ⟨_, rfl, hC, ?_⟩
  refine wpSteps_nil ?_
  refine stp_num f7 ?_
  obtain ⟨i0, hi, hz0, hz1, hz2⟩ := info_parts infoEv
  refine wpList_append_vec (v := .slice va m vc) (src := .slice ea n ec) rfl _ _ 38 rfl 80 i0 (.agg #[.int .i64 0, .int .u8 0, .int .i64 0, .int .i64 0, .int .i64 0]) 5 40 Tryz.underlying38 hi hz0 hz1 hz2 rfl (by decide) (eval_of (get_hit (t := 128) rfl (hlt 128 (by decide)))) (eval_of (get_hit (t := 133) rfl (hlt 133 (by decide)))) Q1.out.1 (X5.out.nw hC) h1.out (by unfold maxLen; omega) (by omega) ?_
  intro v5 w5 q5 q6 q7
  obtain ⟨ta, tc, rfl, -⟩ := q5.len
  have hN : Nw w6 w5 := hC.trans' q6 (fun g hg hc => by have h : w6.heap.size ≤ g := Q1.out.2 g hc; omega)
  have hF : ∀ g, (Value.slice ta (m + n) tc).ownBlock = some g → w6.heap.size ≤ g := fun g hg => by
    rcases q7 with h | h
    · exact Q1.out.2 g (h ▸ hg)
    · exact Nat.le_trans hC.size (h g hg)
  refine ⟨fun h => absurd h (by decide), ?_⟩
  change wpNums _ _ _ _ _ [8] (puts A ((134, .slice ta (m + n) tc) :: [(128, .slice va m vc), (133, .slice ea n ec), (132, .pointer (some ⟨g, o + k, none⟩)), (131, .int .i64 k), (130, .slice (some ⟨g, o, none⟩) nf cf), (129, .pointer (some ⟨xb, 0, none⟩)), (127, .slice sa m sc)])) w5
  refine stp_num_val (.slice ta (m + n) tc) f8 rfl (w_none rfl) (by decide) ?_ (wpNums_nil ?_)
  · have e0 := (get_hit (A := A) (l := (134, .slice ta (m + n) tc) :: [(128, .slice va m vc), (133, .slice ea n ec), (132, .pointer (some ⟨g, o + k, none⟩)), (131, .int .i64 k), (130, .slice (some ⟨g, o, none⟩) nf cf), (129, .pointer (some ⟨xb, 0, none⟩)), (127, .slice sa m sc)]) (t := 134) rfl (hlt 134 (by decide)))
    go_simp
  change Q .normal (puts A ((7, .slice ta (m + n) tc) :: (134, .slice ta (m + n) tc) :: [(128, .slice va m vc), (133, .slice ea n ec), (132, .pointer (some ⟨g, o + k, none⟩)), (131, .int .i64 k), (130, .slice (some ⟨g, o, none⟩) nf cf), (129, .pointer (some ⟨xb, 0, none⟩)), (127, .slice sa m sc)])) w5
  exact cast_frame (by rw [HA.out]; kernel_rfl) (HQ.out (.slice sa m sc) (.slice va m vc) (.pointer (some ⟨xb, 0, none⟩)) (.slice (some ⟨g, o, none⟩) nf cf) (.int .i64 k) (.pointer (some ⟨g, o + k, none⟩)) (.slice ea n ec) (.slice ta (m + n) tc) (.slice ta (m + n) tc) ta tc w5 rfl q5 hN hF)
end Go.Proofs.YtphgiobklbpdeaaGreatDoor.RecoverKeeps
