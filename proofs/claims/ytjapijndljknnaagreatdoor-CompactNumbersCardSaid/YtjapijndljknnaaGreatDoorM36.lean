/-
  Texts merged by a program of this claim's: CompRun, CompS, Rgn, RgnH, Inv.
-/
import Derived.Test.YtjapijndljknnaaGreatDoorM32
import Derived.Test.YtjapijndljknnaaGreatDoorM35
import Derived.Test.YtjapijndljknnaaGreatDoorM25
import Derived.Test.YtjapijndljknnaaGreatDoorM15
import Derived.Test.YtjapijndljknnaaGreatDoorM28
/-
  Compaction as a list of steps, in plain words.
-/
namespace Go.Proofs.YtjapijndljknnaaGreatDoor
open Go
set_option maxRecDepth 100000
abbrev StepD := Dsk → Lg → LgR
def goneD (n : Str) : StepD := fun d L => ⟨(d.gone n).1, L, (d.gone n).2⟩
def appD (n : Str) (b : List UInt8) : StepD := fun d L => ⟨(d.append n b).1, L, (d.append n b).2⟩
def synD (n : Str) : StepD := fun d L => ⟨(d.sync n).1, L, (d.sync n).2⟩
def swpD (k : Nat) : StepD := fun d L => L.swap d [densePc k]
def rmD (n : Str) : StepD := fun d L => ⟨(d.remove n).1, L, (d.remove n).2⟩
def runSt (n : Nat) : List StepD → Dsk → Lg → CompR
  | [], d, L => ⟨d, L, n, 0⟩
  | f :: fs, d, L => if (f d L).e ≠ 0 then ⟨(f d L).d, (f d L).L, 0, (f d L).e⟩ else runSt n fs (f d L).d (f d L).L
def actsD (k : Nat) (b : List UInt8) (A : List Pc) : List StepD := [goneD (dName k), appD (dName k) b, synD (dName k), swpD k] ++ A.map fun q => rmD q.name
theorem run_rm (n : Nat) (L : Lg) : ∀ (A : List Pc) (d : Dsk), runSt n (A.map fun q => rmD q.name) d L = if (rmEach A d).2 ≠ 0 then ⟨(rmEach A d).1, L, 0, (rmEach A d).2⟩ else ⟨(rmEach A d).1, L, n, 0⟩
  | [], d => by simp [runSt, rmEach]
  | q :: A, d => by
    rw [List.map_cons]
    unfold runSt rmEach
    show (if (d.remove q.name).2 ≠ 0 then _ else _) = _
    by_cases h : (d.remove q.name).2 ≠ 0
    · rw [if_pos h, if_pos h, if_pos h]; rfl
    · rw [if_neg h, if_neg h]; exact run_rm n L A _
theorem fresh_eq (d : Dsk) (n : Str) (b : List UInt8) : d.fresh n b = if (d.gone n).2 ≠ 0 then d.gone n else if ((d.gone n).1.append n b).2 ≠ 0 then (d.gone n).1.append n b else ((d.gone n).1.append n b).1.sync n := by
  unfold Dsk.fresh andThen
  by_cases h1 : (d.gone n).2 = 0
  · by_cases h2 : ((d.gone n).1.append n b).2 = 0
    · simp [h1, h2]
    · simp [h1, h2]
  · simp [h1]
theorem run_cons (n : Nat) (f : StepD) (fs : List StepD) (d : Dsk) (L : Lg) : runSt n (f :: fs) d L = if (f d L).e ≠ 0 then ⟨(f d L).d, (f d L).L, 0, (f d L).e⟩ else runSt n fs (f d L).d (f d L).L := rfl
theorem comp_run {all : List Ev} {L : Lg} {d : Dsk} {A : List Pc} {q : Pc} {k : Nat} (hov : L.over = false) (hA : L.l.dropLast = A) (hq : lastP L.l = q) (hlo : lone A = false) (hdn : d.down = false) (hk : q.first = k) :
    compD all L d = runSt A.length (actsD k (packB 0 (all.take k)) A) d L := by
  unfold compD
  rw [hov, hA, hq, if_neg (by simp), if_neg (by simp [hlo]), if_neg (by simp [hdn]), hk, Int.toNat_natCast]
  generalize packB 0 (all.take k) = b
  rw [show actsD k b A = goneD (dName k) :: appD (dName k) b :: synD (dName k) :: swpD k :: A.map fun q => rmD q.name from rfl, run_cons, run_cons, run_cons, run_cons, run_rm, fresh_eq]
  simp only [goneD, appD, synD, swpD]
  by_cases h1 : (d.gone (dName k)).2 = 0
  · by_cases h2 : ((d.gone (dName k)).1.append (dName k) b).2 = 0
    · by_cases h3 : (((d.gone (dName k)).1.append (dName k) b).1.sync (dName k)).2 = 0
      · by_cases h4 : (L.swap (((d.gone (dName k)).1.append (dName k) b).1.sync (dName k)).1 [densePc k]).e = 0
        · rw [if_neg (show ¬ (d.gone (dName k)).2 ≠ 0 by simp [h1]), if_neg (show ¬ ((d.gone (dName k)).1.append (dName k) b).2 ≠ 0 by simp [h2])]
          simp only [h1, h2, h3, h4, ne_eq, not_true_eq_false, if_false]
          by_cases h5 : (rmEach A (L.swap (((d.gone (dName k)).1.append (dName k) b).1.sync (dName k)).1 [densePc k]).d).2 = 0
          · simp [h5]
          · simp [h5]
        · simp [h1, h2, h3, h4]
      · simp [h1, h2, h3]
    · simp [h1, h2]
  · simp [h1]
end Go.Proofs.YtjapijndljknnaaGreatDoor

/-
  compact.Compact: its list of closures, run one by one.
-/
namespace Go.Proofs.YtjapijndljknnaaGreatDoor
open Go Go.RowKit Go.Sort
set_option maxRecDepth 100000
set_option maxHeartbeats 1600000
abbrev bx (p : Nat) : Value := .pointer (some ⟨p, 0, none⟩)
def compF (xb po pd pn pb : Nat) (ps : List Nat) : List (Nat × Array Value) :=
  (94, #[bx pd, bx pn]) :: (96, #[bx pd, bx pn, bx pb]) :: (97, #[bx pd, bx pn]) :: (98, #[bx xb, bx pn, bx po]) ::
    ps.map fun q => (99, #[bx pd, bx q])
theorem compF_len (xb po pd pn pb : Nat) (ps : List Nat) : (compF xb po pd pn pb ps).length = 4 + ps.length := by simp [compF]; omega
/-- What the closures find in memory. -/
structure CompM (X : Nat → Prop) (w : World) (p b xb po pd pn pb k : Nat) (bs : List UInt8) (xa : Option Addr) (xc : Nat) (ps : List Nat) (A : List Pc) : Prop where
  cl : w.cell? ⟨xb, 0, none⟩ = some (bx p)
  co : w.cell? ⟨po, 1, none⟩ = some (.int .i64 k)
  cd : w.cell? ⟨pd, 0, none⟩ = some (bx b)
  cn : w.cell? ⟨pn, 0, none⟩ = some (.string ⟨(dName k).toArray⟩)
  cb : w.cell? ⟨pb, 0, none⟩ = some (.slice xa bs.length xc)
  bb : Bs w (.slice xa bs.length xc) bs
  len : ps.length = A.length
  cp : ∀ j (h : j < ps.length) (h' : j < A.length), w.cell? ⟨ps[j], 0, none⟩ = some (.string ⟨A[j].name.toArray⟩)
  xs : X xb ∧ X po ∧ X pd ∧ X pn ∧ X pb
  xp : ∀ j (h : j < ps.length), X ps[j]
  xx : ∀ g, (Value.slice xa bs.length xc).ownBlock = some g → X g
theorem kept_cell {X : Nat → Prop} {w w' : World} (hk : Kept X w w') {g i : Nat} {v : Value} (hx : X g) (h : w.cell? ⟨g, i, none⟩ = some v) : w'.cell? ⟨g, i, none⟩ = some v := by
  have hl : g < w.heap.size := World.block_lt_of_cell? _ _ h
  rw [World.cell?_of_block (w := w) (hk.2 g hx hl)]
  exact h
theorem CompM.kept {X : Nat → Prop} {w w' : World} {p b xb po pd pn pb k : Nat} {bs : List UInt8} {xa : Option Addr} {xc : Nat} {ps : List Nat} {A : List Pc} (h : CompM X w p b xb po pd pn pb k bs xa xc ps A) (hk : Kept X w w') : CompM X w' p b xb po pd pn pb k bs xa xc ps A :=
  ⟨kept_cell hk h.xs.1 h.cl, kept_cell hk h.xs.2.1 h.co, kept_cell hk h.xs.2.2.1 h.cd, kept_cell hk h.xs.2.2.2.1 h.cn, kept_cell hk h.xs.2.2.2.2 h.cb, h.bb.kept hk (fun _ g hg => h.xx g hg), h.len, fun j h1 h2 => kept_cell hk (h.xp j h1) (h.cp j h1 h2), h.xs, h.xp, h.xx⟩
theorem run_step {n : Nat} {f : StepD} {fs : List StepD} {d : Dsk} {L : Lg} {R : CompR} (h : runSt n (f :: fs) d L = R) : ((f d L).e ≠ 0 → R = ⟨(f d L).d, (f d L).L, 0, (f d L).e⟩) ∧ ((f d L).e = 0 → runSt n fs (f d L).d (f d L).L = R) := by
  unfold runSt at h
  refine ⟨fun h0 => ?_, fun h0 => ?_⟩
  · rw [if_pos h0] at h; exact h.symm
  · rw [if_neg (by simp [h0])] at h; exact h
section
variable {X : Nat → Prop} {w0 w : World} {p b xb po pd pn pb k g o cap : Nat} {d : Dsk} {L : Lg} {bs : List UInt8} {xa : Option Addr} {xc : Nat} {ps : List Nat} {A : List Pc} {R : CompR}
theorem comp_steps (h : HasL X w0 w p b d L) (hm : CompM X w p b xb po pd pn pb k bs xa xc ps A) (hg : X g) (hrow : ∀ j (hj : j < (compF xb po pd pn pb ps).length), w.cell? ⟨g, o + j, none⟩ = some (fnV (compF xb po pd pn pb ps)[j]))
    (hlen : A.length ≤ 900) (hk : k < 2 ^ 60) (hbl : bs.length ≤ 140737488355328) (hnl : ∀ q ∈ A, q.name.length ≤ 9223372036854775807) (hR : runSt A.length (actsD k bs A) d L = R) :
    Calls Tryz.prog 101 #[.slice (some ⟨g, o, none⟩) (compF xb po pd pn pb ps).length cap] w fun e W => ∃ x, e = .returned (.int .i64 x) ∧ HasL X w0 W p b R.d R.L ∧ Kept X w W ∧ x = R.e ∧ (x = 0 → R.n = A.length) ∧ (x ≠ 0 → R.n = 0) := by
  have hdn : (dName k).length ≤ 9223372036854775807 := by
    have hl := Lib.nDigits_le20 k (by omega)
    have hd := Lib.decDigits_length k
    simp only [dName, List.length_cons]
    omega
  have key := csteps_ok (w := w) (compF xb po pd pn pb ps) (fun i W => ∃ d' L', HasL X w0 W p b d' L' ∧ Kept X w W ∧ runSt A.length ((actsD k bs A).drop i) d' L' = R) (fun x W => HasL X w0 W p b R.d R.L ∧ Kept X w W ∧ x = R.e ∧ R.n = 0) g o cap
    (by rw [compF_len, hm.len]; omega)
    (fun i hi => by
      match i, hi with
      | 0, _ => exact enters_of Tryz.func94 (by kernel_rfl) (by kernel_rfl)
      | 1, _ => exact enters_of Tryz.func96 (by kernel_rfl) (by kernel_rfl)
      | 2, _ => exact enters_of Tryz.func97 (by kernel_rfl) (by kernel_rfl)
      | 3, _ => exact enters_of Tryz.func98 (by kernel_rfl) (by kernel_rfl)
      | j + 4, hj =>
        have : (compF xb po pd pn pb ps)[j + 4].1 = 99 := by simp [compF]
        rw [this]
        exact enters_of Tryz.func99 (by kernel_rfl) (by kernel_rfl))
    (fun i W hS j hj => by
      obtain ⟨d', L', -, hk', -⟩ := hS
      exact kept_cell hk' hg (hrow j hj))
    (fun i hi W hS => by
      obtain ⟨d', L', hL, hkp, hrun⟩ := hS
      have M := hm.kept hkp
      have fin : ∀ (f : StepD) (F : Nat × Array Value), (actsD k bs A).drop i = f :: (actsD k bs A).drop (i + 1) → Calls Tryz.prog F.1 F.2 W (DidL X w0 W p b (f d' L').d (f d' L').L (.int .i64 (f d' L').e)) →
          Calls Tryz.prog F.1 F.2 W fun e W' => ∃ x, e = .returned (.int .i64 x) ∧ ((x = 0 ∧ ∃ d' L', HasL X w0 W' p b d' L' ∧ Kept X w W' ∧ runSt A.length ((actsD k bs A).drop (i + 1)) d' L' = R) ∨ (x ≠ 0 ∧ HasL X w0 W' p b R.d R.L ∧ Kept X w W' ∧ x = R.e ∧ R.n = 0)) := fun f F h1 hc => by
        rw [h1] at hrun
        obtain ⟨r1, r2⟩ := run_step hrun
        refine hc.mono ?_
        rintro e W' ⟨rfl, q1, q2⟩
        refine ⟨_, rfl, ?_⟩
        by_cases h0 : (f d' L').e = 0
        · exact .inl ⟨h0, _, _, q1, hkp.trans q2, r2 h0⟩
        · have := r1 h0
          subst this
          exact .inr ⟨h0, q1, hkp.trans q2, rfl, rfl⟩
      match i, hi with
      | 0, _ => exact fin (goneD (dName k)) (94, #[bx pd, bx pn]) rfl (CompF1_ok hL M.cd M.cn)
      | 1, _ => exact fin (appD (dName k) bs) (96, #[bx pd, bx pn, bx pb]) rfl (CompF2_ok hL M.cd M.cn M.cb M.bb M.xx hdn hbl)
      | 2, _ => exact fin (synD (dName k)) (97, #[bx pd, bx pn]) rfl (CompF3_ok hL M.cd M.cn)
      | 3, _ => exact fin (swpD k) (98, #[bx xb, bx pn, bx po]) rfl (CompF4_ok hL M.cl M.cn M.co (World.block_lt_of_cell? _ _ M.cl) (World.block_lt_of_cell? _ _ M.cn) (World.block_lt_of_cell? _ _ M.co) hk)
      | j + 4, hj =>
        have h1 : j < ps.length := by rw [compF_len] at hj; omega
        have h2 : j < A.length := by rw [← hm.len]; exact h1
        have e1 : (compF xb po pd pn pb ps)[j + 4] = (99, #[bx pd, bx ps[j]]) := by simp [compF]
        rw [e1]
        refine fin (rmD A[j].name) (99, #[bx pd, bx ps[j]]) ?_ (CompF5_ok hL M.cd (M.cp j h1 h2))
        have : (actsD k bs A) = goneD (dName k) :: appD (dName k) bs :: synD (dName k) :: swpD k :: A.map fun q => rmD q.name := rfl
        rw [this]
        simp only [List.drop_succ_cons]
        rw [List.drop_eq_getElem_cons (by simpa using h2)]
        simp)
    ⟨d, L, h, Kept.refl _, by rw [List.drop_zero]; exact hR⟩
  refine key.mono ?_
  rintro e W ⟨x, rfl, ⟨rfl, d', L', h1, h2, h3⟩ | ⟨hx, h1, h2, h3, h4⟩⟩
  · rw [List.drop_of_length_le (by rw [compF_len, hm.len]; simp [actsD]; omega)] at h3
    unfold runSt at h3
    subst h3
    exact ⟨0, rfl, h1, h2, rfl, fun _ => rfl, fun h => absurd rfl h⟩
  · exact ⟨x, rfl, h1, h2, h3, fun h => absurd h hx, fun _ => h4⟩
end
end Go.Proofs.YtjapijndljknnaaGreatDoor

/-
  Program-independent: a drawn region's steps over a frame that is told by the list of what was put into it (puts A l): each operation is reckoned from the few slots that it reads; guarded ones, and calls, likewise.
-/
namespace Go.Proofs.YtjapijndljknnaaGreatDoor
open Go Go.RowKit
def puts (A : Act) : List (Nat × Value) → Act
  | [] => A
  | (d, v) :: l => (puts A l).put (some d) v
def seek : List (Nat × Value) → Nat → Option Value
  | [], _ => none
  | (d, v) :: l, t => bif Nat.beq d t then some v else seek l t
section
variable {A : Act} {l : List (Nat × Value)} {t : Nat} {v : Value}
theorem puts_size : ∀ l : List (Nat × Value), (puts A l).tmps.size = A.tmps.size
  | [] => rfl
  | (d, v) :: l => by simp [puts, Act.put, puts_size l]
theorem get_hit : ∀ {l : List (Nat × Value)}, seek l t = some v → t < A.tmps.size → (puts A l).tmps[t]? = some v
  | [], h, _ => by cases h
  | (d, u) :: l, h, ht => by
    unfold seek at h
    by_cases e : d = t
    · subst e
      rw [show Nat.beq d d = true by simp] at h
      simp only [cond_true, Option.some.injEq] at h
      subst h
      simp [puts, Act.put, puts_size l, ht]
    · rw [show Nat.beq d t = false by cases h0 : Nat.beq d t with | false => rfl | true => exact absurd (Nat.eq_of_beq_eq_true h0) e] at h
      simp only [cond_false] at h
      have := get_hit h ht
      simp only [puts]
      rw [put_at e]; exact this
theorem get_old : ∀ {l : List (Nat × Value)}, seek l t = none → A.tmps[t]? = some v → (puts A l).tmps[t]? = some v
  | [], _, ho => ho
  | (d, u) :: l, h, ho => by
    unfold seek at h
    by_cases e : d = t
    · subst e
      rw [show Nat.beq d d = true by simp] at h
      cases h
    · rw [show Nat.beq d t = false by cases h0 : Nat.beq d t with | false => rfl | true => exact absurd (Nat.eq_of_beq_eq_true h0) e] at h
      simp only [cond_false] at h
      simp only [puts]
      rw [put_at e]; exact get_old h ho
theorem eval_of {a : Act} (h : a.tmps[t]? = some v) : a.eval (.tmp t) = v := by
  unfold Act.eval
  simp only [Array.getD_eq_getD_getElem?, h, Option.getD_some]
variable {P : Program} {L : List Oper} {C : World → Prop} {Q : Exit → Act → World → Prop} {K : Act → World → Prop} {w : World} {i : Nat} {st : List Stp} {o : Oper} {d : Nat}
theorem w_none {f : Nat → Option Bool} (h : o.guard = none) : Region.wanted o f = true := by unfold Region.wanted; rw [h]
abbrev Consts (ρ : Operand → Value) : Prop := (∀ c, ρ (.const c) = c) ∧ (∀ f, ρ (.func f) = .func (.func f) #[] #[])
theorem rgn_rd1 {t1 : Nat} {v1 : Value} (v : Value) (ho : L[i]? = some o) (hd : o.dst = some d) (hg : Region.wanted o (yielded L.toArray (puts A l).tmps) = true) (f1 : (puts A l).tmps[t1]? = some v1)
    (hv : ∀ ρ : Operand → Value, ρ (.tmp t1) = v1 → Consts ρ → ∀ w, C w → (execOp ρ o).run P w = .ok (.value v) w) (h : wpSteps P L.toArray C Q K st (puts A ((d, v) :: l)) w) : wpSteps P L.toArray C Q K (.rd i :: st) (puts A l) w :=
  stp_val v ho hd hg (hv _ (eval_of f1) ⟨fun _ => rfl, fun _ => rfl⟩) h
theorem rgn_rd2 {t1 t2 : Nat} {v1 v2 : Value} (v : Value) (ho : L[i]? = some o) (hd : o.dst = some d) (hg : Region.wanted o (yielded L.toArray (puts A l).tmps) = true) (f1 : (puts A l).tmps[t1]? = some v1) (f2 : (puts A l).tmps[t2]? = some v2)
    (hv : ∀ ρ : Operand → Value, ρ (.tmp t1) = v1 → ρ (.tmp t2) = v2 → Consts ρ → ∀ w, C w → (execOp ρ o).run P w = .ok (.value v) w) (h : wpSteps P L.toArray C Q K st (puts A ((d, v) :: l)) w) : wpSteps P L.toArray C Q K (.rd i :: st) (puts A l) w :=
  stp_val v ho hd hg (hv _ (eval_of f1) (eval_of f2) ⟨fun _ => rfl, fun _ => rfl⟩) h
/-- A call. -/
theorem rgn_call {f : FuncId} {args : Array Value} {R : Ending → World → Prop} (fs : List (Nat × Value)) (ho : L[i]? = some o) (hd : o.dst = some d) (hg : Region.wanted o (yielded L.toArray (puts A l).tmps) = true) (hf : ∀ x ∈ fs, (puts A l).tmps[x.1]? = some x.2)
    (hv : ∀ ρ : Operand → Value, (∀ x ∈ fs, ρ (.tmp x.1) = x.2) → Consts ρ → (execOp ρ o).run P w = .ok (.enter f args) w) (hc : Calls P f args w R)
    (h : ∀ e w', R e w' → ∃ v, e = .returned v ∧ C w' ∧ wpSteps P L.toArray C Q K st (puts A ((d, v) :: l)) w') : wpSteps P L.toArray C Q K (.dn i :: st) (puts A l) w := by
  simp only [wpSteps, wpOp, at_list ho]
  rw [if_pos hg]
  refine .inl ?_
  unfold Oper.wp
  rw [hv _ (fun x hx => eval_of (hf x hx)) ⟨fun _ => rfl, fun _ => rfl⟩]
  simp only [Oper.upon]
  refine hc.mono fun e w' hr => ?_
  obtain ⟨v, rfl, h1, h2⟩ := h e w' hr
  rw [hd]
  exact ⟨h1, h2⟩
theorem name_frame {c : Code} {a : Act} (h : ∀ B : Act, B = a → Code.wp P c Q (puts B []) w) : Code.wp P c Q a w := h a rfl
end
end Go.Proofs.YtjapijndljknnaaGreatDoor

/-
  Program-independent: small helps for printed walks of drawn regions (XRgn).
-/
namespace Go.Proofs.YtjapijndljknnaaGreatDoor
open Go Go.RowKit Go.Sort
set_option maxRecDepth 100000
theorem forall_nil {p : Nat × Value → Prop} : ∀ x ∈ ([] : List (Nat × Value)), p x := fun _ h => by cases h
theorem forall_cons {p : Nat × Value → Prop} {a : Nat × Value} {l : List (Nat × Value)} (h : p a) (h' : ∀ x ∈ l, p x) : ∀ x ∈ a :: l, p x := fun x hx => by
  rcases List.mem_cons.1 hx with rfl | hx
  · exact h
  · exact h' x hx
section
variable {L : List Oper}
theorem at_op {M : List Oper} {i : Nat} {o : Oper} (h : L = M) (h2 : M[i]? = some o) : L[i]? = some o := h ▸ h2
theorem cast_frame {Q : Exit → Act → World → Prop} {a b : Act} {w : World} (h : a = b) (h' : Q .normal b w) : Q .normal a w := h ▸ h'
theorem rgn_open {P : Program} {id : Nat} {ops : List Oper} {Q : Exit → Act → World → Prop} {a : Act} {w : World} (h : ∀ L, L = ops → (Code.region id L.toArray true).wp P Q a w) : (Code.region id ops.toArray true).wp P Q a w := h _ rfl
end
end Go.Proofs.YtjapijndljknnaaGreatDoor

/-
  Program-independent: a drawn region by an invariant: what holds behind the operations that are done (D), and each operation that may come takes it on. However many orders there are, each operation is walked once.
-/
namespace Go.Proofs.YtjapijndljknnaaGreatDoor
open Go Go.RowKit
section
variable {P : Program} {ops : Array Oper} {Q : Exit → Act → World → Prop}
theorem wpOp_of_list {i : Nat} {o : Oper} {K : Act → World → Prop} {a : Act} {w : World} (ho : ops[i]? = some o) (h : wpList P ops (Exit.then K Q) [o] a w) : wpOp P ops Q i K a w := by
  simp only [wpOp, ho]
  simp only [wpList] at h
  split
  · rename_i hw
    rw [if_pos hw] at h
    rcases h with h | ⟨h1, h2⟩
    · refine .inl ?_
      unfold Oper.wp at *
      generalize (execOp a.eval o).run P w = r at *
      cases r with
      | ok n w' =>
        cases n <;> simp only [Oper.upon] at h ⊢
        case value u => exact h
        case skip => exact h
        case defer d => exact h
        case enter f args => exact Calls.mono h fun e w'' he => by cases e <;> exact he
        case row row args => exact h
      | halt x w' =>
        cases x <;> simp only [Oper.upon] at h ⊢
        case panic u => exact h
    · exact .inr ⟨h1, h2⟩
  · rename_i hw
    rw [if_neg hw] at h
    exact h
/-- What is done, and i. -/
def Done (i : Nat) (D : Nat → Prop) : Nat → Prop := fun j => j = i ∨ D j
theorem Done.old {i j : Nat} {D : Nat → Prop} (h : Done i D j) (hn : j ≠ i) : D j := Or.resolve_left h hn
theorem Done.now {i : Nat} {D : Nat → Prop} : Done i D i := .inl rfl
theorem Done.too {i j : Nat} {D : Nat → Prop} (h : D j) : Done i D j := .inr h
def Region.backB (ops : Array Oper) : Bool := (List.range ops.size).all fun i => ((ops[i]?).map fun o => o.after.all fun e => !Region.binds .any e || decide (e.on < i)).getD true
theorem Region.backB_spec {ops : Array Oper} (h : Region.backB ops = true) {i : Nat} {o : Oper} (ho : ops[i]? = some o) : ∀ e ∈ o.after, Region.binds .any e = true → e.on < i := by
  intro e he hb
  have hi : i < ops.size := by
    rcases Nat.lt_or_ge i ops.size with h1 | h1
    · exact h1
    · rw [Array.getElem?_eq_none h1] at ho; cases ho
  have h1 := List.all_eq_true.1 h i (List.mem_range.2 hi)
  rw [ho] at h1
  simp only [Option.map_some, Option.getD_some] at h1
  have h2 := Array.all_eq_true'.1 h1 e he
  rw [hb] at h2
  simpa using h2
theorem ready_all (hb : Region.backB ops = true) {listed : Array Bool} (hs : listed.size = ops.size) (hr : Region.ready .any ops listed = []) : ∀ i, i < ops.size → listed.getD i false = true := by
  intro i
  induction i using Nat.strongRecOn with
  | ind i ih =>
    intro hi
    cases hl : listed.getD i false with
    | true => rfl
    | false =>
      exfalso
      have ho : ops[i]? = some ops[i] := by simp [hi]
      have : i ∈ Region.ready .any ops listed := mem_ready.2 ⟨getD_in (by omega) hl, ops[i], ho, fun e he hbi => by
        have h1 := Region.backB_spec hb ho e he hbi
        exact ih e.on h1 (by omega)⟩
      rw [hr] at this
      cases this
theorem wpAny_inv (I : (Nat → Prop) → Act → World → Prop) (hb : Region.backB ops = true)
    (hs : ∀ (D : Nat → Prop) (i : Nat) (o : Oper), ops[i]? = some o → (∀ e ∈ o.after, Region.binds .any e = true → D e.on) → ¬ D i → ∀ a w, I D a w → wpOp P ops Q i (fun a' w' => I (fun j => j = i ∨ D j) a' w') a w)
    (he : ∀ D a w, (∀ i, i < ops.size → D i) → I D a w → Q .normal a w) :
    ∀ (f : Nat) (listed : Array Bool) (D : Nat → Prop) (a : Act) (w : World), listed.size = ops.size → (∀ i, i < ops.size → (listed.getD i false = true ↔ D i)) → listed.toList.count false = f → I D a w → wpAny P .any ops Q f listed a w
  | 0, listed, D, a, w, h1, h2, h3, h4 => by
    have hall : ∀ i, i < ops.size → listed.getD i false = true := fun i hi => by
      cases hl : listed.getD i false with
      | true => rfl
      | false =>
        exfalso
        have hi' : i < listed.size := by omega
        have : false ∈ listed.toList := by
          simp [hi'] at hl
          rw [← hl]
          exact Array.getElem_mem_toList hi'
        have := List.count_pos_iff.2 this
        omega
    refine ⟨?_, he D a w (fun i hi => (h2 i hi).1 (hall i hi)) h4⟩
    cases hr : Region.ready .any ops listed with
    | nil => rfl
    | cons j l =>
      exfalso
      obtain ⟨h5, o, ho, -⟩ := mem_ready.1 (show j ∈ Region.ready .any ops listed by rw [hr]; simp)
      have hj : j < ops.size := by
        rcases Nat.lt_or_ge j ops.size with h | h
        · exact h
        · rw [Array.getElem?_eq_none h] at ho; cases ho
      have := hall j hj
      rw [getD_both h5] at this
      cases this
  | f + 1, listed, D, a, w, h1, h2, h3, h4 => by
    refine ⟨fun hr => he D a w (fun i hi => (h2 i hi).1 (ready_all hb h1 hr i hi)) h4, fun i hi => ?_⟩
    obtain ⟨h5, o, ho, h6⟩ := mem_ready.1 hi
    have hil : i < ops.size := by
      rcases Nat.lt_or_ge i ops.size with h | h
      · exact h
      · rw [Array.getElem?_eq_none h] at ho; cases ho
    have h7 := getD_both h5
    have hD : ¬ D i := fun hc => by
      have := (h2 i hil).2 hc
      rw [h7] at this
      cases this
    have hback := Region.backB_spec hb ho
    refine wpOp_mono (fun a' w' h' => wpAny_inv I hb hs he f _ (fun j => j = i ∨ D j) a' w' (by simpa using h1) (fun j hj => ?_) ?_ h') (hs D i o ho (fun e he' hbi => (h2 e.on (by have := hback e he' hbi; omega)).1 (h6 e he' hbi)) hD a w h4)
    · by_cases hji : j = i
      · subst hji
        simp [h1, hil]
      · rw [getD_set_ne false (Ne.symm hji), h2 j hj]
        simp [hji]
    · have hi' : i < listed.toList.length := by simpa [h1] using hil
      have hlf : listed.toList[i] = false := by simp [h1, hil] at h7; simpa using h7
      rw [Array.toList_setIfInBounds, List.count_set hi', hlf, h3]
      simp
def waits (o : Oper) (j : Nat) : Bool := o.after.toList.any fun e => Region.binds .any e && Nat.beq e.on j
theorem waits_of {o : Oper} {D : Nat → Prop} (h : ∀ e ∈ o.after, Region.binds .any e = true → D e.on) (j : Nat) (hj : waits o j = true) : D j := by
  unfold waits at hj
  obtain ⟨e, he, hb⟩ := List.any_eq_true.1 hj
  simp only [Bool.and_eq_true] at hb
  obtain ⟨hb, h1⟩ := hb
  obtain rfl := Nat.eq_of_beq_eq_true h1
  exact h e (by simpa using he) hb
/-- A drawn region by an invariant over what is done. -/
theorem wp_region_inv {id : Nat} {a : Act} {w : World} {l : List Oper} (I : (Nat → Prop) → Act → World → Prop) (hm : P.follows .mixedOrders = true) (hb : Region.backB l.toArray = true) (h0 : I (fun _ => False) a w.drew)
    (hs : ∀ (i : Nat) (o : Oper), l[i]? = some o → ∀ D : Nat → Prop, (∀ j, waits o j = true → D j) → ¬ D i → ∀ a w, I D a w → ∀ K' : Act → World → Prop, (∀ a' w', I (Done i D) a' w' → K' a' w') → wpList P l.toArray (Exit.then K' Q) [o] a w)
    (he : ∀ D a w, (∀ i, i < l.length → D i) → I D a w → Q .normal a w) : (Code.region id l.toArray true).wp P Q a w := by
  refine wp_region_any hm (wpAny_inv I hb (fun D i o ho h1 h2 a w h3 => ?_) (fun D a w h1 h2 => he D a w (fun i hi => h1 i (by simpa using hi)) h2) _ _ (fun _ => False) a w.drew (by simp) (fun i hi => ?_) (by simp) h0)
  · exact wpOp_of_list ho (hs i o (by simpa using ho) D (waits_of h1) h2 a w h3 _ fun a' w' h => h)
  · rw [getD_replicate_false]; simp
/-- The operations of a list, one by one. -/
def EachO (p : Nat → Oper → Prop) : Nat → List Oper → Prop
  | _, [] => True
  | k, x :: l => p k x ∧ EachO p (k + 1) l
theorem EachO.at_ {p : Nat → Oper → Prop} : ∀ {l : List Oper} {k : Nat} (i : Nat) (o : Oper), EachO p k l → l[i]? = some o → p (k + i) o
  | [], _, _, _, _, h => by simp at h
  | x :: l, k, 0, o, h, ho => by simp at ho; subst ho; exact h.1
  | x :: l, k, i + 1, o, h, ho => by
    have := EachO.at_ (k := k + 1) i o h.2 (by simpa using ho)
    rwa [show k + 1 + i = k + (i + 1) by omega] at this
theorem of_each {p : Nat → Oper → Prop} {l : List Oper} (h : EachO p 0 l) : ∀ (i : Nat) (o : Oper), l[i]? = some o → p i o := fun i o ho => by
  have := EachO.at_ i o h ho
  rwa [Nat.zero_add] at this
/-- Facts by the numbers of the operations that lay them. -/
def AllF (D : Nat → Prop) : Nat → List Prop → Prop
  | _, [] => True
  | k, p :: l => (D k → p) ∧ AllF D (k + 1) l
theorem AllF.none : ∀ (l : List Prop) (k : Nat), AllF (fun _ => False) k l
  | [], _ => trivial
  | _ :: l, k => ⟨fun h => h.elim, AllF.none l (k + 1)⟩
theorem AllF.more {D : Nat → Prop} {i : Nat} : ∀ {l : List Prop} {k : Nat}, AllF D k l → i < k → AllF (fun j => j = i ∨ D j) k l
  | [], _, _, _ => trivial
  | p :: l, k, h, hi => ⟨fun hk => h.1 (hk.resolve_left (by omega)), AllF.more h.2 (by omega)⟩
theorem AllF.step_at {D : Nat → Prop} {p : Prop} (hp : p) : ∀ {l : List Prop} {k : Nat} (i : Nat), AllF D k l → AllF (fun j => j = k + i ∨ D j) k (l.set i p)
  | [], _, _, _ => by simp [AllF]
  | q :: l, k, 0, h => ⟨fun _ => hp, AllF.more h.2 (by omega)⟩
  | q :: l, k, i + 1, h => ⟨fun hk => h.1 (hk.resolve_left (by omega)), by have := AllF.step_at hp (k := k + 1) i h.2; rwa [show k + 1 + i = k + (i + 1) by omega] at this⟩
theorem AllF.step {D : Nat → Prop} {p : Prop} {l : List Prop} (i : Nat) (h : AllF D 0 l) (hp : p) : AllF (Done i D) 0 (l.set i p) := by
  have := AllF.step_at hp (k := 0) i h
  rw [Nat.zero_add] at this
  exact this
end
end Go.Proofs.YtjapijndljknnaaGreatDoor
