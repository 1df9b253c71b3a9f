/-
  Texts merged by a program of this claim's: LogK, LogCalm, AwPlain, AwLog, AckPlain, Firsts, Close, Open.
-/
import Derived.Test.YtkbenkldfehhlaaGreatDoorLogJS
import Derived.Test.YtkbenkldfehhlaaGreatDoorM12
import Derived.Test.YtkbenkldfehhlaaGreatDoorM5
import Derived.Test.YtkbenkldfehhlaaGreatDoorM1
import Derived.Carry
import Derived.ChangeCalls
import Derived.Deep.DeepHandedRow
import Derived.Lib.LaidTab
import Derived.Deep.Slices
import Derived.ChangeSlices
import Derived.ChangeShapes
namespace Go.Proofs.YtkbenkldfehhlaaGreatDoor
open Go Go.RowKit Go.Sort
set_option maxRecDepth 100000
set_option maxHeartbeats 1600000
section
variable {X : Nat → Prop} {w0 w w' : World} {b : Nat} {d d' : Dsk}
def Created (X : Nat → Prop) (w0 w : World) (b : Nat) (d' : Dsk) (x : Int) (L : Lg) (e : Ending) (w' : World) : Prop :=
  Kept X w w' ∧ ((x = 0 ∧ ∃ p, e = .returned (.tuple #[.pointer (some ⟨p, 0, none⟩), .int .i64 0]) ∧ HasL X w0 w' p b d' L) ∨ (x ≠ 0 ∧ e = .returned (.tuple #[.pointer none, .int .i64 x]) ∧ HasX X w0 w' b d'))
theorem seg0_ok : (⟨segName 0, 0, 0, false⟩ : Pc).Ok := by
  refine ⟨?_, by unfold in64; simp, by unfold in64; simp⟩
  have := Lib.decDigits_length 0
  have := Lib.nDigits_le20 0 (by omega)
  simp only [segName, List.length_cons]; omega
theorem Create_ok (h : HasX X w0 w b d) (ht : Tab w0) (size : Int) :
    Calls Tryz.prog 25 #[.pointer (some ⟨b, 0, none⟩), .int .i64 size] w (Created X w0 w b (createD d size).1 (createD d size).2 (newLg size)) := by
  have H := Lib.hid h
  have HT := Lib.hid ht
  clear h ht
  by_cases hs : 64 ≤ size ∧ size ≤ 16777216
  case neg =>
    have E : Hid (createD d size = (d, 2)) := Lib.hid (by unfold createD; rw [if_pos (by omega)])
    have HZ := Lib.hid (sized_ok size (ok := false) (by simp [hs]) w)
    rw [E.out]
    clear hs E
    go_enter Tryz.func25, Tryz.ntmps25
    go_wp2_with fail
    refine HZ.out.mono ?_
    rintro e w1 ⟨rfl, rfl⟩
    go_wp2
    refine bodyPost_ret (v := .tuple #[.pointer none, .int .i64 2]) (by simp [results, Tryz.results25, go_sem]) rfl ⟨Kept.refl _, .inr ⟨by decide, rfl, H.out⟩⟩
  have HZ := Lib.hid (sized_ok size (ok := true) (by simp [hs]) w)
  obtain ⟨l0, x0, hrd⟩ : ∃ l x, d.read manifestS = (l, x) := ⟨_, _, rfl⟩
  have HRD := Lib.hid (H.out.read manifestS hrd)
  have hns : ¬ (size < 64 ∨ 16777216 < size) := by omega
  have E0 : Hid (x0 = 0 → createD d size = (d, 14)) := Lib.hid (fun hx => by unfold createD; rw [if_neg hns, hrd, if_pos hx])
  have E1 : Hid (x0 ≠ 0 → x0 ≠ 13 → createD d size = (d, x0)) := Lib.hid (fun h1 h2 => by unfold createD; rw [if_neg hns, hrd, if_neg h1, if_pos h2])
  obtain ⟨r1, hr1⟩ : ∃ r, d.begun 0 = r := ⟨_, rfl⟩
  obtain ⟨r2, hr2⟩ : ∃ r, r1.1.install (newLg size).l = r := ⟨_, rfl⟩
  have E2 : Hid (x0 = 13 → r1.2 ≠ 0 → createD d size = r1) := Lib.hid (fun h1 h2 => by unfold createD; rw [if_neg hns, hrd, if_neg (by simp [h1]), if_neg (by simp [h1]), hr1, if_pos h2])
  have E3 : Hid (x0 = 13 → r1.2 = 0 → createD d size = r2) := Lib.hid (fun h1 h2 => by unfold createD; rw [if_neg hns, hrd, if_neg (by simp [h1]), if_neg (by simp [h1]), hr1, if_neg (by simp [h2]), hr2])
  have R1 := Lib.hid hr1
  have R2 := Lib.hid hr2
  obtain ⟨ms, hms⟩ : ∃ ms, manifestS = ms := ⟨_, rfl⟩
  clear hs hrd hns hr1 hr2 hms ms
  unfold manifestS at HRD
  go_enter Tryz.func25, Tryz.ntmps25
  go_wp2_with fail
  refine HZ.out.mono ?_
  rintro e w1 ⟨rfl, rfl⟩
  go_wp2_with fail
  refine HRD.out.mono ?_
  rintro e w1 ⟨v1, rfl, q1, n1, -⟩
  obtain ⟨xa, xc, rfl, -⟩ := q1.rd.len
  have N1 := Lib.hid n1
  clear q1 n1 HRD HZ
  by_cases hx0 : x0 = 0
  · have E := Lib.hid (E0.out hx0)
    subst hx0
    go_wp2
    refine bodyPost_ret (v := .tuple #[.pointer none, .int .i64 14]) (by simp [results, Tryz.results25, go_sem]) rfl ?_
    rw [E.out]
    exact ⟨N1.out.kept, .inr ⟨by simp, rfl, H.out.nw N1.out⟩⟩
  have hb0 : (x0 == 0) = false := by simpa using hx0
  by_cases hx1 : x0 = 13
  case neg =>
    have E := Lib.hid (E1.out hx0 hx1)
    have hb1 : (x0 != 13) = true := by simpa using hx1
    have HX := Lib.hid hx0
    clear hx0 hx1
    go_wp2
    refine bodyPost_ret (v := .tuple #[.pointer none, .int .i64 x0]) (by simp [results, Tryz.results25, go_sem]) rfl ?_
    rw [E.out]
    exact ⟨N1.out.kept, .inr ⟨HX.out, rfl, H.out.nw N1.out⟩⟩
  have E2' := Lib.hid (E2.out hx1)
  have E3' := Lib.hid (E3.out hx1)
  subst hx1
  clear hx0 E0 E1 E2 E3
  have H1 := Lib.hid (H.out.nw N1.out)
  have HBG := Lib.hid (begin_ok H1.out 0 (by omega) (HT.out.nw H1.out.base))
  go_wp2_with fail
  refine HBG.out.mono ?_
  rintro e w2 ⟨rfl, q1, q2⟩
  have hr1 := R1.out
  rw [hr1] at q1 ⊢
  have H2 := Lib.hid q1
  have K2 : Hid (Kept X w w2) := Lib.hid (N1.out.kept.trans q2)
  obtain ⟨sn, hsn⟩ : ∃ sn, segName 0 = sn := ⟨_, rfl⟩
  obtain ⟨hb, hhb⟩ : ∃ hb, (headB 0).length = hb := ⟨_, rfl⟩
  rw [hsn, hhb]
  have ES := Lib.hid hsn
  have EH := Lib.hid hhb
  clear q1 q2 hr1 hsn hhb HBG
  by_cases hx2 : r1.2 = 0
  case neg =>
    have E := Lib.hid (E2'.out hx2)
    have hbq : (r1.2 != 0) = true := by simpa using hx2
    have HX := Lib.hid hx2
    clear hx2
    go_wp2
    refine bodyPost_ret (v := .tuple #[.pointer none, .int .i64 r1.2]) (by simp [results, Tryz.results25, go_sem]) rfl ?_
    rw [E.out]
    exact ⟨K2.out, .inr ⟨HX.out, rfl, H2.out⟩⟩
  have E := Lib.hid (E3'.out hx2)
  have hbq : (r1.2 != 0) = false := by simpa using hx2
  clear hx2 E2' E3'
  have n3 := (Nw.refl w2).alloc (.cells #[.string ⟨sn.toArray⟩, .int .i64 0, .int .i64 0, .bool false] 98 (0, 0))
  have hs3 := src_lit w2 98 (0, 0) 4 1 1 [.string ⟨sn.toArray⟩, .int .i64 0, .int .i64 0, .bool false] rfl (by omega) (by decide)
  have P3 : Hid (Pcs (w2.alloc (.cells #[.string ⟨sn.toArray⟩, .int .i64 0, .int .i64 0, .bool false] 98 (0, 0))) (.slice (some ⟨w2.heap.size, 0, none⟩) 1 1) (newLg size).l) := Lib.hid (by
    refine ⟨?_, fun q hq => ?_⟩
    · have : (newLg size).l.flatMap pcV = [.string ⟨sn.toArray⟩, .int .i64 0, .int .i64 0, .bool false] := by simp [newLg, pcV, ES.out]
      rw [this]
      exact hs3
    · simp only [newLg, List.mem_singleton] at hq
      subst hq; exact seg0_ok)
  have D3 : Hid (HasX (fun k => X k ∨ k = w2.heap.size) w0 (w2.alloc (.cells #[.string ⟨sn.toArray⟩, .int .i64 0, .int .i64 0, .bool false] 98 (0, 0))) b r1.1) := Lib.hid (H2.out.alloc _)
  have HIN := Lib.hid (Install_ok D3.out P3.out)
  have N3 := Lib.hid n3
  have hr2 := R2.out
  rw [hr2] at HIN
  clear n3 hs3 hr2
  go_wp2_with fail
  refine HIN.out.mono ?_
  rintro e w4 ⟨rfl, q1, q2⟩
  have D4 := Lib.hid q1
  have K4' := Lib.hid q2
  have K4 : Hid (Kept X w w4) := Lib.hid ((K2.out.trans N3.out.kept).trans (q2.weak fun k hk => .inl hk))
  have hg4 : w2.heap.size < w4.heap.size := Nat.lt_of_lt_of_le (by simp) q2.1
  have P4 : Hid (Pcs w4 (.slice (some ⟨w2.heap.size, 0, none⟩) 1 1) (newLg size).l) := Lib.hid (by
    refine ⟨?_, P3.out.ok⟩
    obtain ⟨e, ⟨a, hv, hz⟩ | ⟨g', o', cap', hv, h1, h2, h3, h4⟩⟩ := P3.out.src
    · cases hv
    · injection hv with ea eb ec
      injection ea with ea
      injection ea with e1 e2
      subst e1 e2 ec
      exact ⟨e, .inr ⟨_, 0, 1, rfl, h1, h2, hg4, fun j hj => q2.cell (h4 j hj) (.inr rfl)⟩⟩)
  clear q1 q2 HIN
  by_cases hx3 : r2.2 = 0
  case neg =>
    have hbq3 : (r2.2 != 0) = true := by simpa using hx3
    have HX := Lib.hid hx3
    clear hx3
    go_wp2
    refine bodyPost_ret (v := .tuple #[.pointer none, .int .i64 r2.2]) (by simp [results, Tryz.results25, go_sem]) rfl ?_
    rw [E.out]
    exact ⟨K4.out, .inr ⟨HX.out, rfl, D4.out.weak fun k hk => .inl hk⟩⟩
  have hbq3 : (r2.2 != 0) = false := by simpa using hx3
  have HX := Lib.hid hx3
  clear hx3
  go_wp2
  refine bodyPost_ret (v := .tuple #[.pointer (some ⟨w4.heap.size, 0, none⟩), .int .i64 0]) (by simp [results, Tryz.results25, go_sem]) rfl ?_
  rw [E.out]
  have n5 := (Nw.refl w4).alloc (.cells #[.pointer (some ⟨b, 0, none⟩), .int .i64 size, .slice (some ⟨w2.heap.size, 0, none⟩) 1 1, .int .i64 0, .int .i64 0, .int .i64 hb, .bool false] 116 (0, 0))
  have hb5 := heap_alloc_new w4 (.cells #[.pointer (some ⟨b, 0, none⟩), .int .i64 size, .slice (some ⟨w2.heap.size, 0, none⟩) 1 1, .int .i64 0, .int .i64 0, .int .i64 hb, .bool false] 116 (0, 0))
  have hs0 := H2.out.base.size
  have hs4 := D4.out.base.size
  refine ⟨K4.out.trans n5.kept, .inl ⟨HX.out, w4.heap.size, rfl, w2.heap.size, 0, 1, ⟨?_, ?_, ?_⟩, ?_, hs4, fun hx => ?_, hs0, by omega, fun hx => by have := H2.out.lt _ hx; omega⟩⟩
  · rw [hb5]
    simp [newLg, EH.out]
  · exact P4.out.nw n5
  · simp [newLg]
  · refine D4.out.nwY n5 (fun k hk => ?_)
    rcases hk with hk | rfl | rfl
    · exact .inl (.inl hk)
    · exact .inr ⟨Nat.le_refl _, by simp⟩
    · exact .inl (.inr rfl)
  · have := D4.out.lt _ (.inl hx)
    omega
end
end Go.Proofs.YtkbenkldfehhlaaGreatDoor

namespace Go.Proofs.YtkbenkldfehhlaaGreatDoor
open Go
structure LInv (d : Dsk) (L : Lg) (A : List Pc) (p : Pc) : Prop where
  calm : Calm d
  over : L.over = false
  l : L.l = A ++ [p]
  right : RightP A p
  names : (namesF d.files).Perm (manifestS :: L.l.map Pc.name)
  seg : ∀ q ∈ L.l, q.name = segName q.first.toNat
  acked0 : p.first ≤ L.acked
  acked1 : L.acked ≤ L.n
  man : fileOf d.files manifestS = ⟨manifestB L.l, (manifestB L.l).length⟩

section
variable {d : Dsk} {L : Lg} {A : List Pc} {p : Pc}
theorem LInv.open_ (h : LInv d L A p) : lastP L.l = p := by rw [h.l, lastP_snoc]
theorem LInv.few (h : LInv d L A p) : d.files.length ≤ 101 := by
  have e := h.names.length_eq
  have f := h.right.few
  simp only [namesF, List.length_map, List.length_cons, h.l, List.length_append, List.length_nil] at e
  omega
theorem LInv.mem (h : LInv d L A p) : p.name ∈ namesF d.files := by
  rw [h.names.mem_iff, h.l]; simp
theorem LInv.firsts (h : LInv d L A p) : 0 ≤ p.first ∧ ∀ q ∈ L.l, 0 ≤ q.first ∧ q.first ≤ p.first := by
  have e := sealed_end A [] 0 h.right.sealed_
  have f := h.right.first
  refine ⟨by omega, fun q hq => ?_⟩
  rw [h.l, List.mem_append, List.mem_singleton] at hq
  rcases hq with hq | rfl
  · have := e.2 q hq; omega
  · omega
theorem LInv.no_next (h : LInv d L A p) : nextS ∉ namesF d.files := by
  rw [h.names.mem_iff]
  simp only [List.mem_cons, not_or]
  refine ⟨by decide, fun hc => ?_⟩
  obtain ⟨q, hq, hn⟩ := List.mem_map.1 hc
  rw [h.seg q hq] at hn
  exact absurd (List.cons.inj hn).1 (by decide)
theorem LInv.no_seg (h : LInv d L A p) {n : Nat} (hn : p.first < n) : segName n ∉ namesF d.files := by
  rw [h.names.mem_iff]
  simp only [List.mem_cons, not_or]
  refine ⟨fun hc => absurd (List.cons.inj hc).1 (by decide), fun hc => ?_⟩
  obtain ⟨q, hq, hm⟩ := List.mem_map.1 hc
  rw [h.seg q hq] at hm
  have := segName_inj hm
  have := h.firsts.2 q hq
  omega
theorem morePcs_eq (h : LInv d L A p) : morePcs L = (A ++ [{ p with count := L.n - p.first }]) ++ [⟨segName L.n, L.n, 0, false⟩] := by
  unfold morePcs
  rw [h.open_, h.l, List.dropLast_concat]
  simp
theorem LInv.more (h : LInv d L A p) (h100 : A.length + 1 < 100) (hn : p.first < L.n) (hN : (L.n : Int) ≤ 1099511627776) :
    RightP (A ++ [{ p with count := L.n - p.first }]) ⟨segName L.n, L.n, 0, false⟩ := by
  have r := h.right
  have f := h.firsts.1
  refine ⟨by simpa using h100, (sealedFrom_snoc _ _ _ _).2 ⟨r.sealed_, r.name, by simp, r.apart, r.first, ?_, ?_⟩, segName_ok (by omega), ?_, ?_, rfl, rfl⟩
  · simp only; omega
  · simp only; omega
  · intro hc
    have hm := h.no_seg hn
    rw [h.names.mem_iff, h.l] at hm
    refine hm (List.mem_cons_of_mem _ ?_)
    simpa using hc
  · rw [endOf_snoc, ← r.first]
    simp only; omega
theorem another_calm' (h : LInv d L A p) (h100 : A.length + 1 < 100) (hn : p.first < L.n) (hN : (L.n : Int) ≤ 1099511627776) (hroom : ((usedF d.files : Nat) : Int) + (headB L.n).length + (manifestB (morePcs L)).length ≤ d.most) :
    ∃ F, L.another d = ⟨{ d with files := F }, { L with acked := L.n, l := morePcs L, bytes := (headB L.n).length }, 0⟩ ∧
      LInv { d with files := F } { L with acked := L.n, l := morePcs L, bytes := (headB L.n).length } (A ++ [{ p with count := L.n - p.first }]) ⟨segName L.n, L.n, 0, false⟩ ∧
      usedF F ≤ usedF d.files + (headB L.n).length + (manifestB (morePcs L)).length ∧
      ∀ m, fileOf F m = if m = manifestS then ⟨manifestB (morePcs L), (manifestB (morePcs L)).length⟩ else if m = segName L.n then ⟨headB L.n, (headB L.n).length⟩
        else if m = p.name then ⟨(fileOf d.files p.name).bytes, (fileOf d.files p.name).bytes.length⟩ else fileOf d.files m := by
  have hr := h.more h100 hn hN
  have hrl : rightL (morePcs L) = true := by rw [morePcs_eq h]; exact (rightL_iff _ _).2 hr
  have hml := manifestB_len hrl
  have hhl := headB_len (n := L.n) (by omega)
  have hfew := h.few
  have hsn := h.no_seg hn
  have hnx := h.no_next
  have hok := segName_ok (n := L.n) (by omega)
  have hnm : ¬ manifestS = segName L.n := fun hc => (okPiece_name hok).2.1 hc.symm
  have hpm : ¬ manifestS = p.name := fun hc => (okPiece_name hr.name).2.1 (by
    have := (okPiece_name h.right.name).2.1
    exact absurd hc.symm this)
  have hnp : ¬ segName L.n = p.name := fun hc => hsn (hc ▸ h.mem)
  have e1 := sync_calm h.calm h.mem
  have c1 := h.calm.setF p.name ⟨(fileOf d.files p.name).bytes, (fileOf d.files p.name).bytes.length⟩
  have u1 : usedF (setF d.files p.name ⟨(fileOf d.files p.name).bytes, (fileOf d.files p.name).bytes.length⟩) = usedF d.files := by
    have := usedF_setF d.files p.name ⟨(fileOf d.files p.name).bytes, (fileOf d.files p.name).bytes.length⟩
    simp only at this; omega
  have n1 : namesF (setF d.files p.name ⟨(fileOf d.files p.name).bytes, (fileOf d.files p.name).bytes.length⟩) = namesF d.files := by rw [nmF_setF, if_pos h.mem]
  have f1 := fun m => fileOf_setF d.files p.name m ⟨(fileOf d.files p.name).bytes, (fileOf d.files p.name).bytes.length⟩
  have l1 : (setF d.files p.name ⟨(fileOf d.files p.name).bytes, (fileOf d.files p.name).bytes.length⟩).length = d.files.length := by rw [length_setF, if_pos h.mem]
  generalize setF d.files p.name ⟨(fileOf d.files p.name).bytes, (fileOf d.files p.name).bytes.length⟩ = F1 at *
  have e2 := fresh_calm (n := segName L.n) (b := headB L.n) c1 (okPiece_name hok).1 (by simp only [u1]; omega) (by simp only [l1]; omega)
  simp only at e2
  rw [delF_miss (by rw [n1]; exact hsn)] at e2
  have n2 : namesF (F1 ++ [(segName L.n, (⟨headB L.n, (headB L.n).length⟩ : DFile))]) = namesF d.files ++ [segName L.n] := by rw [← n1]; simp [namesF]
  have c2 : Calm { d with files := F1 ++ [(segName L.n, ⟨headB L.n, (headB L.n).length⟩)] } := c1.same _ (by
    rw [← setF_miss (by rw [n1]; exact hsn)]; exact nodup_setF c1.names _ _)
  have u2 : usedF (F1 ++ [(segName L.n, (⟨headB L.n, (headB L.n).length⟩ : DFile))]) = usedF d.files + (headB L.n).length := by
    rw [← u1]; simp [usedF]
  have f2 : ∀ m, fileOf (F1 ++ [(segName L.n, (⟨headB L.n, (headB L.n).length⟩ : DFile))]) m = if m = segName L.n then ⟨headB L.n, (headB L.n).length⟩ else fileOf F1 m := fun m => by
    rw [← setF_miss (by rw [n1]; exact hsn), fileOf_setF]
    by_cases hm : m = segName L.n
    · rw [if_pos hm.symm, if_pos hm]
    · rw [if_neg (Ne.symm hm), if_neg hm]
  generalize F1 ++ [(segName L.n, (⟨headB L.n, (headB L.n).length⟩ : DFile))] = F2 at *
  have l2 : F2.length = d.files.length + 1 := by
    have := congrArg List.length n2
    simpa [namesF] using this
  have hnx2 : nextS ∉ namesF F2 := by
    rw [n2]; simp only [List.mem_append, List.mem_singleton, not_or]
    exact ⟨hnx, fun hc => (okPiece_name hok).2.2 hc.symm⟩
  have e3 := install_calm (l := morePcs L) c2 hrl (by simp only [u2]; omega) (by simp only [l2]; omega)
  simp only at e3
  rw [delF_miss hnx2] at e3
  have hman : manifestS ∈ namesF F2 := by
    rw [n2, List.mem_append, h.names.mem_iff]; simp
  have n3 : namesF (setF F2 manifestS ⟨manifestB (morePcs L), (manifestB (morePcs L)).length⟩) = namesF F2 := by rw [nmF_setF, if_pos hman]
  have c3 := c2.setF manifestS ⟨manifestB (morePcs L), (manifestB (morePcs L)).length⟩
  have u3 := usedF_setF F2 manifestS ⟨manifestB (morePcs L), (manifestB (morePcs L)).length⟩
  have f3 := fun m => fileOf_setF F2 manifestS m ⟨manifestB (morePcs L), (manifestB (morePcs L)).length⟩
  generalize setF F2 manifestS ⟨manifestB (morePcs L), (manifestB (morePcs L)).length⟩ = F3 at *
  have hF : ∀ m, fileOf F3 m = if m = manifestS then ⟨manifestB (morePcs L), (manifestB (morePcs L)).length⟩ else if m = segName L.n then ⟨headB L.n, (headB L.n).length⟩
        else if m = p.name then ⟨(fileOf d.files p.name).bytes, (fileOf d.files p.name).bytes.length⟩ else fileOf d.files m := fun m => by
    rw [f3, f2, f1]
    by_cases h1 : m = manifestS
    · subst h1; simp
    · rw [if_neg (Ne.symm h1), if_neg h1]
      by_cases h2 : m = segName L.n
      · rw [if_pos h2, if_pos h2]
      · rw [if_neg h2, if_neg h2]
        by_cases h3 : m = p.name
        · rw [if_pos h3.symm, if_pos h3]
        · rw [if_neg (Ne.symm h3), if_neg h3]
  refine ⟨F3, ?_, ⟨c3, h.over, morePcs_eq h, hr, ?_, ?_, by simp only; omega, by simp only; omega, ?_⟩, ?_, hF⟩
  · unfold Lg.another
    have hll : ¬ 100 ≤ L.l.length := by rw [h.l]; simp only [List.length_append, List.length_singleton]; omega
    rw [if_neg hll, h.open_, e1]
    simp only [ne_eq, not_true_eq_false, if_false]
    rw [show ({ d with files := F1 } : Dsk).begun L.n = _ from e2]
    simp only [not_true_eq_false, if_false]
    rw [e3]
    simp only [not_true_eq_false, if_false]
  · simp only
    rw [n3, n2, morePcs_eq h]
    have hp := h.names
    rw [h.l] at hp
    refine (hp.append_right [segName L.n]).trans ?_
    simp
  · intro q hq
    simp only at hq
    rw [morePcs_eq h, List.mem_append, List.mem_singleton] at hq
    rcases hq with hq | rfl
    · rw [List.mem_append, List.mem_singleton] at hq
      rcases hq with hq | rfl
      · exact h.seg q (by rw [h.l]; simp [hq])
      · exact h.seg p (by rw [h.l]; simp)
    · simp
  · simp only
    rw [hF, if_pos rfl]
  · simp only at u3
    omega
theorem another_calm (h : LInv d L A p) (h100 : A.length + 1 < 100) (hn : p.first < L.n) (hN : (L.n : Int) ≤ 1099511627776) (hroom : ((usedF d.files : Nat) : Int) + 6227 ≤ d.most) :
    ∃ F, L.another d = ⟨{ d with files := F }, { L with acked := L.n, l := morePcs L, bytes := (headB L.n).length }, 0⟩ ∧
      LInv { d with files := F } { L with acked := L.n, l := morePcs L, bytes := (headB L.n).length } (A ++ [{ p with count := L.n - p.first }]) ⟨segName L.n, L.n, 0, false⟩ ∧
      usedF F ≤ usedF d.files + 6227 ∧
      ∀ m, fileOf F m = if m = manifestS then ⟨manifestB (morePcs L), (manifestB (morePcs L)).length⟩ else if m = segName L.n then ⟨headB L.n, (headB L.n).length⟩
        else if m = p.name then ⟨(fileOf d.files p.name).bytes, (fileOf d.files p.name).bytes.length⟩ else fileOf d.files m := by
  have hr := h.more h100 hn hN
  have hrl : rightL (morePcs L) = true := by rw [morePcs_eq h]; exact (rightL_iff _ _).2 hr
  have hml := manifestB_len hrl
  have hhl := headB_len (n := L.n) (by omega)
  obtain ⟨F, h1, h2, h3, h4⟩ := another_calm' h h100 hn hN (by omega)
  exact ⟨F, h1, h2, by omega, h4⟩
theorem put_calm (h : LInv d L A p) (es : List Ev) (hroom : ((usedF d.files + (frmB es).length : Nat) : Int) ≤ d.most) :
    L.put d es = ⟨{ d with files := setF d.files p.name ⟨(fileOf d.files p.name).bytes ++ frmB es, (fileOf d.files p.name).synced⟩ }, { L with n := L.n + es.length, bytes := L.bytes + (frmB es).length }, 0⟩ ∧
      LInv { d with files := setF d.files p.name ⟨(fileOf d.files p.name).bytes ++ frmB es, (fileOf d.files p.name).synced⟩ } { L with n := L.n + es.length, bytes := L.bytes + (frmB es).length } A p ∧
      usedF (setF d.files p.name ⟨(fileOf d.files p.name).bytes ++ frmB es, (fileOf d.files p.name).synced⟩) = usedF d.files + (frmB es).length := by
  have hpm : ¬ p.name = manifestS := (okPiece_name h.right.name).2.1
  have e := append_calm (n := p.name) (b := frmB es) h.calm (okPiece_name h.right.name).1 hroom (.inl h.mem)
  have u := usedF_setF d.files p.name ⟨(fileOf d.files p.name).bytes ++ frmB es, (fileOf d.files p.name).synced⟩
  refine ⟨?_, ⟨h.calm.setF _ _, h.over, h.l, h.right, ?_, h.seg, h.acked0, ?_, ?_⟩, ?_⟩
  · unfold Lg.put
    rw [h.open_, e]
    simp
  · simp only
    rw [nmF_setF, if_pos h.mem]; exact h.names
  · have := h.acked1
    simp only; omega
  · simp only
    rw [fileOf_setF, if_neg hpm]; exact h.man
  · simp only [List.length_append] at u
    omega
theorem lsync_calm (h : LInv d L A p) :
    L.sync d = ⟨{ d with files := setF d.files p.name ⟨(fileOf d.files p.name).bytes, (fileOf d.files p.name).bytes.length⟩ }, { L with acked := L.n }, 0⟩ ∧
      LInv { d with files := setF d.files p.name ⟨(fileOf d.files p.name).bytes, (fileOf d.files p.name).bytes.length⟩ } { L with acked := L.n } A p ∧
      usedF (setF d.files p.name ⟨(fileOf d.files p.name).bytes, (fileOf d.files p.name).bytes.length⟩) = usedF d.files := by
  have hpm : ¬ p.name = manifestS := (okPiece_name h.right.name).2.1
  have e := sync_calm h.calm h.mem
  have u := usedF_setF d.files p.name ⟨(fileOf d.files p.name).bytes, (fileOf d.files p.name).bytes.length⟩
  have a0 := h.acked0
  have a1 := h.acked1
  refine ⟨?_, ⟨h.calm.setF _ _, h.over, h.l, h.right, ?_, h.seg, by simp only; omega, by simp only; omega, ?_⟩, ?_⟩
  · unfold Lg.sync
    rw [h.over, h.open_, e]
    simp
  · simp only
    rw [nmF_setF, if_pos h.mem]; exact h.names
  · simp only
    rw [fileOf_setF, if_neg hpm]; exact h.man
  · simp only at u
    omega
theorem add_stay (h : LInv d L A p) {es : List Ev} (h1 : es.length ≠ 0) (h2 : es.length ≤ 4096) (hst : ¬ (p.first < L.n ∧ L.size ≤ L.bytes)) : L.add d es = L.put d es := by
  unfold Lg.add Lg.roomed
  rw [h.over, h.open_, if_neg hst, if_neg (by simp), if_neg h1, if_neg (by omega), if_neg (by simp)]
theorem add_more (h : LInv d L A p) {es : List Ev} (h1 : es.length ≠ 0) (h2 : es.length ≤ 4096) (hst : p.first < L.n ∧ L.size ≤ L.bytes) (he : (L.another d).e = 0) : L.add d es = (L.another d).L.put (L.another d).d es := by
  unfold Lg.add Lg.roomed
  rw [h.over, h.open_, if_pos hst, if_neg (by simp), if_neg h1, if_neg (by omega), if_neg (by simp [he])]
theorem create_calm' (m : Int) (hm : 40 ≤ m) {size : Int} (hs : 64 ≤ size) (hs2 : size ≤ 16777216) :
    ∃ F, createD (newDsk m) size = ({ newDsk m with files := F }, 0) ∧ LInv { newDsk m with files := F } (newLg size) [] ⟨segName 0, 0, 0, false⟩ ∧ usedF F ≤ 40 ∧ F = [(segName 0, ⟨headB 0, (headB 0).length⟩), (manifestS, ⟨manifestB (newLg size).l, (manifestB (newLg size).l).length⟩)] := by
  have hc : Calm (newDsk m) := ⟨rfl, rfl, by simp [newDsk, namesF]⟩
  have hR : RightP [] ⟨segName 0, 0, 0, false⟩ := ⟨by simp, rfl, segName_ok (by decide), by simp, rfl, rfl, rfl⟩
  have hrl : rightL (newLg size).l = true := (rightL_iff [] _).2 hR
  have hs0 : segName 0 = [115, 48] := by rw [segName, Lib.decDigits_one (by omega)]; rfl
  have hh : (headB 0).length = 9 := by rw [headB, uintB_small (by omega)]; rfl
  have hml : (manifestB (newLg size).l).length = 15 := by
    simp only [manifestB, manifestIn, newLg, sealB, List.flatMap_cons, List.flatMap_nil, pieceB, blobB, hs0, List.length_append, List.length_cons, List.length_nil, sumB_len]
    rw [uintB_small (by simp), uintB_small (by simp), uintB_small (by simp)]
    simp
  have e1 := fresh_calm (n := segName 0) (b := headB 0) hc (okPiece_name (segName_ok (by decide))).1 (by simp [newDsk, usedF, hh]; omega) (by simp [newDsk])
  have e1' : (newDsk m).begun 0 = ({ newDsk m with files := [(segName 0, ⟨headB 0, (headB 0).length⟩)] }, 0) := e1
  have c1 : Calm { newDsk m with files := [(segName 0, (⟨headB 0, (headB 0).length⟩ : DFile))] } := hc.same _ (by simp [namesF])
  have e2 := install_calm c1 hrl (by simp [newDsk, usedF, hh, hml]; omega) (by simp)
  have hne : ¬ segName 0 = nextS := (okPiece_name (segName_ok (by decide))).2.2
  have hnm : ¬ segName 0 = manifestS := (okPiece_name (segName_ok (by decide))).2.1
  have e2' : setF (delF [(segName 0, (⟨headB 0, (headB 0).length⟩ : DFile))] nextS) manifestS ⟨manifestB (newLg size).l, (manifestB (newLg size).l).length⟩ = [(segName 0, ⟨headB 0, (headB 0).length⟩), (manifestS, ⟨manifestB (newLg size).l, (manifestB (newLg size).l).length⟩)] := by
    simp [delF, setF, hne, hnm]
  simp only at e2
  rw [e2'] at e2
  refine ⟨_, ?_, ⟨⟨rfl, rfl, ?_⟩, rfl, rfl, hR, ?_, ?_, by simp [newLg], by simp [newLg], ?_⟩, ?_, rfl⟩
  · unfold createD
    have hrd : (newDsk m).read manifestS = ([], 13) := rfl
    rw [if_neg (by omega), hrd, if_neg (by decide), if_neg (by decide), e1', if_neg (by simp), e2]
  · simp [namesF, hnm]
  · simp only [namesF, newLg, List.map_cons, List.map_nil]
    exact List.Perm.swap _ _ _
  · intro q hq
    simp only [newLg, List.mem_singleton] at hq
    subst hq; rfl
  · simp [fileOf, getF, hnm]
  · simp [usedF, hh, hml]
end
end Go.Proofs.YtkbenkldfehhlaaGreatDoor

namespace Go.Proofs.YtkbenkldfehhlaaGreatDoor
open Go
def ev1 : Ev := ⟨0, 0, 0, 1, 0⟩
theorem intB0 : intB 0 = [0] := by unfold intB zig; rw [if_pos (by omega), uintB_small (by omega)]; rfl
theorem intB1 : intB 1 = [2] := by unfold intB zig; rw [if_pos (by omega), uintB_small (by omega)]; rfl
theorem w64_0 : w64 0 = 0 := by decide
theorem w64_1 : w64 1 = 1 := by decide
theorem frm_of {e : Ev} (h : (putE Ev.zero e).length = 5) : (frmB [e]).length = 11 := by
  have hb : (bodyB [e]).length = 6 := by
    simp only [bodyB, putL, List.length_cons, List.length_nil, List.length_append, h]
    rw [uintB_small (by omega)]
    rfl
  simp only [frameB, sealB, List.length_append, sumB_len, hb]
  rw [uintB_small (by omega)]
  rfl
theorem frm1 : (frmB [ev1]).length = 11 := frm_of (by simp [putE, ev1, Ev.zero, w64_0, w64_1, intB0, intB1])
theorem frm0 : (frmB [Ev.zero]).length = 11 := frm_of (by simp [putE, Ev.zero, w64_0, intB0])
theorem putE_ge (h e : Ev) : 5 ≤ (putE h e).length := by
  have a := uintB_pos (zig (w64 (e.thread - h.thread)))
  have b := uintB_pos (zig (w64 (e.obj - h.obj)))
  have c := uintB_pos (zig (w64 (e.a - h.a)))
  have d := uintB_pos (zig (w64 (e.b - h.b)))
  simp only [putE, intB, List.length_cons, List.length_append]
  omega
theorem putL_ge : ∀ (l : List Ev) (h : Ev), 5 * l.length ≤ (putL h l).length
  | [], _ => by simp [putL]
  | e :: l, h => by
    have h1 := putE_ge h e
    have h2 := putL_ge l e
    simp only [putL, List.length_append, List.length_cons]
    omega
theorem frmB_ge (l : List Ev) : 5 * l.length ≤ (frmB l).length := by
  have := putL_ge l Ev.zero
  simp only [frameB, sealB, bodyB, List.length_append]
  omega
def pc0 : Pc := ⟨segName 0, 0, 0, false⟩
theorem seg0_eq : segName 0 = [115, 48] := by rw [segName, Lib.decDigits_one (by omega)]; rfl
theorem seg5_eq : segName 5 = [115, 53] := by rw [segName, Lib.decDigits_one (by omega)]; rfl
structure St (m : Int) (d : Dsk) (L : Lg) (k a : Nat) : Prop where
  inv : LInv d L [] pc0
  most : d.most = m
  used : usedF d.files ≤ 40 + 11 * k
  n : L.n = k
  bytes : L.bytes = 9 + 11 * k
  size : L.size = 64
  acked : L.acked = a
theorem head0 : (headB 0).length = 9 := by rw [headB, uintB_small (by omega)]; rfl
theorem St.new (m : Int) (hm : 300 ≤ m ∨ m = 70) : ∃ d, createD (newDsk m) 64 = (d, 0) ∧ St m d (newLg 64) 0 0 ∧ d.files = [(segName 0, ⟨headB 0, (headB 0).length⟩), (manifestS, ⟨manifestB (newLg 64).l, (manifestB (newLg 64).l).length⟩)] := by
  obtain ⟨F, h1, h2, h3, h4⟩ := create_calm' m (by omega) (size := 64) (by omega) (by omega)
  exact ⟨_, h1, ⟨h2, rfl, by simpa using h3, rfl, by simp [newLg, head0], rfl, rfl⟩, h4⟩
theorem manifestB_le {l : List Pc} (h : rightL l = true) : (manifestB l).length ≤ 62 * l.length + 9 := by
  obtain ⟨h1, h2, h3⟩ := rightL_bound h
  have h4 := flat_len (l := l) fun p hp => by
    obtain ⟨a, b, c, d, e⟩ := h3 p hp
    exact pieceB_len a (by omega) (by omega)
  have h5 := uintB_len l.length 1 (by omega) (by omega)
  simp only [manifestB, manifestIn, sealB, List.length_append, List.length_cons, List.length_nil, sumB_len]
  omega
section
variable {m : Int} {d : Dsk} {L : Lg} {k a : Nat}
theorem St.add (h : St m d L k a) (hk : k < 5) (hm : 40 + 11 * (k : Int) + 11 ≤ m) {e : Ev} (he : (frmB [e]).length = 11) : ∃ d' L', L.add d [e] = ⟨d', L', 0⟩ ∧ St m d' L' (k + 1) a := by
  have hu := h.used
  obtain ⟨p1, p2, p3⟩ := put_calm h.inv [e] (by rw [he, h.most]; omega)
  refine ⟨_, _, (add_stay h.inv (by simp) (by simp) (fun hc => ?_)).trans p1, p2, h.most, ?_, ?_, ?_, h.size, h.acked⟩
  · have h1 := h.bytes
    have h2 := h.size
    omega
  · simp only; rw [p3, he]; omega
  · simp [h.n]
  · simp only; rw [h.bytes, he]; omega
theorem St.sync (h : St m d L k a) : ∃ d' L', L.sync d = ⟨d', L', 0⟩ ∧ St m d' L' k k := by
  obtain ⟨p1, p2, p3⟩ := lsync_calm h.inv
  exact ⟨_, _, p1, p2, h.most, by simp only; rw [p3]; exact h.used, h.n, h.bytes, h.size, h.n⟩
theorem St.more (h : St 1000 d L 5 a) {e : Ev} (he : (frmB [e]).length = 11) : ∃ d' L', L.add d [e] = ⟨d', L', 0⟩ ∧ L'.n = 6 ∧ L'.acked = 5 ∧ L'.l = [⟨segName 0, 0, 5, false⟩, ⟨segName 5, 5, 0, false⟩] := by
  have hu := h.used
  have hn := h.n
  have hlt : pc0.first < (L.n : Int) := by rw [hn]; decide
  have hr := h.inv.more (by simp) hlt (by rw [hn]; decide)
  have hrl : rightL (morePcs L) = true := by rw [morePcs_eq h.inv]; exact (rightL_iff _ _).2 hr
  have hml := manifestB_le hrl
  have hm2 : (morePcs L).length = 2 := by rw [morePcs_eq h.inv]; rfl
  rw [hm2] at hml
  have hhl := headB_len (n := L.n) (by omega)
  obtain ⟨F, q1, q2, q3, -⟩ := another_calm' h.inv (by simp) hlt (by rw [hn]; decide) (by rw [h.most]; omega)
  have he0 : (L.another d).e = 0 := by rw [q1]
  have hst : pc0.first < (L.n : Int) ∧ L.size ≤ (L.bytes : Int) := ⟨hlt, by rw [h.size, h.bytes]; decide⟩
  obtain ⟨p1, p2, p3⟩ := put_calm q2 [e] (by
    simp only
    rw [he, h.most]
    omega)
  refine ⟨_, _, (add_more h.inv (by simp) (by simp) hst he0).trans (by rw [q1]; exact p1), by simp [hn], by simp [hn], ?_⟩
  simp only
  rw [morePcs_eq h.inv, hn]
  rfl
theorem St.full (h : St 70 d L k a) (hk : k < 5) {es : List Ev} (h1 : es.length = 50) : L.add d es = ⟨d, { L with over := true }, 5⟩ := by
  have hg := frmB_ge es
  rw [add_stay h.inv (by omega) (by omega) (fun hc => by have h1 := h.bytes; have h2 := h.size; omega)]
  unfold Lg.put
  rw [h.inv.open_]
  have : d.append pc0.name (frmB es) = (d, 5) := by
    unfold Dsk.append
    have hm : d.mayAppend pc0.name (frmB es) = 5 := by
      unfold Dsk.mayAppend
      rw [if_pos (okPiece_name h.inv.right.name).1, if_pos (.inl (by rw [h.most]; omega))]
    rw [hm, op_calm_no h.inv.calm (by decide)]
  rw [this, if_pos (by simp)]
theorem over_add (h : L.over = true) (es : List Ev) : L.add d es = ⟨d, L, 16⟩ := by unfold Lg.add; rw [if_pos h]
end
end Go.Proofs.YtkbenkldfehhlaaGreatDoor

namespace Go.Proofs.YtkbenkldfehhlaaGreatDoor
open Go Go.RowKit Go.Sort
set_option maxRecDepth 100000
set_option maxHeartbeats 1600000
section
variable {X : Nat → Prop} {w0 w w' : World} {p b : Nat} {d d' : Dsk} {L : Lg} {m : Int} {k a : Nat}
theorem HasL.len (h : HasL X w0 w p b d L) {n : Nat} (hn : L.n = n) : Calls Tryz.prog 19 #[.pointer (some ⟨p, 0, none⟩)] w fun e w' => e = .returned (.int .i64 n) ∧ w = w' := by
  obtain ⟨g, o, cap, h⟩ := h
  rw [← hn]; exact Len_ok h.mem
theorem HasL.ack (h : HasL X w0 w p b d L) {n : Nat} (hn : L.acked = n) : Calls Tryz.prog 20 #[.pointer (some ⟨p, 0, none⟩)] w fun e w' => e = .returned (.int .i64 n) ∧ w = w' := by
  obtain ⟨g, o, cap, h⟩ := h
  rw [← hn]; exact Acked_ok h.mem
theorem HasL.over (h : HasL X w0 w p b d L) {x : Bool} (hx : L.over = x) : Calls Tryz.prog 65 #[.pointer (some ⟨p, 0, none⟩)] w fun e w' => e = .returned (.bool x) ∧ w = w' := by
  obtain ⟨g, o, cap, h⟩ := h
  rw [← hx]; exact Over_ok h.mem
theorem HasL.pieces (h : HasL X w0 w p b d L) {l : List Pc} (hl : L.l = l) (hl2 : l.length ≤ 1000000) : Calls Tryz.prog 21 #[.pointer (some ⟨p, 0, none⟩)] w (CloneP w l) := by
  obtain ⟨g, o, cap, h⟩ := h
  rw [← hl]; exact Pieces_ok h.mem (by rw [hl]; exact hl2)
theorem HasL.pok (h : HasL X w0 w p b d L) : ∀ q ∈ L.l, q.Ok := by
  obtain ⟨g, o, cap, h⟩ := h
  exact h.mem.pcs.ok
theorem St.call (h : HasL X w0 w p b d L) (hs : St m d L k a) (hk : k ≤ 5) (ht : Tab w0) {v : Value} {es : List Ev} (hv : Evs w v es) :
    Calls Tryz.prog 28 #[.pointer (some ⟨p, 0, none⟩), v] w (DidL X w0 w p b (L.add d es).d (L.add d es).L (.int .i64 (L.add d es).e)) := by
  have hl : L.l = [pc0] := hs.inv.l
  refine LAppend_ok h ht ⟨by rw [hs.n]; omega, by rw [hs.bytes]; omega⟩ (by rw [hl]; decide) (by rw [hl]; decide) (by rw [hs.size]; unfold in64; omega) hv h.pok
theorem ev_lit (w : World) (e : Ev) (he : e.Ok) (c : Nat) (hc : 1 ≤ c) (hm : c ≤ maxLen) : Evs (w.alloc (.cells (evV e).toArray 87 (0, 0))) (.slice (some ⟨w.heap.size, 0, none⟩) 1 c) [e] :=
  ⟨by have := src_lit w 87 (0, 0) 5 1 c (evV e) rfl hc hm; simpa using this, fun x hx => by rw [List.mem_singleton] at hx; subst hx; exact he⟩
theorem ev1_ok : ev1.Ok := ⟨by unfold in64 ev1; simp, by unfold in64 ev1; simp, by unfold in64 ev1; simp, by unfold in64 ev1; simp⟩
def AwS (w wr : World) (p b : Nat) (i : Nat) : Prop :=
  (i ≤ 4 ∧ ∃ d L, St 1000 d L (i + 1) 1 ∧ HasL (fun _ => False) w wr p b d L) ∨
  (i = 5 ∧ ∃ d L, L.n = 6 ∧ L.acked = 5 ∧ L.l = [⟨segName 0, 0, 5, false⟩, ⟨segName 5, 5, 0, false⟩] ∧ HasL (fun _ => False) w wr p b d L)
theorem Dec_ok (w : World) : Calls Tryz.prog 64 #[.int .i64 5] w fun e w' => e = .returned (.string ⟨#[53]⟩) ∧ w = w' := by
  go_enter Tryz.func64, Tryz.ntmps64
  go_wp2
  go_loopw [0, 3] (fun n s wr => n = .int .i64 0 ∧ s = .string ⟨#[53]⟩ ∧ w = wr) (fun _ _ _ => 0)
  case atStart => exact ⟨rfl, rfl, rfl⟩
  case round =>
    obtain ⟨rfl, rfl, rfl⟩ := hrel
    go_wp2
    go_ret
    exact ⟨rfl, rfl⟩
end
theorem infoEv : (Tryz.prog.info? 87).map (fun i => (i.zero, i.size, i.bytes)) = some (some (.agg #[.int .i64 0, .int .u8 0, .int .i64 0, .int .i64 0, .int .i64 0]), 5, 40) := by kernel_rfl
theorem make50 (w : World) : ∃ W, (Instr.makeSlice 31 (.int .i64 50) (.int .i64 50)).run Tryz.prog w = .ok (.slice (some ⟨w.heap.size, 0, none⟩) 50 50) W ∧ Nw w W ∧ Evs W (.slice (some ⟨w.heap.size, 0, none⟩) 50 50) (List.replicate 50 Ev.zero) := by
  obtain ⟨i0, hi, hz0, hz1, hz2⟩ := info_parts infoEv
  have hr := run_makeSlice (P := Tryz.prog) w 31 87 i0 _ Tryz.underlying31 hi hz0 .i64 .i64 50 50 (by omega) (by omega) (by rw [hz1]; decide) (by rw [hz2]; decide) (by omega)
  rw [hz1] at hr
  refine ⟨_, hr, (Nw.refl w).alloc _, ⟨?_, fun e he => by rw [List.eq_of_mem_replicate he]; exact zero_ok⟩⟩
  have e : madeCells (Value.agg #[.int .i64 0, .int .u8 0, .int .i64 0, .int .i64 0, .int .i64 0]).cells ((50 : Int).toNat * 5) = ((List.replicate 50 Ev.zero).flatMap evV).toArray := by kernel_rfl
  rw [e]
  exact src_lit w 87 (0, 0) 5 50 50 ((List.replicate 50 Ev.zero).flatMap evV) (by kernel_rfl) (by omega) (by decide)
theorem awake_ok (w : World) (ht : Tab w) : Calls Tryz.prog 24 #[] w fun e w' => e = .returned (.bool true) ∧ Nw w w' := by
  have HT := Lib.hid ht
  clear ht
  obtain ⟨d0, cr0, st0, fl0⟩ := St.new 1000 (.inl (by omega))
  have CR0 := Lib.hid cr0
  have ST0 := Lib.hid st0
  have LI0 : Hid (d0.list = [manifestS, [115, 48]]) := Lib.hid (by
    rw [list_eq, fl0]
    simp only [namesF, List.map_cons, List.map_nil, seg0_eq]
    decide)
  clear cr0 st0 fl0
  go_enter Tryz.func24, Tryz.ntmps24
  go_wp2_with fail
  refine (HasX.new 1000 w (by omega) (by omega)).mono ?_
  rintro e w1 ⟨b, rfl, H1⟩
  have H1 := Lib.hid H1
  have HC := Lib.hid (Create_ok H1.out HT.out 64)
  have hcr := CR0.out
  rw [hcr] at HC
  clear hcr
  go_wp2_with fail
  refine HC.out.mono ?_
  rintro e w2 ⟨-, ⟨-, p, rfl, L2⟩ | ⟨hx, -⟩⟩
  case inr => exact absurd rfl hx
  have L2 := Lib.hid L2
  clear HC H1 CR0
  go_wp2_with fail
  refine (L2.out.has.list LI0.out).mono ?_
  rintro e w3 ⟨v3, rfl, s3, n3, -⟩
  have L3 := Lib.hid (L2.out.nw n3)
  have S3 := Lib.hid s3
  clear s3 n3 L2
  go_wp2_with fail
  have n4 := (Nw.refl w3).alloc (.cells #[.string ⟨#[109, 97, 110, 105, 102, 101, 115, 116]⟩, .string ⟨#[115, 48]⟩] 9 (0, 0))
  have s4 : Ss (w3.alloc (.cells #[.string ⟨#[109, 97, 110, 105, 102, 101, 115, 116]⟩, .string ⟨#[115, 48]⟩] 9 (0, 0))) (.slice (some ⟨w3.heap.size, 0, none⟩) 2 2) [manifestS, [115, 48]] := rd_lit (f := encStr) w3 9 (0, 0) [manifestS, [115, 48]] _ 2 rfl (by decide) (by decide)
  refine (SameTexts_ok (S3.out.nw n4) s4).mono ?_
  rintro e w5 ⟨rfl, n5⟩
  have L5 := Lib.hid (L3.out.nw (n4.trans n5))
  have hsame : ((([manifestS, [115, 48]] : List Str) == [manifestS, [115, 48]]) : Bool) = true := by decide
  rw [hsame]
  clear n4 s4 n5 S3 L3 hsame LI0
  go_wp2_with fail
  have E6 := ev_lit w5 ev1 ev1_ok 1 (by omega) (by decide)
  have L6 := Lib.hid (L5.out.nw ((Nw.refl w5).alloc (.cells (evV ev1).toArray 87 (0, 0))))
  obtain ⟨d1, K1, ad1, st1⟩ := ST0.out.add (e := ev1) (by omega) (by omega) frm1
  have C6 := St.call L6.out ST0.out (by omega) HT.out E6
  rw [ad1] at C6
  refine C6.mono ?_
  rintro e w7 ⟨rfl, L7, -⟩
  have L7 := Lib.hid L7
  have ST1 := Lib.hid st1
  clear E6 L6 ad1 st1 C6 ST0 L5
  go_wp2_with fail
  refine (L7.out.len ST1.out.n).mono ?_
  rintro e w8 ⟨rfl, rfl⟩
  go_wp2_with fail
  refine (L7.out.ack ST1.out.acked).mono ?_
  rintro e w8 ⟨rfl, rfl⟩
  obtain ⟨d2, K2, sy2, st2⟩ := ST1.out.sync
  have C8 := LSync_ok L7.out
  rw [show (K1.sync d1) = ⟨d2, K2, 0⟩ from sy2] at C8
  have C8 := Lib.hid C8
  have ST2 := Lib.hid st2
  clear sy2 st2
  go_wp2_with fail
  refine C8.out.mono ?_
  rintro e w9 ⟨rfl, L9, -⟩
  have L9 := Lib.hid L9
  clear C8 L7 ST1
  go_wp2_with fail
  refine (L9.out.ack ST2.out.acked).mono ?_
  rintro e w10 ⟨rfl, rfl⟩
  go_wp2
  go_loopw [5] (fun i wr => ∃ k : Nat, k ≤ 5 ∧ i = .int .i64 k ∧ AwS w wr p b k) (fun i _ => 5 - (intOf i).toNat)
  case atStart => exact ⟨0, by omega, rfl, .inl ⟨by omega, d2, K2, ST2.out, L9.out⟩⟩
  case round =>
    obtain ⟨k, hk, rfl, ⟨hk4, d3, K3, st3, L3⟩ | ⟨rfl, d3, K3, n3, a3, l3, L3⟩⟩ := hrel
    · have ST3 := Lib.hid st3
      have L3 := Lib.hid L3
      have hl3 : K3.l = [pc0] := st3.inv.l
      have PC := Lib.hid (L3.out.pieces hl3 (by decide))
      clear st3 hl3
      go_wp2_with fail
      refine PC.out.mono ?_
      rintro e w11 ⟨v11, rfl, q1, q2, q3⟩
      obtain ⟨xa, xc, rfl, -⟩ := q1.len
      have L11 := Lib.hid (L3.out.nw q2)
      clear q1 q2 q3 PC L3
      go_wp2_with fail
      have E12 := ev_lit w11 ev1 ev1_ok 1 (by omega) (by decide)
      have L12 := Lib.hid (L11.out.nw ((Nw.refl w11).alloc (.cells (evV ev1).toArray 87 (0, 0))))
      have C12 := St.call L12.out ST3.out (by omega) HT.out E12
      have hres : ∃ d4 K4, K3.add d3 [ev1] = ⟨d4, K4, 0⟩ ∧ ∀ wr, HasL (fun _ => False) w wr p b d4 K4 → AwS w wr p b (k + 1) := by
        by_cases h4 : k = 4
        · subst h4
          obtain ⟨d4, K4, e1, e2, e3, e4⟩ := ST3.out.more frm1
          exact ⟨d4, K4, e1, fun wr h => .inr ⟨rfl, d4, K4, e2, e3, e4, h⟩⟩
        · obtain ⟨d4, K4, e1, e2⟩ := ST3.out.add (e := ev1) (by omega) (by omega) frm1
          exact ⟨d4, K4, e1, fun wr h => .inl ⟨by omega, d4, K4, e2, h⟩⟩
      obtain ⟨d4, K4, e1, hnext⟩ := hres
      rw [e1] at C12
      have HN := Lib.hid hnext
      clear hnext e1
      refine C12.mono ?_
      rintro e w13 ⟨rfl, L13, -⟩
      have L13 := Lib.hid L13
      clear C12 E12 L12 L11
      go_wp2
      go_roundw
      case rel => exact ⟨k + 1, by omega, by go_num, HN.out _ L13.out⟩
      case measure => simp [intOf]; omega
    · have L3 := Lib.hid L3
      have PC := Lib.hid (L3.out.pieces l3 (by decide))
      have NA := Lib.hid (And.intro n3 a3)
      go_wp2_with fail
      refine PC.out.mono ?_
      rintro e w11 ⟨v11, rfl, q1, q2, q3⟩
      obtain ⟨xa, xc, rfl, -⟩ := q1.len
      have L11 := Lib.hid (L3.out.nw q2)
      have PC2 := Lib.hid (L11.out.pieces l3 (by decide))
      clear q1 q2 q3 PC L3 n3 a3 l3
      go_wp2_with fail
      refine PC2.out.mono ?_
      rintro e w12 ⟨v12, rfl, q1, q2, q3⟩
      obtain ⟨g12, o12, c12, rfl⟩ : ∃ g o c, v12 = .slice (some ⟨g, o, none⟩) 2 c := by
        obtain ⟨-, ⟨-, hz⟩ | ⟨g, o, c, hv, -⟩⟩ := q1
        · simp at hz
        · exact ⟨g, o, c, hv⟩
      have L12 := Lib.hid (L11.out.nw q2)
      have P12 : Hid (w12.cell? ⟨g12, o12 + 2, none⟩ = some (.int .i64 5) ∧ w12.cell? ⟨g12, o12 + 4, none⟩ = some (.string ⟨#[115, 53]⟩) ∧ g12 < w12.heap.size) := Lib.hid (by
        obtain ⟨-, ⟨hv, -⟩ | ⟨g', o', cap', hv, h1, h2, h3, h4, h5, h6⟩⟩ := q1
        · cases hv
        · injection hv with ea eb ec
          injection ea with ea
          injection ea with e1 e2
          subst e1 e2
          have a1 := h6 2 (by simp [pcV])
          have a2 := h6 4 (by simp [pcV])
          refine ⟨by simpa [pcV] using a1, ?_, h3⟩
          rw [a2]
          simp [pcV, seg5_eq])
      clear q1 q2 q3 PC2 L11
      go_upto_region 11 with fail
      have HA : Hid (∀ q : Regrown, Calls Tryz.prog 20 #[.pointer (some ⟨p, 0, none⟩)] (grow (redrawn w12 q.d) q.os) fun e w'' => e = .returned (.int .i64 ((5 : Nat) : Int)) ∧ ∃ p' : Regrown, w'' = grow (redrawn w12 p'.d) p'.os) := Lib.hid fun q => quiet_nw fun w2 hw2 => ((L12.out.nw hw2).ack NA.out.2).mono fun e w' ⟨he, hw⟩ => ⟨he, hw ▸ Nw.refl _⟩
      have HL : Hid (∀ q : Regrown, Calls Tryz.prog 19 #[.pointer (some ⟨p, 0, none⟩)] (grow (redrawn w12 q.d) q.os) fun e w'' => e = .returned (.int .i64 ((6 : Nat) : Int)) ∧ ∃ p' : Regrown, w'' = grow (redrawn w12 p'.d) p'.os) := Lib.hid fun q => quiet_nw fun w2 hw2 => ((L12.out.nw hw2).len NA.out.1).mono fun e w' ⟨he, hw⟩ => ⟨he, hw ▸ Nw.refl _⟩
      have HD : Hid (∀ q : Regrown, Calls Tryz.prog 64 #[.int .i64 5] (grow (redrawn w12 q.d) q.os) fun e w'' => e = .returned (.string ⟨#[53]⟩) ∧ ∃ p' : Regrown, w'' = grow (redrawn w12 p'.d) p'.os) := Lib.hid fun q => quiet_nw fun w2 hw2 => (Dec_ok w2).mono fun e w' ⟨he, hw⟩ => ⟨he, hw ▸ Nw.refl _⟩
      have c1 := cellG P12.out.1
      have c2 := cellG P12.out.2.1
      have hg := P12.out.2.2
      have hcat : (⟨#[115]⟩ ++ ⟨#[53]⟩ : ByteArray) = ⟨#[115, 53]⟩ := by decide
      have hne : ((⟨#[115, 53]⟩ : ByteArray).toList == (⟨#[115]⟩ ++ ⟨#[53]⟩ : ByteArray).toList) = true := by rw [hcat]; simp
      refine wp_region_quiet_below (by kernel_rfl) (by kernel_rfl) ?_
      repeat (first | go_big_quiet_step (first | exact HA.out _ | exact HL.out _ | exact HD.out _) | quiet_step (first | exact HA.out _ | exact HL.out _ | exact HD.out _))
      refine wpQuiet_nil ?_
      intro w13 hw13
      have N13 := Lib.hid (Nw.of_regrown hw13)
      clear hw13 c1 c2 hg HA HL HD
      have B13 : Hid (Nw w w13) := Lib.hid (L12.out.base.trans N13.out)
      clear L12 P12 N13 NA
      obtain ⟨d5, cr5, st5, -⟩ := St.new 70 (.inr rfl)
      have CR5 := Lib.hid cr5
      have ST5 := Lib.hid st5
      clear cr5 st5
      have T13 := Lib.hid (HT.out.nw B13.out)
      go_wp2_with fail
      refine (HasX.new 70 w13 (by omega) (by omega)).mono ?_
      rintro e w14 ⟨b2, rfl, H14⟩
      have H14 := Lib.hid H14
      have HC := Lib.hid (Create_ok H14.out T13.out 64)
      have hcr := CR5.out
      rw [hcr] at HC
      clear hcr
      go_wp2_with fail
      refine HC.out.mono ?_
      rintro e w15 ⟨-, ⟨-, p2, rfl, L15⟩ | ⟨hx, -⟩⟩
      case inr => exact absurd rfl hx
      have L15 := Lib.hid L15
      clear HC H14 CR5
      go_wp2_with fail
      have E16 := ev_lit w15 Ev.zero zero_ok 1 (by omega) (by decide)
      have L16 := Lib.hid (L15.out.nw ((Nw.refl w15).alloc (.cells (evV Ev.zero).toArray 87 (0, 0))))
      obtain ⟨d6, K6, ad6, st6⟩ := ST5.out.add (e := Ev.zero) (by omega) (by omega) frm0
      have C16 := St.call L16.out ST5.out (by omega) T13.out E16
      rw [ad6] at C16
      refine C16.mono ?_
      rintro e w17 ⟨rfl, L17, -⟩
      have L17 := Lib.hid L17
      have ST6 := Lib.hid st6
      clear E16 L16 ad6 st6 C16 ST5 L15
      obtain ⟨d7, K7, sy7, st7⟩ := ST6.out.sync
      have C18 := LSync_ok L17.out
      rw [sy7] at C18
      have C18 := Lib.hid C18
      have ST7 := Lib.hid st7
      clear sy7 st7
      go_wp2_with fail
      refine C18.out.mono ?_
      rintro e w19 ⟨rfl, L19, -⟩
      have L19 := Lib.hid L19
      clear C18 L17 ST6
      obtain ⟨w20, mk20, n20, e20⟩ := make50 w19
      have L20 := Lib.hid (L19.out.nw n20)
      have C20 := St.call L20.out ST7.out (by omega) T13.out e20
      rw [ST7.out.full (by omega) (List.length_replicate)] at C20
      have C20 := Lib.hid C20
      clear n20 e20 L19
      go_wp2_with fail
      refine C20.out.mono ?_
      rintro e w21 ⟨rfl, L21, -⟩
      have L21 := Lib.hid L21
      clear C20 L20 mk20
      have hk := ST7.out
      go_wp2_with fail
      have E22 := ev_lit w21 Ev.zero zero_ok 1 (by omega) (by decide)
      have L22 := Lib.hid (L21.out.nw ((Nw.refl w21).alloc (.cells (evV Ev.zero).toArray 87 (0, 0))))
      have C22 := LAppend_ok L22.out T13.out ⟨by simp only; rw [hk.n]; omega, by simp only; rw [hk.bytes]; omega⟩ (by simp only; rw [hk.inv.l]; decide) (by simp only; rw [hk.inv.l]; decide) (by simp only; rw [hk.size]; unfold in64; omega) E22 L22.out.pok
      rw [over_add rfl] at C22
      clear hk
      refine C22.mono ?_
      rintro e w23 ⟨rfl, L23, -⟩
      have L23 := Lib.hid L23
      clear C22 E22 L22 L21
      go_wp2_with fail
      refine (L23.out.over (x := true) rfl).mono ?_
      rintro e w24 ⟨rfl, rfl⟩
      go_wp2_with fail
      refine (L23.out.ack (n := 1) ST7.out.acked).mono ?_
      rintro e w24 ⟨rfl, rfl⟩
      go_wp2
      go_ret
      exact ⟨rfl, B13.out.trans L23.out.base⟩
end Go.Proofs.YtkbenkldfehhlaaGreatDoor

namespace Go.Proofs.YtkbenkldfehhlaaGreatDoor
open Go
structure Ak (size : Int) (c : Nat) (d : Dsk) (L : Lg) : Prop where
  inv : ∃ A p, LInv d L A p ∧ A.length ≤ c
  most : d.most = 1048576
  used : usedF d.files ≤ 40 + c * 7466
  n : L.n ≤ 30 * c
  bytes : L.bytes ≤ 18 + c * 1239
  size : L.size = size
theorem frm_le {es : List Ev} (h : es.length ≤ 30) : (frmB es).length ≤ 1239 := by
  have := frameB_len (sum := sumB) (fun b => sumB_len b) es (by omega)
  have e : (frmB es).length = (frameB sumB es).length := rfl
  omega
theorem Ak.new {size : Int} (hs : 64 ≤ size) (hs2 : size ≤ 16777216) : ∃ d, createD (newDsk 1048576) size = (d, 0) ∧ Ak size 0 d (newLg size) := by
  obtain ⟨F, h1, h2, h3, h4⟩ := create_calm' 1048576 (by omega) hs hs2
  have hb : (headB 0).length ≤ 18 := headB_len (n := 0) (by omega)
  exact ⟨_, h1, ⟨⟨_, _, h2, by simp⟩, rfl, by simpa using h3, by simp [newLg], by simpa [newLg] using hb, rfl⟩⟩
section
variable {size : Int} {c : Nat} {d : Dsk} {L : Lg}
theorem Ak.add (h : Ak size c d L) (hc : c < 60) {es : List Ev} (h1 : es.length ≠ 0) (h2 : es.length ≤ 30) : ∃ d' L', L.add d es = ⟨d', L', 0⟩ ∧ Ak size (c + 1) d' L' ∧ L.acked ≤ L'.acked ∧ L'.n = L.n + es.length := by
  obtain ⟨⟨A, p, hi, hA⟩, hm, hu, hn, hb, hs⟩ := h
  have hf := frm_le h2
  by_cases hst : p.first < L.n ∧ L.size ≤ L.bytes
  · obtain ⟨F, a1, a2, a3, -⟩ := another_calm hi (by omega) hst.1 (by omega) (by rw [hm]; omega)
    have a4 := a2.acked1
    obtain ⟨p1, p2, p3⟩ := put_calm a2 es (by simp only; rw [hm]; omega)
    have hh : (headB L.n).length ≤ 18 := headB_len (n := L.n) (by omega)
    have e := add_more hi h1 (by omega) hst (by rw [a1])
    rw [a1] at e
    refine ⟨_, _, e.trans p1, ⟨⟨_, _, p2, ?_⟩, hm, ?_, ?_, ?_, hs⟩, ?_, rfl⟩
    · simp; omega
    · rw [p3]; simp only; omega
    · simp only; omega
    · simp only; omega
    · exact hi.acked1
  · obtain ⟨p1, p2, p3⟩ := put_calm hi es (by rw [hm]; omega)
    refine ⟨_, _, (add_stay hi h1 (by omega) hst).trans p1, ⟨⟨_, _, p2, by omega⟩, hm, ?_, ?_, ?_, hs⟩, Nat.le_refl _, rfl⟩
    · simp only; rw [p3]; omega
    · simp only; omega
    · simp only; omega
theorem Ak.sync (h : Ak size c d L) : ∃ d' L', L.sync d = ⟨d', L', 0⟩ ∧ Ak size c d' L' ∧ L'.acked = L'.n ∧ L.acked ≤ L'.acked ∧ L'.n = L.n := by
  obtain ⟨⟨A, p, hi, hA⟩, hm, hu, hn, hb, hs⟩ := h
  obtain ⟨p1, p2, p3⟩ := lsync_calm hi
  exact ⟨_, _, p1, ⟨⟨_, _, p2, hA⟩, hm, by simp only; rw [p3]; exact hu, hn, hb, hs⟩, rfl, hi.acked1, rfl⟩
theorem Ak.facts (h : Ak size c d L) (hc : c ≤ 60) : L.l ≠ [] ∧ L.l.length ≤ 61 ∧ (lastP L.l).first ≤ L.acked ∧ L.acked ≤ L.n ∧ L.n ≤ 1800 ∧ L.bytes ≤ 74358 ∧ 0 ≤ (lastP L.l).first ∧ L.over = false ∧ ∀ q ∈ L.l, 0 ≤ q.first ∧ q.first ≤ 1800 ∧ q.name = segName q.first.toNat := by
  obtain ⟨⟨A, p, hi, hA⟩, hm, hu, hn, hb, hs⟩ := h
  have h0 := hi.acked0
  have h1 := hi.acked1
  have hl := hi.open_
  refine ⟨by rw [hi.l]; simp, by rw [hi.l]; simp; omega, by rw [hl]; exact h0, h1, by omega, by omega, by rw [hl]; exact hi.firsts.1, hi.over, fun q hq => ?_⟩
  have hq2 := hi.firsts.2 q hq
  exact ⟨hq2.1, by omega, hi.seg q hq⟩
end
end Go.Proofs.YtkbenkldfehhlaaGreatDoor

namespace Go.Proofs.YtkbenkldfehhlaaGreatDoor
open Go Go.RowKit Go.Sort
set_option maxRecDepth 100000
set_option maxHeartbeats 800000
section
variable {P : Program} {w : World} {t kt et : TypeId} {m clock : Nat} {L : List En} {k : Str}
end
def Firsts (w : World) (m : Nat) : Prop := ∃ L clock, w.heap[m]? = some (.map (ents L) clock) ∧ ∀ e ∈ L, ∃ n : Nat, e.key = segName n ∧ e.val = .int .i64 n
theorem Firsts.nw {w w' : World} {m : Nat} (h : Firsts w m) (hw : Nw w w') : Firsts w' m := by
  obtain ⟨L, c, h1, h2⟩ := h
  exact ⟨L, c, hw.at_ h1, h2⟩
end Go.Proofs.YtkbenkldfehhlaaGreatDoor

namespace Go.Proofs.YtkbenkldfehhlaaGreatDoor
open Go Go.ChangeShapes Go.WideShapes Go.RowKit

section
variable {H : Type} {enc : TypeId × Value → H} {P : Program} {W W' : World}
theorem trodAll_nw (hl : laidOutB P = true) (hb : Nw W W') {sp : Nat → Bool} : ∀ {ts : List TypeId} {vs : List Value} {ds : List (DataW H)} {ps : List MemPlace}, (∀ t ∈ ts, P.readableRec t = true ∧ t < P.types.size) →
    DataW.TrodAll enc P W 0 (fun _ => true) true ts vs ds ps → (∀ p ∈ ps, p.block < W.heap.size) → (∀ p ∈ ps, sp p.block = true) → DataW.TrodAll enc P W' 0 sp true ts vs ds ps
  | [], [], [], _, _, h, _, _ => h
  | _ :: _, _ :: _, _ :: _, _, ht, ⟨p, q, h1, h2, e⟩, hlt, hs =>
    ⟨p, q, WideElems.Trod_stays hl (ht _ (List.mem_cons.2 (Or.inl rfl))).1 (ht _ (List.mem_cons.2 (Or.inl rfl))).2 h1
      (fun x hx => hb.below.same (hlt x (by rw [e]; exact List.mem_append_left _ hx))) (fun x hx => hs x (by rw [e]; exact List.mem_append_left _ hx)),
      trodAll_nw hl hb (fun t h => ht t (List.mem_cons.2 (Or.inr h))) h2 (fun x hx => hlt x (by rw [e]; exact List.mem_append_right _ hx)) (fun x hx => hs x (by rw [e]; exact List.mem_append_right _ hx)), e⟩

theorem post_true {f : Func} {s : ChangeSpec} {apart fresh handsOn again : Bool} {args : Array Value} {ds gs : List (DataW H)} {before : List MemPlace} {tb : TypeId}
    (hl : laidOutB P = true) (hts : (f.params.toList.all fun t => P.readableRec t && decide (t < P.types.size)) = true) (hr : f.resultTypes = #[tb]) (htb : P.underlying tb = some .bool) (hv : s.vars = [])
    (hs : ∀ ds : List (DataW H), ds.length = f.params.size → s.fn H (ds ++ []) = { results := [.lit (.bool true)], args := ds })
    (hW : DataW.Whole enc P f.params.toList s.vars apart W args.toList ds gs before) (hb : Nw W W') : s.post enc P f apart fresh handsOn again W args (.bool true) W' := by
  have hlt := hW.lt
  have hW' := hW
  obtain ⟨p, q, hA, hV, rfl, hz, hn⟩ := hW
  rw [hv] at hV
  obtain ⟨rfl, rfl⟩ := trodVars_none hV
  have hlen : ds.length = f.params.size := by rw [(trodAll_length hA).2]; simp
  have he := hs ds hlen
  have ht : ∀ t ∈ f.params.toList, P.readableRec t = true ∧ t < P.types.size := fun t ht => by
    have := List.all_eq_true.1 hts t ht
    simpa using this
  have hargs : ∀ sp : Nat → Bool, (∀ x ∈ p ++ [], sp x.block = true) → DataW.TrodAll enc P W' 0 sp true f.params.toList args.toList (s.fn H (ds ++ [])).args (p ++ []) := fun sp hsp => by
    rw [he]
    simp only [List.append_nil] at hsp hlt ⊢
    exact trodAll_nw hl hb ht hA hlt hsp
  have hres : ∀ (b : Nat) (sp : Nat → Bool) (hd : Bool), DataW.TrodAll enc P W' b sp hd f.resultTypes.toList ((Value.bool true).resultList f.resultTypes.size) (s.fn H (ds ++ [])).results [] := fun b sp hd => by
    rw [he, hr]
    exact trodAll_mk1 (shut_bool htb true)
  have hvars : ∀ sp : Nat → Bool, DataW.TrodVars enc P W' sp s.vars (s.fn H (ds ++ [])).vars [] := fun sp => by
    rw [he, hv]; rfl
  refine ⟨ds, [], p ++ [], [], p ++ [], [], hW', hres _ _ _, hargs _ (fun x hx => by simpa using hlt x hx), hvars _, hb.below.frame _, fun _ => ⟨ok_one hr rfl (okWide_bool_mk htb true), _, _, ([] ++ (p ++ [])) ++ [], ⟨[] ++ (p ++ []), [], trodAll_append (hargs _ (fun _ _ => rfl)) (hres _ _ _), hvars _, rfl, ?_, ?_⟩, ?_⟩⟩
  · intro b off hp
    simp only [List.append_nil, List.nil_append] at hp hz hlt
    have hbk : b < W.heap.size := hlt _ hp
    rw [hb.below.frozen (p := ⟨b, off, _⟩) hbk]
    exact hz b off hp
  · intro ha
    simpa using hn ha
  · intro x hx _
    simpa using hx
end
end Go.Proofs.YtkbenkldfehhlaaGreatDoor

namespace Go.Proofs.YtkbenkldfehhlaaGreatDoor
open Go Go.ChangeShapes Go.WideShapes Go.RowKit
section
variable {H : Type} {enc : TypeId × Value → H} {P : Program} {W : World}
theorem u8_of_int {z : Int} (h : (Lit.int .u8 z).wf = true) : z = ((UInt8.ofNat z.toNat).toNat : Int) := by
  simp only [Lit.wf, Bool.and_eq_true, decide_eq_true_eq] at h
  have h1 : 0 ≤ z := by have := h.1; rwa [show IntKind.u8.min = 0 from rfl] at this
  have h2 : z ≤ 255 := by have := h.2; rwa [show IntKind.u8.max = 255 from rfl] at this
  rw [UInt8.toNat_ofNat']
  omega
end
end Go.Proofs.YtkbenkldfehhlaaGreatDoor
