/-
  Texts merged by a program of this claim's: ResPlain, ResD, TwinL, PlaysPlain, ResAny, Sames, SameLog.
-/
import Derived.Test.YtkbenkldfehhlaaGreatDoorM8
import Derived.Test.YtkbenkldfehhlaaGreatDoorM19
import Derived.Test.YtkbenkldfehhlaaGreatDoorM18
import Derived.Test.YtkbenkldfehhlaaGreatDoorM12
import Derived.Deep.DeepCutAuto
import Derived.Test.YtkbenkldfehhlaaGreatDoorM23
import Derived.Laws.StructEq
import Derived.Test.YtkbenkldfehhlaaGreatDoorM14
namespace Go.Proofs.YtkbenkldfehhlaaGreatDoor
open Go
def resumeD (d : Dsk) (size : Int) (l : List Pc) (n : Int) : Dsk × Int :=
  if size < 64 ∨ 16777216 < size ∨ rightL l = false ∨ n < (lastP l).first ∨ 2305843009213693952 < n then (d, 2) else
  if (d.read (lastP l).name).2 ≠ 0 then (d, (d.read (lastP l).name).2) else d.sync (lastP l).name
def onLg (d : Dsk) (size : Int) (l : List Pc) (n : Nat) : Lg := ⟨size, l, n, n, (fileOf d.files (lastP l).name).bytes.length, false⟩
end Go.Proofs.YtkbenkldfehhlaaGreatDoor

namespace Go.Proofs.YtkbenkldfehhlaaGreatDoor
open Go Go.RowKit Go.Sort
set_option maxRecDepth 100000
set_option maxHeartbeats 1600000
theorem cell_of {W : World} {p : Nat} {cs : Array Value} {t : TypeId} {fz : Nat × Nat} (h : W.heap[p]? = some (.cells cs t fz)) {i : Nat} {v : Value} (hi : cs[i]? = some v) : W.cell? ⟨p, i, none⟩ = some v := by simp [World.cell?, h, hi]
theorem read_len {d : Dsk} (ok : d.Ok) (n : Str) : (d.read n).1.length ≤ 16777216 := by
  unfold Dsk.read
  split
  · simp
  · split
    · simp
    · rename_i f hf
      exact bytes_le ok hf
theorem file_le {d : Dsk} (ok : d.Ok) (n : Str) : (fileOf d.files n).bytes.length ≤ 16777216 := by
  unfold fileOf
  cases hg : getF d.files n with
  | none => simp
  | some f => exact bytes_le ok hg
section
variable {X Y : Nat → Prop} {w0 w w' : World} {b : Nat} {d d' : Dsk}
theorem pcs_last {l : List Pc} {a : Option Addr} {n cap : Nat} (h : Pcs w (.slice a (n + 1) cap) l) (hn : l.length = n + 1) :
    ∃ g o, a = some ⟨g, o, none⟩ ∧ g < w.heap.size ∧ w.cell? ⟨g, o + n * 4, none⟩ = some (.string ⟨(lastP l).name.toArray⟩) ∧ w.cell? ⟨g, o + n * 4 + 1, none⟩ = some (.int .i64 (lastP l).first) := by
  obtain ⟨g, o, ha, hg, x0, x1, -, -⟩ := pcs_at h hn (k := n) (by omega)
  have hne : l ≠ [] := fun e => by rw [e] at hn; simp at hn
  have := lastP_at hne
  have e : l[l.length - 1]'(by omega) = l[n]'(by omega) := by congr 1; omega
  rw [← e, this] at x0 x1
  exact ⟨g, o, ha, hg, x0, x1⟩
theorem Pcs.kept {v : Value} {l : List Pc} (h : Pcs w v l) (hk : Kept Y w w') (hy : ∀ g, v.ownBlock = some g → Y g) : Pcs w' v l := by
  refine ⟨?_, h.ok⟩
  obtain ⟨e, ⟨a, hv, hn⟩ | ⟨g, o, cap, hv, h1, h2, h3, h4⟩⟩ := h.src
  · exact ⟨e, .inl ⟨a, hv, hn⟩⟩
  · subst hv
    exact ⟨e, .inr ⟨g, o, cap, rfl, h1, h2, Nat.lt_of_lt_of_le h3 hk.1, fun j hj => hk.cell (h4 j hj) (hy g rfl)⟩⟩
theorem HasL.less {p : Nat} {L : Lg} (h : HasL X w0 w p b d L) (hy : ∀ k, Y k → X k) : HasL Y w0 w p b d L := by
  obtain ⟨g, o, cap, h⟩ := h
  exact ⟨g, o, cap, h.mem, h.disk.weak fun k hk => hk.imp (hy k) id, h.p0, fun hc => h.p1 (hy _ hc), h.g0, h.g1.1, fun hc => h.g1.2 (hy _ hc)⟩
theorem Resume_ok (h : HasX X w0 w b d) {v : Value} {l : List Pc} (hv : Pcs w v l) (hx : ∀ g, v.ownBlock = some g → X g) {size : Int} (hs : 64 ≤ size ∧ size ≤ 16777216) (hr : rightL l = true) {n : Nat} (hn : n ≤ 2305843009213693952) :
    Calls Tryz.prog 36 #[.pointer (some ⟨b, 0, none⟩), .int .i64 size, v, .int .i64 n] w (Created X w0 w b (resumeD d size l n).1 (resumeD d size l n).2 (onLg d size l n)) := by
  have H := Lib.hid h
  have HV := Lib.hid hv
  have HX := Lib.hid hx
  have HSZ := Lib.hid (fun W => sized_ok size (ok := true) (by simp [hs]) W)
  have HRT := Lib.hid (Right_ok hv)
  rw [hr] at HRT
  have hpl := (rightL_bound hr).1
  have hpl2 := (rightL_bound hr).2.1
  obtain ⟨R, hR⟩ : ∃ r, resumeD d size l n = r := ⟨_, rfl⟩
  have HR := Lib.hid hR
  rw [hR]
  unfold resumeD at hR
  obtain ⟨np, hnp⟩ : ∃ k, l.length = k := ⟨_, rfl⟩
  rw [hnp] at hpl hpl2
  obtain ⟨nq, rfl⟩ : ∃ k, np = k + 1 := ⟨np - 1, by omega⟩
  have HNP := Lib.hid hnp
  obtain ⟨a, cap, rfl, -, -, -⟩ := hv.elem
  rw [hnp] at HV HX HRT ⊢
  obtain ⟨g, o, rfl, hg, x0, x1⟩ := pcs_last HV.out hnp
  obtain ⟨nm, hnm⟩ : ∃ s, (lastP l).name = s := ⟨_, rfl⟩
  obtain ⟨fi, hfi⟩ : ∃ s, (lastP l).first = s := ⟨_, rfl⟩
  rw [hnm] at x0 hR
  rw [hfi] at x1 hR
  have hw2 : ((nq + 1 : Nat) : Int) - 1 = (nq : Int) := by omega
  have hw1 : IntKind.i64.wrap (((nq + 1 : Nat) : Int) - 1) = (nq : Int) := by rw [IntWalk.i64_in _ (by omega)]; exact hw2
  have HFI := Lib.hid hfi
  have HNM := Lib.hid hnm
  have HRI := Lib.hid hr
  clear h hv hx hnp hnm hfi hr
  by_cases hf : (n : Int) < fi
  case pos =>
    rw [if_pos (.inr (.inr (.inr (.inl hf))))] at hR
    have q1 : decide ((n : Int) < fi) = true := by simpa using hf
    subst hR
    clear hf
    go_enter Tryz.func36, Tryz.ntmps36
    go_wp2_with fail
    refine (HSZ.out w).mono ?_
    rintro e w1 ⟨rfl, rfl⟩
    go_wp2_with fail
    refine HRT.out.mono ?_
    rintro e w2 ⟨rfl, n2⟩
    have N2 := Lib.hid n2
    have x1 := n2.cell x1
    have hg := Nat.lt_of_lt_of_le hg n2.size
    clear n2 x0
    go_wp2
    refine bodyPost_ret (v := .tuple #[.pointer none, .int .i64 2]) (by simp [results, Tryz.results36, go_sem]) rfl ⟨N2.out.kept, .inr ⟨by decide, rfl, H.out.nw N2.out⟩⟩
  rw [if_neg (by rw [HRI.out]; rintro (h | h | h | h | h) <;> first | omega | cases h)] at hR
  have q1 : decide ((n : Int) < fi) = false := by simpa using hf
  have q2 : decide ((2305843009213693952 : Int) < (n : Int)) = false := by simp; omega
  obtain ⟨⟨lb, ex⟩, hrd⟩ : ∃ y, d.read nm = y := ⟨_, rfl⟩
  obtain ⟨⟨d2, sx⟩, hsy⟩ : ∃ y, d.sync nm = y := ⟨_, rfl⟩
  have HRD := Lib.hid (fun W (hw : Nw w W) => (H.out.nw hw).read nm hrd)
  have HSY := Lib.hid (fun W (hw : Nw w W) => (H.out.nw hw).sync nm hsy)
  have HLB : Hid (ex = 0 → (fileOf d.files nm).bytes = lb ∧ lb.length ≤ 16777216) := Lib.hid (fun he => by
    subst he
    have h1 := read_len H.out.ok nm
    rw [hrd] at h1
    refine ⟨?_, h1⟩
    unfold Dsk.read at hrd
    split at hrd
    · simp at hrd
    · unfold fileOf
      split at hrd
      · simp at hrd
      · rename_i f hf
        rw [hf]
        simp only [Prod.mk.injEq, and_true] at hrd
        exact hrd)
  rw [hrd, hsy] at hR
  simp only at hR
  have HR1 := Lib.hid hR
  clear hrd hsy hR hf
  go_enter Tryz.func36, Tryz.ntmps36
  go_wp2_with fail
  refine (HSZ.out w).mono ?_
  rintro e w1 ⟨rfl, rfl⟩
  go_wp2_with fail
  refine HRT.out.mono ?_
  rintro e w2 ⟨rfl, n2⟩
  have N2 := Lib.hid n2
  have x0 := n2.cell x0
  have x1 := n2.cell x1
  have hg := Nat.lt_of_lt_of_le hg n2.size
  clear n2
  go_wp2_with fail
  refine (HRD.out _ N2.out).mono ?_
  rintro e w3 ⟨v3, rfl, o3, n3, -⟩
  have o3l := o3.rd.len
  obtain ⟨ya, yc, rfl, -⟩ := o3l
  obtain ⟨lbn, hlb⟩ : ∃ k, lb.length = k := ⟨_, rfl⟩
  rw [hlb]
  have HLN := Lib.hid hlb
  have N3 := Lib.hid (N2.out.trans n3)
  clear o3 n3 x0 x1 hg hlb
  by_cases he : ex = 0
  case neg =>
    have q3 : (ex == 0) = false := by simpa using he
    have q4 : (ex != 0) = true := by simpa using he
    have rr := HR1.out
    rw [if_pos he] at rr
    subst rr
    have HE := Lib.hid he
    clear he
    go_wp2
    refine bodyPost_ret (v := .tuple #[.pointer none, .int .i64 ex]) (by simp [results, Tryz.results36, go_sem]) rfl ⟨N3.out.kept, .inr ⟨HE.out, rfl, H.out.nw N3.out⟩⟩
  subst he
  have rr := HR1.out
  rw [if_neg (by simp)] at rr
  subst rr
  go_wp2_with fail
  refine (HSY.out _ N3.out).mono ?_
  rintro e w4 ⟨rfl, h4, k4⟩
  have H4 := Lib.hid h4
  have K4 : Hid (Kept X w w4) := Lib.hid (N3.out.kept.trans k4)
  have V4 := Lib.hid (HV.out.kept K4.out HX.out)
  clear h4 k4
  by_cases hsx : sx = 0
  case neg =>
    have q4 : (sx != 0) = true := by simpa using hsx
    have HE := Lib.hid hsx
    clear hsx
    go_wp2
    refine bodyPost_ret (v := .tuple #[.pointer none, .int .i64 sx]) (by simp [results, Tryz.results36, go_sem]) rfl ⟨K4.out, .inr ⟨HE.out, rfl, H4.out⟩⟩
  subst hsx
  have CL := Lib.hid (PClone_ok V4.out (by rw [HNP.out]; omega))
  go_wp2_with fail
  refine CL.out.mono ?_
  rintro e w5 ⟨v5, rfl, q5, n5, f5⟩
  rw [HNP.out] at q5
  have q5l := q5.lt
  obtain ⟨-, ⟨-, h0⟩ | ⟨g5, o5, cap5, rfl, c1, c2, c3, -, -, c6⟩⟩ := q5
  · omega
  have HQ : Hid (Pcs w5 (.slice (some ⟨g5, o5, none⟩) (nq + 1) cap5) l) := Lib.hid ⟨⟨by rw [HNP.out]; have := V4.out.src.1; rwa [HNP.out] at this, .inr ⟨g5, o5, cap5, by rw [HNP.out], by rw [HNP.out]; exact c1, c2, c3, c6⟩⟩, V4.out.ok⟩
  have N5 := Lib.hid n5
  have HG5 : Hid (w4.heap.size ≤ g5 ∧ g5 < w5.heap.size) := Lib.hid ⟨f5 g5 rfl, c3⟩
  clear q5l c1 c2 c3 c6 CL f5
  go_wp2
  refine bodyPost_ret (v := .tuple #[.pointer (some ⟨w5.heap.size, 0, none⟩), .int .i64 0]) (by simp [results, Tryz.results36, go_sem]) rfl ?_
  have n6 := (Nw.refl w5).alloc (.cells #[.pointer (some ⟨b, 0, none⟩), .int .i64 size, .slice (some ⟨g5, o5, none⟩) (nq + 1) cap5, .int .i64 n, .int .i64 n, .int .i64 lbn, .bool false] 116 (0, 0))
  have hb6 := heap_alloc_new w5 (.cells #[.pointer (some ⟨b, 0, none⟩), .int .i64 size, .slice (some ⟨g5, o5, none⟩) (nq + 1) cap5, .int .i64 n, .int .i64 n, .int .i64 lbn, .bool false] 116 (0, 0))
  have hs4 := H4.out.base.size
  have hg5 := HG5.out
  have hs5 := N5.out.size
  refine ⟨K4.out.trans (N5.out.kept.trans n6.kept), .inl ⟨rfl, w5.heap.size, rfl, g5, o5, cap5, ⟨?_, ?_, ?_⟩, ?_, by omega, fun hx => ?_, by omega, by omega, fun hx => ?_⟩⟩
  · rw [hb6]
    have h1 := (HLB.out (by first | rfl | trivial)).1
    have h2 := HLN.out
    simp only [onLg, HNP.out, HNM.out, h1, h2]
  · have := HQ.out.nw n6
    simpa only [onLg, HNP.out] using this
  · exact fun e => by have := HNP.out; rw [show l = [] from e] at this; simp at this
  · refine H4.out.nwY (N5.out.trans n6) (fun k hk => ?_)
    have hsz : (w5.alloc (.cells #[.pointer (some ⟨b, 0, none⟩), .int .i64 size, .slice (some ⟨g5, o5, none⟩) (nq + 1) cap5, .int .i64 n, .int .i64 n, .int .i64 lbn, .bool false] 116 (0, 0))).heap.size = w5.heap.size + 1 := by simp
    rw [hsz]
    rcases hk with hk | rfl | rfl
    · exact .inl hk
    · exact .inr ⟨by omega, by omega⟩
    · exact .inr ⟨by omega, by omega⟩
  · have := H4.out.lt _ hx; omega
  · have := H4.out.lt _ hx; omega
end
end Go.Proofs.YtkbenkldfehhlaaGreatDoor

namespace Go.Proofs.YtkbenkldfehhlaaGreatDoor
open Go Go.RowKit Go.Sort
set_option maxRecDepth 100000
set_option maxHeartbeats 800000
def XO (X : Nat → Prop) (w0 : World) : Nat → Prop := fun k => X k ∨ k < w0.heap.size
structure TL (X Y : Nat → Prop) (w0 w : World) (p b : Nat) (dp : Dsk) (L : Lg) (dv : Value) (dd : Dsk) (lv : Value) (Ld : Lg) : Prop where
  log : HasL (fun k => XO X w0 k ∨ Y k) w0 w p b dp L
  doc : RD (XO X w0) w dv dd
  dlog : LogV (XO X w0) w lv Ld
  off : ∀ k, X k → ¬ Y k
  ne : Ld.l ≠ []
def RDM (X : Nat → Prop) (w : World) (d' : Dsk) (L' : Lg) (x : Int) (e : Ending) (w' : World) : Prop :=
  ∃ (m : Int) (a : Option Addr) (n c : Nat) (la : Int) (dn : Bool) (pa : Option Addr) (pc : Nat), e = .returned (.tuple #[.agg #[.int .i64 m, .slice a n c, .int .i64 la, .bool dn], .agg #[.int .i64 L'.size, .slice pa L'.l.length pc, .int .i64 L'.n, .int .i64 L'.acked, .int .i64 L'.bytes, .bool L'.over], .int .i64 x]) ∧
    RD X w' (.agg #[.int .i64 m, .slice a n c, .int .i64 la, .bool dn]) d' ∧ LogV X w' (.agg #[.int .i64 L'.size, .slice pa L'.l.length pc, .int .i64 L'.n, .int .i64 L'.acked, .int .i64 L'.bytes, .bool L'.over]) L' ∧ Nw w w' ∧ (L'.l ≠ [] ∨ pa = none)
section
variable {X X' Y Z : Nat → Prop} {w0 w w' : World} {p p' b : Nat} {dp dp' dd dd' d : Dsk} {L L' Ld Ld' : Lg} {dv dv' lv lv' : Value}
theorem RD.kept (h : RD X w dv dd) (hk : Kept X w w') : RD X w' dv dd := ⟨h.1, h.2.elim fun r hr => ⟨r, hr.1.kept hk, hr.2⟩⟩
theorem LogV.kept (h : LogV X w lv L) (hk : Kept X w w') : LogV X w' lv L := by
  obtain ⟨pa, pc, h1, h2, h3⟩ := h
  exact ⟨pa, pc, h1, h2.kept hk h3, h3⟩
theorem LogV.mono (h : LogV X w lv L) (hy : ∀ k, X k → Z k) : LogV Z w lv L := by
  obtain ⟨pa, pc, h1, h2, h3⟩ := h
  exact ⟨pa, pc, h1, h2, fun g hg => hy g (h3 g hg)⟩
theorem LogV.parts (h : LogV X w lv L) : ∃ (pa : Option Addr) (pc : Nat), lv = .agg #[.int .i64 L.size, .slice pa L.l.length pc, .int .i64 L.n, .int .i64 L.acked, .int .i64 L.bytes, .bool L.over] ∧ Pcs w (.slice pa L.l.length pc) L.l ∧ ∀ g, (Value.slice pa L.l.length pc).ownBlock = some g → X g := h
theorem LogV.inw (h : LogV X w lv L) (hne : L.l ≠ []) : LogV (fun k => X k ∧ k < w.heap.size) w lv L := by
  obtain ⟨pa, pc, h1, h2, h3⟩ := h
  refine ⟨pa, pc, h1, h2, fun g hg => ⟨h3 g hg, ?_⟩⟩
  obtain ⟨g', o, hpa, hlt, -⟩ := pcs_lastAt h2 hne
  subst hpa
  have : g' = g := by simpa [Value.ownBlock] using hg
  omega
theorem TL.base (h : TL X Y w0 w p b dp L dv dd lv Ld) : Nw w0 w := h.log.base
theorem TL.lt (h : TL X Y w0 w p b dp L dv dd lv Ld) : ∀ k, XO X w0 k ∨ Y k → k < w.heap.size := h.log.has.lt
theorem TL.offo (h : TL X Y w0 w p b dp L dv dd lv Ld) {k : Nat} (hk : XO X w0 k) (hy : Y k) (h0 : w0.heap.size ≤ k) : False := hk.elim (fun e => h.off k e hy) (fun e => by omega)
theorem TL.nw (h : TL X Y w0 w p b dp L dv dd lv Ld) (hw : Nw w w') : TL X Y w0 w' p b dp L dv dd lv Ld := ⟨h.log.nw hw, h.doc.nw hw, h.dlog.nw hw, h.off, h.ne⟩
theorem TL.put {T : Nat → Prop} (h : TL X Y w0 w p b dp L dv dd lv Ld) (hw : Only T w w') (ht : ∀ k, T k → k < w.heap.size → Y k ∧ w0.heap.size ≤ k) (hy : ∀ k, Z k → Y k ∨ w.heap.size ≤ k ∧ k < w'.heap.size) : TL X Z w0 w' p b dp L dv dd lv Ld := by
  have hlt := h.lt
  refine ⟨h.log.grow hw (fun k hk hl => ⟨.inr (ht k hk hl).1, (ht k hk hl).2⟩) (fun k hk => ?_), h.doc.put hw (fun k hk hl hT => h.offo hk (ht k hT hl).1 (ht k hT hl).2), h.dlog.kept ⟨hw.size, fun k hk hl => hw.block k hl (fun hT => h.offo hk (ht k hT hl).1 (ht k hT hl).2)⟩, fun k hk hz => ?_, h.ne⟩
  · rcases hk with hk | hk
    · exact .inl (.inl hk)
    · exact (hy k hk).imp .inr id
  · rcases hy k hz with h1 | h1
    · exact h.off k hk h1
    · have := hlt k (.inl (.inl hk)); omega
theorem TL.nwY (h : TL X Y w0 w p b dp L dv dd lv Ld) (hw : Nw w w') (hy : ∀ k, Z k → Y k ∨ w.heap.size ≤ k ∧ k < w'.heap.size) : TL X Z w0 w' p b dp L dv dd lv Ld := h.put hw (fun _ hf => hf.elim) hy
theorem TL.does {P : Program} {f : FuncId} {args : Array Value} {y : Value} (h : TL X Y w0 w p b dp L dv dd lv Ld)
    (hc : ∀ Z : Nat → Prop, (∀ k, XO X w0 k ∨ Y k → Z k) → HasL Z w0 w p b dp L → Calls P f args w (DidL Z w0 w p b dp' L' y)) :
    Calls P f args w fun e w' => e = .returned y ∧ TL X Y w0 w' p b dp' L' dv dd lv Ld ∧ Kept (fun k => XO X w0 k ∨ Y k) w w' := by
  refine (hc _ (fun k hk => hk) h.log).mono ?_
  rintro e w' ⟨he, hx, hk⟩
  exact ⟨he, ⟨hx, h.doc.kept (hk.weak fun k hk => .inl hk), h.dlog.kept (hk.weak fun k hk => .inl hk), h.off, h.ne⟩, hk⟩
theorem TL.disk {P : Program} {f : FuncId} {args : Array Value} {y : Value} (h : TL X Y w0 w p b dp L dv dd lv Ld)
    (hc : ∀ Z : Nat → Prop, (∀ k, XO X w0 k ∨ Y k → Z k) → HasX Z w0 w b dp → Calls P f args w (DidX Z w0 w b dp' y)) :
    Calls P f args w fun e w' => e = .returned y ∧ TL X Y w0 w' p b dp' L dv dd lv Ld ∧ Kept (fun k => XO X w0 k ∨ Y k) w w' :=
  h.does fun Z hZ hL => hL.step fun V hV hX => hc V (fun k hk => hV k (hZ k hk)) hX
def wid (X : Nat → Prop) (w w' : World) : Nat → Prop := fun k => X k ∨ w.heap.size ≤ k ∧ k < w'.heap.size
theorem wid_in {k : Nat} (h : XO X w0 k ∨ w.heap.size ≤ k) (hl : k < w'.heap.size) : XO (wid X w w') w0 k := by
  rcases h with (h | h) | h
  · exact .inl (.inl h)
  · exact .inr h
  · exact .inl (.inr ⟨h, hl⟩)
theorem TL.grow (h : TL X Y w0 w p b dp L dv dd lv Ld) (hn : Nw w w') (hd : RD (fun k => XO X w0 k ∨ w.heap.size ≤ k) w' dv' dd') (hl : LogV (fun k => XO X w0 k ∨ w.heap.size ≤ k) w' lv' Ld') (hne : Ld'.l ≠ []) : TL (wid X w w') Y w0 w' p b dp L dv' dd' lv' Ld' := by
  have hlt := h.lt
  refine ⟨h.log.grow (Z := fun _ => False) (Y := fun k => XO (wid X w w') w0 k ∨ Y k) hn (fun k hk => hk.elim) (fun k hk => ?_), hd.narrow.mono (fun k hk => wid_in hk.1 hk.2), (hl.inw hne).mono (fun k hk => wid_in hk.1 hk.2), fun k hk hy => ?_, hne⟩
  · rcases hk with ((hk | hk) | hk) | hk
    · exact .inl (.inl (.inl hk))
    · exact .inr hk
    · exact .inl (.inl (.inr hk))
    · exact .inl (.inr hk)
  · rcases hk with hk | hk
    · exact h.off k hk hy
    · have := hlt k (.inr hy); omega
theorem TL.rdl {P : Program} {f : FuncId} {args : Array Value} {x : Int} (h : TL X Y w0 w p b dp L dv dd lv Ld) (hne : Ld'.l ≠ [])
    (hc : ∀ Z : Nat → Prop, (∀ k, w.heap.size ≤ k → Z k) → RD Z w dv dd → LogV Z w lv Ld → Calls P f args w (RDL Z w dd' Ld' x)) :
    Calls P f args w fun e w' => ∃ (m : Int) (a : Option Addr) (n c : Nat) (la : Int) (dn : Bool) (pa : Option Addr) (pc : Nat), e = .returned (.tuple #[.agg #[.int .i64 m, .slice a n c, .int .i64 la, .bool dn], .agg #[.int .i64 Ld'.size, .slice pa Ld'.l.length pc, .int .i64 Ld'.n, .int .i64 Ld'.acked, .int .i64 Ld'.bytes, .bool Ld'.over], .int .i64 x]) ∧
      TL (wid X w w') Y w0 w' p b dp L (.agg #[.int .i64 m, .slice a n c, .int .i64 la, .bool dn]) dd' (.agg #[.int .i64 Ld'.size, .slice pa Ld'.l.length pc, .int .i64 Ld'.n, .int .i64 Ld'.acked, .int .i64 Ld'.bytes, .bool Ld'.over]) Ld' ∧ Nw w w' := by
  refine (hc (fun k => XO X w0 k ∨ w.heap.size ≤ k) (fun k hk => .inr hk) (h.doc.mono fun k hk => .inl hk) (h.dlog.mono fun k hk => .inl hk)).mono ?_
  rintro e w' ⟨m, a, n, c, la, dn, pa, pc, he, h1, h2, h3⟩
  exact ⟨m, a, n, c, la, dn, pa, pc, he, h.grow h3 h1 h2 hne, h3⟩
theorem TL.made {P : Program} {f : FuncId} {args : Array Value} {x : Int} (h : TL X Y w0 w p b dp L dv dd lv Ld)
    (hc : ∀ Z : Nat → Prop, (∀ k, w.heap.size ≤ k → Z k) → RD Z w dv dd → Calls P f args w (RDM Z w dd' Ld' x)) :
    Calls P f args w fun e w' => ∃ (m : Int) (a : Option Addr) (n c : Nat) (la : Int) (dn : Bool) (pa : Option Addr) (pc : Nat), e = .returned (.tuple #[.agg #[.int .i64 m, .slice a n c, .int .i64 la, .bool dn], .agg #[.int .i64 Ld'.size, .slice pa Ld'.l.length pc, .int .i64 Ld'.n, .int .i64 Ld'.acked, .int .i64 Ld'.bytes, .bool Ld'.over], .int .i64 x]) ∧
      TL (wid X w w') Y w0 w' p b dp L (.agg #[.int .i64 m, .slice a n c, .int .i64 la, .bool dn]) dd' lv Ld ∧ LogV (XO (wid X w w') w0) w' (.agg #[.int .i64 Ld'.size, .slice pa Ld'.l.length pc, .int .i64 Ld'.n, .int .i64 Ld'.acked, .int .i64 Ld'.bytes, .bool Ld'.over]) Ld' ∧ Nw w w' := by
  refine (hc (fun k => XO X w0 k ∨ w.heap.size ≤ k) (fun k hk => .inr hk) (h.doc.mono fun k hk => .inl hk)).mono ?_
  rintro e w' ⟨m, a, n, c, la, dn, pa, pc, he, h1, h2, h3, h4⟩
  refine ⟨m, a, n, c, la, dn, pa, pc, he, h.grow h3 h1 ((h.dlog.nw h3).mono fun k hk => .inl hk) h.ne, ?_, h3⟩
  rcases h4 with h4 | h4
  · exact (h2.inw h4).mono (fun k hk => wid_in hk.1 hk.2)
  · subst h4
    obtain ⟨g1, -⟩ := h2.at_
    exact ⟨none, pc, rfl, g1, fun g hg => by cases hg⟩
theorem TL.rde {P : Program} {f : FuncId} {args : Array Value} {x : Int} (h : TL X Y w0 w p b dp L dv dd lv Ld)
    (hc : ∀ Z : Nat → Prop, (∀ k, w.heap.size ≤ k → Z k) → RD Z w dv dd → Calls P f args w (RDE Z w dd' x)) :
    Calls P f args w fun e w' => ∃ (m : Int) (a : Option Addr) (n c : Nat) (la : Int) (dn : Bool), e = .returned (.tuple #[.agg #[.int .i64 m, .slice a n c, .int .i64 la, .bool dn], .int .i64 x]) ∧
      TL (wid X w w') Y w0 w' p b dp L (.agg #[.int .i64 m, .slice a n c, .int .i64 la, .bool dn]) dd' lv Ld ∧ Nw w w' := by
  refine (hc (fun k => XO X w0 k ∨ w.heap.size ≤ k) (fun k hk => .inr hk) (h.doc.mono fun k hk => .inl hk)).mono ?_
  rintro e w' ⟨m, a, n, c, la, dn, he, h1, h3⟩
  exact ⟨m, a, n, c, la, dn, he, h.grow h3 h1 ((h.dlog.nw h3).mono fun k hk => .inl hk) h.ne, h3⟩
theorem TL.rd1 {P : Program} {f : FuncId} {args : Array Value} (h : TL X Y w0 w p b dp L dv dd lv Ld)
    (hc : ∀ Z : Nat → Prop, (∀ k, w.heap.size ≤ k → Z k) → RD Z w dv dd → Calls P f args w (RD1 Z w dd')) :
    Calls P f args w fun e w' => ∃ (m : Int) (a : Option Addr) (n c : Nat) (la : Int) (dn : Bool), e = .returned (.agg #[.int .i64 m, .slice a n c, .int .i64 la, .bool dn]) ∧
      TL (wid X w w') Y w0 w' p b dp L (.agg #[.int .i64 m, .slice a n c, .int .i64 la, .bool dn]) dd' lv Ld ∧ Nw w w' := by
  refine (hc (fun k => XO X w0 k ∨ w.heap.size ≤ k) (fun k hk => .inr hk) (h.doc.mono fun k hk => .inl hk)).mono ?_
  rintro e w' ⟨m, a, n, c, la, dn, he, h1, h3⟩
  exact ⟨m, a, n, c, la, dn, he, h.grow h3 h1 ((h.dlog.nw h3).mono fun k hk => .inl hk) h.ne, h3⟩
theorem TL.created {P : Program} {f : FuncId} {args : Array Value} {x : Int} (h : TL X Y w0 w p b dp L dv dd lv Ld)
    (hc : ∀ Z : Nat → Prop, (∀ k, XO X w0 k ∨ Y k → Z k) → HasX Z w0 w b dp → Calls P f args w (Created Z w0 w b dp' x L')) :
    Calls P f args w fun e w' => Kept (fun k => XO X w0 k ∨ Y k) w w' ∧ ((x = 0 ∧ ∃ p', e = .returned (.tuple #[.pointer (some ⟨p', 0, none⟩), .int .i64 0]) ∧ TL X Y w0 w' p' b dp' L' dv dd lv Ld) ∨ (x ≠ 0 ∧ e = .returned (.tuple #[.pointer none, .int .i64 x]) ∧ TL X Y w0 w' p b dp' L dv dd lv Ld)) := by
  obtain ⟨g, o, cap, hg⟩ := h.log
  refine (hc _ (fun k hk => .inl hk) hg.disk).mono ?_
  rintro e w' ⟨hk, hh⟩
  have hkx : Kept (fun k => XO X w0 k ∨ Y k) w w' := hk.weak fun k hk => .inl hk
  have hd := h.doc.kept (hk.weak fun k hk => .inl (.inl hk))
  have hl := h.dlog.kept (hk.weak fun k hk => .inl (.inl hk))
  refine ⟨hkx, ?_⟩
  rcases hh with ⟨h0, p', he, hn⟩ | ⟨h0, he, hx⟩
  · exact .inl ⟨h0, p', he, hn.less (fun k hk => .inl hk), hd, hl, h.off, h.ne⟩
  · exact .inr ⟨h0, he, ⟨g, o, cap, hg.disk' hx hk⟩, hd, hl, h.off, h.ne⟩
end
end Go.Proofs.YtkbenkldfehhlaaGreatDoor

namespace Go.Proofs.YtkbenkldfehhlaaGreatDoor
open Go
structure PI (k : Nat) (size : Int) (L : Lg) : Prop where
  right : rightL L.l = true
  size : L.size = size
  n : L.n ≤ 2305843009213693952 + 100 * k
  bytes : L.bytes ≤ 16777216 + 5000 * k
section
variable {k : Nat} {size : Int} {L : Lg} {d : Dsk}
theorem PI.more (h : PI k size L) : PI (k + 1) size L := ⟨h.right, h.size, by have := h.n; omega, by have := h.bytes; omega⟩
theorem install_right {d : Dsk} {l : List Pc} (h : (d.install l).2 = 0) : rightL l = true := by
  unfold Dsk.install at h
  split at h
  · assumption
  · cases h
theorem PI.another (h : PI k size L) (hk : k ≤ 60) : PI k size (L.another d).L := by
  unfold Lg.another
  split
  · exact h
  split
  · exact h
  split
  · exact ⟨h.right, h.size, h.n, h.bytes⟩
  split
  · exact ⟨h.right, h.size, h.n, h.bytes⟩
  rename_i h4
  refine ⟨install_right (Classical.not_not.1 h4), h.size, h.n, ?_⟩
  have := headB_len (n := L.n) (by have := h.n; omega)
  have := h.bytes
  simp only
  omega
theorem PI.roomed (h : PI k size L) (hk : k ≤ 60) : PI k size (L.roomed d).L := by
  unfold Lg.roomed
  split
  · exact h.another hk
  · exact h
theorem PI.put (h : PI k size L) {es : List Ev} (hl : es.length ≤ 100) : PI (k + 1) size (L.put d es).L := by
  have h1 := h.n
  have h2 := h.bytes
  have h3 := frameB_len sumB_len es (by omega)
  have h4 : (frmB es).length ≤ 41 * es.length + 9 := h3
  unfold Lg.put
  split
  · exact ⟨h.right, h.size, by simp only; omega, by simp only; omega⟩
  · exact ⟨h.right, h.size, by simp only; omega, by simp only; omega⟩
theorem PI.add (h : PI k size L) (hk : k ≤ 60) {es : List Ev} (hl : es.length ≤ 100) : PI (k + 1) size (L.add d es).L := by
  unfold Lg.add
  split
  · exact h.more
  split
  · exact h.more
  split
  · exact h.more
  split
  · have := (h.roomed (d := d) hk).more
    exact ⟨this.right, this.size, this.n, this.bytes⟩
  · exact (h.roomed hk).put hl
theorem PI.sync (h : PI k size L) : PI (k + 1) size (L.sync d).L := by
  have g := h.more
  unfold Lg.sync
  split
  · exact g
  split
  · exact ⟨g.right, g.size, g.n, g.bytes⟩
  · exact ⟨g.right, g.size, g.n, g.bytes⟩
theorem PI.swap (h : PI k size L) {ps : List Pc} : PI (k + 1) size (L.swap d ps).L := by
  have g := h.more
  unfold Lg.swap
  split
  · exact g
  split
  · exact g
  rename_i h1
  split
  · exact ⟨g.right, g.size, g.n, g.bytes⟩
  · exact ⟨by simpa using h1, g.size, g.n, g.bytes⟩
theorem PI.new : PI 0 size (newLg size) := ⟨by show rightL [⟨segName 0, 0, 0, false⟩] = true; decide +kernel, rfl, by simp [newLg], by
  have := headB_len (n := 0) (by omega)
  simp only [newLg]; omega⟩
theorem PI.on {l : List Pc} {n : Nat} (hr : rightL l = true) (hn : n ≤ 2305843009213693952) (ok : d.Ok) : PI k size (onLg d size l n) := by
  have hs := file_le ok (lastP l).name
  exact ⟨hr, rfl, by simp only [onLg]; omega, by simp only [onLg]; omega⟩
theorem PI.put_ok (h : PI k size L) (hk : k ≤ 60) : L.n ≤ 4611686018427387904 ∧ L.bytes ≤ 4611686018427387904 := ⟨by have := h.n; omega, by have := h.bytes; omega⟩
theorem PI.few (h : PI k size L) : L.l ≠ [] ∧ L.l.length ≤ 100 ∧ 0 ≤ (lastP L.l).first ∧ (lastP L.l).first < 2 ^ 60 := by
  obtain ⟨h1, h2, h3⟩ := rightL_bound h.right
  have hne : L.l ≠ [] := fun e => by rw [e] at h1; simp at h1
  have hm : lastP L.l ∈ L.l := by
    have : lastP L.l ∈ L.l.dropLast ++ [lastP L.l] := by simp
    rwa [← split_last hne] at this
  exact ⟨hne, h2, (h3 _ hm).2.1, (h3 _ hm).2.2.1⟩
end
end Go.Proofs.YtkbenkldfehhlaaGreatDoor

namespace Go.Proofs.YtkbenkldfehhlaaGreatDoor
open Go Go.RowKit Go.Sort
set_option maxRecDepth 100000
set_option maxHeartbeats 1600000
section
variable {X : Nat → Prop} {w0 w w' : World} {b : Nat} {d : Dsk}
theorem Resume_bad (w : World) (b : Nat) {v : Value} {l : List Pc} (hv : Pcs w v l) {size : Int} (hs : 64 ≤ size ∧ size ≤ 16777216) {n : Int} (hb : rightL l = false ∨ n < (lastP l).first ∨ 2305843009213693952 < n) :
    Calls Tryz.prog 36 #[.pointer (some ⟨b, 0, none⟩), .int .i64 size, v, .int .i64 n] w fun e w' => e = .returned (.tuple #[.pointer none, .int .i64 2]) ∧ Nw w w' := by
  have HZ := Lib.hid (sized_ok size (ok := true) (by simp [hs]) w)
  have HR := Right_ok hv
  cases hr : rightL l
  case false =>
    rw [hr] at HR
    have HR := Lib.hid HR
    obtain ⟨a, c, rfl, -⟩ := hv.elem
    clear hv hr hb
    go_enter Tryz.func36, Tryz.ntmps36
    go_wp2_with fail
    refine HZ.out.mono ?_
    rintro e w1 ⟨rfl, rfl⟩
    go_wp2_with fail
    refine HR.out.mono ?_
    rintro e w1 ⟨rfl, n1⟩
    have N1 := Lib.hid n1
    clear n1
    go_wp2
    refine bodyPost_ret (v := .tuple #[.pointer none, .int .i64 2]) (by simp [results, Tryz.results36, go_sem]) rfl ⟨rfl, N1.out⟩
  case true =>
    have hb2 : n < (lastP l).first ∨ 2305843009213693952 < n := by
      rcases hb with h | h
      · rw [hr] at h; cases h
      · exact h
    clear hb
    rw [hr] at HR
    have HR := Lib.hid HR
    have hpl := (rightL_bound hr).1
    have hpl2 := (rightL_bound hr).2.1
    obtain ⟨np, hnp⟩ : ∃ k, l.length = k := ⟨_, rfl⟩
    rw [hnp] at hpl hpl2
    obtain ⟨nq, rfl⟩ : ∃ k, np = k + 1 := ⟨np - 1, by omega⟩
    obtain ⟨a, cap, rfl, -, -, -⟩ := hv.elem
    rw [hnp] at HR
    have hv2 := hv
    rw [hnp] at hv2
    obtain ⟨g, o, rfl, hg, x0, x1⟩ := pcs_last hv2 hnp
    obtain ⟨fi, hfi⟩ : ∃ s, (lastP l).first = s := ⟨_, rfl⟩
    rw [hfi] at x1 hb2
    have X1 := Lib.hid x1
    have HG := Lib.hid hg
    have hw2 : ((nq + 1 : Nat) : Int) - 1 = (nq : Int) := by omega
    have hw1 : IntKind.i64.wrap (((nq + 1 : Nat) : Int) - 1) = (nq : Int) := by rw [IntWalk.i64_in _ (by omega)]; exact hw2
    rw [hnp]
    clear hv hv2 hr x0 x1 hg hfi hnp
    by_cases hf : n < fi
    · have q1 : decide (n < fi) = true := by simpa using hf
      clear hf hb2
      go_enter Tryz.func36, Tryz.ntmps36
      go_wp2_with fail
      refine HZ.out.mono ?_
      rintro e w1 ⟨rfl, rfl⟩
      go_wp2_with fail
      refine HR.out.mono ?_
      rintro e w2 ⟨rfl, n2⟩
      have N2 := Lib.hid n2
      have x1 := n2.cell X1.out
      have hg := Nat.lt_of_lt_of_le HG.out n2.size
      clear n2
      go_wp2
      refine bodyPost_ret (v := .tuple #[.pointer none, .int .i64 2]) (by simp [results, Tryz.results36, go_sem]) rfl ⟨rfl, N2.out⟩
    · have hbig : 2305843009213693952 < n := hb2.resolve_left hf
      have q1 : decide (n < fi) = false := by simpa using hf
      have q2 : decide ((2305843009213693952 : Int) < n) = true := by simpa using hbig
      clear hf hb2 hbig
      go_enter Tryz.func36, Tryz.ntmps36
      go_wp2_with fail
      refine HZ.out.mono ?_
      rintro e w1 ⟨rfl, rfl⟩
      go_wp2_with fail
      refine HR.out.mono ?_
      rintro e w2 ⟨rfl, n2⟩
      have N2 := Lib.hid n2
      have x1 := n2.cell X1.out
      have hg := Nat.lt_of_lt_of_le HG.out n2.size
      clear n2
      go_wp2
      refine bodyPost_ret (v := .tuple #[.pointer none, .int .i64 2]) (by simp [results, Tryz.results36, go_sem]) rfl ⟨rfl, N2.out⟩
theorem Resume_any (h : HasX X w0 w b d) {v : Value} {l : List Pc} (hv : Pcs w v l) (hx : l ≠ [] → ∀ g, v.ownBlock = some g → X g) {size : Int} (hs : 64 ≤ size ∧ size ≤ 16777216) (n : Int) :
    Calls Tryz.prog 36 #[.pointer (some ⟨b, 0, none⟩), .int .i64 size, v, .int .i64 n] w (Created X w0 w b (resumeD d size l n).1 (resumeD d size l n).2 (onLg d size l n.toNat)) := by
  by_cases hb : rightL l = false ∨ n < (lastP l).first ∨ 2305843009213693952 < n
  · have e : resumeD d size l n = (d, 2) := by
      unfold resumeD
      rw [if_pos (by rcases hb with h | h | h; · exact .inr (.inr (.inl h))
                     · exact .inr (.inr (.inr (.inl h)))
                     · exact .inr (.inr (.inr (.inr h))))]
    rw [e]
    refine (Resume_bad w b hv hs hb).mono ?_
    rintro z w' ⟨rfl, hn⟩
    exact ⟨hn.kept, .inr ⟨by simp, rfl, h.nw hn⟩⟩
  · have h1 : rightL l = true := by
      cases hr : rightL l
      · exact absurd (.inl hr) hb
      · rfl
    have h2 : ¬ n < (lastP l).first := fun h => hb (.inr (.inl h))
    have h3 : ¬ 2305843009213693952 < n := fun h => hb (.inr (.inr h))
    obtain ⟨b1, b2, b3⟩ := rightL_bound h1
    have hne : l ≠ [] := fun e => by rw [e] at b1; simp at b1
    have hm : lastP l ∈ l := by
      have : lastP l ∈ l.dropLast ++ [lastP l] := by simp
      rwa [← split_last hne] at this
    have h0 := (b3 _ hm).2.1
    obtain ⟨k, rfl⟩ : ∃ k : Nat, n = k := ⟨n.toNat, by omega⟩
    exact Resume_ok h hv (hx hne) hs h1 (by omega)
end
end Go.Proofs.YtkbenkldfehhlaaGreatDoor

namespace Go.Proofs.YtkbenkldfehhlaaGreatDoor
open Go Go.RowKit Go.Sort
set_option maxRecDepth 100000
set_option maxHeartbeats 1600000

theorem neq_pc (q : Pc) (w : World) : (binOp .neq 98 (.agg #[.string ⟨q.name.toArray⟩, .int .i64 q.first, .int .i64 q.count, .bool q.dense]) (.agg #[.string ⟨q.name.toArray⟩, .int .i64 q.first, .int .i64 q.count, .bool q.dense])).run Tryz.prog w = .ok (.bool false) w := by
  have hS : Tryz.prog.underlying 98 = some (.struct (Tryz.prog.fieldsOf 98)) := by kernel_rfl
  have hp : Tryz.prog.stoodInHeld 98 = false := by kernel_rfl
  have u1 := Tryz.underlying9
  have u2 := Tryz.underlying3
  have u3 := Tryz.underlying4
  rw [run_neq_struct, show (10000 : Nat) = 9999 + 1 from rfl, run_equalIn_agg w 9999 98 _ _ hS hp]
  simp only [Program.fieldsOf, Tryz.underlying98]
  go_simp
theorem SamePieces_ok {w : World} {v u : Value} {l : List Pc} (h : Pcs w v l) (h' : Pcs w u l) :
    Calls Tryz.prog 11 #[v, u] w fun e w' => e = .returned (.bool true) ∧ Nw w w' := by
  obtain ⟨la, lc, rfl, hl1, hl2, hle⟩ := h.elem
  obtain ⟨ka, kc, rfl, -, -, hke⟩ := h'.elem
  have HL := Lib.hid hle
  have HK := Lib.hid hke
  obtain ⟨n, hn⟩ : ∃ n, l.length = n := ⟨_, rfl⟩
  have HN := Lib.hid hn
  have hn63 : n ≤ 9223372036854775807 := by unfold maxLen at hl2; omega
  rw [hn]
  have hgd : Tryz.prog.eqGuardType Tryz.prog.depth 98 = false := by kernel_rfl
  clear h h' hle hke hl1 hl2 hn
  go_enter Tryz.func11, Tryz.ntmps11
  go_wp2
  go_loopw [5] (fun i wr => ∃ k : Nat, k ≤ n ∧ i = .int .i64 k ∧ Nw w wr) (fun i _ => n - (intOf i).toNat)
  case atStart => exact ⟨0, Nat.zero_le _, rfl, Nw.refl _⟩
  case round =>
    obtain ⟨k, hk, rfl, hwr⟩ := hrel
    have HW := Lib.hid hwr
    clear hwr
    by_cases hlt : k < n
    · have hkl : k < l.length := by rw [HN.out]; exact hlt
      obtain ⟨g, o, rfl, hg, c0, c1, c2, c3⟩ := HL.out k hkl
      obtain ⟨g2, o2, rfl, hg2, d0, d1, d2, d3⟩ := HK.out k hkl
      generalize l[k] = q at c0 c1 c2 c3 d0 d1 d2 d3
      have heq := neq_pc q
      have c0 := HW.out.cell c0
      have c1 := HW.out.cell c1
      have c2 := HW.out.cell c2
      have c3 := HW.out.cell c3
      have d0 := HW.out.cell d0
      have d1 := HW.out.cell d1
      have d2 := HW.out.cell d2
      have d3 := HW.out.cell d3
      have hg := Nat.lt_of_lt_of_le hg HW.out.size
      have hg2 := Nat.lt_of_lt_of_le hg2 HW.out.size
      clear hkl
      go_upto_region 6 with fail
      have c0 := cellG c0
      have c1 := cellG c1
      have c2 := cellG c2
      have c3 := cellG c3
      have d0 := cellG d0
      have d1 := cellG d1
      have d2 := cellG d2
      have d3 := cellG d3
      refine wp_region_quiet_below (by kernel_rfl) (by kernel_rfl) ?_
      repeat (first | go_big_quiet_step (fail) | quiet_step (fail))
      refine wpQuiet_nil ?_
      intro w2 hw2
      have hw2 := Lib.hid (Nw.of_regrown hw2)
      clear c0 c1 c2 c3 d0 d1 d2 d3 heq
      go_wp2
      go_roundw
      case rel => exact ⟨k + 1, by omega, by go_num, HW.out.trans hw2.out⟩
      case measure => simp [intOf]; omega
    · go_wp2
      go_ret
      exact ⟨rfl, HW.out⟩
end Go.Proofs.YtkbenkldfehhlaaGreatDoor

namespace Go.Proofs.YtkbenkldfehhlaaGreatDoor
open Go Go.RowKit Go.Sort
set_option maxRecDepth 100000
set_option maxHeartbeats 1600000 in
theorem same1 {w5 : World} {p q : Nat} {Lq : Lg} {pa : Option Addr} {pc : Nat}
    (LN : Hid (∀ W, Nw w5 W → Calls Tryz.prog 19 #[.pointer (some ⟨p, 0, none⟩)] W fun e w' => e = .returned (.int .i64 Lq.n) ∧ W = w'))
    (LA : Hid (∀ W, Nw w5 W → Calls Tryz.prog 20 #[.pointer (some ⟨p, 0, none⟩)] W fun e w' => e = .returned (.int .i64 Lq.acked) ∧ W = w'))
    (LO : Hid (∀ W, Nw w5 W → Calls Tryz.prog 65 #[.pointer (some ⟨p, 0, none⟩)] W fun e w' => e = .returned (.bool Lq.over) ∧ W = w'))
    (LP : Hid (∀ W, Nw w5 W → Calls Tryz.prog 21 #[.pointer (some ⟨p, 0, none⟩)] W fun e w' => ∃ a c, e = .returned (.slice a Lq.l.length c) ∧ Pcs w' (.slice a Lq.l.length c) Lq.l ∧ Nw W w'))
    (SQ : Hid (∀ W, Nw w5 W → ∀ a c, Pcs W (.slice a Lq.l.length c) Lq.l → Calls Tryz.prog 11 #[.slice a Lq.l.length c, .slice pa Lq.l.length pc] W fun e w' => e = .returned (.bool true) ∧ Nw W w'))
    (LQ : Hid (q < w5.heap.size)) (C1 : Hid (w5.cell? ⟨q, 1, none⟩ = some (.slice pa Lq.l.length pc))) (C2 : Hid (w5.cell? ⟨q, 2, none⟩ = some (.int .i64 Lq.n))) (C3 : Hid (w5.cell? ⟨q, 3, none⟩ = some (.int .i64 Lq.acked))) (C5 : Hid (w5.cell? ⟨q, 5, none⟩ = some (.bool Lq.over)))
    {u1 u2 u4 u5 u6 u7 u8 u9 u10 u11 u12 u13 u14 u15 u16 u17 u18 u19 u20 u21 u22 u23 u24 u25 u26 u27 u28 u29 u30 : Value} {Q : Exit → Act → World → Prop}
    (hQ : ∀ (s4 s5 s6 s7 s8 s9 s10 s11 s12 s13 s14 s15 s16 s17 s18 s19 s20 s21 s22 s23 s24 s25 s26 s27 s28 s29 s30 : Value) (wx : World), Nw w5 wx → s4 = .bool true → Q .normal ⟨#[.pointer (some ⟨p, 0, none⟩), u1, u2, .pointer (some ⟨q, 0, none⟩), s4, s5, s6, s7, s8, s9, s10, s11, s12, s13, s14, s15, s16, s17, s18, s19, s20, s21, s22, s23, s24, s25, s26, s27, s28, s29, s30], []⟩ wx) :
    Code.wp Tryz.prog ((Tryz.f40.body.bind (regionOf 1)).getD .skip) Q ⟨#[.pointer (some ⟨p, 0, none⟩), u1, u2, .pointer (some ⟨q, 0, none⟩), u4, u5, u6, u7, u8, u9, u10, u11, u12, u13, u14, u15, u16, u17, u18, u19, u20, u21, u22, u23, u24, u25, u26, u27, u28, u29, u30], []⟩ w5 := by
  (try dsimp only at hQ ⊢)
  conv => arg 2; whnf
  have HQ := Lib.hid hQ
  clear hQ
  refine name_act fun A hA => ?_
  have hA0 : A.tmps[0]? = some (.pointer (some ⟨p, 0, none⟩)) := by rw [hA]; rfl
  have hA3 : A.tmps[3]? = some (.pointer (some ⟨q, 0, none⟩)) := by rw [hA]; rfl
  have hlt0 : ∀ d ∈ ([5, 6, 7, 8, 9, 10, 11, 12, 13, 14, 15, 16, 17, 18, 19, 20, 21, 22, 23, 24, 25, 26, 27, 28, 29, 30, 4] : List Nat), d < 31 := by decide
  refine wp_region_tab [5, 6, 7, 8, 9, 10, 11, 12, 13, 14, 15, 16, 17, 18, 19, 20, 21, 22, 23, 24, 25, 26, 27, 28, 29, 30, 4] [isV (.pointer (some ⟨p, 0, none⟩)), isV (.int .i64 Lq.n), isV (.pointer (some ⟨q, 2, none⟩)), isV (.int .i64 Lq.n), isV (.bool true), isV (.bool true), isV (.pointer (some ⟨p, 0, none⟩)), isV (.int .i64 Lq.acked), isV (.pointer (some ⟨q, 3, none⟩)), isV (.int .i64 Lq.acked), isV (.bool true), isV (.bool true), isV (.bool true), isV (.pointer (some ⟨p, 0, none⟩)), isV (.bool Lq.over), isV (.pointer (some ⟨q, 5, none⟩)), isV (.bool Lq.over), isV (.bool true), isV (.bool true), isV (.bool true), isV (.pointer (some ⟨p, 0, none⟩)), (⟨fun x w => ∃ a c, x = .slice a Lq.l.length c ∧ Pcs w x Lq.l, fun x w w' ⟨a, c, h1, h2⟩ n => ⟨a, c, h1, h2.nw n⟩⟩), isV (.pointer (some ⟨q, 1, none⟩)), isV (.slice pa Lq.l.length pc), isV (.bool true), isV (.bool true), isV (.bool true)] (by kernel_rfl) (by kernel_rfl) (by kernel_rfl) (of_decide_eq_true (by kernel_rfl)) (fun d hd => by rw [hA]; exact hlt0 d hd) (fun L hL => ⟨?a0, ?a1, ?a2, ?a3, ?a4, ?a5, ?a6, ?a7, ?a8, ?a9, ?a10, ?a11, ?a12, ?a13, ?a14, ?a15, ?a16, ?a17, ?a18, ?a19, ?a20, ?a21, ?a22, ?a23, ?a24, ?a25, ?a26, trivial⟩) ?he
  · intro a w hN old new
    have e0 := old 0 (.pointer (some ⟨p, 0, none⟩)) rfl hA0
    exact OpOk.val (.pointer (some ⟨p, 0, none⟩)) (w_none rfl) [(0, _)] (forall_cons e0 <| forall_nil) (fun ρ e ⟨c1, c2⟩ => by (try simp only [List.forall_mem_cons] at e); go_simp) ⟨Nw.refl _, rfl⟩
  · intro a w hN old new
    obtain ⟨y5, e5, g5⟩ := new 0 5 rfl rfl
    obtain rfl : y5 = .pointer (some ⟨p, 0, none⟩) := g5
    refine OpOk.call (w_none rfl) [(5, _)] (forall_cons e5 <| forall_nil) (fun ρ e ⟨c1, c2⟩ => by (try simp only [List.forall_mem_cons] at e); go_simp) (LN.out _ hN) (fun e w1 h => ?_)
    obtain ⟨rfl, rfl⟩ := h
    exact ⟨_, rfl, Nw.refl _, rfl⟩
  · intro a w hN old new
    have e3 := old 3 (.pointer (some ⟨q, 0, none⟩)) rfl hA3
    exact OpOk.val (.pointer (some ⟨q, 2, none⟩)) (w_none rfl) [(3, _)] (forall_cons e3 <| forall_nil) (fun ρ e ⟨c1, c2⟩ => by (try simp only [List.forall_mem_cons] at e); go_simp) ⟨Nw.refl _, rfl⟩
  · intro a w hN old new
    obtain ⟨y7, e7, g7⟩ := new 2 7 rfl rfl
    obtain rfl : y7 = .pointer (some ⟨q, 2, none⟩) := g7
    have hc := hN.cell C2.out
    have hl := Nat.lt_of_lt_of_le LQ.out hN.size
    exact OpOk.val (.int .i64 Lq.n) (w_none rfl) [(7, _)] (forall_cons e7 <| forall_nil) (fun ρ e ⟨c1, c2⟩ => by (try simp only [List.forall_mem_cons] at e); go_simp) ⟨Nw.refl _, rfl⟩
  · intro a w hN old new
    obtain ⟨y6, e6, g6⟩ := new 1 6 rfl rfl
    obtain rfl : y6 = .int .i64 Lq.n := g6
    obtain ⟨y8, e8, g8⟩ := new 3 8 rfl rfl
    obtain rfl : y8 = .int .i64 Lq.n := g8
    exact OpOk.val (.bool true) (w_none rfl) [(6, _), (8, _)] (forall_cons e6 <| forall_cons e8 <| forall_nil) (fun ρ e ⟨c1, c2⟩ => by (try simp only [List.forall_mem_cons] at e); go_simp) ⟨Nw.refl _, rfl⟩
  · intro a w hN old new
    obtain ⟨y9, e9, g9⟩ := new 4 9 rfl rfl
    obtain rfl : y9 = .bool true := g9
    exact OpOk.val (.bool true) (w_none rfl) [(9, _)] (forall_cons e9 <| forall_nil) (fun ρ e ⟨c1, c2⟩ => by (try simp only [List.forall_mem_cons] at e); go_simp) ⟨Nw.refl _, rfl⟩
  · intro a w hN old new
    obtain ⟨y10, e10, g10⟩ := new 5 10 rfl rfl
    obtain rfl : y10 = .bool true := g10
    have e0 := old 0 (.pointer (some ⟨p, 0, none⟩)) rfl hA0
    exact OpOk.val (.pointer (some ⟨p, 0, none⟩)) (tab_yes hL rfl rfl e10) [(0, _)] (forall_cons e0 <| forall_nil) (fun ρ e ⟨c1, c2⟩ => by (try simp only [List.forall_mem_cons] at e); go_simp) ⟨Nw.refl _, rfl⟩
  · intro a w hN old new
    obtain ⟨y10, e10, g10⟩ := new 5 10 rfl rfl
    obtain rfl : y10 = .bool true := g10
    obtain ⟨y11, e11, g11⟩ := new 6 11 rfl rfl
    obtain rfl : y11 = .pointer (some ⟨p, 0, none⟩) := g11
    refine OpOk.call (tab_yes hL rfl rfl e10) [(11, _)] (forall_cons e11 <| forall_nil) (fun ρ e ⟨c1, c2⟩ => by (try simp only [List.forall_mem_cons] at e); go_simp) (LA.out _ hN) (fun e w1 h => ?_)
    obtain ⟨rfl, rfl⟩ := h
    exact ⟨_, rfl, Nw.refl _, rfl⟩
  · intro a w hN old new
    obtain ⟨y10, e10, g10⟩ := new 5 10 rfl rfl
    obtain rfl : y10 = .bool true := g10
    have e3 := old 3 (.pointer (some ⟨q, 0, none⟩)) rfl hA3
    exact OpOk.val (.pointer (some ⟨q, 3, none⟩)) (tab_yes hL rfl rfl e10) [(3, _)] (forall_cons e3 <| forall_nil) (fun ρ e ⟨c1, c2⟩ => by (try simp only [List.forall_mem_cons] at e); go_simp) ⟨Nw.refl _, rfl⟩
  · intro a w hN old new
    obtain ⟨y10, e10, g10⟩ := new 5 10 rfl rfl
    obtain rfl : y10 = .bool true := g10
    obtain ⟨y13, e13, g13⟩ := new 8 13 rfl rfl
    obtain rfl : y13 = .pointer (some ⟨q, 3, none⟩) := g13
    have hc := hN.cell C3.out
    have hl := Nat.lt_of_lt_of_le LQ.out hN.size
    exact OpOk.val (.int .i64 Lq.acked) (tab_yes hL rfl rfl e10) [(13, _)] (forall_cons e13 <| forall_nil) (fun ρ e ⟨c1, c2⟩ => by (try simp only [List.forall_mem_cons] at e); go_simp) ⟨Nw.refl _, rfl⟩
  · intro a w hN old new
    obtain ⟨y10, e10, g10⟩ := new 5 10 rfl rfl
    obtain rfl : y10 = .bool true := g10
    obtain ⟨y12, e12, g12⟩ := new 7 12 rfl rfl
    obtain rfl : y12 = .int .i64 Lq.acked := g12
    obtain ⟨y14, e14, g14⟩ := new 9 14 rfl rfl
    obtain rfl : y14 = .int .i64 Lq.acked := g14
    exact OpOk.val (.bool true) (tab_yes hL rfl rfl e10) [(12, _), (14, _)] (forall_cons e12 <| forall_cons e14 <| forall_nil) (fun ρ e ⟨c1, c2⟩ => by (try simp only [List.forall_mem_cons] at e); go_simp) ⟨Nw.refl _, rfl⟩
  · intro a w hN old new
    obtain ⟨y10, e10, g10⟩ := new 5 10 rfl rfl
    obtain rfl : y10 = .bool true := g10
    obtain ⟨y15, e15, g15⟩ := new 10 15 rfl rfl
    obtain rfl : y15 = .bool true := g15
    exact OpOk.val (.bool true) (w_none rfl) [(10, _), (15, _)] (forall_cons e10 <| forall_cons e15 <| forall_nil) (fun ρ e ⟨c1, c2⟩ => by (try simp only [List.forall_mem_cons] at e); go_simp) ⟨Nw.refl _, rfl⟩
  · intro a w hN old new
    obtain ⟨y16, e16, g16⟩ := new 11 16 rfl rfl
    obtain rfl : y16 = .bool true := g16
    exact OpOk.val (.bool true) (w_none rfl) [(16, _)] (forall_cons e16 <| forall_nil) (fun ρ e ⟨c1, c2⟩ => by (try simp only [List.forall_mem_cons] at e); go_simp) ⟨Nw.refl _, rfl⟩
  · intro a w hN old new
    obtain ⟨y17, e17, g17⟩ := new 12 17 rfl rfl
    obtain rfl : y17 = .bool true := g17
    have e0 := old 0 (.pointer (some ⟨p, 0, none⟩)) rfl hA0
    exact OpOk.val (.pointer (some ⟨p, 0, none⟩)) (tab_yes hL rfl rfl e17) [(0, _)] (forall_cons e0 <| forall_nil) (fun ρ e ⟨c1, c2⟩ => by (try simp only [List.forall_mem_cons] at e); go_simp) ⟨Nw.refl _, rfl⟩
  · intro a w hN old new
    obtain ⟨y17, e17, g17⟩ := new 12 17 rfl rfl
    obtain rfl : y17 = .bool true := g17
    obtain ⟨y18, e18, g18⟩ := new 13 18 rfl rfl
    obtain rfl : y18 = .pointer (some ⟨p, 0, none⟩) := g18
    refine OpOk.call (tab_yes hL rfl rfl e17) [(18, _)] (forall_cons e18 <| forall_nil) (fun ρ e ⟨c1, c2⟩ => by (try simp only [List.forall_mem_cons] at e); go_simp) (LO.out _ hN) (fun e w1 h => ?_)
    obtain ⟨rfl, rfl⟩ := h
    exact ⟨_, rfl, Nw.refl _, rfl⟩
  · intro a w hN old new
    obtain ⟨y17, e17, g17⟩ := new 12 17 rfl rfl
    obtain rfl : y17 = .bool true := g17
    have e3 := old 3 (.pointer (some ⟨q, 0, none⟩)) rfl hA3
    exact OpOk.val (.pointer (some ⟨q, 5, none⟩)) (tab_yes hL rfl rfl e17) [(3, _)] (forall_cons e3 <| forall_nil) (fun ρ e ⟨c1, c2⟩ => by (try simp only [List.forall_mem_cons] at e); go_simp) ⟨Nw.refl _, rfl⟩
  · intro a w hN old new
    obtain ⟨y17, e17, g17⟩ := new 12 17 rfl rfl
    obtain rfl : y17 = .bool true := g17
    obtain ⟨y20, e20, g20⟩ := new 15 20 rfl rfl
    obtain rfl : y20 = .pointer (some ⟨q, 5, none⟩) := g20
    have hc := hN.cell C5.out
    have hl := Nat.lt_of_lt_of_le LQ.out hN.size
    exact OpOk.val (.bool Lq.over) (tab_yes hL rfl rfl e17) [(20, _)] (forall_cons e20 <| forall_nil) (fun ρ e ⟨c1, c2⟩ => by (try simp only [List.forall_mem_cons] at e); go_simp) ⟨Nw.refl _, rfl⟩
  · intro a w hN old new
    obtain ⟨y17, e17, g17⟩ := new 12 17 rfl rfl
    obtain rfl : y17 = .bool true := g17
    obtain ⟨y19, e19, g19⟩ := new 14 19 rfl rfl
    obtain rfl : y19 = .bool Lq.over := g19
    obtain ⟨y21, e21, g21⟩ := new 16 21 rfl rfl
    obtain rfl : y21 = .bool Lq.over := g21
    exact OpOk.val (.bool true) (tab_yes hL rfl rfl e17) [(19, _), (21, _)] (forall_cons e19 <| forall_cons e21 <| forall_nil) (fun ρ e ⟨c1, c2⟩ => by (try simp only [List.forall_mem_cons] at e); go_simp) ⟨Nw.refl _, rfl⟩
  · intro a w hN old new
    obtain ⟨y17, e17, g17⟩ := new 12 17 rfl rfl
    obtain rfl : y17 = .bool true := g17
    obtain ⟨y22, e22, g22⟩ := new 17 22 rfl rfl
    obtain rfl : y22 = .bool true := g22
    exact OpOk.val (.bool true) (w_none rfl) [(17, _), (22, _)] (forall_cons e17 <| forall_cons e22 <| forall_nil) (fun ρ e ⟨c1, c2⟩ => by (try simp only [List.forall_mem_cons] at e); go_simp) ⟨Nw.refl _, rfl⟩
  · intro a w hN old new
    obtain ⟨y23, e23, g23⟩ := new 18 23 rfl rfl
    obtain rfl : y23 = .bool true := g23
    exact OpOk.val (.bool true) (w_none rfl) [(23, _)] (forall_cons e23 <| forall_nil) (fun ρ e ⟨c1, c2⟩ => by (try simp only [List.forall_mem_cons] at e); go_simp) ⟨Nw.refl _, rfl⟩
  · intro a w hN old new
    obtain ⟨y24, e24, g24⟩ := new 19 24 rfl rfl
    obtain rfl : y24 = .bool true := g24
    have e0 := old 0 (.pointer (some ⟨p, 0, none⟩)) rfl hA0
    exact OpOk.val (.pointer (some ⟨p, 0, none⟩)) (tab_yes hL rfl rfl e24) [(0, _)] (forall_cons e0 <| forall_nil) (fun ρ e ⟨c1, c2⟩ => by (try simp only [List.forall_mem_cons] at e); go_simp) ⟨Nw.refl _, rfl⟩
  · intro a w hN old new
    obtain ⟨y24, e24, g24⟩ := new 19 24 rfl rfl
    obtain rfl : y24 = .bool true := g24
    obtain ⟨y25, e25, g25⟩ := new 20 25 rfl rfl
    obtain rfl : y25 = .pointer (some ⟨p, 0, none⟩) := g25
    refine OpOk.call (tab_yes hL rfl rfl e24) [(25, _)] (forall_cons e25 <| forall_nil) (fun ρ e ⟨c1, c2⟩ => by (try simp only [List.forall_mem_cons] at e); go_simp) (LP.out _ hN) (fun e w1 h => ?_)
    obtain ⟨a, c, rfl, q1, n1⟩ := h
    exact ⟨_, rfl, n1, ⟨a, c, rfl, q1⟩⟩
  · intro a w hN old new
    obtain ⟨y24, e24, g24⟩ := new 19 24 rfl rfl
    obtain rfl : y24 = .bool true := g24
    have e3 := old 3 (.pointer (some ⟨q, 0, none⟩)) rfl hA3
    exact OpOk.val (.pointer (some ⟨q, 1, none⟩)) (tab_yes hL rfl rfl e24) [(3, _)] (forall_cons e3 <| forall_nil) (fun ρ e ⟨c1, c2⟩ => by (try simp only [List.forall_mem_cons] at e); go_simp) ⟨Nw.refl _, rfl⟩
  · intro a w hN old new
    obtain ⟨y24, e24, g24⟩ := new 19 24 rfl rfl
    obtain rfl : y24 = .bool true := g24
    obtain ⟨y27, e27, g27⟩ := new 22 27 rfl rfl
    obtain rfl : y27 = .pointer (some ⟨q, 1, none⟩) := g27
    have hc := hN.cell C1.out
    have hl := Nat.lt_of_lt_of_le LQ.out hN.size
    exact OpOk.val (.slice pa Lq.l.length pc) (tab_yes hL rfl rfl e24) [(27, _)] (forall_cons e27 <| forall_nil) (fun ρ e ⟨c1, c2⟩ => by (try simp only [List.forall_mem_cons] at e); go_simp) ⟨Nw.refl _, rfl⟩
  · intro a w hN old new
    obtain ⟨y24, e24, g24⟩ := new 19 24 rfl rfl
    obtain rfl : y24 = .bool true := g24
    obtain ⟨y26, e26, g26⟩ := new 21 26 rfl rfl
    obtain ⟨a0, c0, rfl, q0⟩ := g26
    obtain ⟨y28, e28, g28⟩ := new 23 28 rfl rfl
    obtain rfl : y28 = .slice pa Lq.l.length pc := g28
    refine OpOk.call (tab_yes hL rfl rfl e24) [(26, _), (28, _)] (forall_cons e26 <| forall_cons e28 <| forall_nil) (fun ρ e ⟨c1, c2⟩ => by (try simp only [List.forall_mem_cons] at e); go_simp) (SQ.out _ hN a0 c0 q0) (fun e w1 h => ?_)
    obtain ⟨rfl, n1⟩ := h
    exact ⟨_, rfl, n1, rfl⟩
  · intro a w hN old new
    obtain ⟨y24, e24, g24⟩ := new 19 24 rfl rfl
    obtain rfl : y24 = .bool true := g24
    obtain ⟨y29, e29, g29⟩ := new 24 29 rfl rfl
    obtain rfl : y29 = .bool true := g29
    exact OpOk.val (.bool true) (w_none rfl) [(24, _), (29, _)] (forall_cons e24 <| forall_cons e29 <| forall_nil) (fun ρ e ⟨c1, c2⟩ => by (try simp only [List.forall_mem_cons] at e); go_simp) ⟨Nw.refl _, rfl⟩
  · intro a w hN old new
    obtain ⟨y30, e30, g30⟩ := new 25 30 rfl rfl
    obtain rfl : y30 = .bool true := g30
    exact OpOk.val (.bool true) (w_none rfl) [(30, _)] (forall_cons e30 <| forall_nil) (fun ρ e ⟨c1, c2⟩ => by (try simp only [List.forall_mem_cons] at e); go_simp) ⟨Nw.refl _, rfl⟩
  · intro a w hN hsz hdf old new
    obtain ⟨y4, e4, g4⟩ := new 26 4 rfl
    exact tab_frame (frame_lit (dst := [5, 6, 7, 8, 9, 10, 11, 12, 13, 14, 15, 16, 17, 18, 19, 20, 21, 22, 23, 24, 25, 26, 27, 28, 29, 30, 4]) (l := [.pointer (some ⟨p, 0, none⟩), u1, u2, .pointer (some ⟨q, 0, none⟩), u4, u5, u6, u7, u8, u9, u10, u11, u12, u13, u14, u15, u16, u17, u18, u19, u20, u21, u22, u23, u24, u25, u26, u27, u28, u29, u30]) hA hsz hdf old (l' := [.pointer (some ⟨p, 0, none⟩), u1, u2, .pointer (some ⟨q, 0, none⟩), (a.tmps[4]?.getD undef), (a.tmps[5]?.getD undef), (a.tmps[6]?.getD undef), (a.tmps[7]?.getD undef), (a.tmps[8]?.getD undef), (a.tmps[9]?.getD undef), (a.tmps[10]?.getD undef), (a.tmps[11]?.getD undef), (a.tmps[12]?.getD undef), (a.tmps[13]?.getD undef), (a.tmps[14]?.getD undef), (a.tmps[15]?.getD undef), (a.tmps[16]?.getD undef), (a.tmps[17]?.getD undef), (a.tmps[18]?.getD undef), (a.tmps[19]?.getD undef), (a.tmps[20]?.getD undef), (a.tmps[21]?.getD undef), (a.tmps[22]?.getD undef), (a.tmps[23]?.getD undef), (a.tmps[24]?.getD undef), (a.tmps[25]?.getD undef), (a.tmps[26]?.getD undef), (a.tmps[27]?.getD undef), (a.tmps[28]?.getD undef), (a.tmps[29]?.getD undef), (a.tmps[30]?.getD undef)]) (by kernel_rfl)) (HQ.out _ _ _ _ _ _ _ _ _ _ _ _ _ _ _ _ _ _ _ _ _ _ _ _ _ _ _ w hN (by rw [e4]; exact g4))

theorem sameLog_ok {X : Nat → Prop} {w0 w : World} {p b : Nat} {d : Dsk} {L : Lg} {pa : Option Addr} {pc : Nat} (h : HasL X w0 w p b d L) (hl : L.l.length ≤ 1000) (hp : Pcs w (.slice pa L.l.length pc) L.l) :
    Calls Tryz.prog 40 #[.pointer (some ⟨p, 0, none⟩), .agg #[.int .i64 L.size, .slice pa L.l.length pc, .int .i64 L.n, .int .i64 L.acked, .int .i64 L.bytes, .bool L.over]] w fun e w' => e = .returned (.bool true) ∧ Nw w w' := by
  have na := (Nw.refl w).alloc (logB L pa pc)
  have BL := heap_alloc_new w (logB L pa pc)
  obtain ⟨w1, hw1⟩ : ∃ x, w.alloc (logB L pa pc) = x := ⟨_, rfl⟩
  rw [hw1] at na BL
  obtain ⟨⟨c0, c1, c2, c3, c4, c5⟩, -⟩ := lb_cells BL
  have NA := Lib.hid na
  obtain ⟨g, o, cap, hg⟩ := h
  have HM := Lib.hid (hg.nw na).mem
  have HPP := Lib.hid (hp.nw na)
  have LN := Lib.hid (fun W (hW : Nw w1 W) => Len_ok ((hg.nw na).nw hW).mem)
  have LA := Lib.hid (fun W (hW : Nw w1 W) => Acked_ok ((hg.nw na).nw hW).mem)
  have LO := Lib.hid (fun W (hW : Nw w1 W) => Over_ok ((hg.nw na).nw hW).mem)
  have LP : Hid (∀ W, Nw w1 W → Calls Tryz.prog 21 #[.pointer (some ⟨p, 0, none⟩)] W fun e w' => ∃ a c, e = .returned (.slice a L.l.length c) ∧ Pcs w' (.slice a L.l.length c) L.l ∧ Nw W w') := Lib.hid (fun W hW => (Pieces_ok ((hg.nw na).nw hW).mem (by omega)).mono (by
    rintro e w' ⟨v, rfl, q1, q2, -⟩
    obtain ⟨a, c, rfl, -⟩ := q1.len
    exact ⟨a, c, rfl, q1.pcs hp.ok, q2⟩))
  have SQ := Lib.hid (fun W (hW : Nw w1 W) a c (hq : Pcs W (.slice a L.l.length c) L.l) => SamePieces_ok hq (HPP.out.nw hW))
  have LQ := Lib.hid (lt_of_block BL)
  have C1 := Lib.hid c1
  have C2 := Lib.hid c2
  have C3 := Lib.hid c3
  have C5 := Lib.hid c5
  clear hg na hp BL c0 c1 c2 c3 c4 c5
  unfold logB LB at hw1
  go_enter Tryz.func40, Tryz.ntmps40
  go_upto_region 1 with fail
  (try rw [hw1])
  clear hw1
  generalize w.heap.size = q at LQ C1 C2 C3 C5 ⊢
  refine same1 LN LA LO LP SQ LQ C1 C2 C3 C5 ?_
  intro s4 s5 s6 s7 s8 s9 s10 s11 s12 s13 s14 s15 s16 s17 s18 s19 s20 s21 s22 s23 s24 s25 s26 s27 s28 s29 s30 w6 n6 hs
  subst hs
  have N6 := Lib.hid n6
  clear n6
  go_wp2
  go_ret
  exact ⟨rfl, NA.out.trans N6.out⟩
end Go.Proofs.YtkbenkldfehhlaaGreatDoor
