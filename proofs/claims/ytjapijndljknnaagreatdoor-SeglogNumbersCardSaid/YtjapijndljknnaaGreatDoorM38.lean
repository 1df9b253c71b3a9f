/-
  Texts merged by a program of this claim's: RecC, RecD.
-/
import Derived.Test.YtjapijndljknnaaGreatDoorM30
import Derived.Test.YtjapijndljknnaaGreatDoorM37
import Derived.Test.YtjapijndljknnaaGreatDoorM26
/-
  Package recover, walked: Mend.
-/
namespace Go.Proofs.YtjapijndljknnaaGreatDoor
open Go Go.RowKit Go.Sort
set_option maxRecDepth 100000
set_option maxHeartbeats 1600000

theorem Names.kept {Y : Nat → Prop} {w w' : World} {m : Nat} {S : List Str} (h : Names w m S) (hk : Kept Y w w') (hm : Y m) : Names w' m S := by
  obtain ⟨l, c, h1, h2⟩ := h
  exact ⟨l, c, (hk.2 m hm (lt_of_block h1)).trans h1, h2⟩
theorem Names.lt {w : World} {m : Nat} {S : List Str} (h : Names w m S) : m < w.heap.size := by
  obtain ⟨l, c, h1, h2⟩ := h
  exact lt_of_block h1
section
variable {X Y : Nat → Prop} {w0 w w' : World} {b : Nat} {d d' : Dsk} {U : List UInt8 → Int × List Ev × Int}
theorem pcs_last {l : List Pc} {a : Option Addr} {n cap : Nat} (h : Pcs w (.slice a (n + 1) cap) l) (hn : l.length = n + 1) :
    ∃ g o, a = some ⟨g, o, none⟩ ∧ g < w.heap.size ∧ w.cell? ⟨g, o + n * 4, none⟩ = some (.string ⟨(lastP l).name.toArray⟩) ∧ w.cell? ⟨g, o + n * 4 + 1, none⟩ = some (.int .i64 (lastP l).first) := by
  obtain ⟨g, o, ha, hg, x0, x1, -, -⟩ := pcs_at h hn (k := n) (by omega)
  have hne : l ≠ [] := fun e => by rw [e] at hn; simp at hn
  have := lastP_at hne
  have e : l[l.length - 1]'(by omega) = l[n]'(by omega) := by congr 1; omega
  rw [← e, this] at x0 x1
  exact ⟨g, o, ha, hg, x0, x1⟩
/-- What Mend leaves: the disk, and what it hands back, which nothing of the disk's turns. -/
structure MendTo (X : Nat → Prop) (w0 w w' : World) (b : Nat) (d' : Dsk) (v p : Value) (es : List Ev) (ps : List Pc) : Prop where
  disk : HasX (fun k => X k ∨ v.ownBlock = some k ∨ p.ownBlock = some k) w0 w' b d'
  kept : Kept X w w'
  evs : Vec 5 w' v es.length (es.flatMap evV)
  pcs : Vec 4 w' p ps.length (ps.flatMap pcV)
  ok : ∀ q ∈ ps, q.Ok
  e0 : ∀ g, v.ownBlock = some g → w.heap.size ≤ g
  p0 : ∀ g, p.ownBlock = some g → w.heap.size ≤ g
theorem MendTo.nil (h : HasX X w0 w' b d') (hk : Kept X w w') : MendTo X w0 w w' b d' (.slice none 0 0) (.slice none 0 0) [] [] :=
  ⟨h.weak (fun k hk => by rcases hk with h | h | h; exact h; cases h; cases h), hk, Vec.nil, Vec.nil, (fun q hq => by cases hq), (fun g hg => by cases hg), fun g hg => by cases hg⟩
end
end Go.Proofs.YtjapijndljknnaaGreatDoor

/-
  seglog.Resume, walked.
-/
namespace Go.Proofs.YtjapijndljknnaaGreatDoor
open Go Go.RowKit Go.Sort
set_option maxRecDepth 100000
set_option maxHeartbeats 1600000
section
variable {X Y : Nat → Prop} {w0 w w' : World} {b : Nat} {d d' : Dsk}
theorem Pcs.kept {v : Value} {l : List Pc} (h : Pcs w v l) (hk : Kept Y w w') (hy : ∀ g, v.ownBlock = some g → Y g) : Pcs w' v l := by
  refine ⟨?_, h.ok⟩
  obtain ⟨e, ⟨a, hv, hn⟩ | ⟨g, o, cap, hv, h1, h2, h3, h4⟩⟩ := h.src
  · exact ⟨e, .inl ⟨a, hv, hn⟩⟩
  · subst hv
    exact ⟨e, .inr ⟨g, o, cap, rfl, h1, h2, Nat.lt_of_lt_of_le h3 hk.1, fun j hj => hk.cell (h4 j hj) (hy g rfl)⟩⟩
theorem Resume_ok (h : HasX X w0 w b d) {v : Value} {l : List Pc} (hv : Pcs w v l) (hx : ∀ g, v.ownBlock = some g → X g) {size : Int} (hs : 64 ≤ size ∧ size ≤ 16777216) (hr : rightL l = true) {n : Nat} (hn : n ≤ 2305843009213693952) :
    Calls Tryz.prog 34 #[.pointer (some ⟨b, 0, none⟩), .int .i64 size, v, .int .i64 n] w (Created X w0 w b (resumeD d size l n).1 (resumeD d size l n).2 (onLg d size l n)) := by
  have H := Lib.hid h
  have HV := Lib.hid hv
  have HX := Lib.hid hx
  have HSZ := Lib.hid (fun W => sized_ok size (ok := true) (by simp [hs]) W)
  have HRT := Lib.hid (Right_ok hv)
  rw [hr] at HRT
  have hpl := (rightL_bound hr).1
  have hpl2 := (rightL_bound hr).2.1
  obtain ⟨R, hR⟩ : ∃ r, resumeD d size l n = r := ⟨_, rfl⟩
  have HR := Lib.hid hR
  rw [hR]
  unfold resumeD at hR
  obtain ⟨np, hnp⟩ : ∃ k, l.length = k := ⟨_, rfl⟩
  rw [hnp] at hpl hpl2
  obtain ⟨nq, rfl⟩ : ∃ k, np = k + 1 := ⟨np - 1, by omega⟩
  have HNP := Lib.hid hnp
  obtain ⟨a, cap, rfl, -, -, -⟩ := hv.elem
  rw [hnp] at HV HX HRT ⊢
  obtain ⟨g, o, rfl, hg, x0, x1⟩ := pcs_last HV.out hnp
  obtain ⟨nm, hnm⟩ : ∃ s, (lastP l).name = s := ⟨_, rfl⟩
  obtain ⟨fi, hfi⟩ : ∃ s, (lastP l).first = s := ⟨_, rfl⟩
  rw [hnm] at x0 hR
  rw [hfi] at x1 hR
  have hw2 : ((nq + 1 : Nat) : Int) - 1 = (nq : Int) := by omega
  have hw1 : IntKind.i64.wrap (((nq + 1 : Nat) : Int) - 1) = (nq : Int) := by rw [IntWalk.i64_in _ (by omega)]; exact hw2
  have HFI := Lib.hid hfi
  have HNM := Lib.hid hnm
  have HRI := Lib.hid hr
  clear h hv hx hnp hnm hfi hr
  by_cases hf : (n : Int) < fi
  case pos =>
    rw [if_pos (.inr (.inr (.inr (.inl hf))))] at hR
    have q1 : decide ((n : Int) < fi) = true := by simpa using hf
    subst hR
    clear hf
    go_enter Tryz.func34, Tryz.ntmps34
    go_wp2_with fail
    refine (HSZ.out w).mono ?_
    rintro e w1 ⟨rfl, rfl⟩
    go_wp2_with fail
    refine HRT.out.mono ?_
    rintro e w2 ⟨rfl, n2⟩
    have N2 := Lib.hid n2
    have x1 := n2.cell x1
    have hg := Nat.lt_of_lt_of_le hg n2.size
    clear n2 x0
    go_wp2
    refine bodyPost_ret (v := .tuple #[.pointer none, .int .i64 2]) (by simp [results, Tryz.results34, go_sem]) rfl ⟨N2.out.kept, .inr ⟨by decide, rfl, H.out.nw N2.out⟩⟩
  rw [if_neg (by rw [HRI.out]; rintro (h | h | h | h | h) <;> first | omega | cases h)] at hR
  have q1 : decide ((n : Int) < fi) = false := by simpa using hf
  have q2 : decide ((2305843009213693952 : Int) < (n : Int)) = false := by simp; omega
  obtain ⟨⟨lb, ex⟩, hrd⟩ : ∃ y, d.read nm = y := ⟨_, rfl⟩
  obtain ⟨⟨d2, sx⟩, hsy⟩ : ∃ y, d.sync nm = y := ⟨_, rfl⟩
  have HRD := Lib.hid (fun W (hw : Nw w W) => (H.out.nw hw).read nm hrd)
  have HSY := Lib.hid (fun W (hw : Nw w W) => (H.out.nw hw).sync nm hsy)
  have HLB : Hid (ex = 0 → (fileOf d.files nm).bytes = lb ∧ lb.length ≤ 16777216) := Lib.hid (fun he => by
    subst he
    have h1 := read_len H.out.ok nm
    rw [hrd] at h1
    refine ⟨?_, h1⟩
    unfold Dsk.read at hrd
    split at hrd
    · simp at hrd
    · unfold fileOf
      split at hrd
      · simp at hrd
      · rename_i f hf
        rw [hf]
        simp only [Prod.mk.injEq, and_true] at hrd
        exact hrd)
  rw [hrd, hsy] at hR
  simp only at hR
  have HR1 := Lib.hid hR
  clear hrd hsy hR hf
  go_enter Tryz.func34, Tryz.ntmps34
  go_wp2_with fail
  refine (HSZ.out w).mono ?_
  rintro e w1 ⟨rfl, rfl⟩
  go_wp2_with fail
  refine HRT.out.mono ?_
  rintro e w2 ⟨rfl, n2⟩
  have N2 := Lib.hid n2
  have x0 := n2.cell x0
  have x1 := n2.cell x1
  have hg := Nat.lt_of_lt_of_le hg n2.size
  clear n2
  go_wp2_with fail
  refine (HRD.out _ N2.out).mono ?_
  rintro e w3 ⟨v3, rfl, o3, n3, -⟩
  have o3l := o3.rd.len
  obtain ⟨ya, yc, rfl, -⟩ := o3l
  obtain ⟨lbn, hlb⟩ : ∃ k, lb.length = k := ⟨_, rfl⟩
  rw [hlb]
  have HLN := Lib.hid hlb
  have N3 := Lib.hid (N2.out.trans n3)
  clear o3 n3 x0 x1 hg hlb
  by_cases he : ex = 0
  case neg =>
    have q3 : (ex == 0) = false := by simpa using he
    have q4 : (ex != 0) = true := by simpa using he
    have rr := HR1.out
    rw [if_pos he] at rr
    subst rr
    have HE := Lib.hid he
    clear he
    go_wp2
    refine bodyPost_ret (v := .tuple #[.pointer none, .int .i64 ex]) (by simp [results, Tryz.results34, go_sem]) rfl ⟨N3.out.kept, .inr ⟨HE.out, rfl, H.out.nw N3.out⟩⟩
  subst he
  have rr := HR1.out
  rw [if_neg (by simp)] at rr
  subst rr
  go_wp2_with fail
  refine (HSY.out _ N3.out).mono ?_
  rintro e w4 ⟨rfl, h4, k4⟩
  have H4 := Lib.hid h4
  have K4 : Hid (Kept X w w4) := Lib.hid (N3.out.kept.trans k4)
  have V4 := Lib.hid (HV.out.kept K4.out HX.out)
  clear h4 k4
  by_cases hsx : sx = 0
  case neg =>
    have q4 : (sx != 0) = true := by simpa using hsx
    have HE := Lib.hid hsx
    clear hsx
    go_wp2
    refine bodyPost_ret (v := .tuple #[.pointer none, .int .i64 sx]) (by simp [results, Tryz.results34, go_sem]) rfl ⟨K4.out, .inr ⟨HE.out, rfl, H4.out⟩⟩
  subst hsx
  have CL := Lib.hid (PClone_ok V4.out (by rw [HNP.out]; omega))
  go_wp2_with fail
  refine CL.out.mono ?_
  rintro e w5 ⟨v5, rfl, q5, n5, f5⟩
  rw [HNP.out] at q5
  have q5l := q5.lt
  obtain ⟨-, ⟨-, h0⟩ | ⟨g5, o5, cap5, rfl, c1, c2, c3, -, -, c6⟩⟩ := q5
  · omega
  have HQ : Hid (Pcs w5 (.slice (some ⟨g5, o5, none⟩) (nq + 1) cap5) l) := Lib.hid ⟨⟨by rw [HNP.out]; have := V4.out.src.1; rwa [HNP.out] at this, .inr ⟨g5, o5, cap5, by rw [HNP.out], by rw [HNP.out]; exact c1, c2, c3, c6⟩⟩, V4.out.ok⟩
  have N5 := Lib.hid n5
  have HG5 : Hid (w4.heap.size ≤ g5 ∧ g5 < w5.heap.size) := Lib.hid ⟨f5 g5 rfl, c3⟩
  clear q5l c1 c2 c3 c6 CL f5
  go_wp2
  refine bodyPost_ret (v := .tuple #[.pointer (some ⟨w5.heap.size, 0, none⟩), .int .i64 0]) (by simp [results, Tryz.results34, go_sem]) rfl ?_
  have n6 := (Nw.refl w5).alloc (.cells #[.pointer (some ⟨b, 0, none⟩), .int .i64 size, .slice (some ⟨g5, o5, none⟩) (nq + 1) cap5, .int .i64 n, .int .i64 n, .int .i64 lbn, .bool false] 90 (0, 0))
  have hb6 := heap_alloc_new w5 (.cells #[.pointer (some ⟨b, 0, none⟩), .int .i64 size, .slice (some ⟨g5, o5, none⟩) (nq + 1) cap5, .int .i64 n, .int .i64 n, .int .i64 lbn, .bool false] 90 (0, 0))
  have hs4 := H4.out.base.size
  have hg5 := HG5.out
  have hs5 := N5.out.size
  refine ⟨K4.out.trans (N5.out.kept.trans n6.kept), .inl ⟨rfl, w5.heap.size, rfl, g5, o5, cap5, ⟨?_, ?_, ?_⟩, ?_, by omega, fun hx => ?_, by omega, by omega, fun hx => ?_⟩⟩
  · rw [hb6]
    have h1 := (HLB.out (by first | rfl | trivial)).1
    have h2 := HLN.out
    simp only [onLg, HNP.out, HNM.out, h1, h2]
  · have := HQ.out.nw n6
    simpa only [onLg, HNP.out] using this
  · exact fun e => by have := HNP.out; rw [show l = [] from e] at this; simp at this
  · refine H4.out.nwY (N5.out.trans n6) (fun k hk => ?_)
    have hsz : (w5.alloc (.cells #[.pointer (some ⟨b, 0, none⟩), .int .i64 size, .slice (some ⟨g5, o5, none⟩) (nq + 1) cap5, .int .i64 n, .int .i64 n, .int .i64 lbn, .bool false] 90 (0, 0))).heap.size = w5.heap.size + 1 := by simp
    rw [hsz]
    rcases hk with hk | rfl | rfl
    · exact .inl hk
    · exact .inr ⟨by omega, by omega⟩
    · exact .inr ⟨by omega, by omega⟩
  · have := H4.out.lt _ hx; omega
  · have := H4.out.lt _ hx; omega
end
end Go.Proofs.YtjapijndljknnaaGreatDoor
