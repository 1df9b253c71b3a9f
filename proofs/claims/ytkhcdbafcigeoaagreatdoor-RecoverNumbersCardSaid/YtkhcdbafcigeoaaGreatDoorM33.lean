/-
  Texts merged by a program of this claim's: RecC, RecD.
-/
import Derived.Test.YtkhcdbafcigeoaaGreatDoorM32
import Derived.Test.YtkhcdbafcigeoaaGreatDoorM13
namespace Go.Proofs.YtkhcdbafcigeoaaGreatDoor
open Go Go.RowKit Go.Sort
set_option maxRecDepth 100000
set_option maxHeartbeats 1600000

theorem names_none {w : World} {m : Nat} {S : List Str} (h : Names w m S) {k : Str} (hk : k ∉ S) : (Instr.lookup 117 (.map (some m)) (.string ⟨k.toArray⟩) false).run Tryz.prog w = .ok (.int .i64 0) w := by
  obtain ⟨L, clock, hmap, hv, hkk⟩ := h
  have ht := Tryz.underlying117
  have hs := Tryz.underlying9
  exact run_look_miss ht hs (by kernel_rfl) hmap (fun hc => hk ((hkk k).1 hc))
theorem Names.kept {Y : Nat → Prop} {w w' : World} {m : Nat} {S : List Str} (h : Names w m S) (hk : Kept Y w w') (hm : Y m) : Names w' m S := by
  obtain ⟨l, c, h1, h2⟩ := h
  exact ⟨l, c, (hk.2 m hm (lt_of_block h1)).trans h1, h2⟩
theorem Names.lt {w : World} {m : Nat} {S : List Str} (h : Names w m S) : m < w.heap.size := by
  obtain ⟨l, c, h1, h2⟩ := h
  exact lt_of_block h1
section
variable {X Y : Nat → Prop} {w0 w w' : World} {b : Nat} {d d' : Dsk} {U : List UInt8 → Int × List Ev × Int}
theorem pcs_last {l : List Pc} {a : Option Addr} {n cap : Nat} (h : Pcs w (.slice a (n + 1) cap) l) (hn : l.length = n + 1) :
    ∃ g o, a = some ⟨g, o, none⟩ ∧ g < w.heap.size ∧ w.cell? ⟨g, o + n * 4, none⟩ = some (.string ⟨(lastP l).name.toArray⟩) ∧ w.cell? ⟨g, o + n * 4 + 1, none⟩ = some (.int .i64 (lastP l).first) := by
  obtain ⟨g, o, ha, hg, x0, x1, -, -⟩ := pcs_at h hn (k := n) (by omega)
  have hne : l ≠ [] := fun e => by rw [e] at hn; simp at hn
  have := lastP_at hne
  have e : l[l.length - 1]'(by omega) = l[n]'(by omega) := by congr 1; omega
  rw [← e, this] at x0 x1
  exact ⟨g, o, ha, hg, x0, x1⟩
structure MendTo (X : Nat → Prop) (w0 w w' : World) (b : Nat) (d' : Dsk) (v p : Value) (es : List Ev) (ps : List Pc) : Prop where
  disk : HasX (fun k => X k ∨ v.ownBlock = some k ∨ p.ownBlock = some k) w0 w' b d'
  kept : Kept X w w'
  evs : Vec 5 w' v es.length (es.flatMap evV)
  pcs : Vec 4 w' p ps.length (ps.flatMap pcV)
  ok : ∀ q ∈ ps, q.Ok
  e0 : ∀ g, v.ownBlock = some g → w.heap.size ≤ g
  p0 : ∀ g, p.ownBlock = some g → w.heap.size ≤ g
theorem MendTo.nil (h : HasX X w0 w' b d') (hk : Kept X w w') : MendTo X w0 w w' b d' (.slice none 0 0) (.slice none 0 0) [] [] :=
  ⟨h.weak (fun k hk => by rcases hk with h | h | h; exact h; cases h; cases h), hk, Vec.nil, Vec.nil, (fun q hq => by cases hq), (fun g hg => by cases hg), fun g hg => by cases hg⟩
theorem Mend_ok (h : HasX X w0 w b d) (hU : DenFor U d) {es : List Ev} {ps : List Pc} {x : Int} (hr : mendD U d = ⟨d', es, ps, x⟩) :
    Calls Tryz.prog 31 #[.pointer (some ⟨b, 0, none⟩)] w fun z w' => ∃ v p, z = .returned (.tuple #[v, p, .int .i64 x]) ∧ MendTo X w0 w w' b d' v p es ps := by
  obtain ⟨⟨es1, ps1, gd, x1⟩, hs⟩ : ∃ r, scanD U d = r := ⟨_, rfl⟩
  have HSC := Lib.hid (scan_ok h hU hs)
  have H := Lib.hid h
  unfold mendD at hr
  rw [hs] at hr
  unfold mendWith at hr
  simp only at hr
  have hmm := @run_makeMap Tryz.prog
  have hps0 : x1 = 0 → ps1.length ≤ 1000 := fun hx => by
    subst hx
    have : ps1 = [] ∨ rightL ps1 = true := by
      unfold scanD at hs
      repeat' split at hs
      · simp only [ScanR.mk.injEq] at hs; exact .inl hs.2.1.symm
      · simp only [ScanR.mk.injEq] at hs; exact .inl hs.2.1.symm
      · simp only [ScanR.mk.injEq] at hs; exact .inl hs.2.1.symm
      · simp only [ScanR.mk.injEq] at hs; exact .inl hs.2.1.symm
      · rename_i h1 h2
        simp only [ScanR.mk.injEq] at hs
        refine .inr ?_
        rw [← hs.2.1]
        exact listedB_right (by rcases Decidable.em ((listedB (d.read manifestS).1).2 = 0) with h | h; exact h; exact absurd h h1)
    rcases this with rfl | hR
    · simp
    · have := (rightL_bound hR).2.1; omega
  clear h hU hs
  by_cases c1 : x1 = 0
  case neg =>
    have q1 : (x1 != 0) = true := by simpa using c1
    rw [if_pos c1] at hr
    obtain ⟨rfl, rfl, rfl, rfl⟩ : d = d' ∧ [] = es ∧ [] = ps ∧ x1 = x := by simpa using hr
    clear hr hmm
    go_enter Tryz.func31, Tryz.ntmps31
    go_wp2_with fail
    refine HSC.out.mono ?_
    rintro z w1 ⟨v, p, rfl, o1, o2⟩
    have N1 := Lib.hid o1.2.1
    clear o1 o2
    go_wp2
    refine bodyPost_ret (v := .tuple #[.slice none 0 0, .slice none 0 0, .int .i64 x1]) (by simp [results, Tryz.results31, go_sem]) rfl ⟨_, _, rfl, MendTo.nil (H.out.nw N1.out) N1.out.kept⟩
  subst c1
  rw [if_neg (by simp)] at hr
  have hps := hps0 rfl
  obtain ⟨np, hnp⟩ : ∃ n, ps1.length = n := ⟨_, rfl⟩
  obtain ⟨ne, hne⟩ : ∃ n, es1.length = n := ⟨_, rfl⟩
  rw [hnp] at hps
  have HNP := Lib.hid hnp
  have HNE := Lib.hid hne
  have HRR := Lib.hid hr
  clear hr hps0 hnp hne
  go_enter Tryz.func31, Tryz.ntmps31
  go_wp2_with fail
  refine HSC.out.mono ?_
  rintro z w4 ⟨v, p, rfl, o1, o2⟩
  have o1l := o1.1.len
  have o2l := o2.1.len
  rw [HNE.out] at o1l
  rw [HNP.out] at o2l
  obtain ⟨va, vc, rfl, -⟩ := o1l
  obtain ⟨pa, pc, rfl, -⟩ := o2l
  have OE := Lib.hid o1
  have OP := Lib.hid o2
  have N1 := Lib.hid o1.2.1
  have L1 := Lib.hid (And.intro o1.1.lt o2.1.lt)
  clear o1 o2 HSC
  have F4 : Names (w4.alloc (.map #[] 0)) w4.heap.size [] := ⟨[], 0, heap_alloc_new w4 _, (fun e he => by cases he), fun k => by simp⟩
  obtain ⟨w5, hput, nw5, on5, nm5⟩ := names_put (w := w4) F4 manifestS ((Nw.refl w4).alloc _) (Nat.le_refl _)
  have hput : (Instr.mapUpdate 117 (.map (some w4.heap.size)) (.string ⟨#[109, 97, 110, 105, 102, 101, 115, 116]⟩) (.int .i64 1)).run Tryz.prog (w4.alloc (.map #[] 0)) = .ok () w5 := hput
  obtain ⟨m, hm⟩ : ∃ m, w4.heap.size = m := ⟨_, rfl⟩
  rw [hm] at hput nm5
  obtain ⟨Y0, hY0⟩ : ∃ Y : Nat → Prop, Y = fun k => X k ∨ (Value.slice va ne vc).ownBlock = some k ∨ (Value.slice pa np pc).ownBlock = some k ∨ k = m := ⟨_, rfl⟩
  have hml := nm5.lt
  have N5 := Lib.hid (N1.out.trans nw5)
  have HYN : Hid (∀ W, Nw w W → W.heap.size ≥ w5.heap.size → HasX Y0 w0 W b d) := Lib.hid (fun W hW hsz => H.out.nwY hW fun k hk => by
    rw [hY0] at hk
    rcases hk with hk | hk | hk | hk
    · exact .inl hk
    · exact .inr ⟨OE.out.2.2 k hk, by have := L1.out.1 k hk; have := nw5.size; omega⟩
    · exact .inr ⟨OP.out.2.2.2 k hk, by have := L1.out.2 k hk; have := nw5.size; omega⟩
    · subst hk; have := N1.out.size; exact .inr ⟨by omega, by omega⟩)
  have VE5 := Lib.hid (OE.out.1.nw nw5)
  have VP5 := Lib.hid (OP.out.1.nw nw5)
  have NM5 := Lib.hid nm5
  have HWM : Hid (w.heap.size ≤ m) := Lib.hid (by have h1 := N1.out.size; omega)
  have HY : Hid ((∀ k, X k → Y0 k) ∧ (∀ g, (Value.slice va ne vc).ownBlock = some g → Y0 g) ∧ (∀ g, (Value.slice pa np pc).ownBlock = some g → Y0 g) ∧ Y0 m) := Lib.hid (by rw [hY0]; exact ⟨fun k h => .inl h, fun g h => .inr (.inl h), fun g h => .inr (.inr (.inl h)), .inr (.inr (.inr rfl))⟩)
  have HNM : Hid ((∀ g, (Value.slice va ne vc).ownBlock = some g → ¬ g = m) ∧ (∀ g, (Value.slice pa np pc).ownBlock = some g → ¬ g = m)) := Lib.hid ⟨fun g hg e => by have := L1.out.1 g hg; omega, fun g hg e => by have := L1.out.2 g hg; omega⟩
  have HY0 := Lib.hid hY0
  have HS5 : Hid (Nw w w5) := N5
  clear F4 nw5 on5 nm5 hY0 hml
  go_upto_region 5 with fail
  clear hput hmm hm
  go_wp2
  go_loopw [31] (fun i wr => ∃ j : Nat, j ≤ np ∧ i = .int .i64 j ∧ Nw w wr ∧ w5.heap.size ≤ wr.heap.size ∧ Vec 5 wr (.slice va ne vc) ne (es1.flatMap evV) ∧ Vec 4 wr (.slice pa np pc) np (ps1.flatMap pcV) ∧ ∃ S, Names wr m S ∧ ∀ k, k ∈ S ↔ k = manifestS ∨ k ∈ (ps1.take j).map Pc.name) (fun i _ => np - (intOf i).toNat)
  case atStart => exact ⟨0, by omega, rfl, HS5.out, Nat.le_refl _, by have := VE5.out; rwa [HNE.out] at this, by have := VP5.out; rwa [HNP.out] at this, _, NM5.out, fun k => by simp⟩
  case round =>
    obtain ⟨j, hj, rfl, hN, hsz, hVE, hVP, S, hS, hin⟩ := hrel
    have HN := Lib.hid hN
    have HSZ := Lib.hid hsz
    have VE := Lib.hid hVE
    have VP := Lib.hid hVP
    have HS := Lib.hid hS
    have HIN := Lib.hid hin
    clear hN hsz hVE hVP hS hin VE5 VP5 NM5
    have PCS : Hid (Pcs wr (.slice pa np pc) ps1) := Lib.hid ⟨by rw [HNP.out]; exact VP.out.src, OP.out.2.1⟩
    by_cases h1 : j < np
    case pos =>
      obtain ⟨g, o, hpe, hg, x0, x1, x2, x3⟩ := pcs_at PCS.out HNP.out h1
      subst hpe
      obtain ⟨q, hq⟩ : ∃ q, ps1[j]'(by rw [HNP.out]; exact h1) = q := ⟨_, rfl⟩
      rw [hq] at x0 x1 x2 x3
      have na := (Nw.refl wr).alloc (.cells #[.string ⟨q.name.toArray⟩, .int .i64 q.first, .int .i64 q.count, .bool q.dense] 39)
      have hB := heap_alloc_new wr (.cells #[.string ⟨q.name.toArray⟩, .int .i64 q.first, .int .i64 q.count, .bool q.dense] 39)
      have y0 := cell_of hB (i := 0) rfl
      have hml := HS.out.lt
      obtain ⟨W2, hput, nw2, on2, nm2⟩ := names_put (HS.out.nw na) q.name (HN.out.trans na) HWM.out
      have N7 := Lib.hid nw2
      have Z7 : Hid (w5.heap.size ≤ W2.heap.size) := Lib.hid (Nat.le_trans HSZ.out (Nat.le_trans na.size on2.size))
      have E7 : Hid (Vec 5 W2 (.slice va ne vc) ne (es1.flatMap evV)) := Lib.hid ((VE.out.nw na).keep on2.size fun g hg => on2.block g ((VE.out.nw na).lt g hg) (HNM.out.1 g hg))
      have P7 : Hid (Vec 4 W2 (.slice (some ⟨g, o, none⟩) np pc) np (ps1.flatMap pcV)) := Lib.hid ((VP.out.nw na).keep on2.size fun g hg => on2.block g ((VP.out.nw na).lt g hg) (HNM.out.2 g hg))
      have NM7 := Lib.hid nm2
      have HIN7 : Hid (∀ k, k ∈ q.name :: S ↔ k = manifestS ∨ k ∈ (ps1.take (j + 1)).map Pc.name) := Lib.hid (fun k => by
        rw [List.take_succ_eq_append_getElem (by rw [HNP.out]; exact h1), hq, List.map_append, List.mem_append, List.mem_cons, HIN.out k]
        simp only [List.map_cons, List.map_nil, List.mem_singleton]
        constructor
        · rintro (h | h | h)
          · exact .inr (.inr h)
          · exact .inl h
          · exact .inr (.inl h)
        · rintro (h | h | h)
          · exact .inr (.inl h)
          · exact .inr (.inr h)
          · exact .inl h)
      clear nw2 on2 nm2 hq na hB
      go_wp2_with fail
      go_roundw
      case rel => exact ⟨j + 1, by omega, by go_num, N7.out, Z7.out, E7.out, P7.out, _, NM7.out, HIN7.out⟩
      case measure => simp [intOf]; omega
    obtain rfl : j = np := by omega
    have H5 := Lib.hid (HYN.out wr HN.out HSZ.out)
    have HINS : Hid (∀ k, k ∈ S ↔ k ∈ staysOf ps1) := Lib.hid (fun k => by
      rw [HIN.out k, List.take_of_length_le (by rw [HNP.out]; exact Nat.le_refl _)]
      simp [staysOf])
    obtain ⟨⟨d2, cx⟩, hcu⟩ : ∃ y, cutD d ps1 gd = y := ⟨_, rfl⟩
    have rr := HRR.out
    rw [hcu] at rr
    simp only at rr
    have HR2 := Lib.hid rr
    obtain ⟨sz, hsz⟩ : ∃ k, (fileOf d.files (lastP ps1).name).bytes.length = k := ⟨_, rfl⟩
    unfold cutD at hcu
    rw [hsz] at hcu
    have HSIZE := Lib.hid hsz
    clear rr hsz HIN HYN HRR
    by_cases c2 : cx = 0
    case neg =>
      have q1 : (cx != 0) = true := by simpa using c2
      by_cases hg : ps1 ≠ [] ∧ gd < (sz : Int)
      case neg =>
        rw [if_neg hg] at hcu
        simp only [Prod.mk.injEq] at hcu
        exact absurd hcu.2.symm c2
      rw [if_pos hg] at hcu
      have hg2 : decide (gd < (sz : Int)) = true := by simpa using hg.2
      have hj0 : j ≠ 0 := fun e => hg.1 (List.eq_nil_of_length_eq_zero (by rw [HNP.out, e]))
      have rr := HR2.out
      rw [if_pos c2] at rr
      obtain ⟨rfl, rfl, rfl, rfl⟩ : d2 = d' ∧ [] = es ∧ [] = ps ∧ cx = x := by simpa using rr
      obtain ⟨nq, rfl⟩ : ∃ k, j = k + 1 := ⟨j - 1, by omega⟩
      obtain ⟨g, o, hpe, hgl, x0, x1⟩ := pcs_last PCS.out HNP.out
      subst hpe
      have hw2 : ((nq + 1 : Nat) : Int) - 1 = (nq : Int) := by omega
      have hw1 : IntKind.i64.wrap (((nq + 1 : Nat) : Int) - 1) = (nq : Int) := by rw [IntWalk.i64_in _ (by omega)]; exact hw2
      have HCU := Lib.hid hcu
      have hjp : decide ((0 : Int) < ((nq + 1 : Nat) : Int)) = true := by first | (simp; done) | (simp; omega)
      clear rr hcu hg hj0
      go_wp2_with fail
      refine (H5.out.size _ HSIZE.out).mono ?_
      rintro e w6 ⟨rfl, n6⟩
      have H6 := Lib.hid (H5.out.nw n6)
      have N6 := Lib.hid (HN.out.trans n6)
      clear n6
      go_wp2_with fail
      refine (H6.out.cut _ gd HCU.out).mono ?_
      rintro e w7 ⟨rfl, h7, k7⟩
      have T7 := Lib.hid (MendTo.nil (h7.weak HY.out.1) (N6.out.kept.trans (k7.weak HY.out.1)))
      clear h7 k7
      go_wp2
      refine bodyPost_ret (v := .tuple #[.slice none 0 0, .slice none 0 0, .int .i64 cx]) (by simp [results, Tryz.results31, go_sem]) rfl ⟨_, _, rfl, T7.out⟩
    subst c2
    have HCU := Lib.hid hcu
    clear hcu
    go_upto_if 41 with fail
    go_cut [] (fun wx => HasX Y0 w0 wx b d2 ∧ Kept Y0 wr wx)
    case first =>
      by_cases h0 : j = 0
      case pos =>
        have hps0 : ps1 = [] := List.eq_nil_of_length_eq_zero (by rw [HNP.out]; exact h0)
        have hcu := HCU.out
        rw [if_neg (fun h => h.1 hps0)] at hcu
        simp only [Prod.mk.injEq, and_true] at hcu
        subst hcu
        subst h0
        go_wp2_with fail
        go_meet
        case rel => exact ⟨H5.out, Kept.refl _⟩
      obtain ⟨nq, rfl⟩ : ∃ k, j = k + 1 := ⟨j - 1, by omega⟩
      have hne : ps1 ≠ [] := fun e => by have := HNP.out; rw [e] at this; simp at this
      obtain ⟨g, o, hpe, hgl, x0, x1⟩ := pcs_last PCS.out HNP.out
      subst hpe
      have hw2 : ((nq + 1 : Nat) : Int) - 1 = (nq : Int) := by omega
      have hw1 : IntKind.i64.wrap (((nq + 1 : Nat) : Int) - 1) = (nq : Int) := by rw [IntWalk.i64_in _ (by omega)]; exact hw2
      have hjp : decide ((0 : Int) < ((nq + 1 : Nat) : Int)) = true := by first | (simp; done) | (simp; omega)
      go_wp2_with fail
      refine (H5.out.size _ HSIZE.out).mono ?_
      rintro e w6 ⟨rfl, n6⟩
      have H6 := Lib.hid (H5.out.nw n6)
      have K6 : Hid (Kept Y0 wr w6) := Lib.hid n6.kept
      clear n6
      by_cases hg : gd < (sz : Int)
      case neg =>
        have hg2 : decide (gd < (sz : Int)) = false := by simpa using hg
        have hcu := HCU.out
        rw [if_neg (fun h => hg h.2)] at hcu
        simp only [Prod.mk.injEq, and_true] at hcu
        subst hcu
        go_wp2_with fail
        go_meet
        case rel => exact ⟨H6.out, K6.out⟩
      have hg2 : decide (gd < (sz : Int)) = true := by simpa using hg
      have hcu := HCU.out
      rw [if_pos ⟨hne, hg⟩] at hcu
      have HC2 := Lib.hid hcu
      clear hcu
      go_wp2_with fail
      refine (H6.out.cut _ gd HC2.out).mono ?_
      rintro e w7 ⟨rfl, h7, k7⟩
      have T7 := Lib.hid (And.intro h7 (K6.out.trans k7))
      clear h7 k7
      go_wp2_with fail
      go_meet
      case rel => exact T7.out
    case rest =>
      obtain ⟨h6, k6⟩ := hcut
      have H6 := Lib.hid h6
      have K6 := Lib.hid k6
      have NM6 := Lib.hid (HS.out.kept k6 HY.out.2.2.2)
      have VE6 := Lib.hid (VE.out.kept k6 HY.out.2.1)
      have VP6 := Lib.hid (VP.out.kept k6 HY.out.2.2.1)
      obtain ⟨dl, hdl⟩ : ∃ x, d2.list = x := ⟨_, rfl⟩
      have HDL := Lib.hid hdl
      obtain ⟨nd, hnd⟩ : ∃ x, dl.length = x := ⟨_, rfl⟩
      have HND := Lib.hid hnd
      have hnd200 : nd ≤ 1000 := by
        have h1 := h6.ok.few
        rw [← hnd, ← hdl]
        simp only [Dsk.list, List.length_mergeSort, namesF, List.length_map]
        omega
      obtain ⟨R, hR⟩ : ∃ r, rmAll (staysOf ps1) dl d2 = r := ⟨_, rfl⟩
      have rr := HR2.out
      rw [if_neg (by simp), hdl, hR] at rr
      have HR3 := Lib.hid rr
      have HRM := Lib.hid hR
      clear h6 k6 hdl hnd hR rr HR2 HCU HS VE VP H5 HSZ PCS
      go_wp2_with fail
      refine (H6.out.list HDL.out).mono ?_
      rintro e w7 ⟨v7, rfl, s7, n7, f7⟩
      obtain ⟨da, dc, rfl, -, -, -⟩ := s7.elems
      rw [HND.out] at s7 f7 ⊢
      have SS := Lib.hid s7
      obtain ⟨Y1, hY1⟩ : ∃ Y : Nat → Prop, Y = fun k => Y0 k ∨ (dl ≠ [] ∧ (Value.slice da nd dc).ownBlock = some k) := ⟨_, rfl⟩
      have H7 : Hid (HasX Y1 w0 w7 b d2) := Lib.hid (H6.out.nwY n7 fun k hk => by
        rw [hY1] at hk
        rcases hk with hk | ⟨hne, hk⟩
        · exact .inl hk
        · refine .inr ⟨f7 k hk, ?_⟩
          rcases s7 with ⟨a, -, e⟩ | ⟨g', o', cap', e, -, -, hg', -⟩
          · exact absurd e hne
          · rw [e] at hk; cases hk; exact hg')
      have HY1 : Hid ((∀ k, Y0 k → Y1 k) ∧ (dl ≠ [] → ∀ g, (Value.slice da nd dc).ownBlock = some g → Y1 g)) := Lib.hid (by rw [hY1]; exact ⟨fun k h => .inl h, fun h g hg => .inr ⟨h, hg⟩⟩)
      have KW7 : Hid (Kept X w w7) := Lib.hid (HN.out.kept.trans ((K6.out.weak HY.out.1).trans n7.kept))
      have VE7 := Lib.hid (VE6.out.nw n7)
      have VP7 := Lib.hid (VP6.out.nw n7)
      have NM7 := Lib.hid (NM6.out.nw n7)
      clear s7 f7 n7 hY1 H6 VE6 VP6 NM6
      go_wp2
      go_loopw [64] (fun i wq => ∃ (k : Nat) (d3 : Dsk), k ≤ nd ∧ i = .int .i64 k ∧ rmAll (staysOf ps1) (dl.drop k) d3 = R ∧ HasX Y1 w0 wq b d3 ∧ Kept Y1 w7 wq) (fun i _ => nd - (intOf i).toNat)
      case atStart => exact ⟨0, d2, by omega, rfl, HRM.out, H7.out, Kept.refl _⟩
      case round =>
        obtain ⟨k, d3, hk, rfl, hrm, h8, k8⟩ := hrel
        have H8 := Lib.hid h8
        have K8 := Lib.hid k8
        have HRM3 := Lib.hid hrm
        clear h8 k8 hrm H7 HRM
        by_cases hlt : k < nd
        case neg =>
          have rr := HRM3.out
          rw [List.drop_of_length_le (by rw [HND.out]; omega)] at rr
          unfold rmAll at rr
          subst rr
          have r2 := HR3.out
          simp only at r2
          rw [if_neg (by simp)] at r2
          obtain ⟨rfl, rfl, rfl, rfl⟩ : d3 = d' ∧ es1 = es ∧ ps1 = ps ∧ 0 = x := by simpa using r2
          have T9 : Hid (MendTo X w0 w wr b d3 (.slice va ne vc) (.slice pa j pc) es1 ps1) := Lib.hid (by
            have hl1 : ne = es1.length := HNE.out.symm
            have hl2 : j = ps1.length := HNP.out.symm
            refine ⟨H8.out.weak fun k hk => HY1.out.1 k (by rcases hk with h | h | h; exact HY.out.1 k h; exact HY.out.2.1 k h; exact HY.out.2.2.1 k h), KW7.out.trans (K8.out.weak fun k h => HY1.out.1 k (HY.out.1 k h)), ?_, ?_, OP.out.2.1, OE.out.2.2, OP.out.2.2.2⟩
            · rw [← hl1]; exact VE7.out.kept (K8.out.weak HY1.out.1) HY.out.2.1
            · rw [← hl2]; exact VP7.out.kept (K8.out.weak HY1.out.1) HY.out.2.2.1)
          clear r2
          go_wp2
          refine bodyPost_ret (v := .tuple #[.slice va ne vc, .slice pa j pc, .int .i64 0]) (by simp [results, Tryz.results31, go_sem]) rfl ⟨_, _, rfl, T9.out⟩
        have hkl : k < dl.length := by rw [HND.out]; exact hlt
        have S8 : Hid (Ss wr (.slice da nd dc) dl) := Lib.hid (SS.out.kept K8.out HY1.out.2)
        obtain ⟨ea, ec, he, -, -, hel⟩ := S8.out.elems
        obtain ⟨g, o, hpe, hg, c0⟩ := hel k hkl
        simp only [Value.slice.injEq] at he
        have hda := he.1.trans hpe
        subst hda
        have NM8 := Lib.hid (NM7.out.kept (K8.out.weak HY1.out.1) HY.out.2.2.2)
        have rr := HRM3.out
        rw [List.drop_eq_getElem_cons hkl] at rr
        conv at rr => lhs; unfold rmAll
        obtain ⟨n, hn⟩ : ∃ n, dl[k] = n := ⟨_, rfl⟩
        rw [hn] at rr c0
        have c0 : wr.cell? ⟨g, o + k, none⟩ = some (.string ⟨n.toArray⟩) := c0
        clear he hpe hel hkl hn
        by_cases hst : n ∈ staysOf ps1
        case pos =>
          have hget := names_get NM8.out ((HINS.out n).2 hst)
          rw [if_pos hst] at rr
          have HRM4 := Lib.hid rr
          clear rr HRM3
          go_wp2_with fail
          go_roundw
          case rel => exact ⟨k + 1, d3, by omega, by go_num, HRM4.out, H8.out, K8.out⟩
          case measure => simp [intOf]; omega
        have hget := names_none NM8.out (fun hc => hst ((HINS.out n).1 hc))
        rw [if_neg hst] at rr
        obtain ⟨⟨d4, x4⟩, hre⟩ : ∃ y, d3.remove n = y := ⟨_, rfl⟩
        rw [hre] at rr
        simp only at rr
        have C := Lib.hid (H8.out.remove n hre)
        have HRM4 := Lib.hid rr
        clear rr HRM3 hre
        go_wp2_with fail
        refine C.out.mono ?_
        rintro e w9 ⟨rfl, h9, k9⟩
        have H9 := Lib.hid h9
        have K9 := Lib.hid (K8.out.trans k9)
        clear h9 k9 C c0 hget
        by_cases hx4 : x4 = 0
        case pos =>
          subst hx4
          have rr := HRM4.out
          rw [if_neg (by simp)] at rr
          have HRM5 := Lib.hid rr
          clear rr HRM4
          go_wp2_with fail
          go_roundw
          case rel => exact ⟨k + 1, d4, by omega, by go_num, HRM5.out, H9.out, K9.out⟩
          case measure => simp [intOf]; omega
        have q4 : (x4 != 0) = true := by simpa using hx4
        have rr := HRM4.out
        rw [if_pos hx4] at rr
        subst rr
        have r2 := HR3.out
        simp only at r2
        rw [if_pos hx4] at r2
        obtain ⟨rfl, rfl, rfl, rfl⟩ : d4 = d' ∧ [] = es ∧ [] = ps ∧ x4 = x := by simpa using r2
        have T9 : Hid (MendTo X w0 w w9 b d4 (.slice none 0 0) (.slice none 0 0) [] []) := Lib.hid (by
          exact MendTo.nil (H9.out.weak fun k hk => HY1.out.1 k (HY.out.1 k hk)) (KW7.out.trans (K9.out.weak fun k h => HY1.out.1 k (HY.out.1 k h))))
        clear r2
        go_wp2
        refine bodyPost_ret (v := .tuple #[.slice none 0 0, .slice none 0 0, .int .i64 x4]) (by simp [results, Tryz.results31, go_sem]) rfl ⟨_, _, rfl, T9.out⟩
end
end Go.Proofs.YtkhcdbafcigeoaaGreatDoor

namespace Go.Proofs.YtkhcdbafcigeoaaGreatDoor
open Go Go.RowKit Go.Sort
set_option maxRecDepth 100000
set_option maxHeartbeats 1600000
section
variable {X Y : Nat → Prop} {w0 w w' : World} {b : Nat} {d d' : Dsk}
theorem Pcs.kept {v : Value} {l : List Pc} (h : Pcs w v l) (hk : Kept Y w w') (hy : ∀ g, v.ownBlock = some g → Y g) : Pcs w' v l := by
  refine ⟨?_, h.ok⟩
  obtain ⟨e, ⟨a, hv, hn⟩ | ⟨g, o, cap, hv, h1, h2, h3, h4⟩⟩ := h.src
  · exact ⟨e, .inl ⟨a, hv, hn⟩⟩
  · subst hv
    exact ⟨e, .inr ⟨g, o, cap, rfl, h1, h2, Nat.lt_of_lt_of_le h3 hk.1, fun j hj => hk.cell (h4 j hj) (hy g rfl)⟩⟩
theorem Resume_ok (h : HasX X w0 w b d) {v : Value} {l : List Pc} (hv : Pcs w v l) (hx : ∀ g, v.ownBlock = some g → X g) {size : Int} (hs : 64 ≤ size ∧ size ≤ 16777216) (hr : rightL l = true) {n : Nat} (hn : n ≤ 2305843009213693952) :
    Calls Tryz.prog 53 #[.pointer (some ⟨b, 0, none⟩), .int .i64 size, v, .int .i64 n] w (Created X w0 w b (resumeD d size l n).1 (resumeD d size l n).2 (onLg d size l n)) := by
  have H := Lib.hid h
  have HV := Lib.hid hv
  have HX := Lib.hid hx
  have HSZ := Lib.hid (fun W => sized_ok size (ok := true) (by simp [hs]) W)
  have HRT := Lib.hid (Right_ok hv)
  rw [hr] at HRT
  have hpl := (rightL_bound hr).1
  have hpl2 := (rightL_bound hr).2.1
  obtain ⟨R, hR⟩ : ∃ r, resumeD d size l n = r := ⟨_, rfl⟩
  have HR := Lib.hid hR
  rw [hR]
  unfold resumeD at hR
  obtain ⟨np, hnp⟩ : ∃ k, l.length = k := ⟨_, rfl⟩
  rw [hnp] at hpl hpl2
  obtain ⟨nq, rfl⟩ : ∃ k, np = k + 1 := ⟨np - 1, by omega⟩
  have HNP := Lib.hid hnp
  obtain ⟨a, cap, rfl, -, -, -⟩ := hv.elem
  rw [hnp] at HV HX HRT ⊢
  obtain ⟨g, o, rfl, hg, x0, x1⟩ := pcs_last HV.out hnp
  obtain ⟨nm, hnm⟩ : ∃ s, (lastP l).name = s := ⟨_, rfl⟩
  obtain ⟨fi, hfi⟩ : ∃ s, (lastP l).first = s := ⟨_, rfl⟩
  rw [hnm] at x0 hR
  rw [hfi] at x1 hR
  have hw2 : ((nq + 1 : Nat) : Int) - 1 = (nq : Int) := by omega
  have hw1 : IntKind.i64.wrap (((nq + 1 : Nat) : Int) - 1) = (nq : Int) := by rw [IntWalk.i64_in _ (by omega)]; exact hw2
  have HFI := Lib.hid hfi
  have HNM := Lib.hid hnm
  have HRI := Lib.hid hr
  clear h hv hx hnp hnm hfi hr
  by_cases hf : (n : Int) < fi
  case pos =>
    rw [if_pos (.inr (.inr (.inr (.inl hf))))] at hR
    have q1 : decide ((n : Int) < fi) = true := by simpa using hf
    subst hR
    clear hf
    go_enter Tryz.func53, Tryz.ntmps53
    go_wp2_with fail
    refine (HSZ.out w).mono ?_
    rintro e w1 ⟨rfl, rfl⟩
    go_wp2_with fail
    refine HRT.out.mono ?_
    rintro e w2 ⟨rfl, n2⟩
    have N2 := Lib.hid n2
    have x1 := n2.cell x1
    have hg := Nat.lt_of_lt_of_le hg n2.size
    clear n2 x0
    go_wp2
    refine bodyPost_ret (v := .tuple #[.pointer none, .int .i64 2]) (by simp [results, Tryz.results53, go_sem]) rfl ⟨N2.out.kept, .inr ⟨by decide, rfl, H.out.nw N2.out⟩⟩
  rw [if_neg (by rw [HRI.out]; rintro (h | h | h | h | h) <;> first | omega | cases h)] at hR
  have q1 : decide ((n : Int) < fi) = false := by simpa using hf
  have q2 : decide ((2305843009213693952 : Int) < (n : Int)) = false := by simp; omega
  obtain ⟨⟨lb, ex⟩, hrd⟩ : ∃ y, d.read nm = y := ⟨_, rfl⟩
  obtain ⟨⟨d2, sx⟩, hsy⟩ : ∃ y, d.sync nm = y := ⟨_, rfl⟩
  have HRD := Lib.hid (fun W (hw : Nw w W) => (H.out.nw hw).read nm hrd)
  have HSY := Lib.hid (fun W (hw : Nw w W) => (H.out.nw hw).sync nm hsy)
  have HLB : Hid (ex = 0 → (fileOf d.files nm).bytes = lb ∧ lb.length ≤ 16777216) := Lib.hid (fun he => by
    subst he
    have h1 := read_len H.out.ok nm
    rw [hrd] at h1
    refine ⟨?_, h1⟩
    unfold Dsk.read at hrd
    split at hrd
    · simp at hrd
    · unfold fileOf
      split at hrd
      · simp at hrd
      · rename_i f hf
        rw [hf]
        simp only [Prod.mk.injEq, and_true] at hrd
        exact hrd)
  rw [hrd, hsy] at hR
  simp only at hR
  have HR1 := Lib.hid hR
  clear hrd hsy hR hf
  go_enter Tryz.func53, Tryz.ntmps53
  go_wp2_with fail
  refine (HSZ.out w).mono ?_
  rintro e w1 ⟨rfl, rfl⟩
  go_wp2_with fail
  refine HRT.out.mono ?_
  rintro e w2 ⟨rfl, n2⟩
  have N2 := Lib.hid n2
  have x0 := n2.cell x0
  have x1 := n2.cell x1
  have hg := Nat.lt_of_lt_of_le hg n2.size
  clear n2
  go_wp2_with fail
  refine (HRD.out _ N2.out).mono ?_
  rintro e w3 ⟨v3, rfl, o3, n3, -⟩
  have o3l := o3.rd.len
  obtain ⟨ya, yc, rfl, -⟩ := o3l
  obtain ⟨lbn, hlb⟩ : ∃ k, lb.length = k := ⟨_, rfl⟩
  rw [hlb]
  have HLN := Lib.hid hlb
  have N3 := Lib.hid (N2.out.trans n3)
  clear o3 n3 x0 x1 hg hlb
  by_cases he : ex = 0
  case neg =>
    have q3 : (ex == 0) = false := by simpa using he
    have q4 : (ex != 0) = true := by simpa using he
    have rr := HR1.out
    rw [if_pos he] at rr
    subst rr
    have HE := Lib.hid he
    clear he
    go_wp2
    refine bodyPost_ret (v := .tuple #[.pointer none, .int .i64 ex]) (by simp [results, Tryz.results53, go_sem]) rfl ⟨N3.out.kept, .inr ⟨HE.out, rfl, H.out.nw N3.out⟩⟩
  subst he
  have rr := HR1.out
  rw [if_neg (by simp)] at rr
  subst rr
  go_wp2_with fail
  refine (HSY.out _ N3.out).mono ?_
  rintro e w4 ⟨rfl, h4, k4⟩
  have H4 := Lib.hid h4
  have K4 : Hid (Kept X w w4) := Lib.hid (N3.out.kept.trans k4)
  have V4 := Lib.hid (HV.out.kept K4.out HX.out)
  clear h4 k4
  by_cases hsx : sx = 0
  case neg =>
    have q4 : (sx != 0) = true := by simpa using hsx
    have HE := Lib.hid hsx
    clear hsx
    go_wp2
    refine bodyPost_ret (v := .tuple #[.pointer none, .int .i64 sx]) (by simp [results, Tryz.results53, go_sem]) rfl ⟨K4.out, .inr ⟨HE.out, rfl, H4.out⟩⟩
  subst hsx
  have CL := Lib.hid (PClone_ok V4.out (by rw [HNP.out]; omega))
  go_wp2_with fail
  refine CL.out.mono ?_
  rintro e w5 ⟨v5, rfl, q5, n5, f5⟩
  rw [HNP.out] at q5
  have q5l := q5.lt
  obtain ⟨-, ⟨-, h0⟩ | ⟨g5, o5, cap5, rfl, c1, c2, c3, -, -, c6⟩⟩ := q5
  · omega
  have HQ : Hid (Pcs w5 (.slice (some ⟨g5, o5, none⟩) (nq + 1) cap5) l) := Lib.hid ⟨⟨by rw [HNP.out]; have := V4.out.src.1; rwa [HNP.out] at this, .inr ⟨g5, o5, cap5, by rw [HNP.out], by rw [HNP.out]; exact c1, c2, c3, c6⟩⟩, V4.out.ok⟩
  have N5 := Lib.hid n5
  have HG5 : Hid (w4.heap.size ≤ g5 ∧ g5 < w5.heap.size) := Lib.hid ⟨f5 g5 rfl, c3⟩
  clear q5l c1 c2 c3 c6 CL f5
  go_wp2
  refine bodyPost_ret (v := .tuple #[.pointer (some ⟨w5.heap.size, 0, none⟩), .int .i64 0]) (by simp [results, Tryz.results53, go_sem]) rfl ?_
  have n6 := (Nw.refl w5).alloc (.cells #[.pointer (some ⟨b, 0, none⟩), .int .i64 size, .slice (some ⟨g5, o5, none⟩) (nq + 1) cap5, .int .i64 n, .int .i64 n, .int .i64 lbn, .bool false] 130 (0, 0))
  have hb6 := heap_alloc_new w5 (.cells #[.pointer (some ⟨b, 0, none⟩), .int .i64 size, .slice (some ⟨g5, o5, none⟩) (nq + 1) cap5, .int .i64 n, .int .i64 n, .int .i64 lbn, .bool false] 130 (0, 0))
  have hs4 := H4.out.base.size
  have hg5 := HG5.out
  have hs5 := N5.out.size
  refine ⟨K4.out.trans (N5.out.kept.trans n6.kept), .inl ⟨rfl, w5.heap.size, rfl, g5, o5, cap5, ⟨?_, ?_, ?_⟩, ?_, by omega, fun hx => ?_, by omega, by omega, fun hx => ?_⟩⟩
  · rw [hb6]
    have h1 := (HLB.out (by first | rfl | trivial)).1
    have h2 := HLN.out
    simp only [onLg, HNP.out, HNM.out, h1, h2]
  · have := HQ.out.nw n6
    simpa only [onLg, HNP.out] using this
  · exact fun e => by have := HNP.out; rw [show l = [] from e] at this; simp at this
  · refine H4.out.nwY (N5.out.trans n6) (fun k hk => ?_)
    have hsz : (w5.alloc (.cells #[.pointer (some ⟨b, 0, none⟩), .int .i64 size, .slice (some ⟨g5, o5, none⟩) (nq + 1) cap5, .int .i64 n, .int .i64 n, .int .i64 lbn, .bool false] 130 (0, 0))).heap.size = w5.heap.size + 1 := by simp
    rw [hsz]
    rcases hk with hk | rfl | rfl
    · exact .inl hk
    · exact .inr ⟨by omega, by omega⟩
    · exact .inr ⟨by omega, by omega⟩
  · have := H4.out.lt _ hx; omega
  · have := H4.out.lt _ hx; omega
end
end Go.Proofs.YtkhcdbafcigeoaaGreatDoor
