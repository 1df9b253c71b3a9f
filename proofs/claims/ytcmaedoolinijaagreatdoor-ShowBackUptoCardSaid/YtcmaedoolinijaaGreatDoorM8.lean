/-
  Texts merged by a program of this claim's: CodB, TreeE, CodC, ChkC.
-/
import Derived.Test.YtcmaedoolinijaaGreatDoorM7
import Derived.Deep.AppendSrc
import Derived.Test.YtcmaedoolinijaaGreatDoorM6
import Derived.Test.YtcmaedoolinijaaGreatDoorM1
import Derived.Test.YtcmaedoolinijaaGreatDoorM3
namespace Go.Proofs.YtcmaedoolinijaaGreatDoor
open Go Go.RowKit Go.Sort
set_option maxRecDepth 100000
set_option maxHeartbeats 3200000
def bareC (os : List Dcl) (ts : List Thr) : CodeP := ⟨os, ts.map fun t => ⟨t.name, [], []⟩⟩
theorem VecR.lenC {α : Type} {k : Nat} {R : List Value → α → Prop} {w : World} {v : Value} {l : List α} (h : VecR k R w v l) : ∃ a c, v = .slice a l.length c ∧ l.length ≤ c ∧ c ≤ maxLen := by
  obtain ⟨cs, h1, -⟩ := h
  exact h1.len
theorem infoDcl2 : (Tryz.prog.info? 76).map (fun i => (i.zero, i.size, i.bytes)) = some (some (.agg #[.int .u8 0, .string ⟨#[]⟩, .int .i64 0, .string ⟨#[]⟩, .int .i64 0]), 5, 56) := by kernel_rfl
theorem infoText : (Tryz.prog.info? 73).map (fun i => (i.zero, i.size, i.bytes)) = some (some (.agg #[.string ⟨#[]⟩, .slice none 0 0, .slice none 0 0]), 3, 64) := by kernel_rfl
theorem badB_len {ask : Bool} {os : List Dcl} {ts : List Thr} (h : badB ask os ts = false) : os.length ≤ 64 ∧ ts.length ≤ 16 := by
  unfold badB at h
  simp at h
  omega
theorem three_blk (w : World) (A B C : Array Value) (t u v : TypeId) : Nw w (((w.alloc (.cells A t)).alloc (.cells B u)).alloc (.cells C v)) ∧ (((w.alloc (.cells A t)).alloc (.cells B u)).alloc (.cells C v)).heap[w.heap.size]? = some (.cells A t (0, 0)) ∧
    (((w.alloc (.cells A t)).alloc (.cells B u)).alloc (.cells C v)).heap[w.heap.size + 1]? = some (.cells B u (0, 0)) ∧ (((w.alloc (.cells A t)).alloc (.cells B u)).alloc (.cells C v)).heap[w.heap.size + 2]? = some (.cells C v (0, 0)) := by
  obtain ⟨a, b, c⟩ := two_blk w A B t u
  have n := Nw.alloc (Nw.refl ((w.alloc (.cells A t)).alloc (.cells B u))) (.cells C v)
  refine ⟨a.trans n, n.at_ b, n.at_ c, ?_⟩
  have := heap_alloc_new ((w.alloc (.cells A t)).alloc (.cells B u)) (.cells C v)
  simpa using this
theorem Compile_ok {w : World} (hM : Mx w) {x0 x1 : Value} {os : List Dcl} {ts : List Thr} (h0 : RdK 5 isDcl w x0 os) (h1 : RdK 3 (isThr w) w x1 ts) (hb : ∀ t ∈ ts, t.body = []) (hg : badB true os ts = false) (hk : ∀ d ∈ os, plainK d.kind) (hno : (os.map (·.name)).Nodup) (hnt : (ts.map (·.name)).Nodup) :
    Calls Tryz.prog 16 #[.agg #[x0, x1]] w fun z w' => ∃ y0 y1, z = .returned (.tuple #[.agg #[y0, y1], .agg (fltA 0 0)]) ∧ CodeM w' [y0, y1] (bareC os ts) ∧ Nw w w' := by
  obtain ⟨a0, c0, rfl, hc0, hm0, -⟩ := h0.len
  obtain ⟨a1, c1, rfl, hc1, hm1, -⟩ := h1.len
  have hm0' : c0 ≤ 9223372036854775807 := by unfold maxLen at hm0; omega
  have hm1' : c1 ≤ 9223372036854775807 := by unfold maxLen at hm1; omega
  have H0 := Lib.hid (fun (W : World) (hW : Nw w W) => h0.nw hW)
  have H1 := Lib.hid (fun (W : World) (hW : Nw w W) => h1.nw hW)
  have CK := Lib.hid (fun (W : World) (hW : Nw w W) => Check_ok (hM.nw hW) (h0.nw hW) (h1.nwR hW (fun _ _ h => h.nw hW)) hb hg hk hno hnt)
  have HLE := Lib.hid (badB_len hg)
  obtain ⟨no, hnoo⟩ : ∃ n, os.length = n := ⟨_, rfl⟩
  obtain ⟨nt, hntt⟩ : ∃ n, ts.length = n := ⟨_, rfl⟩
  have NO := Lib.hid hnoo
  have NT := Lib.hid hntt
  have HB := Lib.hid hb
  have HK := Lib.hid hk
  have HNO := Lib.hid hno
  rw [hnoo] at hc0 CK H0 ⊢
  rw [hntt] at hc1 CK H1 ⊢
  have TB := Lib.hid (three_blk w #[.slice a0 no c0, .slice a1 nt c1] #[.slice none 0 0, .slice none 0 0] (fltA 0 0) 51 25 43)
  clear h0 h1 hb hg hk hno hnt hnoo hntt hM
  go_enter Tryz.func16, Tryz.ntmps16
  go_wp2_with fail
  refine (CK.out _ TB.out.1).mono ?_
  rintro z w1 ⟨rfl, n1⟩
  have N1 := Lib.hid (TB.out.1.trans n1)
  have PB := Lib.hid (n1.at_ TB.out.2.1)
  have R0 := Lib.hid (n1.at_ TB.out.2.2.1)
  have R1 := Lib.hid (n1.at_ TB.out.2.2.2)
  clear n1
  obtain ⟨p0, p1, pf⟩ := box2 PB.out
  have hpl := lt_of_block PB.out
  have hmm := @run_makeMap Tryz.prog
  unfold fltA
  go_upto_region 6 with fail
  clear hmm
  obtain ⟨s1, hs1⟩ : ∃ s1, w1.heap.size = s1 := ⟨_, rfl⟩
  obtain ⟨cb, hcb⟩ : ∃ cb, s1 + 1 = cb := ⟨_, rfl⟩
  obtain ⟨m, hm⟩ : ∃ m, cb + 1 = m := ⟨_, rfl⟩
  obtain ⟨w2, hw2⟩ : ∃ w2, ((w1.alloc (.cells #[.int .i64 0, .int .i64 0] 43)).alloc (.cells #[.slice none 0 0, .slice none 0 0] 25)).alloc (.map #[] 0) = w2 := ⟨_, rfl⟩
  have CB : Hid (CpB w w2 cb m 0 (m + 1) [] [] [] (.slice none 0 0) (.slice none 0 0) (.slice a0 no c0) (.slice a1 nt c1)) := Lib.hid (by
    obtain ⟨q1, q2, q3⟩ := two_blk w1 #[.int .i64 0, .int .i64 0] #[.slice none 0 0, .slice none 0 0] 43 25
    have hn2 : Nw ((w1.alloc (.cells #[.int .i64 0, .int .i64 0] 43)).alloc (.cells #[.slice none 0 0, .slice none 0 0] 25)) w2 := by rw [← hw2]; exact (Nw.refl _).alloc _
    have hn := q1.trans hn2
    have hlt := lt_of_block R1.out
    refine ⟨N1.out.trans hn, hn.at_ PB.out, hn.at_ R0.out, hn.at_ R1.out, ?_, ?_, VecR.nil, VecR.nil, ?_, ?_, by omega, by omega, by omega, ?_⟩
    · rw [← hcb, ← hs1]; exact hn2.at_ q3
    · rw [← hw2, ← hm, ← hcb, ← hs1]
      have := heap_alloc_new ((w1.alloc (.cells #[.int .i64 0, .int .i64 0] 43)).alloc (.cells #[.slice none 0 0, .slice none 0 0] 25)) (.map #[] 0)
      simpa [ents] using this
    · intro g hg; cases hg
    · intro g hg; cases hg
    · rw [← hw2]; simp; omega)
  have h1m : s1 + 1 + 1 = m := by omega
  rw [hs1, hcb, show cb + 1 = m from hm, hw2]
  clear hw2 hm hcb hs1 h1m PB R0 R1 p0 p1 pf hpl N1 TB
  obtain ⟨L, hL⟩ : ∃ L, m + 1 = L := ⟨_, rfl⟩
  rw [hL] at CB
  obtain ⟨p0, p1, pf⟩ := box2 CB.out.pb
  go_wp2_with fail
  clear p0 p1 pf
  go_loopw [23] (fun v wr => ∃ (k clock : Nat) (E : List En) (v0 : Value), k ≤ no ∧ v = .int .i64 k ∧ E.map En.key = (os.take k).map (·.name) ∧ CpB w wr cb m clock L E (os.take k) [] v0 (.slice none 0 0) (.slice a0 no c0) (.slice a1 nt c1)) (fun v _ => no - (intOf v).toNat)
  case atStart => exact ⟨0, 0, [], _, by omega, rfl, by simp, by simpa using CB.out⟩
  case round =>
    obtain ⟨k, clock, E, v0, hk, rfl, hE, hC⟩ := hrel
    have HC := Lib.hid hC
    have HE := Lib.hid hE
    clear hC hE CB
    by_cases hkn : k < no
    · have q : decide ((k : Int) < (no : Int)) = true := by simp; omega
      have hkl : k < os.length := by have := NO.out; omega
      rcases H0.out wr HC.out.nw with ⟨a, -, e2⟩ | ⟨gv, ov, cap, e1, -, -, hgv, h3⟩
      · rw [e2] at NO; exact absurd NO.out (by simp; omega)
      obtain ⟨rfl, -, rfl⟩ : a0 = some ⟨gv, ov, none⟩ ∧ no = os.length ∧ c0 = cap := by simpa using e1
      obtain ⟨cs, -, hc, hd⟩ := h3 k hkl
      obtain ⟨d, hdd⟩ : ∃ d, os[k]'hkl = d := ⟨_, rfl⟩
      have hplain := HK.out _ (List.getElem_mem hkl)
      have hnew : Hid (d.name ∉ E.map En.key) := Lib.hid (by
        rw [HE.out, ← hdd, List.map_take]
        have := nodup_new HNO.out (k := k) (by simpa using hkl)
        simpa using this)
      have hkeys : Hid ((E ++ ([⟨d.name, .int .i64 (k : Int), clock⟩] : List En)).map En.key = (os.take (k + 1)).map (·.name)) := Lib.hid (by
        rw [List.map_append, HE.out, List.take_succ_eq_append_getElem hkl, List.map_append, hdd]
        rfl)
      have htk : Hid (os.take (k + 1) = os.take k ++ [d]) := Lib.hid (by rw [List.take_succ_eq_append_getElem hkl, hdd])
      rw [hdd] at hd hplain
      have HD := Lib.hid hd
      obtain ⟨rfl, -⟩ := hd
      have q4 : ((d.kind : Int) == 4) = false := by have := hplain.2.1; simp; omega
      have e0 := hc 0 (by simp)
      have e1' := hc 1 (by simp)
      have e2 := hc 2 (by simp)
      have e3 := hc 3 (by simp)
      have e4 := hc 4 (by simp)
      simp only [List.getElem_cons_zero, List.getElem_cons_succ, Nat.add_zero] at e0 e1' e2 e3 e4
      have hgl : gv < wr.heap.size := hgv
      clear hc h3 e1 hdd hgv hplain
      go_upto_region 9 with fail
      obtain ⟨wd, hwd⟩ : ∃ wd, wr.alloc (.cells (dclA d) 76) = wd := ⟨_, rfl⟩
      obtain ⟨db, hdb⟩ : ∃ db, wr.heap.size = db := ⟨_, rfl⟩
      have CD : Hid (CpB w wd cb m clock L E (os.take k) [] v0 (.slice none 0 0) (.slice (some ⟨gv, ov, none⟩) no c0) (.slice a1 nt c1)) := Lib.hid (by rw [← hwd]; exact HC.out.on ((Nw.refl wr).alloc _))
      have DB : Hid (wd.heap[db]? = some (.cells (dclA d) 76 (0, 0))) := Lib.hid (by rw [← hwd, ← hdb]; exact heap_alloc_new wr _)
      have hmd : m < db := by have := lt_of_block HC.out.mp; omega
      have hLd : L ≤ db := by have := HC.out.b5; omega
      unfold dclA at hwd
      rw [hwd, hdb]
      clear hwd e0 e1' e2 e3 e4 hdb hgl
      obtain ⟨d0, d1, d2, d3, d4, df⟩ := box5 DB.out
      have hup := run_store_miss (P := Tryz.prog) (w := wd) (t := 101) Tryz.underlying101 Tryz.underlying9 CD.out.mp hnew.out (.int .i64 (k : Int))
      have CE := Lib.hid (CD.out.add ⟨d.name, .int .i64 (k : Int), clock⟩)
      have DE := Lib.hid ((setBlk_other (o' := .map (ents (E ++ [⟨d.name, .int .i64 (k : Int), clock⟩])) (clock + 1)) (show db ≠ m by omega)).trans DB.out)
      go_upto_region 10 with fail
      obtain ⟨we, hwe⟩ : ∃ we, World.setBlk wd m (.map (ents (E ++ [⟨d.name, .int .i64 (k : Int), clock⟩])) (clock + 1)) = we := ⟨_, rfl⟩
      rw [hwe] at CE DE ⊢
      clear hwe hup d0 d1 d2 d3 d4 df CD DB HC
      obtain ⟨d0, d1, d2, d3, d4, df⟩ := box5 DE.out
      obtain ⟨cs, hV, h0⟩ := CE.out.ob
      obtain ⟨va, vc, hv0, -⟩ := hV.len
      have hlk : (os.take k).length = k := by simp; omega
      rw [hlk] at hv0
      subst hv0
      have VR := Lib.hid hV
      have V0 := Lib.hid h0
      obtain ⟨p0, p1, pf⟩ := box2 CE.out.out
      obtain ⟨i0, hi, hz0, hz1, hz2⟩ := info_parts infoDcl2
      have HI := Lib.hid hi
      have HZ0 := Lib.hid hz0
      have HZ1 := Lib.hid hz1
      have HZ2 := Lib.hid hz2
      have nB := Nw.alloc (Nw.refl we) (.cells (dclA d) 76)
      have CF := Lib.hid (CE.out.on nB)
      have VB := hV.nw nB
      rw [hlk] at VB
      have VB := Lib.hid VB
      have SB := Lib.hid (src_lit we 76 (0, 0) 5 1 1 (dclA d).toList rfl (by omega) (by decide))
      have hpl := lt_of_block CE.out.out
      have HLK := Lib.hid hlk
      clear hV h0 hi hz0 hz1 hz2 nB hlk
      go_wp2_with (at_builtin; refine wpList_append_vec rfl _ _ 22 rfl 76 i0 (.agg #[.int .u8 0, .string ⟨#[]⟩, .int .i64 0, .string ⟨#[]⟩, .int .i64 0]) 5 56 Tryz.underlying22 HI.out HZ0.out HZ1.out HZ2.out rfl (by decide) rfl rfl VB.out SB.out (by simp [dclA, Value.oneCell']) (by have := HLE.out; have := NO.out; unfold maxLen; omega) (by have := HLE.out; have := NO.out; omega) ?_; intro v7 w7 hV7 hO7 hown; have P7 := box2 (hO7.at_ CF.out.out (fun e => by have := CF.out.f0 cb e; have := CF.out.b2; have := CF.out.b3; omega)); obtain ⟨va7, vc7, rfl, -⟩ := hV7.len; have H7 := Lib.hid (CF.out.obj (d := d) VR.out.1 V0.out hO7 (by rw [HLK.out]; exact hV7) hown (by rfl) HD.out); obtain ⟨P70, P71, P7f⟩ := P7; clear hV7 hO7 hown d0 d1 d2 d3 d4 df p0 p1 pf)
      refine ⟨⟨k + 1, _, _, _, by omega, by simp, hkeys.out, by rw [htk.out]; exact H7.out⟩, by simp [intOf]; omega⟩
    · have q : decide ((k : Int) < (no : Int)) = false := by simp; omega
      obtain ⟨p0, p1, pf⟩ := box2 HC.out.pb
      go_wp2_with fail
      clear p0 p1 pf
      have hosk : os.take k = os := List.take_of_length_le (by have := NO.out; omega)
      rw [hosk] at HC HE
      obtain ⟨va, vc, hv0, -⟩ := HC.out.ob.lenC
      have hol : os.length = no := NO.out
      rw [hol] at hv0
      subst hv0
      go_loopw [50] (fun v wr => ∃ (k : Nat) (v1 : Value), k ≤ nt ∧ v = .int .i64 k ∧ CpB w wr cb m clock L E os ((ts.take k).map fun t => ⟨t.name, [], []⟩) (.slice va no vc) v1 (.slice a0 no c0) (.slice a1 nt c1)) (fun v _ => nt - (intOf v).toNat)
      case atStart => exact ⟨0, _, by omega, rfl, by simpa using HC.out⟩
      case round =>
        obtain ⟨k2, v1, hk2, rfl, hC⟩ := hrel
        have HD2 := Lib.hid hC
        clear hC HC hosk
        by_cases hkn2 : k2 < nt
        · have q2 : decide ((k2 : Int) < (nt : Int)) = true := by simp; omega
          have hkl : k2 < ts.length := by have := NT.out; omega
          rcases H1.out wr HD2.out.nw with ⟨a, -, e2⟩ | ⟨gv, ov, cap, e1, -, -, hgv, h3⟩
          · rw [e2] at NT; exact absurd NT.out (by simp; omega)
          obtain ⟨rfl, -, rfl⟩ : a1 = some ⟨gv, ov, none⟩ ∧ nt = ts.length ∧ c1 = cap := by simpa using e1
          obtain ⟨cs, -, hc, ⟨bv, hd, hd1, -, hd2⟩⟩ := h3 k2 hkl
          obtain ⟨d, hdd⟩ : ∃ d, ts[k2]'hkl = d := ⟨_, rfl⟩
          have hbody := HB.out _ (List.getElem_mem hkl)
          have htk : Hid (((ts.take (k2 + 1)).map fun t => (⟨t.name, [], []⟩ : TextP)) = ((ts.take k2).map fun t => (⟨t.name, [], []⟩ : TextP)) ++ [⟨d.name, [], []⟩]) := Lib.hid (by rw [List.take_succ_eq_append_getElem hkl, List.map_append, hdd]; rfl)
          have htl : ((ts.take k2).map fun t => (⟨t.name, [], []⟩ : TextP)).length = k2 := by simp; omega
          obtain ⟨TP, hTP⟩ : ∃ TP, ((ts.take k2).map fun t => (⟨t.name, [], []⟩ : TextP)) = TP := ⟨_, rfl⟩
          rw [hTP] at HD2 htk htl
          rw [hdd] at hd hd1 hd2 hbody
          rw [hbody] at hd2
          obtain ⟨ba, bc, rfl, -⟩ := RdK.nil hd2
          subst hd
          have e0 := hc 0 (by simp)
          have e1' := hc 1 (by simp)
          have e2 := hc 2 (by simp)
          simp only [List.getElem_cons_zero, List.getElem_cons_succ, Nat.add_zero] at e0 e1' e2
          have hgl : gv < wr.heap.size := hgv
          have HTL := Lib.hid htl
          have HD1 := Lib.hid hd1
          clear hc h3 e1 hdd hgv hbody hd2 hTP htl hd1
          go_upto_region 18 with fail
          obtain ⟨wk, hwk⟩ : ∃ wk, (wr.alloc (.cells #[.string ⟨d.name.toArray⟩, .slice ba 0 bc, .int .i64 d.line] 93)).alloc (.cells #[.map (some m), .string ⟨d.name.toArray⟩, .slice none 0 0, .slice none 0 0, .int .i64 0] 104) = wk := ⟨_, rfl⟩
          obtain ⟨tn, tt, tk⟩ := two_blk wr #[.string ⟨d.name.toArray⟩, .slice ba 0 bc, .int .i64 d.line] #[.map (some m), .string ⟨d.name.toArray⟩, .slice none 0 0, .slice none 0 0, .int .i64 0] 93 104
          rw [hwk] at tn tt tk ⊢
          obtain ⟨tb, htb⟩ : ∃ tb, wr.heap.size = tb := ⟨_, rfl⟩
          obtain ⟨kb, hkb⟩ : ∃ kb, tb + 1 = kb := ⟨_, rfl⟩
          rw [htb] at tt tk ⊢
          rw [hkb] at tk ⊢
          have CK2 := Lib.hid (HD2.out.on tn)
          have KBN : Hid (∀ g, v1.ownBlock = some g → ¬ g = kb) := Lib.hid (fun g hg e => by have := HD2.out.th.lt g hg; omega)
          have TT := Lib.hid tt
          have TK := Lib.hid tk
          clear hwk tn tt tk htb hkb e0 e1' e2 hgl
          obtain ⟨d0, d1, d2, df⟩ := box3 TT.out
          obtain ⟨m0, m1, m2, m3, m4, mf⟩ := box5 TK.out
          go_wp2_with fail
          refine (mkstmts_ok _ _ _).mono ?_
          rintro z w9 ⟨rfl, rfl⟩
          go_wp2_with fail
          refine (here_ok TK.out).mono ?_
          rintro z w10 ⟨rfl, rfl⟩
          go_upto_region 21 with fail
          obtain ⟨cs, hV, h0⟩ := CK2.out.th
          obtain ⟨ua, uc, hv1, -⟩ := hV.len
          rw [HTL.out] at hv1
          subst hv1
          have VR := Lib.hid hV
          have V0 := Lib.hid h0
          obtain ⟨p0, p1, pf⟩ := box2 CK2.out.out
          obtain ⟨i0, hi, hz0, hz1, hz2⟩ := info_parts infoText
          have HCC : ∀ W : World, (W.cell? ⟨cb, 1, none⟩ = some (.slice ua k2 uc) ∧ W.cell? ⟨kb, 1, none⟩ = some (.string ⟨d.name.toArray⟩) ∧ W.cell? ⟨kb, 2, none⟩ = some (.slice none 0 0) ∧ W.cell? ⟨kb, 3, none⟩ = some (.slice none 0 0)) → (W.drew.cell? ⟨cb, 1, none⟩ = some (.slice ua k2 uc) ∧ W.drew.cell? ⟨kb, 1, none⟩ = some (.string ⟨d.name.toArray⟩) ∧ W.drew.cell? ⟨kb, 2, none⟩ = some (.slice none 0 0) ∧ W.drew.cell? ⟨kb, 3, none⟩ = some (.slice none 0 0)) := fun _ h => h
          have hC0 := HCC _ ⟨p1, m1, m2, m3⟩
          clear hV h0 d0 d1 d2 df m0 m1 m2 m3 m4 mf p0 p1 pf HCC
          refine wp_region_steps 9 [.rd 0, .rd 1, .rd 2, .rd 3, .rd 4, .rd 5, .dn 6, .dn 7, .rd 8] [9] (fun x => x.cell? ⟨cb, 1, none⟩ = some (.slice ua k2 uc) ∧ x.cell? ⟨kb, 1, none⟩ = some (.string ⟨d.name.toArray⟩) ∧ x.cell? ⟨kb, 2, none⟩ = some (.slice none 0 0) ∧ x.cell? ⟨kb, 3, none⟩ = some (.slice none 0 0)) (by kernel_rfl) (by kernel_rfl) (fun _ _ _ _ _ h => h) hC0 ?_
          refine stp_to (.pointer (some ⟨cb, 1, none⟩)) rfl rfl rfl (fun x hx => by go_simp) (fun K hK => ?_); go_simp; refine hK _ ?_; clear hK K
          refine stp_to (.slice ua k2 uc) rfl rfl rfl (fun x hx => by obtain ⟨x1, x2, x3, x4⟩ := hx; go_simp) (fun K hK => ?_); go_simp; refine hK _ ?_; clear hK K
          refine stp_to (.pointer (some ⟨kb, 0, none⟩)) rfl rfl rfl (fun x hx => by go_simp) (fun K hK => ?_); go_simp; refine hK _ ?_; clear hK K
          refine stp_to (.pointer (some ⟨kb, 0, none⟩)) rfl rfl rfl (fun x hx => by go_simp) (fun K hK => ?_); go_simp; refine hK _ ?_; clear hK K
          refine stp_to (.pointer (some ⟨kb, 1, none⟩)) rfl rfl rfl (fun x hx => by go_simp) (fun K hK => ?_); go_simp; refine hK _ ?_; clear hK K
          refine stp_to (.agg #[.string ⟨d.name.toArray⟩, .slice none 0 0, .slice none 0 0]) rfl rfl rfl (fun x hx => by obtain ⟨x1, x2, x3, x4⟩ := hx; go_simp) (fun K hK => ?_); go_simp; refine hK _ ?_; clear hK K
          have nw6 : Nw w10 w10.drew := (Nw.refl w10).drew
          obtain ⟨wx, hwx⟩ : ∃ wx, w10.drew = wx := ⟨_, rfl⟩
          rw [hwx] at nw6 hC0 ⊢
          have C6 := Lib.hid (CK2.out.on nw6)
          have V6 := Lib.hid (VR.out.nw nw6)
          have T6 := Lib.hid (nw6.at_ TK.out)
          clear hwx nw6 CK2 VR hC0
          refine stp_dn rfl (fun K hK => ?_)
          go_wp2_with fail
          have n7 := Nw.alloc (Nw.refl wx) (.cells #[.string ⟨d.name.toArray⟩, .slice none 0 0, .slice none 0 0] 73)
          have SR := src_lit wx 73 (0, 0) 3 1 1 [.string ⟨d.name.toArray⟩, .slice none 0 0, .slice none 0 0] rfl (by omega) (by decide)
          obtain ⟨w7, hw7⟩ : ∃ w7, wx.alloc (.cells #[.string ⟨d.name.toArray⟩, .slice none 0 0, .slice none 0 0] 73) = w7 := ⟨_, rfl⟩
          have SR7 : Hid (SrcV 3 w7 (.slice (some ⟨wx.heap.size, 0, none⟩) 1 1) 1 [.string ⟨d.name.toArray⟩, .slice none 0 0, .slice none 0 0]) := Lib.hid (by rw [← hw7]; exact SR)
          rw [hw7] at n7 ⊢
          have C7 := Lib.hid (C6.out.on n7)
          have V7 := V6.out.nw n7
          rw [HTL.out] at V7
          have V7 := Lib.hid V7
          have T7 := Lib.hid (n7.at_ T6.out)
          clear hw7 SR n7 C6 T6
          obtain ⟨m0, m1, m2, m3, m4, mf⟩ := box5 T7.out
          refine hK _ _ ⟨(box2 C7.out.out).2.1, m1, m2, m3⟩ ?_; clear hK K m0 m1 m2 m3 m4 mf
          refine stp_dn rfl (fun K hK => ?_)
          refine wpList_append_vec rfl _ _ 23 rfl 73 i0 (.agg #[.string ⟨#[]⟩, .slice none 0 0, .slice none 0 0]) 3 64 Tryz.underlying23 hi hz0 hz1 hz2 rfl (by decide) rfl rfl V7.out SR7.out (by simp [Value.oneCell']) (by have := HLE.out; have := NT.out; unfold maxLen; omega) (by have := HLE.out; have := NT.out; omega) ?_
          intro v8 w8 hV8 hO8 hown
          have P8 := box2 (hO8.at_ C7.out.out (fun e => by have := (C7.out.f1 cb e).1; have := C7.out.b2; have := C7.out.b3; omega))
          obtain ⟨va8, vc8, rfl, -⟩ := hV8.len
          have T8 := hO8.at_ T7.out (fun e => KBN.out kb e rfl)
          obtain ⟨m0, m1, m2, m3, m4, mf⟩ := box5 T8
          have H8 := Lib.hid (C7.out.thr (d := ⟨d.name, [], []⟩) V6.out.1 V0.out hO8 (by rw [HTL.out]; exact hV8) hown (by rfl) ⟨rfl, HD1.out, rfl, rfl⟩)
          obtain ⟨P80, P81, P8f⟩ := P8
          clear hV8 hO8 hown T8
          go_wp2_with fail
          refine hK _ _ ⟨P81, m1, m2, m3⟩ ?_; clear hK K m0 m1 m2 m3 m4 mf
          refine stp_to (.pointer (some ⟨cb, 1, none⟩)) rfl rfl rfl (fun x hx => by go_simp) (fun K hK => ?_); go_simp; refine hK _ ?_; clear hK K
          refine wpSteps_nil ?_
          refine stp_do rfl (by decide) (fun K hK => ?_)
          go_wp2_with fail
          (try (refine hK _ _ ?_; clear hK K))
          refine wpNums_nil ?_
          clear P80 P81 P8f
          go_wp2_with fail
          refine ⟨⟨k2 + 1, _, by omega, by simp, by rw [htk.out]; exact H8.out⟩, by simp [intOf]; omega⟩
        · have q2 : decide ((k2 : Int) < (nt : Int)) = false := by simp; omega
          have htk : ts.take k2 = ts := List.take_of_length_le (by have := NT.out; omega)
          rw [htk] at HD2
          obtain ⟨ua, uc, hv1, -⟩ := HD2.out.th.lenC
          rw [List.length_map, NT.out] at hv1
          subst hv1
          obtain ⟨p0, p1, pf⟩ := box2 HD2.out.out
          obtain ⟨r0, r1, rf⟩ := box2 HD2.out.r0
          obtain ⟨k0, k1, kf⟩ := box2 HD2.out.r1
          have hb1 := HD2.out.b1
          have g1 : ¬ cb = w.heap.size + 1 := by omega
          have g2 : ¬ cb = w.heap.size + 1 + 1 := by omega
          have g3 : ¬ w.heap.size + 1 = cb := by omega
          have g4 : ¬ w.heap.size + 1 + 1 = cb := by omega
          clear htk
          go_wp2_with fail
          have OF : Only (fun k => k = w.heap.size + 1 ∨ k = w.heap.size + 1 + 1) wr ((((wr.setCell ⟨w.heap.size + 1, 0, none⟩ (.slice va no vc)).setCell ⟨w.heap.size + 1, 1, none⟩ (.slice ua nt uc)).setCell ⟨w.heap.size + 1 + 1, 0, none⟩ (.int .i64 0)).setCell ⟨w.heap.size + 1 + 1, 1, none⟩ (.int .i64 0)) :=
            Only.put (Only.put (Only.put (Only.put (Only.refl _) (.inl rfl) _ _) (.inl rfl) _ _) (.inr rfl) _ _) (.inr rfl) _ _
          have hq : ∀ g, L ≤ g → ¬ (g = w.heap.size + 1 ∨ g = w.heap.size + 1 + 1) := fun g hg e => by have := HD2.out.b2; have := HD2.out.b3; omega
          refine bodyPost_ret (v := .tuple #[.agg #[.slice va no vc, .slice ua nt uc], .agg (fltA 0 0)]) (by simp [results, Tryz.results16, go_sem, g1, g2, g3, g4, r0, r1, k0, k1, p0, p1, fltA]) rfl ⟨_, _, rfl, ⟨_, _, rfl, HD2.out.ob.rdk.off OF (fun _ g hg => hq g (HD2.out.f0 g hg)), ?_⟩, ?_⟩
          · have th0 := HD2.out.th.rdk.off OF (fun _ g hg => hq g (HD2.out.f1 g hg).1)
            rcases th0 with h | ⟨g, o, cap, e9, h1, h2, hg, h3⟩
            · exact .inl h
            · exact .inr ⟨g, o, cap, e9, h1, h2, hg, fun i hi => by obtain ⟨cs, a, b, r⟩ := h3 i hi; exact ⟨cs, a, b, r.text⟩⟩
          · repeat (first | with_reducible exact HD2.out.nw | refine Nw.put ?_ (by omega) _ _)
end Go.Proofs.YtcmaedoolinijaaGreatDoor

namespace Go.Proofs.YtcmaedoolinijaaGreatDoor
open Go Go.RowKit Go.Sort
set_option maxRecDepth 100000
set_option maxHeartbeats 3200000
def outLen (w : World) (p : Nat) : Nat := match w.cell? ⟨p, 0, none⟩, w.cell? ⟨p, 1, none⟩ with | some (.slice _ a _), some (.slice _ b _) => a + b | _, _ => 0
theorem VecR.len {α : Type} {k : Nat} {R : List Value → α → Prop} {w : World} {v : Value} {l : List α} (h : VecR k R w v l) : ∃ a c, v = .slice a l.length c ∧ l.length ≤ c ∧ c ≤ maxLen := by
  obtain ⟨cs, h1, -⟩ := h
  exact h1.len
theorem PaB.len {w wr : World} {b po pa L : Nat} {t : List UInt8} {s : PS} {os : List Dcl} {ts : List Thr} {v0 v1 : Value} (h : PaB w wr b po pa L t s os ts v0 v1) : outLen wr po = os.length + ts.length := by
  obtain ⟨a, c, rfl, -⟩ := h.ob.len
  obtain ⟨a', c', rfl, -⟩ := h.th.len
  obtain ⟨z0, z1, -⟩ := box2 h.out
  simp [outLen, z0, z1]
structure ThB (w wr : World) (b m po : Nat) (t : List UInt8) (s : PS) (nm : List UInt8) (bd : Value) (ln : Int) : Prop where
  ps : PM wr b t s
  on' : Only (fun k => k = b) w wr
  tb : wr.heap[m]? = some (.cells #[.string ⟨nm.toArray⟩, bd, .int .i64 ln] 93 (0, 0))
  mw : w.heap.size ≤ m
  bm : b < m
theorem ThB.on {w wr w' : World} {b m po : Nat} {t : List UInt8} {s s' : PS} {nm : List UInt8} {bd : Value} {ln : Int} (h : ThB w wr b m po t s nm bd ln) (hp : PM w' b t s') (ho : Only (fun k => k = b) wr w') : ThB w w' b m po t s' nm bd ln :=
  ⟨hp, h.on'.trans ho, ho.at_ h.tb (by have := h.bm; omega), h.mw, h.bm⟩
theorem ThB.put0 {w wr : World} {b m po : Nat} {t : List UInt8} {s : PS} {nm : List UInt8} {bd : Value} {ln : Int} (h : ThB w wr b m po t s nm bd ln) (x : List UInt8) : ThB w (wr.setCell ⟨m, 0, none⟩ (.string ⟨x.toArray⟩)) b m po t s x bd ln where
  ps := h.ps.off (S := fun k => k = m) (Only.put (S := fun k => k = m) (Only.refl _) rfl _ _) (by have := h.bm; show ¬ b = m; omega) (by have := h.ps.pos; have := h.bm; show ¬ 0 = m; omega)
  on' := Only.put' h.on' h.mw _ _
  tb := by have := heap_put (i := 0) h.tb (.string ⟨x.toArray⟩); simpa using this
  mw := h.mw
  bm := h.bm
theorem ThB.put1 {w wr : World} {b m po : Nat} {t : List UInt8} {s : PS} {nm : List UInt8} {ln : Int} (h : ThB w wr b m po t s nm (.slice none 0 0) ln) : ThB w (wr.setCell ⟨m, 1, none⟩ (.slice none 0 0)) b m po t s nm (.slice none 0 0) ln where
  ps := h.ps.off (S := fun k => k = m) (Only.put (S := fun k => k = m) (Only.refl _) rfl _ _) (by have := h.bm; show ¬ b = m; omega) (by have := h.ps.pos; have := h.bm; show ¬ 0 = m; omega)
  on' := Only.put' h.on' h.mw _ _
  tb := by have := heap_put (i := 1) h.tb (.slice none 0 0); simpa using this
  mw := h.mw
  bm := h.bm
theorem threadS_eq : threadS = [116, 104, 114, 101, 97, 100] := by decide +kernel
theorem infoDcl : (Tryz.prog.info? 76).map (fun i => (i.zero, i.size, i.bytes)) = some (some (.agg #[.int .u8 0, .string ⟨#[]⟩, .int .i64 0, .string ⟨#[]⟩, .int .i64 0]), 5, 56) := by kernel_rfl
theorem infoThr : (Tryz.prog.info? 93).map (fun i => (i.zero, i.size, i.bytes)) = some (some (.agg #[.string ⟨#[]⟩, .slice none 0 0, .int .i64 0]), 3, 48) := by kernel_rfl
theorem Parse_ok {w : World} {t : List UInt8} {os : List Dcl} {ts : List Thr} {sf : PS} (hM : ∃ M, w.cell? ⟨0, 0, none⟩ = some (.int .i64 M)) (hl : t.length ≤ 16384) (hp : parseN t = some (os, ts, sf)) (he : sf.e = 0) (hlo : os.length ≤ 100) (hlt : ts.length ≤ 100) (hr : badB false os ts = false) (hnb : ∀ t ∈ ts, t.body = []) :
    Calls Tryz.prog 15 #[.string ⟨t.toArray⟩] w fun z w' => ∃ v0 v1, z = .returned (.tuple #[.agg #[v0, v1], .agg (fltA 0 0)]) ∧ ProgM w' [v0, v1] os ts ∧ Nw w w' := by
  have P0 : Hid (PM (((w.alloc (.cells #[.slice none 0 0, .slice none 0 0] 51)).alloc (.cells (fltA 0 0) 43)).alloc (.cells (psA t ⟨Tok.none, 0, 0, 0⟩) 86)) (w.heap.size + 1 + 1) t ⟨Tok.none, 0, 0, 0⟩) := Lib.hid (by
    obtain ⟨M, hM⟩ := hM
    have hn : Nw w (((w.alloc (.cells #[.slice none 0 0, .slice none 0 0] 51)).alloc (.cells (fltA 0 0) 43)).alloc (.cells (psA t ⟨Tok.none, 0, 0, 0⟩) 86)) := (((Nw.refl w).alloc _).alloc _).alloc _
    refine ⟨?_, ⟨M, hn.cell hM⟩, ?_, by omega, by simp [Tok.none], TokOk.none⟩
    · have := heap_alloc_new ((w.alloc (.cells #[.slice none 0 0, .slice none 0 0] 51)).alloc (.cells (fltA 0 0) 43)) (.cells (psA t ⟨Tok.none, 0, 0, 0⟩) 86)
      simpa using this
    · have := World.block_lt_of_cell? _ _ hM
      simp only at this
      omega)
  obtain ⟨s0, hs0⟩ : ∃ s0, (⟨Tok.none, 0, 0, 0⟩ : PS).read t 0 = s0 := ⟨_, rfl⟩
  have RD := Lib.hid (by have := read_ok P0.out (a := 0) (by omega); rw [hs0] at this; exact this)
  have HP := Lib.hid (show partsN t 100 s0 [] [] = some (os, ts, sf) by rw [← hs0]; exact hp)
  clear hp hs0 hM
  go_enter Tryz.func15, Tryz.ntmps15
  unfold psA at RD
  go_wp2_with fail
  refine RD.out.mono ?_
  rintro z w1 ⟨rfl, p1, o1⟩
  have P1 := Lib.hid p1
  have O1 := Lib.hid o1
  clear p1 o1
  obtain ⟨po, hpo⟩ : ∃ po, w1.heap.size = po := ⟨_, rfl⟩
  go_wp2_with fail
  refine objects_ok.mono ?_
  rintro z w2 ⟨rfl, n2⟩
  have N2 := Lib.hid n2
  have PB : Hid (PaB w (w2.alloc (.cells objsA 87)) (w.heap.size + 1 + 1) po w2.heap.size (w2.heap.size + 1) t s0 [] [] (.slice none 0 0) (.slice none 0 0)) := Lib.hid (by
    have tb := two_blk w #[.slice none 0 0, .slice none 0 0] (fltA 0 0) 51 43
    have na := Nw.alloc (Nw.refl ((w.alloc (.cells #[.slice none 0 0, .slice none 0 0] 51)).alloc (.cells (fltA 0 0) 43))) (.cells (psA t ⟨Tok.none, 0, 0, 0⟩) 86)
    have nw1 : Nw w w1 := (tb.1.trans na).trans' O1.out (fun k hk e => absurd hk (by omega))
    have hsz : w.heap.size + 3 ≤ po := by have := O1.out.size; simp at this; omega
    have n3 : Nw w1 (w2.alloc (.cells objsA 87)) := (((Nw.refl w1).alloc _).trans n2).alloc _
    have hpw : po < w2.heap.size := by have := n2.size; simp at this; omega
    refine ⟨nw1.trans n3, P1.out.on n3, ?_, heap_alloc_new w2 _, n3.at_ (O1.out.at_ (na.at_ tb.2.1) (by omega)), n3.at_ (O1.out.at_ (na.at_ tb.2.2) (by omega)), VecR.nil, VecR.nil, ?_, ?_, by omega, by omega, hpw, by omega, by simp⟩
    · rw [← hpo]
      exact ((Nw.refl w2).alloc _).at_ (n2.at_ (heap_alloc_new w1 _))
    · intro g hg; cases hg
    · intro g hg; cases hg)
  clear n2
  unfold objsA
  go_wp2_with fail
  obtain ⟨b, hb⟩ : ∃ b, w.heap.size + 1 + 1 = b := ⟨_, rfl⟩
  obtain ⟨pa, hpa⟩ : ∃ pa, w2.heap.size = pa := ⟨_, rfl⟩
  obtain ⟨w3, hw3⟩ : ∃ w3, w2.alloc (.cells objsA 87) = w3 := ⟨_, rfl⟩
  rw [hb, hpa, hw3] at PB
  unfold objsA at hw3
  rw [hw3, hb, hpa]
  clear hw3 P0 P1 O1 N2 RD hb
  obtain ⟨L, hL⟩ : ∃ L, pa + 1 = L := ⟨_, rfl⟩
  rw [hL] at PB
  go_loopw [7] (fun _ wr => ∃ (f : Nat) (s : PS) (os' : List Dcl) (ts' : List Thr) (v0 v1 : Value), partsN t f s os' ts' = some (os, ts, sf) ∧ PaB w wr b po pa L t s os' ts' v0 v1) (fun _ wr => 200 - outLen wr po)
  case atStart => exact ⟨100, s0, [], [], _, _, HP.out, PB.out⟩
  case round =>
    obtain ⟨f, s, os', ts', v0, v1, hf, hB⟩ := hrel
    obtain ⟨ax, ac, hv0, -⟩ := hB.ob.len
    obtain ⟨bx, bc, hv1, -⟩ := hB.th.len
    obtain ⟨n0, hn0⟩ : ∃ n, os'.length = n := ⟨_, rfl⟩
    obtain ⟨n1, hn1⟩ : ∃ n, ts'.length = n := ⟨_, rfl⟩
    rw [hn0] at hv0
    rw [hn1] at hv1
    subst hv0 hv1
    have HN0 := Lib.hid hn0
    have HN1 := Lib.hid hn1
    clear hn0 hn1
    have H := Lib.hid hB
    have HF := Lib.hid hf
    have HLEN := Lib.hid (partsN_len hf)
    have OUT := Lib.hid hB.len
    cases f with
    | zero => simp [partsN] at hf
    | succ f =>
    rw [partsN] at hf
    obtain ⟨z0, z1, z2, z3, z4, z5, z6, z7, z8, z9, zf⟩ := box10 hB.ps.box
    have OKC := Lib.hid (pok_ok hB.ps)
    clear hB
    by_cases c0 : s.e = 0
    case neg =>
      have q : (s.e == 0) = false := by simpa using c0
      rw [if_neg (fun h => c0 h.1)] at hf
      have h2 := Option.some.inj hf
      simp only [Prod.mk.injEq] at h2
      exact absurd (h2.2.2 ▸ he) c0
    have q : (s.e == 0) = true := by simpa using c0
    rw [q] at OKC
    by_cases c5 : s.w.kind = 5
    case pos =>
      have q5 : ((s.w.kind : Int) != 5) = false := by simp [c5]
      rw [if_neg (fun h => h.2 c5)] at hf
      have h2 := Option.some.inj hf
      simp only [Prod.mk.injEq] at h2
      obtain ⟨rfl, rfl, rfl⟩ := h2
      clear hf
      go_wp2_with fail
      refine OKC.out.mono ?_
      rintro z w4 ⟨rfl, rfl⟩
      go_wp2_with fail
      refine OKC.out.mono ?_
      rintro z w4' ⟨rfl, rfl⟩
      obtain ⟨p0, p1, pf⟩ := box2 H.out.out
      have hpl := lt_of_block H.out.out
      go_wp2_with fail
      obtain ⟨wk, hwk⟩ : ∃ wk, w4'.alloc (.cells #[.int .i64 0, .bool false, .bool false] 98) = wk := ⟨_, rfl⟩
      have hnw : Nw w4' wk := by rw [← hwk]; exact (Nw.refl w4').alloc _
      have WK : WkB wk w4'.heap.size 0 false false := by rw [← hwk]; exact heap_alloc_new w4' _
      have MXw : Mx w4' := H.out.ps.mx
      have PO := Lib.hid (program_ok WK (MXw.nw hnw) (by have := MXw.lt; omega) (H.out.ob.rdk.nw hnw) ((H.out.th.rdk.nwR hnw (fun _ _ h => h.thr))) hnb)
      have HK := Lib.hid hnw
      rw [hr] at PO
      rw [hwk]
      clear hwk hnw WK MXw p0 p1 pf
      refine PO.out.mono ?_
      rintro z w5 ⟨rfl, o5⟩
      have O5 : Hid (Only (fun k => k = w4'.heap.size) w4' w5) := Lib.hid (HK.out.only.trans o5)
      have N5 : Hid (Nw w4' w5) := Lib.hid (O5.out.mono (fun k hk e => by omega))
      have B5 := Lib.hid (N5.out.at_ H.out.out)
      have R0 := Lib.hid (N5.out.at_ H.out.r0)
      have R1 := Lib.hid (N5.out.at_ H.out.r1)
      have V0 := Lib.hid (H.out.ob.rdk.nw N5.out)
      have V1 := Lib.hid (H.out.th.rdk.nwR (R' := isThr w5) N5.out (fun _ _ h => h.thr))
      have NN := Lib.hid (H.out.nw.trans N5.out)
      have hb1 := H.out.b1
      have hb2 := H.out.b2
      have e1 : ¬ po = w.heap.size := by omega
      have e2 : ¬ po = w.heap.size + 1 := by omega
      have e3 : ¬ w.heap.size = po := by omega
      have e4 : ¬ w.heap.size + 1 = po := by omega
      obtain ⟨p0, p1, pf⟩ := box2 B5.out
      obtain ⟨r0, r1, rf⟩ := box2 R0.out
      obtain ⟨k0, k1, kf⟩ := box2 R1.out
      clear o5 PO z0 z1 z2 z3 z4 z5 z6 z7 z8 z9 zf
      go_wp2_with fail
      have NF : Nw w ((((w5.setCell ⟨w.heap.size, 0, none⟩ (.slice ax n0 ac)).setCell ⟨w.heap.size, 1, none⟩ (.slice bx n1 bc)).setCell ⟨w.heap.size + 1, 0, none⟩ (.int .i64 0)).setCell ⟨w.heap.size + 1, 1, none⟩ (.int .i64 0)) := by
        repeat (first | with_reducible exact NN.out | refine Nw.put ?_ (by omega) _ _)
      have OF : Only (fun k => k = w.heap.size ∨ k = w.heap.size + 1) w5 ((((w5.setCell ⟨w.heap.size, 0, none⟩ (.slice ax n0 ac)).setCell ⟨w.heap.size, 1, none⟩ (.slice bx n1 bc)).setCell ⟨w.heap.size + 1, 0, none⟩ (.int .i64 0)).setCell ⟨w.heap.size + 1, 1, none⟩ (.int .i64 0)) :=
        Only.put (Only.put (Only.put (Only.put (Only.refl _) (.inl rfl) _ _) (.inl rfl) _ _) (.inr rfl) _ _) (.inr rfl) _ _
      have hq : ∀ g, L ≤ g → ¬ (g = w.heap.size ∨ g = w.heap.size + 1) := fun g hg e => by have := H.out.b3; have := H.out.b4; omega
      have TH := H.out.th.rdk.nwR (R' := isThr w5) N5.out (fun _ _ h => h.thr)
      refine bodyPost_ret (v := .tuple #[.agg #[(.slice ax n0 ac), (.slice bx n1 bc)], .agg (fltA 0 0)]) (by simp [results, Tryz.results15, go_sem, e1, e2, e3, e4, r0, r1, k0, k1, p0, p1, fltA]) rfl ⟨_, _, rfl, ⟨_, _, rfl, V0.out.off OF (fun _ g hg => hq g (H.out.f0 g hg)), ?_⟩, NF⟩
      have th0 := (H.out.th.rdk.nw N5.out).off OF (fun _ g hg => hq g (H.out.f1 g hg).1)
      rcases th0 with h | ⟨g, o, cap, e9, h1, h2, hg, h3⟩
      · exact .inl h
      · exact .inr ⟨g, o, cap, e9, h1, h2, hg, fun i hi => by obtain ⟨cs, a, b, r⟩ := h3 i hi; exact ⟨cs, a, b, r.thr⟩⟩
    have q5 : ((s.w.kind : Int) != 5) = true := by simp; omega
    rw [if_pos ⟨c0, c5⟩] at hf
    have ISC := Lib.hid (is_ok H.out.ps (objs_row H.out.all) (by rw [objs_L]; decide))
    by_cases ci : s.is objsW = true
    · rw [if_pos ci] at hf
      rw [ci] at ISC
      have HF2 := Lib.hid hf
      obtain ⟨p0, p1, pf⟩ := box2 H.out.out
      clear hf
      go_wp2_with fail
      refine OKC.out.mono ?_
      rintro z w4 ⟨rfl, rfl⟩
      go_wp2_with fail
      refine ISC.out.mono ?_
      rintro z w4' ⟨rfl, rfl⟩
      go_upto_region 7 with fail
      have HC : ∀ W : World, W.cell? ⟨po, 0, none⟩ = some (.slice ax n0 ac) → W.drew.cell? ⟨po, 0, none⟩ = some (.slice ax n0 ac) := fun _ h => h
      obtain ⟨cs, hV, h0⟩ := H.out.ob
      have hVl := hV.1
      have hlen : os'.length ≤ 100 := by have := HLEN.out.1; exact Nat.le_trans this hlo
      have VR := Lib.hid hV
      have V0 := Lib.hid h0
      obtain ⟨i0, hi, hz0, hz1, hz2⟩ := info_parts infoDcl
      clear z0 z1 z2 z3 z4 z5 z6 z7 z8 z9 zf ISC OKC
      refine wp_region_steps 7 [.rd 0, .rd 1, .rd 2, .dn 3, .dn 4, .dn 5, .rd 6] [7] (fun x => x.cell? ⟨po, 0, none⟩ = some (.slice ax n0 ac)) (by kernel_rfl) (by kernel_rfl) (fun _ _ _ _ _ h => h) (HC _ p0) ?_
      refine stp_to (.pointer (some ⟨po, 0, none⟩)) rfl rfl rfl (fun x hx => by go_simp) (fun K hK => ?_); go_simp; refine hK _ ?_; clear hK K
      refine stp_to (.slice ax n0 ac) rfl rfl rfl (fun x hx => by have hx' : x.cell? ⟨po, 0, none⟩ = some (.slice ax n0 ac) := hx; go_simp) (fun K hK => ?_); go_simp; refine hK _ ?_; clear hK K
      refine stp_to (.pointer (some ⟨b, 0, none⟩)) rfl rfl rfl (fun x hx => by go_simp) (fun K hK => ?_); go_simp; refine hK _ ?_; clear hK K
      refine stp_dn rfl (fun K hK => ?_)
      go_wp2_with fail
      refine (object_ok (H.out.ps.on ((Nw.refl w4').drew)) ci).mono ?_
      rintro z w5 ⟨c, rfl, hd, p5, o5⟩
      have H5 := Lib.hid (H.out.on p5 (Only.trans (S := fun k => k = b) ((Nw.refl w4').drew).only o5))
      have V5 := Lib.hid (VR.out.keep o5.size (fun g hg => o5.block g (VR.out.lt g hg) (by have := H.out.f0 g hg; have := H.out.b2; have := H.out.b3; have := H.out.b4; omega)))
      have HD := Lib.hid hd
      obtain ⟨rfl, -⟩ := hd
      clear p5 o5 p0 p1 pf
      go_wp2_with fail
      refine hK _ _ (box2 H5.out.out).1 ?_; clear hK K
      refine stp_dn rfl (fun K hK => ?_)
      go_wp2_with fail
      have n6 := Nw.alloc (Nw.refl w5) (.cells (dclA (objectF t s).1) 76)
      have SR := src_lit w5 76 (0, 0) 5 1 1 (dclA (objectF t s).1).toList rfl (by omega) (by decide)
      have H6 := Lib.hid (H5.out.on (H5.out.ps.on n6) n6.only)
      have V6 := Lib.hid (V5.out.nw n6)
      obtain ⟨w6, hw6⟩ : ∃ w6, w5.alloc (.cells (dclA (objectF t s).1) 76) = w6 := ⟨_, rfl⟩
      have SR6 : Hid (SrcV 5 w6 (.slice (some ⟨w5.heap.size, 0, none⟩) 1 1) 1 (dclA (objectF t s).1).toList) := Lib.hid (by rw [← hw6]; exact SR)
      rw [hw6] at H6 V6
      unfold dclA at hw6
      rw [hw6]
      clear hw6 SR n6
      refine hK _ _ (box2 H6.out.out).1 ?_; clear hK K
      refine stp_dn rfl (fun K hK => ?_)
      rw [HN0.out] at V6
      refine wpList_append_vec rfl _ _ 22 rfl 76 i0 (.agg #[.int .u8 0, .string ⟨#[]⟩, .int .i64 0, .string ⟨#[]⟩, .int .i64 0]) 5 56 Tryz.underlying22 hi hz0 hz1 hz2 rfl (by decide) rfl rfl V6.out SR6.out (by simp [dclA, Value.oneCell']) (by have := HN0.out; unfold maxLen; omega) (by have := HN0.out; omega) ?_
      intro v7 w7 hV7 hO7 hown
      have hfar : ∀ k, k < L → ¬ (Value.slice ax n0 ac).ownBlock = some k := fun k hk e => by have := H6.out.f0 k e; omega
      have P7 := (box2 (hO7.at_ H6.out.out (hfar po (by have := H6.out.b3; have := H6.out.b4; omega)))).1
      have F7 := (box2 (hO7.at_ H6.out.out (hfar po (by have := H6.out.b3; have := H6.out.b4; omega)))).2.2
      have V0' := V0.out
      have hcl := VR.out.1
      obtain ⟨va, vc, rfl, -⟩ := hV7.len
      have H7 := Lib.hid (H6.out.obj hcl V0' hO7 (by rw [HN0.out]; exact hV7) hown (by rfl) HD.out)
      clear hV7 hO7 hown V0' hcl
      go_wp2_with fail
      refine hK _ _ P7 ?_; clear hK K
      refine stp_to (.pointer (some ⟨po, 0, none⟩)) rfl rfl rfl (fun x hx => by go_simp) (fun K hK => ?_); go_simp; refine hK _ ?_; clear hK K
      refine wpSteps_nil ?_
      refine stp_do rfl (by decide) (fun K hK => ?_)
      go_wp2_with fail
      (try (refine hK _ _ ?_; clear hK K))
      refine wpNums_nil ?_
      clear P7 F7
      go_wp2_with fail
      go_roundw
      case rel => exact ⟨f, _, _, _, _, _, HF2.out, H7.out⟩
      case measure =>
        rw [H7.out.len, OUT.out]
        have := HLEN.out
        have := partsN_len HF2.out
        simp at this ⊢
        omega
    · have ci' : s.is objsW = false := by simpa using ci
      rw [if_neg ci] at hf
      rw [ci'] at ISC
      go_wp2_with fail
      refine OKC.out.mono ?_
      rintro z w4 ⟨rfl, rfl⟩
      go_wp2_with fail
      refine ISC.out.mono ?_
      rintro z w4' ⟨rfl, rfl⟩
      go_wp2_with fail
      obtain ⟨m, hm⟩ : ∃ m, w4'.heap.size = m := ⟨_, rfl⟩
      obtain ⟨w5, hw5⟩ : ∃ w5, w4'.alloc (.cells #[.string ⟨#[]⟩, .slice none 0 0, .int .i64 s.w.line] 93) = w5 := ⟨_, rfl⟩
      have hn5 : Nw w4' w5 := by rw [← hw5]; exact (Nw.refl w4').alloc _
      have TB5 : Hid (ThB w4' w5 b m (po) t s [] (.slice none 0 0) s.w.line) := Lib.hid ⟨H.out.ps.on hn5, hn5.only, by rw [← hw5, ← hm]; exact heap_alloc_new w4' _, by omega, by have := H.out.ps.lt; omega⟩
      rw [hw5]
      clear hw5 hn5 z0 z1 z2 z3 z4 z5 z6 z7 z8 z9 zf ISC OKC
      have HLN := Lib.hid H.out.ps.tk.2.2
      obtain ⟨s1, hs1⟩ : ∃ s1, s.must t threadS = s1 := ⟨_, rfl⟩
      rw [hs1] at hf
      have MU := Lib.hid (by have := must_ok TB5.out.ps threadS; rw [hs1, threadS_eq] at this; exact this)
      refine MU.out.mono ?_
      rintro z w6 ⟨rfl, p6, o6⟩
      have TB6 := Lib.hid (TB5.out.on p6 o6)
      clear p6 o6 MU TB5
      have HT1 := Lib.hid (word_tok (k := 2) TB6.out.ps.tk t)
      obtain ⟨⟨x1, s2⟩, hx1⟩ : ∃ r, s1.word t 2 = r := ⟨_, rfl⟩
      have NMC := Lib.hid (by have := name_ok TB6.out.ps; rw [hx1] at this; exact this)
      rw [hx1] at hf HT1
      simp only at hf HT1
      go_wp2_with fail
      refine NMC.out.mono ?_
      rintro z w7 ⟨rfl, p7, o7⟩
      have TB7 := Lib.hid (TB6.out.on p7 o7)
      clear p7 o7 NMC TB6
      obtain ⟨d0, d1, d2, df⟩ := box3 TB7.out.tb
      have TB8a := Lib.hid (TB7.out.put0 x1.s)
      have hbn : ∃ s3, bodyN t s2 = some s3 := by
        cases h : bodyN t s2 with
        | none => rw [h] at hf; simp at hf
        | some s3 => exact ⟨s3, rfl⟩
      obtain ⟨s3, hs3⟩ := hbn
      rw [hs3] at hf
      simp only at hf
      unfold bodyN at hs3
      have hcond : (s2.must t [123]).e = 0 → (s2.must t [123]).is [[125]] = true := by
        intro h
        by_cases h2 : (s2.must t [123]).is [[125]] = true
        · exact h2
        · rw [if_pos ⟨h, by simpa using h2⟩] at hs3; cases hs3
      have hs3' : (s2.must t [123]).must t [125] = s3 := by
        split at hs3
        · cases hs3
        · exact Option.some.inj hs3
      clear hs3
      go_wp2_with fail
      obtain ⟨w8, hw8⟩ : ∃ w8, w7.setCell ⟨m, 0, none⟩ (.string ⟨x1.s.toArray⟩) = w8 := ⟨_, rfl⟩
      rw [hw8] at TB8a ⊢
      clear hw8 d0 d1 d2 df TB7
      have NB := Lib.hid (by have := nobody_ok TB8a.out.ps hcond; rw [hs3'] at this; exact this)
      refine NB.out.mono ?_
      rintro z w9 ⟨rfl, p9, o9⟩
      have TB9 := Lib.hid (TB8a.out.on p9 o9)
      clear p9 o9 NB TB8a
      obtain ⟨d0, d1, d2, df⟩ := box3 TB9.out.tb
      have TBA := Lib.hid (TB9.out.put1)
      go_upto_region 12 with fail
      obtain ⟨wA, hwA⟩ : ∃ wA, w9.setCell ⟨m, 1, none⟩ (.slice none 0 0) = wA := ⟨_, rfl⟩
      rw [hwA] at TBA ⊢
      clear hwA d0 d1 d2 df TB9
      have HA := Lib.hid (H.out.on TBA.out.ps TBA.out.on')
      obtain ⟨cs, hV, h0⟩ := HA.out.th
      have hlen : ts'.length ≤ 100 := by have := HLEN.out.2; exact Nat.le_trans this hlt
      have VR := Lib.hid hV
      have V0 := Lib.hid h0
      obtain ⟨d0, d1, d2, df⟩ := box3 TBA.out.tb
      obtain ⟨p0, p1, pf⟩ := box2 HA.out.out
      obtain ⟨i0, hi, hz0, hz1, hz2⟩ := info_parts infoThr
      have HI := Lib.hid hi
      have HZ0 := Lib.hid hz0
      have HZ1 := Lib.hid hz1
      have HZ2 := Lib.hid hz2
      have nB := Nw.alloc (Nw.refl wA) (.cells #[.string ⟨x1.s.toArray⟩, .slice none 0 0, .int .i64 s.w.line] 93)
      have HBB := Lib.hid (HA.out.on (HA.out.ps.on nB) nB.only)
      have VB := hV.nw nB
      rw [HN1.out] at VB
      have VB := Lib.hid VB
      have SB := Lib.hid (src_lit wA 93 (0, 0) 3 1 1 [.string ⟨x1.s.toArray⟩, .slice none 0 0, .int .i64 s.w.line] rfl (by omega) (by decide))
      have hpl := lt_of_block HA.out.out
      have HFF := Lib.hid hf
      clear hV h0 hi hz0 hz1 hz2 nB hf
      go_wp2_with (at_builtin; refine wpList_append_vec rfl _ _ 49 rfl 93 i0 (.agg #[.string ⟨#[]⟩, .slice none 0 0, .int .i64 0]) 3 48 Tryz.underlying49 HI.out HZ0.out HZ1.out HZ2.out rfl (by decide) rfl rfl VB.out SB.out (by simp [Value.oneCell']) (by have := HN1.out; unfold maxLen; omega) (by have := HN1.out; omega) ?_; intro v7 w7 hV7 hO7 hown; have P7 := (box2 (hO7.at_ HBB.out.out (fun e => by have := (HBB.out.f1 po e).1; have := HBB.out.b3; have := HBB.out.b4; omega))); obtain ⟨va, vc, rfl, -⟩ := hV7.len; have H7 := Lib.hid (HBB.out.thr (d := ⟨x1.s, [], s.w.line⟩) VR.out.1 V0.out hO7 (by rw [HN1.out]; exact hV7) hown (by rfl) ⟨rfl, HT1.out.1, HLN.out, rfl⟩); obtain ⟨P70, P71, P7f⟩ := P7; clear hV7 hO7 hown d0 d1 d2 df p0 p1 pf)
      go_roundw
      case rel => exact ⟨f, _, _, _, _, _, HFF.out, H7.out⟩
      case measure =>
        rw [H7.out.len, OUT.out]
        have := HLEN.out
        have := partsN_len HFF.out
        simp at this ⊢
        omega
end Go.Proofs.YtcmaedoolinijaaGreatDoor

namespace Go.Proofs.YtcmaedoolinijaaGreatDoor
open Go Go.RowKit Go.Sort
set_option maxRecDepth 100000
set_option maxHeartbeats 3200000
theorem RdK.far {α : Type} {k : Nat} {R : List Value → α → Prop} {w : World} {v : Value} {l : List α} (h : RdK k R w v l) {b : Nat} {A : Array Value} {t : TypeId} {fr : Nat × Nat} (hb : w.heap[b]? = some (.cells A t fr)) (hA : A.size < k) : l ≠ [] → ∀ g, v.ownBlock = some g → ¬ g = b := by
  rintro hne g hg rfl
  rcases h with ⟨a, rfl, rfl⟩ | ⟨g, o, cap, rfl, h1, h2, hgw, h3⟩
  · exact hne rfl
  · cases hg
    obtain ⟨cs, hk5, hc, -⟩ := h3 0 (by cases l with | nil => exact absurd rfl hne | cons a l => simp)
    have := hc (k - 1) (by omega)
    rw [cell_of_row _ _ _ _ _ _ hb] at this
    have hlt := (Array.getElem?_eq_some_iff.1 this).1
    omega
theorem isText.mv {w w' : World} {cs : List Value} {x : TextP} (h : isText w cs x) (hs : w.heap.size ≤ w'.heap.size) (h1 : x.locals = []) (h2 : x.code = []) : isText w' cs x := by
  obtain ⟨v1, v2, a, b, c, d⟩ := h
  rw [h1] at c
  rw [h2] at d
  refine ⟨v1, v2, a, b, ?_, ?_⟩
  · rw [h1]
    rcases c with ⟨a, e, -⟩ | ⟨g, o, cap, e, c1, c2, c3, -⟩
    · exact .inl ⟨a, e, rfl⟩
    · exact .inr ⟨g, o, cap, e, c1, c2, Nat.lt_of_lt_of_le c3 hs, fun i hi => absurd hi (by simp)⟩
  · rw [h2]
    rcases d with ⟨a, e, -⟩ | ⟨g, o, cap, e, c1, c2, c3, -⟩
    · exact .inl ⟨a, e, rfl⟩
    · exact .inr ⟨g, o, cap, e, c1, c2, Nat.lt_of_lt_of_le c3 hs, fun i hi => absurd hi (by simp)⟩
structure BareT (t : List UInt8) (os : List Dcl) (ts : List Thr) : Prop where
  short : t.length ≤ 16384
  parse : ∃ sf, parseN t = some (os, ts, sf) ∧ sf.e = 0
  bodies : ∀ t ∈ ts, t.body = []
  good0 : badB false os ts = false
  good : badB true os ts = false
  kinds : ∀ d ∈ os, plainK d.kind
  names : (os.map (·.name)).Nodup
  threads : (ts.map (·.name)).Nodup
theorem Made_ok {w : World} (hM : Mx w) {t : List UInt8} {os : List Dcl} {ts : List Thr} (h : BareT t os ts) :
    Calls Tryz.prog 5 #[.string ⟨t.toArray⟩] w fun z w' => ∃ y0 y1, z = .returned (.agg #[y0, y1]) ∧ CodeM w' [y0, y1] (bareC os ts) ∧ Nw w w' := by
  obtain ⟨sf, hp, he⟩ := h.parse
  have hle := badB_len h.good
  have PA := Lib.hid (fun (W : World) (hW : Nw w W) => Parse_ok (hM.nw hW) h.short hp he (by omega) (by omega) h.good0 h.bodies)
  have CP := Lib.hid (fun (W : World) (hW : Mx W) (x0 x1 : Value) (hP : ProgM W [x0, x1] os ts) => by
    obtain ⟨a, b, e, h0, h1⟩ := hP
    cases e
    exact Compile_ok hW h0 h1 h.bodies h.good h.kinds h.names h.threads)
  have HM := Lib.hid hM
  clear h hp he hle hM
  go_enter Tryz.func5, Tryz.ntmps5
  go_wp2_with fail
  refine (PA.out _ ((Nw.refl w).alloc _)).mono ?_
  rintro z w1 ⟨v0, v1, rfl, hP, n1⟩
  have N1 := Lib.hid (((Nw.refl w).alloc (.cells #[.slice none 0 0, .slice none 0 0] 25)).trans n1)
  have R0 := Lib.hid (n1.at_ (heap_alloc_new w (.cells #[.slice none 0 0, .slice none 0 0] 25)))
  have HP := Lib.hid hP
  obtain ⟨z0, z1, ez, hv0, hv1⟩ := hP
  cases ez
  obtain ⟨a0, c0, hx0, -⟩ := hv0.len
  obtain ⟨a1, c1, hx1, -⟩ := hv1.len
  obtain ⟨no, hno⟩ : ∃ n, os.length = n := ⟨_, rfl⟩
  obtain ⟨nt, hnt⟩ : ∃ n, ts.length = n := ⟨_, rfl⟩
  rw [hno] at hx0
  rw [hnt] at hx1
  subst hx0 hx1
  clear n1 hv0 hv1 hno hnt
  unfold fltA
  go_wp2_with fail
  refine (CP.out _ ((HM.out.nw N1.out).nw (((Nw.refl w1).alloc _).alloc _)) _ _ (HP.out.nw (((Nw.refl w1).alloc _).alloc _))).mono ?_
  rintro z w2 ⟨y0, y1, rfl, hC, n2⟩
  have N2 := Lib.hid ((((Nw.refl w1).alloc (.cells #[.slice a0 no c0, .slice a1 nt c1] 51)).alloc (.cells #[.int .i64 0, .int .i64 0] 43)).trans n2)
  have HC := Lib.hid hC
  obtain ⟨z0, z1, ez, hv0, hv1⟩ := hC
  cases ez
  obtain ⟨b0, d0, hx0, -⟩ := hv0.len
  obtain ⟨b1, d1, hx1, -⟩ := hv1.len
  obtain ⟨mo, hmo⟩ : ∃ n, (bareC os ts).objs.length = n := ⟨_, rfl⟩
  obtain ⟨mt, hmt⟩ : ∃ n, (bareC os ts).threads.length = n := ⟨_, rfl⟩
  rw [hmo] at hx0
  rw [hmt] at hx1
  subst hx0 hx1
  have R2 := Lib.hid (N2.out.at_ R0.out)
  obtain ⟨r0, r1, rf⟩ := box2 R2.out
  have hrl := lt_of_block R2.out
  have hfr : ∀ W : World, W = w2 → CodeM ((W.setCell ⟨w.heap.size, 0, none⟩ (.slice b0 mo d0)).setCell ⟨w.heap.size, 1, none⟩ (.slice b1 mt d1)) [.slice b0 mo d0, .slice b1 mt d1] (bareC os ts) := by
    intro W hW
    have nW : Nw w2 W := by rw [hW]; exact Nw.refl w2
    have oW : Only (fun k => k = w.heap.size) W ((W.setCell ⟨w.heap.size, 0, none⟩ (.slice b0 mo d0)).setCell ⟨w.heap.size, 1, none⟩ (.slice b1 mt d1)) := Only.put (S := fun k => k = w.heap.size) (Only.put (S := fun k => k = w.heap.size) (Only.refl _) rfl _ _) rfl _ _
    have hR := nW.at_ R2.out
    refine ⟨_, _, rfl, (hv0.nw nW).off oW (fun hne g hg => (hv0.nw nW).far hR (by simp) hne g hg), ?_⟩
    have ht := (hv1.nw nW).off oW (fun hne g hg => (hv1.nw nW).far hR (by simp) hne g hg)
    rcases ht with h | ⟨g, o, cap, e9, h1, h2, hg, h3⟩
    · exact .inl h
    · refine .inr ⟨g, o, cap, e9, h1, h2, hg, fun i hi => ?_⟩
      obtain ⟨cs, a, b, r⟩ := h3 i hi
      exact ⟨cs, a, b, r.mv (by simpa using nW.size) (by simp [bareC]) (by simp [bareC])⟩
  have HFR := Lib.hid (hfr _ rfl)
  have NF := Lib.hid (Nw.put (Nw.put (N1.out.trans N2.out) (Nat.le_refl _) 0 (.slice b0 mo d0)) (Nat.le_refl _) 1 (.slice b1 mt d1))
  clear n2 hv0 hv1 hmo hmt hfr
  unfold fltA
  go_wp2_with fail
  refine bodyPost_ret (v := .agg #[.slice b0 mo d0, .slice b1 mt d1]) (by simp [results, Tryz.results5, go_sem, r0, r1, hrl, Nat.lt_succ_of_lt hrl]) rfl ⟨_, _, rfl, HFR.out.nw (((Nw.refl _).alloc _).alloc _), (NF.out.alloc _).alloc _⟩
end Go.Proofs.YtcmaedoolinijaaGreatDoor

namespace Go.Proofs.YtcmaedoolinijaaGreatDoor
open Go Go.RowKit Go.Sort
set_option maxRecDepth 100000
set_option maxHeartbeats 3200000
def soundK (d : Dcl) : Prop := ((d.kind = 1 ∨ d.kind = 2 ∨ d.kind = 6 ∨ d.kind = 7) ∧ d.n = 0) ∨ d.kind = 9
theorem cobj_ok {w : World} (v0 v1 : Value) {d : Dcl} (hd : soundK d) :
    Calls Tryz.prog 81 #[.agg #[v0, v1], .agg (dclA d)] w fun z w' => z = .returned (.bool true) ∧ Nw w w' := by
  obtain ⟨k, nm, n, o, li⟩ := d
  have N := ((Nw.refl w).alloc (.cells #[v0, v1] 25)).alloc (.cells (dclA ⟨k, nm, n, o, li⟩) 76)
  unfold dclA at N ⊢
  rcases hd with ⟨hk, hn⟩ | hk
  · simp only at hk hn
    subst hn
    rcases hk with rfl | rfl | rfl | rfl
    all_goals
      go_enter Tryz.func81, Tryz.ntmps81
      go_wp2_with fail
      go_ret
      exact ⟨rfl, N⟩
  · simp only at hk
    subst hk
    go_enter Tryz.func81, Tryz.ntmps81
    go_wp2_with fail
    go_ret
    exact ⟨rfl, N⟩
theorem CodeCk_ok {w : World} {v0 v1 : Value} {c : CodeP} (h0 : RdK 5 isDcl w v0 c.objs) (h1 : RdK 3 (isText w) w v1 c.threads) (hlo : c.objs.length ≤ 64) (hlt : c.threads.length ≤ 16) (hs : ∀ d ∈ c.objs, soundK d) (hb : ∀ t ∈ c.threads, t.locals = [] ∧ t.code = []) :
    Calls Tryz.prog 41 #[.agg #[v0, v1]] w fun z w' => z = .returned (.int .i64 0) ∧ Nw w w' := by
  obtain ⟨a0, c0, rfl, hc0, hm0, -⟩ := h0.len
  obtain ⟨a1, c1, rfl, hc1, hm1, -⟩ := h1.len
  have H0 := Lib.hid (fun (W : World) (hW : Nw w W) => h0.nw hW)
  have H1 := Lib.hid (fun (W : World) (hW : Nw w W) => h1.nw hW)
  obtain ⟨no, hno⟩ : ∃ n, c.objs.length = n := ⟨_, rfl⟩
  obtain ⟨nt, hnt⟩ : ∃ n, c.threads.length = n := ⟨_, rfl⟩
  have NO := Lib.hid hno
  have NT := Lib.hid hnt
  have HS := Lib.hid hs
  have HB := Lib.hid hb
  rw [hno] at hc0 hlo H0 ⊢
  rw [hnt] at hc1 hlt H1 ⊢
  have q1 : decide ((64 : Int) < (no : Int)) = false := by simp; omega
  have q2 : decide ((16 : Int) < (nt : Int)) = false := by simp; omega
  have PB0 := Lib.hid (heap_alloc_new w (.cells #[.slice a0 no c0, .slice a1 nt c1] 25))
  have N0 := Lib.hid ((Nw.refl w).alloc (.cells #[.slice a0 no c0, .slice a1 nt c1] 25))
  clear h0 h1 hs hb hno hnt
  go_enter Tryz.func41, Tryz.ntmps41
  go_wp2_with fail
  obtain ⟨w1, hw1⟩ : ∃ w1, w.alloc (.cells #[.slice a0 no c0, .slice a1 nt c1] 25) = w1 := ⟨_, rfl⟩
  rw [hw1] at PB0 N0 ⊢
  clear hw1 q1 q2
  go_loopw [3, 22] (fun bv v wr => ∃ k : Nat, k ≤ no ∧ v = .int .i64 k ∧ bv = .bool false ∧ Nw w1 wr) (fun _ v _ => no - (intOf v).toNat)
  case atStart => exact ⟨0, by omega, rfl, rfl, Nw.refl _⟩
  case round =>
    obtain ⟨k, hk, rfl, rfl, hw⟩ := hrel
    have HW := Lib.hid hw
    clear hw
    have PB := Lib.hid (HW.out.at_ PB0.out)
    obtain ⟨p0, p1, pf⟩ := box2 PB.out
    have hpl := lt_of_block PB.out
    by_cases hkn : k < no
    · have q : decide ((k : Int) < (no : Int)) = true := by simp; omega
      have hkl : k < c.objs.length := by have := NO.out; omega
      rcases H0.out wr (N0.out.trans HW.out) with ⟨a, -, e2⟩ | ⟨gv, ov, cap, e1, -, -, hgv, h3⟩
      · rw [e2] at NO; exact absurd NO.out (by simp; omega)
      obtain ⟨rfl, -, rfl⟩ : a0 = some ⟨gv, ov, none⟩ ∧ no = c.objs.length ∧ c0 = cap := by simpa using e1
      obtain ⟨cs, -, hc, hd, -⟩ := h3 k hkl
      obtain ⟨d, hdd⟩ : ∃ d, c.objs[k]'hkl = d := ⟨_, rfl⟩
      have hso := HS.out _ (List.getElem_mem hkl)
      rw [hdd] at hd hso
      subst hd
      have e0 := hc 0 (by simp)
      have e1' := hc 1 (by simp)
      have e2 := hc 2 (by simp)
      have e3 := hc 3 (by simp)
      have e4 := hc 4 (by simp)
      simp only [List.getElem_cons_zero, List.getElem_cons_succ, Nat.add_zero] at e0 e1' e2 e3 e4
      have hgl : gv < wr.heap.size := hgv
      have CO := Lib.hid (fun (W : World) => cobj_ok (w := W) (.slice (some ⟨gv, ov, none⟩) no c0) (.slice a1 nt c1) hso)
      unfold dclA at CO
      clear hc h3 e1 hdd hgv hso
      go_wp2_with fail
      refine (CO.out _).mono ?_
      rintro z w2 ⟨rfl, n2⟩
      have N2 := Lib.hid (HW.out.trans (((Nw.refl wr).alloc (.cells #[.int .u8 (d.kind : Int), .string ⟨d.name.toArray⟩, .int .i64 d.n, .string ⟨d.of_.toArray⟩, .int .i64 d.line] 76)).trans n2))
      clear n2 CO
      go_wp2_with fail
      refine ⟨⟨k + 1, by omega, by simp, rfl, N2.out⟩, by simp [intOf]; omega⟩
    · have q : decide ((k : Int) < (no : Int)) = false := by simp; omega
      go_wp2_with fail
      go_loopw [3, 37] (fun bv v wr => ∃ k : Nat, k ≤ nt ∧ v = .int .i64 k ∧ bv = .bool false ∧ Nw w1 wr) (fun _ v _ => nt - (intOf v).toNat)
      case atStart => exact ⟨0, by omega, rfl, rfl, HW.out⟩
      case round =>
        obtain ⟨k2, hk2, rfl, rfl, hw⟩ := hrel
        have HW2 := Lib.hid hw
        clear hw p0 p1 pf hpl
        by_cases hkn2 : k2 < nt
        · have q2 : decide ((k2 : Int) < (nt : Int)) = true := by simp; omega
          have hkl : k2 < c.threads.length := by have := NT.out; omega
          rcases H1.out wr (N0.out.trans HW2.out) with ⟨a, -, e2⟩ | ⟨gv, ov, cap, e1, -, -, hgv, h3⟩
          · rw [e2] at NT; exact absurd NT.out (by simp; omega)
          obtain ⟨rfl, -, rfl⟩ : a1 = some ⟨gv, ov, none⟩ ∧ nt = c.threads.length ∧ c1 = cap := by simpa using e1
          obtain ⟨cs, -, hc, ⟨u1, u2, hd, -, hd2, hd3⟩⟩ := h3 k2 hkl
          obtain ⟨d, hdd⟩ : ∃ d, c.threads[k2]'hkl = d := ⟨_, rfl⟩
          have hbare := HB.out _ (List.getElem_mem hkl)
          rw [hdd] at hd hd2 hd3 hbare
          rw [hbare.1] at hd2
          rw [hbare.2] at hd3
          obtain ⟨l1, l2, rfl, -⟩ := RdK.nil hd2
          obtain ⟨l3, l4, rfl, -⟩ := RdK.nil hd3
          subst hd
          have e0 := hc 0 (by simp)
          have e1' := hc 1 (by simp)
          have e2 := hc 2 (by simp)
          simp only [List.getElem_cons_zero, List.getElem_cons_succ, Nat.add_zero] at e0 e1' e2
          have hgl : gv < wr.heap.size := hgv
          clear hc h3 e1 hdd hgv hd2 hd3 hbare
          have NX := Lib.hid (HW2.out.alloc (.cells #[.string ⟨d.name.toArray⟩, .slice l1 0 l2, .slice l3 0 l4] 73))
          go_wp2_with fail
          obtain ⟨wx, hwx⟩ : ∃ wx, wr.alloc (.cells #[.string ⟨d.name.toArray⟩, .slice l1 0 l2, .slice l3 0 l4] 73) = wx := ⟨_, rfl⟩
          have z2 : Hid (wx.heap[wr.heap.size]? = some (.cells #[.string ⟨d.name.toArray⟩, .slice l1 0 l2, .slice l3 0 l4] 73 (0, 0))) := Lib.hid (by rw [← hwx]; exact heap_alloc_new wr _)
          obtain ⟨tb, htb⟩ : ∃ tb, wr.heap.size = tb := ⟨_, rfl⟩
          rw [hwx] at NX ⊢
          rw [htb] at z2 ⊢
          obtain ⟨d0, d1, d2, df⟩ := box3 z2.out
          clear hwx e0 e1' e2 hgl htb
          go_loopw [3, 8] (fun bv v wq => bv = .bool false ∧ v = .int .i64 0 ∧ wq = wx) (fun _ _ _ => 0)
          case atStart => exact ⟨rfl, rfl, rfl⟩
          case round =>
            obtain ⟨rfl, rfl, rfl⟩ := hrel
            go_wp2_with fail
            refine ⟨⟨k2 + 1, by omega, by simp, rfl, NX.out⟩, by simp [intOf]; omega⟩
        · have q2 : decide ((k2 : Int) < (nt : Int)) = false := by simp; omega
          go_wp2_with fail
          go_ret
          exact ⟨rfl, N0.out.trans HW2.out⟩
end Go.Proofs.YtcmaedoolinijaaGreatDoor
