/-
  Texts merged by a program of this claim's: ChkG.
-/
import Derived.Test.YtcmaedoolinijaaGreatDoorM21
import Derived.Test.YtcmaedoolinijaaGreatDoorM7
import Derived.Deep.DeepCutAuto
namespace Go.Proofs.YtcmaedoolinijaaGreatDoor
open Go Go.RowKit Go.Sort
set_option maxRecDepth 100000
set_option maxHeartbeats 3200000
theorem isNought.ex {w : World} {cs : List Value} (h : isNought cs ()) : ExM w nought cs := by
  obtain ⟨v, rfl, a, rfl⟩ := h
  exact ExM.mk_iff.2 ⟨_, rfl, by omega, by simp, by omega, .inl ⟨a, rfl, rfl⟩⟩
theorem isFs.st {w : World} {cs : List Value} {s : Fs} (h : isFs w cs s) : StM w (stOf s) cs := by
  obtain ⟨v1, v2, v3, rfl, h2, h3, h4, h5, h6, ⟨a2, rfl⟩, ⟨a3, rfl⟩⟩ := h
  refine StM.mk_iff.2 ⟨v1, _, _, rfl, by omega, h2, h3, h4, ⟨by omega, by omega⟩, h5, by simp, ?_, .inl ⟨a2, rfl, rfl⟩, .inl ⟨a3, rfl, rfl⟩⟩
  rcases h6 with ⟨a, rfl, h6⟩ | ⟨g, o, cap, rfl, k1, k2, hg, k3⟩
  · have e : s.nargs = 0 := by cases hn : s.nargs with | zero => rfl | succ n => rw [hn] at h6; cases h6
    exact .inl ⟨a, rfl, by rw [e]; rfl⟩
  · refine .inr ⟨g, o, cap, by simp, by simpa using k1, k2, hg, fun i hi => ?_⟩
    obtain ⟨cs, a, b, c⟩ := k3 i (by simpa using hi)
    exact ⟨cs, a, b, by rw [List.getElem_replicate]; exact isNought.ex c⟩
theorem RdK.map {α β : Type} {k : Nat} {R : List Value → α → Prop} {R' : List Value → β → Prop} {w : World} {v : Value} {l : List α} (f : α → β) (h : RdK k R w v l) (hR : ∀ cs x, R cs x → R' cs (f x)) : RdK k R' w v (l.map f) := by
  rcases h with ⟨a, rfl, rfl⟩ | ⟨g, o, cap, rfl, h1, h2, hg, h3⟩
  · exact .inl ⟨a, rfl, rfl⟩
  · refine .inr ⟨g, o, cap, by simp, by simpa using h1, h2, hg, fun i hi => ?_⟩
    obtain ⟨cs, a, b, r⟩ := h3 i (by simpa using hi)
    exact ⟨cs, a, b, by rw [List.getElem_map]; exact hR _ _ r⟩
theorem isThr.g {w : World} {cs : List Value} {t : Thr} (h : isThr w cs t) : isThrG w cs (thrOf t) := by
  obtain ⟨v, h1, h2, h3, h4⟩ := h
  exact ⟨v, h1, h2, h3, RdK.map stOf h4 (fun _ _ h => h.st)⟩
theorem RightF_ok {w : World} (hM : Mx w) {v0 v1 : Value} {os : List Dcl} {ts : List Thr} (h0 : RdK 5 isDcl w v0 os) (h1 : RdK 3 (isThr w) w v1 ts) :
    Calls Tryz.prog 72 #[.agg #[v0, v1]] w fun z w' => z = .returned (.bool (rightB true os ts)) ∧ Nw w w' := by
  have := RightG_ok hM h0 (RdK.map thrOf h1 (fun _ _ h => h.g))
  rw [rightG_flat] at this
  exact this
theorem walkS_cnt (ask : Bool) : ∀ (l : List Fs) (n : Nat), (walkS ask (n, false) l).2 = false → n + l.length ≤ (walkS ask (n, false) l).1
  | [], n, _ => by simp [walkS]
  | s :: l, n, h => by
    rw [walkS] at h ⊢
    simp only [Bool.false_or] at h ⊢
    by_cases c : (decide (n + 1 > 1000) || ask && !shapeB s) = true
    · rw [if_pos c] at h; cases h
    · rw [if_neg c] at h ⊢
      by_cases c2 : n + 1 + s.nargs > 1000
      · rw [if_pos c2] at h; cases h
      · rw [if_neg c2] at h ⊢
        have := walkS_cnt ask l _ h
        simp only [List.length_cons]
        omega
theorem walkT_cnt (ask : Bool) : ∀ (ts : List Thr) (n : Nat), n ≤ 1000 → (walkT ask (n, false) ts).2 = false → ∀ t ∈ ts, t.body.length ≤ 1000
  | [], n, _, _ => by simp
  | t :: l, n, hn, h => by
    rw [walkT] at h
    simp only [Bool.false_or] at h
    by_cases c : (ask && !nameB t.name) = true
    · rw [if_pos c, walkT_true] at h; cases h
    · rw [if_neg c] at h
      cases hb : (walkS ask (n, false) t.body).2 with
      | true =>
        generalize walkS ask (n, false) t.body = r at hb h
        obtain ⟨a, b⟩ := r
        obtain rfl : b = true := hb
        rw [walkT_true] at h; cases h
      | false =>
        have h1 := walkS_cnt ask _ _ hb
        have h2 := walkS_le ask _ _ hn hb
        generalize walkS ask (n, false) t.body = r at hb h h1 h2
        obtain ⟨a, b⟩ := r
        obtain rfl : b = false := hb
        intro x hx
        rcases List.mem_cons.1 hx with rfl | hx
        · simp only at h1 h2; omega
        · exact walkT_cnt ask l a h2 h x hx
theorem rightB_len {os : List Dcl} {ts : List Thr} (h : rightB true os ts = true) : ∀ t ∈ ts, t.body.length ≤ 1000 := by
  unfold rightB at h
  simp only [Bool.not_eq_true'] at h
  cases hb : (decide (os.length > 64) || decide (ts.length > 16) || os.any fun d => true && !objectB d) with
  | true => rw [hb, walkT_true] at h; cases h
  | false => rw [hb] at h; exact walkT_cnt true ts 0 (by omega) h
structure CkF (w wr : World) (g m : Nat) (os : List Dcl) (lv v0 v1 : Value) : Prop where
  nw : Nw w wr
  pb : wr.heap[w.heap.size]? = some (.cells #[v0, v1] 51 (0, 0))
  rs : wr.heap[w.heap.size + 1]? = some (.cells (fltA 0 0) 43 (0, 0))
  kn : wr.heap[g]? = some (.cells #[.map (some m), lv] 151 (0, 0))
  mp : KindM wr m os
  lt : w.heap.size + 1 < m
  mg : m < g
theorem CkF.on {w wr w' : World} {g m : Nat} {os : List Dcl} {lv v0 v1 : Value} (h : CkF w wr g m os lv v0 v1) (ho : Nw wr w') : CkF w w' g m os lv v0 v1 :=
  ⟨h.nw.trans ho, ho.at_ h.pb, ho.at_ h.rs, ho.at_ h.kn, h.mp.nw ho, h.lt, h.mg⟩
theorem CkF.off {w wr w' : World} {g m x : Nat} {os : List Dcl} {lv v0 v1 : Value} (h : CkF w wr g m os lv v0 v1) (ho : Only (fun k => k = x) wr w') (hx : g < x) : CkF w w' g m os lv v0 v1 :=
  ⟨h.nw.trans' ho (fun k hk e => absurd hk (by have := h.lt; have := h.mg; omega)), ho.at_ h.pb (by have := h.lt; have := h.mg; omega), ho.at_ h.rs (by have := h.lt; have := h.mg; omega), ho.at_ h.kn (by omega), h.mp.off ho (by have := h.mg; omega), h.lt, h.mg⟩
theorem CkF.put {w wr w' : World} {g m : Nat} {os os' : List Dcl} {lv v0 v1 : Value} (h : CkF w wr g m os lv v0 v1) (ho : Only (fun k => k = m) wr w') (hm : KindM w' m os') : CkF w w' g m os' lv v0 v1 :=
  ⟨h.nw.trans' ho (fun k hk e => absurd hk (by have := h.lt; omega)), ho.at_ h.pb (by have := h.lt; omega), ho.at_ h.rs (by have := h.lt; omega), ho.at_ h.kn (by have := h.mg; omega), hm, h.lt, h.mg⟩
theorem CkF.loc {w wr : World} {g m : Nat} {os : List Dcl} {lv v0 v1 : Value} (h : CkF w wr g m os lv v0 v1) (v : Value) : CkF w (wr.setCell ⟨g, 1, none⟩ v) g m os v v0 v1 where
  nw := Nw.put h.nw (by have := h.lt; have := h.mg; omega) _ _
  pb := by rw [heap_setCell_other _ _ _ _ (by have := h.lt; have := h.mg; simp; omega)]; exact h.pb
  rs := by rw [heap_setCell_other _ _ _ _ (by have := h.lt; have := h.mg; simp; omega)]; exact h.rs
  kn := by have := heap_put (i := 1) h.kn v; simpa using this
  mp := h.mp.at_ (by rw [heap_setCell_other _ _ _ _ (by have := h.mg; simp; omega)])
  lt := h.lt
  mg := h.mg
theorem CkF.ret {w wr : World} {g m : Nat} {os : List Dcl} {lv v0 v1 : Value} (h : CkF w wr g m os lv v0 v1) (x y : Value) : Nw w ((wr.setCell ⟨w.heap.size + 1, 0, none⟩ x).setCell ⟨w.heap.size + 1, 1, none⟩ y) :=
  Nw.put (Nw.put h.nw (by omega) _ _) (by omega) _ _
theorem RdK.offBox {α : Type} {k : Nat} {R R' : List Value → α → Prop} {ml : Nat} {w w' : World} {v : Value} {l : List α} (h : RdK k R w v l) (ho : Only (fun j => j = ml) w w') {A : Array Value} {t : TypeId} {fr : Nat × Nat} (hm : w.heap[ml]? = some (.cells A t fr)) (hA : A.size < k) (hk : 0 < k) (hR : ∀ cs x, R cs x → R' cs x) : RdK k R' w' v l := by
  rcases h with h | ⟨g, o, cap, rfl, h1, h2, hg, h3⟩
  · exact .inl h
  · refine .inr ⟨g, o, cap, rfl, h1, h2, Nat.lt_of_lt_of_le hg ho.size, fun i hi => ?_⟩
    obtain ⟨cs, hl, hc, hr⟩ := h3 i hi
    refine ⟨cs, hl, fun j hj => ho.cell (hc j hj) (fun e => ?_), hR _ _ hr⟩
    have := hc (k - 1) (by omega)
    simp only at e
    rw [e, cell_of_row _ _ _ _ _ _ hm] at this
    have hlt := (Array.getElem?_eq_some_iff.1 this).1
    omega
theorem isFs.offBox {ml : Nat} {w w' : World} {cs : List Value} {s : Fs} (h : isFs w cs s) (ho : Only (fun j => j = ml) w w') {A : Array Value} {t : TypeId} {fr : Nat × Nat} (hm : w.heap[ml]? = some (.cells A t fr)) (hA : A.size < 4) : isFs w' cs s := by
  obtain ⟨v1, v2, v3, h1, h2, h3, h4, h5, h6, h7⟩ := h
  exact ⟨v1, v2, v3, h1, h2, h3, h4, h5, h6.offBox ho hm hA (by omega) (fun _ _ h => h), h7⟩
theorem CheckF_ok {w : World} (hM : Mx w) {v0 v1 : Value} {os : List Dcl} {ts : List Thr} (h0 : RdK 5 isDcl w v0 os) (h1 : RdK 3 (isThr w) w v1 ts) :
    Calls Tryz.prog 38 #[.agg #[v0, v1]] w fun z w' => z = .returned (.agg (fltA (checkF os ts).1 (checkF os ts).2)) ∧ Nw w w' := by
  obtain ⟨a0, c0, rfl, hc0, hm0, -⟩ := h0.len
  obtain ⟨a1, c1, rfl, hc1, hm1, -⟩ := h1.len
  have hm0' : c0 ≤ 9223372036854775807 := by unfold maxLen at hm0; omega
  have hm1' : c1 ≤ 9223372036854775807 := by unfold maxLen at hm1; omega
  have H0 := Lib.hid (fun (W : World) (hW : Nw w W) => h0.nw hW)
  have H1 := Lib.hid (fun (W : World) (hW : Nw w W) => h1.nwR hW (fun _ _ h => h.nw hW))
  obtain ⟨rg, hrg⟩ : ∃ b, rightB true os ts = b := ⟨_, rfl⟩
  have RT := Lib.hid (fun (W : World) (hW : Nw w W) => by have := RightF_ok (hM.nw hW) (h0.nw hW) (h1.nwR hW (fun _ _ h => h.nw hW)); rw [hrg] at this; exact this)
  obtain ⟨no, hnoo⟩ : ∃ n, os.length = n := ⟨_, rfl⟩
  obtain ⟨nt, hntt⟩ : ∃ n, ts.length = n := ⟨_, rfl⟩
  have NO := Lib.hid hnoo
  have NT := Lib.hid hntt
  have RG := Lib.hid hrg
  obtain ⟨rr, hrr⟩ : ∃ r, checkF os ts = r := ⟨_, rfl⟩
  have RR := Lib.hid hrr
  rw [hrr]
  rw [hnoo] at hc0 RT H0 ⊢
  rw [hntt] at hc1 RT H1 ⊢
  have TB := Lib.hid (two_blk w #[.slice a0 no c0, .slice a1 nt c1] (fltA 0 0) 51 43)
  clear h0 h1 hnoo hntt hrr hrg
  go_enter Tryz.func38, Tryz.ntmps38
  go_wp2_with fail
  refine (RT.out _ TB.out.1).mono ?_
  rintro z w1 ⟨rfl, n1⟩
  have N1 := Lib.hid (TB.out.1.trans n1)
  have PB := Lib.hid (n1.at_ TB.out.2.1)
  have RS := Lib.hid (n1.at_ TB.out.2.2)
  clear n1
  cases rg with
  | false =>
    have hrr := RR.out
    unfold checkF at hrr
    rw [if_pos RG.out] at hrr
    subst hrr
    obtain ⟨r0, r1⟩ := box2c RS.out (.int .i64 103) (.int .i64 0)
    obtain ⟨s0, s1, sf⟩ := box2 RS.out
    have hrl := lt_of_block RS.out
    go_wp2_with fail
    refine bodyPost_ret (v := .agg (fltA 103 0)) (by simp [results, Tryz.results38, go_sem, r0, r1, fltA]) rfl ⟨rfl, ?_⟩
    exact Nw.put (Nw.put N1.out (by omega) _ _) (by omega) _ _
  | true =>
  have hrr := RR.out
  unfold checkF at hrr
  rw [if_neg (by rw [RG.out]; simp)] at hrr
  have RR2 := Lib.hid hrr
  have BL := Lib.hid (rightB_len RG.out)
  clear hrr RR
  obtain ⟨p0, p1, pf⟩ := box2 PB.out
  have hpl := lt_of_block PB.out
  have hmm := @run_makeMap Tryz.prog
  go_wp2_with fail
  obtain ⟨m, hm⟩ : ∃ m, w1.heap.size = m := ⟨_, rfl⟩
  obtain ⟨g, hg⟩ : ∃ g, m + 1 = g := ⟨_, rfl⟩
  obtain ⟨w2, hw2⟩ : ∃ w2, (w1.alloc (.map #[] 0)).alloc (.cells #[.map (some m), .map none] 151) = w2 := ⟨_, rfl⟩
  have CB : Hid (CkF w w2 g m [] (.map none) (.slice a0 no c0) (.slice a1 nt c1)) := Lib.hid (by
    have hn : Nw w1 w2 := by rw [← hw2]; exact ((Nw.refl w1).alloc _).alloc _
    have := N1.out.size
    refine ⟨N1.out.trans hn, hn.at_ PB.out, hn.at_ RS.out, ?_, ⟨[], 0, ?_, fun s => .inl ⟨rfl, by simp⟩⟩, by have := lt_of_block RS.out; omega, by omega⟩
    · rw [← hw2, ← hg, ← hm]
      have := heap_alloc_new (w1.alloc (.map #[] 0)) (.cells #[.map (some w1.heap.size), .map none] 151)
      simpa using this
    · rw [← hw2, heap_alloc_old _ _ (by simp; omega), ← hm]
      exact heap_alloc_new w1 _)
  rw [hm, hg, hw2]
  clear hw2 hm PB RS p0 p1 pf hpl N1 TB
  go_loopw [21] (fun v wr => ∃ (k : Nat), k ≤ no ∧ v = .int .i64 k ∧ declsE [] os = declsE (os.take k) (os.drop k) ∧ CkF w wr g m (os.take k) (.map none) (.slice a0 no c0) (.slice a1 nt c1)) (fun v _ => no - (intOf v).toNat)
  case atStart => exact ⟨0, by omega, rfl, by simp, by simpa using CB.out⟩
  case round =>
    obtain ⟨k, hk, rfl, hL, hC⟩ := hrel
    have HC := Lib.hid hC
    have HL := Lib.hid hL
    clear hC hL CB
    by_cases hkn : k < no
    · have q : decide ((k : Int) < (no : Int)) = true := by simp; omega
      have hkl : k < os.length := by have := NO.out; omega
      rcases H0.out wr HC.out.nw with ⟨a, -, e2⟩ | ⟨gv, ov, cap, e1, -, -, hgv, h3⟩
      · rw [e2] at NO; exact absurd NO.out (by simp; omega)
      obtain ⟨rfl, -, rfl⟩ : a0 = some ⟨gv, ov, none⟩ ∧ no = os.length ∧ c0 = cap := by simpa using e1
      obtain ⟨cs, -, hc, hd, hd1, hd2, hd4, hd3, -⟩ := h3 k hkl
      obtain ⟨d, hdd⟩ : ∃ d, os[k]'hkl = d := ⟨_, rfl⟩
      have hst : declsE [] os = if declE (os.take k) d = 0 then declsE (os.take (k + 1)) (os.drop (k + 1)) else (declE (os.take k) d, d.line) := by
        rw [HL.out, List.drop_eq_getElem_cons hkl, hdd, declsE, List.take_succ_eq_append_getElem hkl, hdd]
      have htk : os.take (k + 1) = os.take k ++ [d] := by rw [List.take_succ_eq_append_getElem hkl, hdd]
      rw [hdd] at hd hd1 hd2 hd3 hd4
      subst hd
      have e0 := hc 0 (by simp)
      have e1' := hc 1 (by simp)
      have e2 := hc 2 (by simp)
      have e3 := hc 3 (by simp)
      have e4 := hc 4 (by simp)
      simp only [List.getElem_cons_zero, List.getElem_cons_succ, Nat.add_zero] at e0 e1' e2 e3 e4
      have hgl : gv < wr.heap.size := hgv
      have HD4 := Lib.hid hd4
      have HST := Lib.hid hst
      have HTK := Lib.hid htk
      clear hc h3 e1 hdd hgv hd4 hst htk hd1 hd2 hd3 HL
      go_upto_region 7 with fail
      obtain ⟨wd, hwd⟩ : ∃ wd, wr.alloc (.cells (dclA d) 76) = wd := ⟨_, rfl⟩
      have CD : Hid (CkF w wd g m (os.take k) (.map none) (.slice (some ⟨gv, ov, none⟩) no c0) (.slice a1 nt c1)) := Lib.hid (by rw [← hwd]; exact HC.out.on ((Nw.refl wr).alloc _))
      have DB : Hid (wd.heap[wr.heap.size]? = some (.cells (dclA d) 76 (0, 0))) := Lib.hid (by rw [← hwd]; exact heap_alloc_new wr _)
      unfold dclA at hwd
      rw [hwd]
      clear hwd e0 e1' e2 e3 e4
      obtain ⟨d0, d1, d2, d3, d4, df⟩ := box5 DB.out
      obtain ⟨e, he⟩ : ∃ e, declE (os.take k) d = e := ⟨_, rfl⟩
      have KO := Lib.hid (kobjG_ok CD.out.kn CD.out.mp HD4.out)
      rw [he] at KO HST
      have HE := Lib.hid he
      unfold dclA at KO
      clear he
      go_wp2_with fail
      refine KO.out.mono ?_
      rintro z w4 ⟨rfl, n4⟩
      have C4 := Lib.hid (CD.out.on n4)
      have D4 := Lib.hid (n4.at_ DB.out)
      clear n4 KO d0 d1 d2 d3 d4 df CD
      obtain ⟨d0, d1, d2, d3, d4, df⟩ := box5 D4.out
      obtain ⟨k0, k1, kf⟩ := box2 C4.out.kn
      by_cases c0e : e = 0
      · have q0 : (e != 0) = false := by simp [c0e]
        have hst := HST.out
        rw [if_pos c0e] at hst
        have HS2 := Lib.hid hst
        have hkind : kindOf (os.take k) d.name = none := by
          have h := HE.out
          rw [c0e] at h
          unfold declE at h
          cases hk : kindOf (os.take k) d.name with
          | none => rfl
          | some x => rw [hk] at h; simp at h
        obtain ⟨w5, hup, M5, O5⟩ := (C4.out.mp.nw ((Nw.refl w4).drew)).put hkind
        rw [← HTK.out] at M5
        have C5 := Lib.hid ((C4.out.on ((Nw.refl w4).drew)).put O5 M5)
        clear hst HST hkind M5 O5 HE c0e
        go_wp2_with fail
        go_region
        go_wp2_with fail
        refine ⟨⟨k + 1, by omega, by simp, HS2.out, C5.out⟩, by simp [intOf]; omega⟩
      · have q0 : (e != 0) = true := by simp [c0e]
        have hst := HST.out
        rw [if_neg c0e] at hst
        have hrr := RR2.out
        rw [if_pos (by rw [hst]; exact c0e), hst] at hrr
        subst hrr
        obtain ⟨r0, r1⟩ := box2c C4.out.rs (.int .i64 e) (.int .i64 d.line)
        obtain ⟨s0, s1, sf⟩ := box2 C4.out.rs
        have hrl := lt_of_block C4.out.rs
        clear hst HST c0e
        go_wp2_with fail
        refine bodyPost_ret (v := .agg (fltA e d.line)) (by simp [results, Tryz.results38, go_sem, r0, r1, fltA]) rfl ⟨rfl, ?_⟩
        exact C4.out.ret _ _
    · have q : decide ((k : Int) < (no : Int)) = false := by simp; omega
      have hall : os.take k = os := List.take_of_length_le (by have := NO.out; omega)
      have hL := HL.out
      rw [List.drop_of_length_le (by have := NO.out; omega), declsE] at hL
      have hrr := RR2.out
      rw [if_neg (by rw [hL]; simp)] at hrr
      have RR3 := Lib.hid hrr
      have HC1 := HC.out
      rw [hall] at HC1
      have HC := Lib.hid HC1
      obtain ⟨p0, p1, pf⟩ := box2 HC.out.pb
      have hmm := @run_makeMap Tryz.prog
      have hpl := lt_of_block HC.out.pb
      clear hall hL hrr RR2 HL HC1
      go_wp2_with fail
      clear hmm p0 p1 pf hpl
      obtain ⟨sb, hsb⟩ : ∃ sb, wr.heap.size = sb := ⟨_, rfl⟩
      obtain ⟨wq, hwq⟩ : ∃ wq, wr.alloc (.map #[] 0) = wq := ⟨_, rfl⟩
      have CT : Hid (CkF w wq g m os (.map none) (.slice a0 no c0) (.slice a1 nt c1)) := Lib.hid (by rw [← hwq]; exact HC.out.on ((Nw.refl wr).alloc _))
      have ST : Hid (LocM wq sb []) := Lib.hid (by rw [← hwq, ← hsb]; exact ⟨[], 0, heap_alloc_new wr _, rfl, by simp⟩)
      have hgs : g < sb := by have := lt_of_block HC.out.kn; omega
      have HGS := Lib.hid hgs
      rw [hsb, hwq]
      clear hwq hsb HC hgs
      go_loopw [47] (fun v wr => ∃ (k : Nat) (S seen : List (List UInt8)) (lo : Option Nat), k ≤ nt ∧ v = .int .i64 k ∧ (∀ s, s ∈ S ↔ s ∈ seen) ∧ threadsE os [] ts = threadsE os seen (ts.drop k) ∧ LocM wr sb S ∧ CkF w wr g m os (.map lo) (.slice a0 no c0) (.slice a1 nt c1)) (fun v _ => nt - (intOf v).toNat)
      case atStart => exact ⟨0, [], [], none, by omega, rfl, by simp, rfl, ST.out, CT.out⟩
      case round =>
        obtain ⟨k, S, seen, lo, hk, rfl, hmem, hth, hS, hC⟩ := hrel
        have HC := Lib.hid hC
        have HS := Lib.hid hS
        have HME := Lib.hid hmem
        have HTH := Lib.hid hth
        clear hC hS CT ST hmem hth
        by_cases hkn : k < nt
        · have q : decide ((k : Int) < (nt : Int)) = true := by simp; omega
          have hkl : k < ts.length := by have := NT.out; omega
          rcases H1.out wr HC.out.nw with ⟨a, -, e2⟩ | ⟨gv, ov, cap, e1, -, -, hgv, h3⟩
          · rw [e2] at NT; exact absurd NT.out (by simp; omega)
          obtain ⟨rfl, -, rfl⟩ : a1 = some ⟨gv, ov, none⟩ ∧ nt = ts.length ∧ c1 = cap := by simpa using e1
          obtain ⟨cs, -, hc, ⟨bv, hd, hd1, -, hd2⟩⟩ := h3 k hkl
          obtain ⟨d, hdd⟩ : ∃ d, ts[k]'hkl = d := ⟨_, rfl⟩
          have hble := BL.out _ (List.getElem_mem hkl)
          have hst : threadsE os [] ts = if d.name ∈ seen then (112, d.line) else if (bodyE os [] d.body).1 ≠ 0 then bodyE os [] d.body else if lenF d.body > 15000 then (113, d.line) else threadsE os (d.name :: seen) (ts.drop (k + 1)) := by
            rw [HTH.out, List.drop_eq_getElem_cons hkl, hdd, threadsE]
            rfl
          rw [hdd] at hd hd1 hd2 hble
          obtain ⟨ba, bc, rfl, -⟩ := hd2.len
          subst hd
          have e0 := hc 0 (by simp)
          have e1' := hc 1 (by simp)
          have e2 := hc 2 (by simp)
          simp only [List.getElem_cons_zero, List.getElem_cons_succ, Nat.add_zero] at e0 e1' e2
          have hgl : gv < wr.heap.size := hgv
          have HST := Lib.hid hst
          have HBL := Lib.hid hble
          obtain ⟨nb, hnb⟩ : ∃ n, d.body.length = n := ⟨_, rfl⟩
          have HBO := Lib.hid hd2
          rw [hnb] at e1' HBO
          clear hc h3 e1 hdd hgv hd1 hd2 hst hble hnb HTH
          go_upto_region 16 with fail
          obtain ⟨wd, hwd⟩ : ∃ wd, wr.alloc (.cells #[.string ⟨d.name.toArray⟩, .slice ba nb bc, .int .i64 d.line] 93) = wd := ⟨_, rfl⟩
          obtain ⟨tb, htb⟩ : ∃ tb, wr.heap.size = tb := ⟨_, rfl⟩
          have ND : Nw wr wd := by rw [← hwd]; exact (Nw.refl wr).alloc _
          have CD := Lib.hid (HC.out.on ND)
          have SD := Lib.hid (HS.out.nw ND)
          have BD := Lib.hid (HBO.out.nwR ND (fun _ _ h => h.nw ND))
          have DB : Hid (wd.heap[tb]? = some (.cells #[.string ⟨d.name.toArray⟩, .slice ba nb bc, .int .i64 d.line] 93 (0, 0))) := Lib.hid (by rw [← hwd, ← htb]; exact heap_alloc_new wr _)
          have hst : sb < tb := by rw [← htb]; exact HS.out.lt
          have HSTB := Lib.hid hst
          rw [hwd, htb]
          clear hwd e0 e1' e2 htb hgl ND hst HC HS HBO
          have hlk := SD.out.look d.name
          obtain ⟨d0, d1, d2, df⟩ := box3 DB.out
          by_cases cn : d.name ∈ S
          · rw [if_pos cn] at hlk
            have hst := HST.out
            rw [if_pos ((HME.out _).1 cn)] at hst
            have hrr := RR3.out
            rw [hst] at hrr
            subst hrr
            obtain ⟨r0, r1⟩ := box2c CD.out.rs (.int .i64 112) (.int .i64 d.line)
            obtain ⟨s0, s1, sf⟩ := box2 CD.out.rs
            have hrl := lt_of_block CD.out.rs
            clear hst HST cn
            go_wp2_with fail
            refine bodyPost_ret (v := .agg (fltA 112 d.line)) (by simp [results, Tryz.results38, go_sem, r0, r1, fltA]) rfl ⟨rfl, ?_⟩
            exact CD.out.ret _ _
          · rw [if_neg cn] at hlk
            have hst := HST.out
            rw [if_neg (fun h => cn ((HME.out _).2 h))] at hst
            have HST2 := Lib.hid hst
            obtain ⟨wu, hup, SU, OU⟩ := SD.out.put d.name
            have CU := Lib.hid (CD.out.off OU HGS.out)
            have DU := Lib.hid (OU.at_ DB.out (by have := HSTB.out; omega))
            have BU := Lib.hid (by
              obtain ⟨L, c, h1, -⟩ := SD.out
              exact RdK.offMap BD.out OU h1 (by omega) (fun _ _ h => isFs.offMap h OU h1))
            have HSU := Lib.hid SU
            have HM2 : Hid (∀ s, s ∈ locPut S d.name ↔ s ∈ d.name :: seen) := Lib.hid (fun s => by
              unfold locPut
              rw [if_neg cn, List.mem_append, HME.out s]
              simp [or_comm])
            clear hst HST cn SU OU
            go_upto_region 19 with fail
            clear hlk hup d0 d1 d2 df DB CD SD BD HME
            obtain ⟨k0, k1, kf⟩ := box2 CU.out.kn
            obtain ⟨d0, d1, d2, df⟩ := box3 DU.out
            have hgl := lt_of_block CU.out.kn
            have htl := lt_of_block DU.out
            have hgt : ¬ g = tb := by have := HGS.out; have := HSTB.out; omega
            have hgt' : ¬ tb = g := by omega
            have hmm := @run_makeMap Tryz.prog
            go_upto_region 20 with fail
            clear hmm
            obtain ⟨ml, hml⟩ : ∃ ml, wu.heap.size = ml := ⟨_, rfl⟩
            obtain ⟨wv, hwv⟩ : ∃ wv, (wu.setCell ⟨g, 1, none⟩ (.map (some ml))).alloc (.map #[] 0) = wv := ⟨_, rfl⟩
            have OV : Only (fun k => k = g) wu wv := by rw [← hwv]; exact (Only.put (S := fun k => k = g) (b := g) (Only.refl wu) rfl 1 (.map (some ml))).trans ((Nw.refl _).alloc _).only
            have CV : Hid (CkF w wv g m os (.map (some ml)) (.slice a0 no c0) (.slice (some ⟨gv, ov, none⟩) nt c1)) := Lib.hid (by rw [← hwv]; exact (CU.out.loc (.map (some ml))).on ((Nw.refl _).alloc (.map #[] 0)))
            have DV := Lib.hid (OV.at_ DU.out hgt')
            have SV := Lib.hid (HSU.out.off OV (by have := HGS.out; omega))
            have LV : Hid (LocM wv ml []) := Lib.hid (by
              refine ⟨[], 0, ?_, rfl, by simp⟩
              rw [← hwv]
              have := heap_alloc_new (wu.setCell ⟨g, 1, none⟩ (.map (some ml))) (.map #[] 0)
              rw [← hml] at this ⊢
              simpa [ents] using this)
            have BV : Hid (RdK 9 (isFs wv) wv (.slice ba nb bc) d.body) := Lib.hid (by
              refine RdK.offBox BU.out OV CU.out.kn (by simp) (by omega) (fun _ _ h => isFs.offBox h OV CU.out.kn (by simp)))
            have HMLS : Hid (sb < ml) := Lib.hid (by have := HSU.out.lt; omega)
            have HMLT : Hid (tb < ml) := Lib.hid (by omega)
            clear OV
            (try rw [hml]); (try rw [hwv])
            clear hwv hml k0 k1 kf d0 d1 d2 df DU CU BU HSU
            obtain ⟨d0, d1, d2, df⟩ := box3 DV.out
            have htl := lt_of_block DV.out
            obtain ⟨be, hbe⟩ : ∃ be, bodyE os [] d.body = be := ⟨_, rfl⟩
            have SF := Lib.hid (stmts_flat CV.out.kn CV.out.mp LV.out (by have := CV.out.mg; have := HGS.out; have := HMLS.out; omega) BV.out (by simp))
            rw [hbe] at SF HST2
            clear hbe
            go_wp2_with fail
            refine SF.out.mono ?_
            rintro z w9 ⟨rfl, o9⟩
            have C9 := Lib.hid (CV.out.off o9 (by have := HGS.out; have := HMLS.out; omega))
            have D9 := Lib.hid (o9.at_ DV.out (by have := HMLT.out; omega))
            have S9 := Lib.hid (SV.out.off o9 (by have := HMLS.out; omega))
            have B9 := Lib.hid (by
              obtain ⟨L, c, h1, -⟩ := LV.out
              exact RdK.offMap BV.out o9 h1 (by omega) (fun _ _ h => isFs.offMap h o9 h1))
            clear o9 CV DV d0 d1 d2 df SF SV BV
            obtain ⟨d0, d1, d2, df⟩ := box3 D9.out
            have htl := lt_of_block D9.out
            unfold fltA
            obtain ⟨b1, b2⟩ := be
            simp only at HST2 ⊢
            go_upto_region 21 with fail
            obtain ⟨wf, hwf⟩ : ∃ wf, w9.alloc (.cells #[.int .i64 b1, .int .i64 b2] 43) = wf := ⟨_, rfl⟩
            obtain ⟨fb, hfb⟩ : ∃ fb, w9.heap.size = fb := ⟨_, rfl⟩
            have NF : Nw w9 wf := by rw [← hwf]; exact (Nw.refl w9).alloc _
            have CF := Lib.hid (C9.out.on NF)
            have SF := Lib.hid (S9.out.nw NF)
            have DF := Lib.hid (NF.at_ D9.out)
            have LF := Lib.hid (long_flat (B9.out.nwR NF (fun _ _ h => h.nw NF)) HBL.out)
            have FB : Hid (wf.heap[fb]? = some (.cells #[.int .i64 b1, .int .i64 b2] 43 (0, 0))) := Lib.hid (by rw [← hwf, ← hfb]; exact heap_alloc_new w9 _)
            rw [hwf, hfb]
            clear hwf hfb d0 d1 d2 df D9 NF C9 S9 B9 htl
            obtain ⟨f0, f1, ff⟩ := box2 FB.out
            obtain ⟨d0, d1, d2, df⟩ := box3 DF.out
            have htl := lt_of_block DF.out
            by_cases cb : b1 = 0
            · have qb : (b1 != 0) = false := by simp [cb]
              have hst := HST2.out
              rw [if_neg (by simp [cb])] at hst
              have HST3 := Lib.hid hst
              clear hst HST2 cb
              obtain ⟨ln, hln⟩ : ∃ ln, lenF d.body = ln := ⟨_, rfl⟩
              rw [hln] at LF HST3
              clear hln
              go_wp2_with fail
              refine LF.out.mono ?_
              rintro z w10 ⟨rfl, n10⟩
              have C10 := Lib.hid (CF.out.on n10)
              have S10 := Lib.hid (SF.out.nw n10)
              have D10 := Lib.hid (n10.at_ DF.out)
              clear n10 CF SF DF d0 d1 d2 df LF f0 f1 ff
              obtain ⟨d0, d1, d2, df⟩ := box3 D10.out
              by_cases cl : ln > 15000
              · have ql : decide ((15000 : Int) < (ln : Int)) = true := by simp; omega
                have hst := HST3.out
                rw [if_pos cl] at hst
                have hrr := RR3.out
                rw [hst] at hrr
                subst hrr
                obtain ⟨r0, r1⟩ := box2c C10.out.rs (.int .i64 113) (.int .i64 d.line)
                obtain ⟨s0, s1, sf⟩ := box2 C10.out.rs
                have hrl := lt_of_block C10.out.rs
                clear hst HST3 cl
                go_wp2_with fail
                refine bodyPost_ret (v := .agg (fltA 113 d.line)) (by simp [results, Tryz.results38, go_sem, r0, r1, fltA]) rfl ⟨rfl, ?_⟩
                exact C10.out.ret _ _
              · have ql : decide ((15000 : Int) < (ln : Int)) = false := by simp; omega
                have hst := HST3.out
                rw [if_neg cl] at hst
                have HST4 := Lib.hid hst
                clear hst HST3 cl
                go_wp2_with fail
                exact ⟨⟨k + 1, _, d.name :: seen, some ml, by omega, by simp, HM2.out, HST4.out, S10.out, C10.out⟩, by simp [intOf]; omega⟩
            · have qb : (b1 != 0) = true := by simp [cb]
              have hst := HST2.out
              rw [if_pos (by simp [cb])] at hst
              have hrr := RR3.out
              rw [hst] at hrr
              subst hrr
              clear hst HST2 cb
              obtain ⟨r0, r1⟩ := box2c CF.out.rs (.int .i64 b1) (.int .i64 b2)
              obtain ⟨s0, s1, sf⟩ := box2 CF.out.rs
              have hrl := lt_of_block CF.out.rs
              go_wp2_with fail
              refine bodyPost_ret (v := .agg (fltA b1 b2)) (by simp [results, Tryz.results38, go_sem, r0, r1, fltA]) rfl ⟨rfl, ?_⟩
              exact CF.out.ret _ _
        · have q : decide ((k : Int) < (nt : Int)) = false := by simp; omega
          have hth := HTH.out
          rw [List.drop_of_length_le (by have := NT.out; omega), threadsE] at hth
          have hrr := RR3.out
          rw [hth] at hrr
          subst hrr
          obtain ⟨r0, r1⟩ := box2c HC.out.rs (.int .i64 0) (.int .i64 0)
          obtain ⟨s0, s1, sf⟩ := box2 HC.out.rs
          have hrl := lt_of_block HC.out.rs
          clear hth HTH
          go_wp2_with fail
          refine bodyPost_ret (v := .agg (fltA 0 0)) (by simp [results, Tryz.results38, go_sem, r0, r1, fltA]) rfl ⟨rfl, ?_⟩
          exact HC.out.ret _ _
end Go.Proofs.YtcmaedoolinijaaGreatDoor
