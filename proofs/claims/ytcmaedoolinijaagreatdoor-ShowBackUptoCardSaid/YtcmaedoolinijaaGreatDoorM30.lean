/-
  Texts merged by a program of this claim's: ShowW, ShowX.
-/
import Derived.Test.YtcmaedoolinijaaGreatDoorM12
import Derived.Test.YtcmaedoolinijaaGreatDoorM29
import Derived.Deep.DeepCutAuto
import Derived.Test.YtcmaedoolinijaaGreatDoorM11
import Derived.Test.YtcmaedoolinijaaGreatDoorM6
namespace Go.Proofs.YtcmaedoolinijaaGreatDoor
open Go Go.RowKit Go.Sort
set_option maxRecDepth 100000
set_option maxHeartbeats 3200000
theorem sRightG_ok {w : World} (hM : Mx w) {v0 v1 : Value} {c : CodeP} (h : CodeM w [v0, v1] c) (hargs : ∀ t ∈ c.threads, ∀ x ∈ t.code, x.args.length ≤ 1048576) :
    Calls Tryz.prog 17 #[.agg #[v0, v1]] w fun z w' => z = .returned (.bool (rightS c)) ∧ Nw w w' := by
  obtain ⟨a, b, e, h0, h1⟩ := h
  cases e
  obtain ⟨a0, c0, rfl, -⟩ := h0.len
  obtain ⟨a1, c1, rfl, -⟩ := h1.len
  have hn0 := (Nw.refl w).alloc (.cells #[.slice a0 c.objs.length c0, .slice a1 c.threads.length c1] 25)
  obtain ⟨y1, hy1⟩ : ∃ y, codeB c = y := ⟨_, rfl⟩
  obtain ⟨y2, hy2⟩ : ∃ y, namedS [] (c.threads.map (·.name)) = y := ⟨_, rfl⟩
  obtain ⟨y3, hy3⟩ : ∃ y, namedS [] (c.objs.map (·.name)) = y := ⟨_, rfl⟩
  have CC := Lib.hid (fun (W : World) (hW : Nw w W) => by have := CodeG_ok (c := c) (hM.nw hW) (h0.nw hW) (h1.nwR hW (fun _ _ h => h.nw hW)) hargs; rw [hy1] at this; exact this)
  have NT := Lib.hid (fun (W : World) (hW : Nw w W) => by have := namedT_ok (h1.nwR (R' := isText W) hW (fun _ _ h => h.nw hW)) trivial; rw [hy2] at this; exact this)
  have ND := Lib.hid (fun (W : World) (hW : Nw w W) => by have := namedD_ok (h0.nw hW) trivial; rw [hy3] at this; exact this)
  have PB := Lib.hid (heap_alloc_new w (.cells #[.slice a0 c.objs.length c0, .slice a1 c.threads.length c1] 25))
  have N0 := Lib.hid hn0
  have hres : rightS c = (y1 && y2 && y3) := by unfold rightS; rw [hy1, hy2, hy3]
  rw [hres]
  obtain ⟨no, hno⟩ : ∃ n, c.objs.length = n := ⟨_, rfl⟩
  obtain ⟨nt, hnt⟩ : ∃ n, c.threads.length = n := ⟨_, rfl⟩
  rw [hno] at CC ND PB N0 ⊢
  rw [hnt] at CC NT PB N0 ⊢
  clear h0 h1 hno hnt hn0 hargs hM hy1 hy2 hy3 hres
  go_enter Tryz.func17, Tryz.ntmps17
  go_wp2_with fail
  refine (CC.out _ N0.out).mono ?_
  rintro z w1 ⟨rfl, n1⟩
  have N1 := Lib.hid (N0.out.trans n1)
  have P1 := Lib.hid (n1.at_ PB.out)
  obtain ⟨p0, p1, pf⟩ := box2 P1.out
  clear n1
  cases y1 with
  | false =>
    go_wp2_with fail
    go_ret
    exact ⟨rfl, N1.out⟩
  | true =>
  simp only [if_true]
  go_wp2_with fail
  refine (NT.out _ N1.out).mono ?_
  rintro z w2 ⟨rfl, n2⟩
  have N2 := Lib.hid (N1.out.trans n2)
  have P2 := Lib.hid (n2.at_ P1.out)
  clear n2 p0 p1 pf
  obtain ⟨p0, p1, pf⟩ := box2 P2.out
  cases y2 with
  | false =>
    go_wp2_with fail
    go_ret
    exact ⟨rfl, N2.out⟩
  | true =>
  go_wp2_with fail
  refine (ND.out _ N2.out).mono ?_
  rintro z w3 ⟨rfl, n3⟩
  have N3 := Lib.hid (N2.out.trans n3)
  clear n3
  go_wp2_with fail
  go_ret
  exact ⟨by simp, N3.out⟩
theorem rightS_line {c : CodeP} (h : rightS c = true) : ∀ e : Ev, e.Ok → (lineF c e).1.length ≤ 205 := fun e he => by
  unfold rightS at h
  simp only [Bool.and_eq_true] at h
  exact line_short (named_short h.1.2) (named_short h.2) he
def BldM (w : World) (b : Nat) (o : List UInt8) : Prop := Lib.IsBuilder 61 5 b b (Lib.byteCells o) w
theorem BldM.new {w : World} {b : Nat} (h : w.heap[b]? = some (.cells #[.pointer none, .slice none 0 0] 61 (0, 0))) : BldM w b [] :=
  .inl ⟨Nat.le_refl _, .slice none 0 0, h, World.ownsRow_nil w b _ 1, by simp [Value.ownBlock]⟩
theorem BldM.lt {w : World} {b : Nat} {o : List UInt8} (h : BldM w b o) : b < w.heap.size := by
  rcases h with ⟨-, v, hb, -⟩ | ⟨-, v, hb, -⟩ <;> exact lt_of_block hb
theorem bldAt_nw {w w' : World} {b : Nat} {p : Value} {bs : List Value} (hn : Nw w w') (h : Lib.BuilderAt 61 5 b b p bs w) : Lib.BuilderAt 61 5 b b p bs w' := by
  obtain ⟨h1, v, hb, ⟨hl, ho⟩, hne⟩ := h
  refine ⟨h1, v, hn.at_ hb, ⟨hl, ?_⟩, hne⟩
  rcases ho with ho | ⟨g, cap, cur, e, hbg, hg, hr⟩
  · exact .inl ho
  · exact .inr ⟨g, cap, cur, e, hbg, hn.at_ hg, hr⟩
theorem BldM.nw {w w' : World} {b : Nat} {o : List UInt8} (h : BldM w b o) (hn : Nw w w') : BldM w' b o := by
  rcases h with h | h
  · exact .inl (bldAt_nw hn h)
  · exact .inr (bldAt_nw hn h)
theorem byteCells_append (o s : List UInt8) : Lib.byteCells (o ++ s) = Lib.byteCells o ++ Lib.strCells ⟨s.toArray⟩ := by
  unfold Lib.byteCells Lib.strCells
  simp
theorem byteCells_len (o : List UInt8) : (Lib.byteCells o).length = o.length := by simp [Lib.byteCells]
theorem WrStr_ok {w : World} {b : Nat} {o s : List UInt8} (h : BldM w b o) (hl : o.length + s.length ≤ 140737488355328) :
    Calls Tryz.prog 22 #[.pointer (some ⟨b, 0, none⟩), .string ⟨s.toArray⟩] w fun z w' => z = .returned (.tuple #[.int .i64 (s.length : Int), .nilIface]) ∧ BldM w' b (o ++ s) ∧ Below b w w' := by
  have hsz : (⟨s.toArray⟩ : ByteArray).size = s.length := rfl
  have := Any.Builder_WriteString { Tryz.lays156 with } { Tryz.Builder_Extra_156 with } b b (Lib.byteCells o) ⟨s.toArray⟩ w h (by rw [byteCells_len, hsz]; exact hl) (Nat.le_of_lt h.lt)
  refine Calls.mono this ?_
  rintro z w' ⟨rfl, h1, h2⟩
  refine ⟨by rw [hsz], ?_, h2⟩
  unfold BldM
  rw [byteCells_append]
  exact .inr h1
theorem BldStr_ok {w : World} {b : Nat} {o : List UInt8} (h : BldM w b o) :
    Calls Tryz.prog 24 #[.pointer (some ⟨b, 0, none⟩)] w fun z w' => z = .returned (.string ⟨o.toArray⟩) ∧ Below b w w' :=
  Tryz.Builder_String_any b b o w h (Nat.le_of_lt h.lt)
def isEv (cs : List Value) (e : Ev) : Prop := cs = (evA e.thread e.op.toNat e.obj e.a e.b).toList ∧ e.Ok
def textS (c : CodeP) (l : List Ev) : List UInt8 × Int := if rightS c then textF c [] l else ([], 120)
theorem Text_ok {w : World} (hT : STab w) {v0 v1 v : Value} {c : CodeP} {l : List Ev} (h : CodeM w [v0, v1] c) (hargs : ∀ t ∈ c.threads, ∀ x ∈ t.code, x.args.length ≤ 1048576) (hv : RdK 5 isEv w v l) (hn : l.length ≤ 1000000) :
    Calls Tryz.prog 11 #[.agg #[v0, v1], v] w fun z w' => z = .returned (.tuple #[.string ⟨(textS c l).1.toArray⟩, .int .i64 (textS c l).2]) ∧ Nw w w' := by
  obtain ⟨a0, c0, a1, c1, rfl, rfl, -, -⟩ := h.lens
  obtain ⟨a2, c2, rfl, hc2, hm2, -⟩ := hv.len
  have hm2' : c2 ≤ 9223372036854775807 := by unfold maxLen at hm2; omega
  obtain ⟨y, hy⟩ : ∃ y, rightS c = y := ⟨_, rfl⟩
  have HR := Lib.hid (fun W (hW : Nw w W) => by have := sRightG_ok (hT.mx.nw hW) (h.nw hW) hargs; rw [hy] at this; exact this)
  have HLN := Lib.hid (fun (hr : y = true) (W : World) (hW : Nw w W) (e : Ev) (he : e.Ok) => sLine_ok (hT.nw hW) (h.nw hW) he (by have := rightS_line (hy.trans hr) e he; omega))
  have HLL := Lib.hid (fun (hr : y = true) (e : Ev) (he : e.Ok) => rightS_line (hy.trans hr) e he)
  have HV := Lib.hid (fun W (hW : Nw w W) => hv.nw hW)
  obtain ⟨no, hno⟩ : ∃ n, c.objs.length = n := ⟨_, rfl⟩
  obtain ⟨nt, hnt⟩ : ∃ n, c.threads.length = n := ⟨_, rfl⟩
  obtain ⟨n, hnn⟩ : ∃ n, l.length = n := ⟨_, rfl⟩
  have NN := Lib.hid hnn
  obtain ⟨⟨r1, r2⟩, hr⟩ : ∃ r, textS c l = r := ⟨_, rfl⟩
  rw [hr]
  unfold textS at hr
  rw [hy] at hr
  have HRR := Lib.hid hr
  rw [hno, hnt] at HR HLN ⊢
  rw [hnn] at HV hc2 hn ⊢
  have HNN := Lib.hid hn
  have PB := Lib.hid (heap_alloc_new w (.cells #[.slice a0 no c0, .slice a1 nt c1] 25))
  have N0 := Lib.hid ((Nw.refl w).alloc (.cells #[.slice a0 no c0, .slice a1 nt c1] 25))
  clear hT h hargs hv hn hy hno hnt hnn hr
  go_enter Tryz.func11, Tryz.ntmps11
  go_wp2_with fail
  refine (HR.out _ N0.out).mono ?_
  rintro z w1 ⟨rfl, n1⟩
  have N1 := Lib.hid (N0.out.trans n1)
  have P1 := Lib.hid (n1.at_ PB.out)
  clear n1
  obtain ⟨cb, hcb⟩ : ∃ cb, w.heap.size = cb := ⟨_, rfl⟩
  have HCB := Lib.hid hcb
  rw [hcb] at P1 ⊢
  clear hcb
  cases y with
  | false =>
    have hr := HRR.out
    simp only [Bool.false_eq_true, if_false] at hr
    obtain ⟨rfl, rfl⟩ : [] = r1 ∧ 120 = r2 := by simpa using hr
    go_wp2_with fail
    go_ret2
    exact ⟨rfl, N1.out⟩
  | true =>
  have hr := HRR.out
  simp only [if_true] at hr
  have HRF := Lib.hid hr
  clear hr HRR
  obtain ⟨p0, p1, pf⟩ := box2 P1.out
  have hcl := lt_of_block P1.out
  go_upto_region 4 with fail
  obtain ⟨b, hb⟩ : ∃ b, w1.heap.size = b := ⟨_, rfl⟩
  obtain ⟨w2, hw2⟩ : ∃ w2, w1.alloc (.cells #[.pointer none, .slice none 0 0] 61) = w2 := ⟨_, rfl⟩
  have B2 : Hid (BldM w2 b []) := Lib.hid (BldM.new (by rw [← hw2, ← hb]; exact heap_alloc_new w1 _))
  have N2 : Hid (Nw w1 w2) := Lib.hid (by rw [← hw2]; exact (Nw.refl w1).alloc _)
  have HB := Lib.hid hb
  rw [hw2, hb]
  clear hw2 hb p0 p1 pf hcl
  go_wp2_with fail
  go_loopw [16] (fun v wr => ∃ (k : Nat) (o : List UInt8), k ≤ n ∧ v = .int .i64 k ∧ o.length ≤ k * 206 ∧ textF c [] l = textF c o (l.drop k) ∧ BldM wr b o ∧ Nw w1 wr) (fun v _ => n - (intOf v).toNat)
  case atStart => exact ⟨0, [], by omega, rfl, by simp, rfl, B2.out, N2.out⟩
  case round =>
    obtain ⟨k, o, hk, rfl, hol, htx, hbm, hw⟩ := hrel
    have HW := Lib.hid hw
    have HOL := Lib.hid hol
    have HTX := Lib.hid htx
    have BM := Lib.hid hbm
    clear hw hol htx hbm B2 N2
    have PR := Lib.hid (HW.out.at_ P1.out)
    by_cases hkn : k < n
    · have q : decide ((k : Int) < (n : Int)) = true := by simp; omega
      have hkl : k < l.length := by have := NN.out; omega
      rcases HV.out wr (N1.out.trans HW.out) with ⟨a, -, e2⟩ | ⟨gv, ov, cap, e1, -, -, hgv, h3⟩
      · rw [e2] at NN; exact absurd NN.out (by simp; omega)
      obtain ⟨rfl, -, rfl⟩ : a2 = some ⟨gv, ov, none⟩ ∧ n = l.length ∧ c2 = cap := by simpa using e1
      obtain ⟨cs, -, hc, hd, heok⟩ := h3 k hkl
      obtain ⟨e, hee⟩ : ∃ e, l[k]'hkl = e := ⟨_, rfl⟩
      rw [hee] at hd heok
      subst hd
      have e0 := hc 0 (by simp [evA])
      have e1' := hc 1 (by simp [evA])
      have e2 := hc 2 (by simp [evA])
      have e3 := hc 3 (by simp [evA])
      have e4 := hc 4 (by simp [evA])
      simp only [evA, List.getElem_cons_zero, List.getElem_cons_succ, Nat.add_zero] at e0 e1' e2 e3 e4
      have hgl : gv < wr.heap.size := hgv
      have hst : textF c [] l = if (lineF c e).2 = 0 then textF c (o ++ ((lineF c e).1 ++ [10])) (l.drop (k + 1)) else ([], (lineF c e).2) := by
        rw [HTX.out, List.drop_eq_getElem_cons hkl, hee, textF]
      have HST := Lib.hid hst
      have hll := HLL.out (by trivial) e heok
      clear hc h3 e1 hee hgv hst HTX
      go_upto_region 7 with fail
      obtain ⟨wd, hwd⟩ : ∃ wd, wr.alloc (.cells #[.int .i64 e.thread, .int .u8 (e.op.toNat : Int), .int .i64 e.obj, .int .i64 e.a, .int .i64 e.b] 29) = wd := ⟨_, rfl⟩
      obtain ⟨xb, hxb⟩ : ∃ xb, wr.heap.size = xb := ⟨_, rfl⟩
      have ND : Nw wr wd := by rw [← hwd]; exact (Nw.refl wr).alloc _
      have XB : Hid (wd.heap[xb]? = some (.cells #[.int .i64 e.thread, .int .u8 (e.op.toNat : Int), .int .i64 e.obj, .int .i64 e.a, .int .i64 e.b] 29 (0, 0))) := Lib.hid (by rw [← hwd, ← hxb]; exact heap_alloc_new wr _)
      have PD := Lib.hid (ND.at_ PR.out)
      have BD := Lib.hid (BM.out.nw ND)
      have WD := Lib.hid (HW.out.trans ND)
      rw [hwd, hxb]
      clear hwd hxb ND e0 e1' e2 e3 e4 hgl
      have LN := Lib.hid (HLN.out (by trivial) wd (N1.out.trans WD.out) e heok)
      obtain ⟨⟨ls, lc⟩, hlf⟩ : ∃ p, lineF c e = p := ⟨_, rfl⟩
      rw [hlf] at LN HST hll
      have HLS := Lib.hid hll
      unfold evV evA at LN
      simp only at LN HST
      obtain ⟨p0, p1, pf⟩ := box2 PD.out
      obtain ⟨x0, x1, x2, x3, x4, xf⟩ := box5 XB.out
      clear hlf heok hll
      go_wp2_with fail
      refine LN.out.mono ?_
      rintro z w4 ⟨rfl, n4⟩
      have B4 := Lib.hid (BD.out.nw n4)
      have W4 := Lib.hid (WD.out.trans n4)
      clear n4 LN p0 p1 pf x0 x1 x2 x3 x4 xf
      by_cases ce : lc = 0
      · have qe : (lc != 0) = false := by simp [ce]
        have hst := HST.out
        rw [if_pos ce] at hst
        have HST2 := Lib.hid hst
        have hl1 : ls.length ≤ 205 := HLS.out
        have WS := Lib.hid (WrStr_ok (s := ls ++ [10]) B4.out (by have := HOL.out; have := HNN.out; rw [List.length_append, List.length_singleton]; omega))
        have hap : (⟨ls.toArray⟩ : ByteArray) ++ ⟨#[10]⟩ = ⟨(ls ++ [10]).toArray⟩ := by rw [ByteArray.mk_append_mk]
        clear hst ce HST
        go_wp2_with fail
        refine WS.out.mono ?_
        rintro z w5 ⟨rfl, b5, n5⟩
        have B5 := Lib.hid b5
        have W5 : Hid (Nw w1 w5) := Lib.hid (W4.out.trans' (Only.of_below (S := fun j => b ≤ j) n5 (fun j _ hj => by omega)) (fun j hj e => absurd hj (by have := HB.out; omega)))
        clear b5 n5 WS hap
        go_wp2_with fail
        exact ⟨⟨k + 1, o ++ (ls ++ [10]), by omega, by simp, by have := HOL.out; have := HLS.out; simp only [List.length_append, List.length_singleton]; omega, HST2.out, B5.out, W5.out⟩, by simp [intOf]; omega⟩
      · have qe : (lc != 0) = true := by simp [ce]
        have hst := HST.out
        rw [if_neg ce] at hst
        have hrf := HRF.out
        rw [hst] at hrf
        obtain ⟨rfl, rfl⟩ : [] = r1 ∧ lc = r2 := by simpa using hrf
        clear hst ce HST hrf
        go_wp2_with fail
        go_ret2
        exact ⟨rfl, N1.out.trans W4.out⟩
    · have q : decide ((k : Int) < (n : Int)) = false := by simp; omega
      have htx := HTX.out
      rw [List.drop_of_length_le (by have := NN.out; omega), textF] at htx
      have hrf := HRF.out
      rw [htx] at hrf
      obtain ⟨rfl, rfl⟩ : o = r1 ∧ 0 = r2 := by simpa using hrf
      clear htx hrf
      have BS := Lib.hid (BldStr_ok BM.out)
      go_wp2_with fail
      refine BS.out.mono ?_
      rintro z w5 ⟨rfl, n5⟩
      have W5 : Hid (Nw w1 w5) := Lib.hid (HW.out.trans' (Only.of_below (S := fun j => b ≤ j) n5 (fun j _ hj => by omega)) (fun j hj e => absurd hj (by have := HB.out; omega)))
      clear n5 BS
      go_wp2_with fail
      go_ret2
      exact ⟨rfl, N1.out.trans W5.out⟩
end Go.Proofs.YtcmaedoolinijaaGreatDoor

namespace Go.Proofs.YtcmaedoolinijaaGreatDoor
open Go Go.RowKit Go.Sort
set_option maxRecDepth 100000
set_option maxHeartbeats 3200000
theorem eventsF_fuel (c : CodeP) : ∀ (f g : Nat) (o : List Ev) (n : Int) (s : List UInt8), s.length < f → s.length < g → eventsF c f o n s = eventsF c g o n s
  | 0, _, _, _, _, h, _ => absurd h (by omega)
  | _, 0, _, _, _, _, h => absurd h (by omega)
  | f + 1, g + 1, o, n, s, h1, h2 => by
    rw [eventsF, eventsF]
    by_cases c0 : s = []
    · rw [if_pos c0, if_pos c0]
    · rw [if_neg c0, if_neg c0]
      obtain ⟨⟨a, b, y⟩, hc⟩ : ∃ x, Lib.cut s [10] = x := ⟨_, rfl⟩
      rw [hc]
      simp only
      cases y with
      | false => cases parseE c a <;> rfl
      | true =>
        have := cut_true hc
        have hl : b.length < s.length := by rw [this]; simp; omega
        cases parseE c a with
        | none => rfl
        | some e => exact eventsF_fuel c f g _ _ _ (by omega) (by omega)
def evsS (c : CodeP) (s : List UInt8) : List Ev × Int × Int := if rightS c then eventsF c (s.length + 1) [] 1 s else ([], 120, 0)
def strLen : Value → Nat
  | .string b => b.size
  | _ => 0
theorem infoEv5 : (Tryz.prog.info? 29).map (fun i => (i.zero, i.size, i.bytes)) = some (some (.agg #[.int .i64 0, .int .u8 0, .int .i64 0, .int .i64 0, .int .i64 0]), 5, 40) := by kernel_rfl
theorem parse_ok {c : CodeP} {s : List UInt8} {e : Ev} (h0 : c.objs.length ≤ 9223372036854775807) (h1 : c.threads.length ≤ 9223372036854775807) (h : parseE c s = some e) : e.Ok := by
  obtain ⟨a1, a2, a3, a4, -⟩ := line_ok (parse_back h)
  have hab : in64 e.a ∧ in64 e.b := by
    unfold parseE at h
    split at h
    · rename_i f0 f1 f2 f3 hs
      cases h3 : numOf f3 with
      | none => rw [h3] at h; cases h
      | some a =>
        rw [h3] at h
        simp only [Option.bind_some] at h
        split at h
        · cases h
          exact ⟨numOf_in h3, by simp [in64]⟩
        · cases h
    · rename_i f0 f1 f2 f3 f4 hs
      cases h3 : numOf f3 with
      | none => rw [h3] at h; cases h
      | some a =>
        cases h4 : numOf f4 with
        | none => rw [h3, h4] at h; cases h
        | some b =>
          rw [h3, h4] at h
          simp only [Option.bind_some] at h
          split at h
          · cases h
            exact ⟨numOf_in h3, numOf_in h4⟩
          · cases h
    · cases h
  exact ⟨⟨by omega, by omega⟩, ⟨by omega, by omega⟩, hab.1, hab.2⟩
structure EvB (w wr : World) (cb rb : Nat) (v0 v1 : Value) (ov : Value) (o : List Ev) : Prop where
  nw : Nw w wr
  xc : wr.heap[cb]? = some (.cells #[v0, v1] 25 (0, 0))
  xr : wr.heap[rb]? = some (.cells (fltA 0 0) 43 (0, 0))
  row : VecR 5 isEv wr ov o
  own : ∀ g, ov.ownBlock = some g → rb < g
  cr : cb < rb
  ws : w.heap.size ≤ cb
theorem EvB.on {w wr w' : World} {cb rb : Nat} {v0 v1 ov : Value} {o : List Ev} (h : EvB w wr cb rb v0 v1 ov o) (hn : Nw wr w') : EvB w w' cb rb v0 v1 ov o :=
  ⟨h.nw.trans hn, hn.at_ h.xc, hn.at_ h.xr, h.row.keep hn.size (fun g hg => hn.block g (h.row.lt g hg) (fun hf => hf)), h.own, h.cr, h.ws⟩
theorem EvB.app {w wr w' : World} {cb rb : Nat} {v0 v1 ov ov' : Value} {o : List Ev} {cs : List Value} {e : Ev} (h : EvB w wr cb rb v0 v1 ov o) (hcs : Vec 5 wr ov o.length cs) (hR : ∀ i (h : i < o.length), isEv ((cs.drop (i * 5)).take 5) o[i]) (ho : Only (fun b => ov.ownBlock = some b) wr w')
    (hv : Vec 5 w' ov' (o.length + 1) (cs ++ (evA e.thread e.op.toNat e.obj e.a e.b).toList)) (hown : ov'.ownBlock = ov.ownBlock ∨ ∀ g, ov'.ownBlock = some g → wr.heap.size ≤ g) (he : e.Ok) : EvB w w' cb rb v0 v1 ov' (o ++ [e]) where
  nw := h.nw.trans' ho (fun k hk x => by have := h.own k x; have := h.cr; have := h.ws; omega)
  xc := ho.at_ h.xc (fun x => by have := h.own _ x; have := h.cr; omega)
  xr := ho.at_ h.xr (fun x => by have := h.own _ x; omega)
  row := VecR.snoc hv hcs.1 rfl hR ⟨rfl, he⟩
  own := fun g hg => by
    rcases hown with x | x
    · exact h.own g (by rw [← x]; exact hg)
    · have := x g hg; have := lt_of_block h.xr; omega
  cr := h.cr
  ws := h.ws
theorem EvB.ret {w wr : World} {cb rb : Nat} {v0 v1 ov : Value} {o : List Ev} (h : EvB w wr cb rb v0 v1 ov o) (x y : Value) : Nw w ((wr.setCell ⟨rb, 0, none⟩ x).setCell ⟨rb, 1, none⟩ y) ∧ RdK 5 isEv ((wr.setCell ⟨rb, 0, none⟩ x).setCell ⟨rb, 1, none⟩ y) ov o := by
  refine ⟨Nw.put (Nw.put h.nw (by have := h.cr; have := h.ws; omega) _ _) (by have := h.cr; have := h.ws; omega) _ _, VecR.rdk (h.row.keep (by simp) (fun g hg => ?_))⟩
  have := h.own g hg
  rw [heap_setCell_other _ _ _ _ (by simp; omega), heap_setCell_other _ _ _ _ (by simp; omega)]
theorem Events_ok {w : World} (hT : STab w) {v0 v1 : Value} {c : CodeP} {s : List UInt8} (h : CodeM w [v0, v1] c) (hargs : ∀ t ∈ c.threads, ∀ x ∈ t.code, x.args.length ≤ 1048576) (hs : s.length ≤ 1000000000) :
    Calls Tryz.prog 12 #[.agg #[v0, v1], .string ⟨s.toArray⟩] w fun z w' => ∃ ov, z = .returned (.tuple #[ov, .agg (fltA (evsS c s).2.1 (evsS c s).2.2)]) ∧ RdK 5 isEv w' ov (evsS c s).1 ∧ Nw w w' := by
  obtain ⟨a0, c0, a1, c1, rfl, rfl, lo0, lo1⟩ := h.lens
  have OKE := Lib.hid (fun (x : List UInt8) (e : Ev) (he : parseE c x = some e) => parse_ok (by unfold maxLen at lo0; omega) (by unfold maxLen at lo1; omega) he)
  obtain ⟨y, hy⟩ : ∃ y, rightS c = y := ⟨_, rfl⟩
  have HR := Lib.hid (fun W (hW : Nw w W) => by have := sRightG_ok (hT.mx.nw hW) (h.nw hW) hargs; rw [hy] at this; exact this)
  have HP := Lib.hid (fun (hr : y = true) (W : World) (hW : Nw w W) (x : List UInt8) (hx : x.length < 4294967281) => sParse_ok (hT.nw hW) (h.nw hW) hx (fun e he => by have := rightS_line (hy.trans hr) e he; omega))
  have HM := Lib.hid (fun W (hW : Nw w W) => hT.mx.nw hW)
  obtain ⟨no, hno⟩ : ∃ n, c.objs.length = n := ⟨_, rfl⟩
  obtain ⟨nt, hnt⟩ : ∃ n, c.threads.length = n := ⟨_, rfl⟩
  obtain ⟨⟨r1, r2, r3⟩, hr⟩ : ∃ r, evsS c s = r := ⟨_, rfl⟩
  rw [hr]
  unfold evsS at hr
  rw [hy] at hr
  have HRR := Lib.hid hr
  rw [hno, hnt] at HR HP ⊢
  have HS := Lib.hid hs
  have TB := Lib.hid (two_blk w #[.slice a0 no c0, .slice a1 nt c1] (fltA 0 0) 25 43)
  obtain ⟨i0, hi, hz0, hz1, hz2⟩ := info_parts infoEv5
  have HI := Lib.hid hi
  have HZ0 := Lib.hid hz0
  have HZ1 := Lib.hid hz1
  have HZ2 := Lib.hid hz2
  clear hT h hargs hs hy hno hnt hr hi hz0 hz1 hz2 lo0 lo1
  go_enter Tryz.func12, Tryz.ntmps12
  obtain ⟨p0, p1, pf⟩ := box2 TB.out.2.1
  unfold fltA at TB p0 p1 pf ⊢
  go_wp2_with fail
  refine (HR.out _ TB.out.1).mono ?_
  rintro z w1 ⟨rfl, n1⟩
  obtain ⟨cb, hcb⟩ : ∃ cb, w.heap.size = cb := ⟨_, rfl⟩
  obtain ⟨rb, hrb⟩ : ∃ rb, cb + 1 = rb := ⟨_, rfl⟩
  have E1 : Hid (EvB w w1 cb rb (.slice a0 no c0) (.slice a1 nt c1) (.slice none 0 0) []) := Lib.hid (by
    have h := TB.out
    rw [hcb, hrb] at h
    exact ⟨h.1.trans n1, n1.at_ h.2.1, n1.at_ h.2.2, VecR.nil, fun g hg => (by cases hg), by omega, by omega⟩)
  rw [hcb, hrb]
  clear hcb hrb n1 TB p0 p1 pf
  obtain ⟨p0, p1, pf⟩ := box2 E1.out.xc
  cases y with
  | false =>
    have hr := HRR.out
    simp only [Bool.false_eq_true, if_false] at hr
    obtain ⟨rfl, rfl, rfl⟩ : [] = r1 ∧ 120 = r2 ∧ 0 = r3 := by simpa using hr
    obtain ⟨s0, s1⟩ := box2c E1.out.xr (.int .i64 120) (.int .i64 0)
    obtain ⟨q0, q1, qf⟩ := box2 E1.out.xr
    have hrl := lt_of_block E1.out.xr
    have RT := E1.out.ret (.int .i64 120) (.int .i64 0)
    go_wp2_with fail
    refine bodyPost_ret (v := .tuple #[.slice none 0 0, .agg (fltA 120 0)]) (by simp [results, Tryz.results12, go_sem, s0, s1, fltA]) rfl ⟨_, rfl, RT.2, RT.1⟩
  | true =>
  have hr := HRR.out
  simp only [if_true] at hr
  have HRF := Lib.hid hr
  clear hr HRR
  go_wp2_with fail
  clear p0 p1 pf
  go_loopw [1, 6, 7] (fun sv ov nv wr => ∃ (s' : List UInt8) (o : List Ev) (n : Nat), sv = .string ⟨s'.toArray⟩ ∧ nv = .int .i64 (n : Int) ∧ 1 ≤ n ∧ n + s'.length ≤ 1 + s.length ∧ o.length + s'.length ≤ s.length ∧ eventsF c (s'.length + 1) o (n : Int) s' = (r1, r2, r3) ∧ EvB w wr cb rb (.slice a0 no c0) (.slice a1 nt c1) ov o) (fun sv _ _ _ => strLen sv)
  case atStart => exact ⟨s, [], 1, rfl, rfl, by omega, by omega, by simp, HRF.out, E1.out⟩
  case round =>
    obtain ⟨s', o, n, rfl, rfl, hn1, hns, hos, hev, hE⟩ := hrel
    have HE := Lib.hid hE
    have HEV := Lib.hid hev
    have HN := Lib.hid (And.intro hn1 (And.intro hns hos))
    clear hE hev hn1 hns hos E1
    obtain ⟨p0, p1, pf⟩ := box2 HE.out.xc
    have hcl := lt_of_block HE.out.xc
    by_cases c0s : s' = []
    · subst c0s
      have hev := HEV.out
      rw [eventsF, if_pos rfl] at hev
      obtain ⟨rfl, rfl, rfl⟩ : o = r1 ∧ 0 = r2 ∧ 0 = r3 := by simpa using hev
      obtain ⟨s0, s1⟩ := box2c HE.out.xr (.int .i64 0) (.int .i64 0)
      obtain ⟨q0, q1, qf⟩ := box2 HE.out.xr
      have hrl := lt_of_block HE.out.xr
      have RT := HE.out.ret (.int .i64 0) (.int .i64 0)
      clear hev
      obtain ⟨cs, hcs, -⟩ := HE.out.row
      obtain ⟨va, vc, rfl, -⟩ := hcs.len
      go_wp2_with fail
      refine bodyPost_ret (v := .tuple #[.slice va o.length vc, .agg (fltA 0 0)]) (by simp [results, Tryz.results12, go_sem, s0, s1, fltA]) rfl ⟨_, rfl, RT.2, RT.1⟩
    · have qs : (s' != []) = true := by cases s' <;> simp_all
      have qs2 : s'.isEmpty = false := by cases s' <;> simp_all
      have hlen : s'.length ≤ 1000000000 := by have := HN.out; have := HS.out; omega
      obtain ⟨M, hM⟩ := HM.out wr HE.out.nw
      have CU := Lib.hid (Tryz.strings_Cut ⟨s'.toArray⟩ ⟨#[10]⟩ M wr (by show s'.length < _; omega) hM)
      have hdat : (⟨s'.toArray⟩ : ByteArray).data.toList = s' := rfl
      obtain ⟨⟨ca, cr, cy⟩, hcut⟩ : ∃ x, Lib.cut s' [10] = x := ⟨_, rfl⟩
      rw [hdat, show (⟨#[10]⟩ : ByteArray).data.toList = [10] from rfl, hcut] at CU
      simp only at CU
      have hca : ca.length ≤ s'.length := by
        unfold Lib.cut at hcut
        split at hcut
        · cases hcut; simp; omega
        · cases hcut; exact Nat.le_refl _
      have hcr : cy = true → cr.length < s'.length := fun hcy => by
        subst hcy
        have := cut_true hcut
        rw [this]; simp; omega
      have hev := HEV.out
      rw [eventsF, if_neg c0s, hcut] at hev
      simp only at hev
      have HEV2 := Lib.hid hev
      have HCA := Lib.hid hca
      have HCR := Lib.hid hcr
      have HLE := Lib.hid hlen
      clear hM hdat hcut hca hcr hev HEV hlen c0s
      go_wp2_with fail
      refine CU.out.mono ?_
      rintro z w2 ⟨rfl, ⟨dn, rfl⟩⟩
      have E2 := Lib.hid (HE.out.on (Nw.drewN (Nw.refl wr) dn))
      obtain ⟨w2, hw2⟩ : ∃ w2, wr.drewN dn = w2 := ⟨_, rfl⟩
      rw [hw2] at E2 ⊢
      clear hw2 CU p0 p1 pf hcl
      obtain ⟨p0, p1, pf⟩ := box2 E2.out.xc
      have PA := Lib.hid (HP.out (by trivial) w2 E2.out.nw ca (by have := HCA.out; have := HLE.out; omega))
      obtain ⟨pe, hpe⟩ : ∃ x, parseE c ca = x := ⟨_, rfl⟩
      have HPE := Lib.hid hpe
      rw [hpe] at PA HEV2
      unfold evO at PA
      clear hpe
      obtain ⟨es, hes⟩ : ∃ e, pe.getD Ev.zero = e := ⟨_, rfl⟩
      obtain ⟨ys, hys⟩ : ∃ y, pe.isSome = y := ⟨_, rfl⟩
      have HES := Lib.hid hes
      have HYS := Lib.hid hys
      rw [hes, hys] at PA
      clear hes hys
      go_wp2_with fail
      refine PA.out.mono ?_
      rintro z w3 ⟨rfl, n3⟩
      have E3 := Lib.hid (E2.out.on n3)
      clear n3 PA p0 p1 pf
      unfold evV evA
      go_upto_region 9 with fail
      obtain ⟨w4, hw4⟩ : ∃ w4, w3.alloc (.cells #[.int .i64 es.thread, .int .u8 (es.op.toNat : Int), .int .i64 es.obj, .int .i64 es.a, .int .i64 es.b] 29) = w4 := ⟨_, rfl⟩
      obtain ⟨xb, hxb⟩ : ∃ xb, w3.heap.size = xb := ⟨_, rfl⟩
      have N4 : Nw w3 w4 := by rw [← hw4]; exact (Nw.refl w3).alloc _
      have XB : Hid (w4.heap[xb]? = some (.cells #[.int .i64 es.thread, .int .u8 (es.op.toNat : Int), .int .i64 es.obj, .int .i64 es.a, .int .i64 es.b] 29 (0, 0))) := Lib.hid (by rw [← hw4, ← hxb]; exact heap_alloc_new w3 _)
      have E4 := Lib.hid (E3.out.on N4)
      rw [hw4, hxb]
      clear hw4 hxb N4
      have bad : (ys = false ∨ cy = false) → ([], 133, (n : Int)) = (r1, r2, r3) := fun hb => by
        have h := HEV2.out
        rw [← h]
        cases pe with
        | none => rfl
        | some e =>
          cases cy with
          | false => rfl
          | true => exact absurd hb (by rw [← HYS.out]; simp)
      have BAD := Lib.hid bad
      clear bad
      obtain ⟨x0, x1, x2, x3, x4, xf⟩ := box5 XB.out
      have hxl := lt_of_block XB.out
      have hbad : (ys = false ∨ cy = false) ∨ (ys = true ∧ cy = true) := by cases ys <;> cases cy <;> simp
      rcases hbad with hb | ⟨hy1, hy2⟩
      · have hbb := BAD.out hb
        obtain ⟨rfl, rfl, rfl⟩ : [] = r1 ∧ 133 = r2 ∧ (n : Int) = r3 := by simpa using hbb
        obtain ⟨s0, s1⟩ := box2c E4.out.xr (.int .i64 133) (.int .i64 (n : Int))
        obtain ⟨q0, q1, qf⟩ := box2 E4.out.xr
        have hrl := lt_of_block E4.out.xr
        have RT := (E4.out.ret (.int .i64 133) (.int .i64 (n : Int))).1
        clear hbb BAD
        cases ys with
        | false =>
          go_wp2_with fail
          refine bodyPost_ret (v := .tuple #[.slice none 0 0, .agg (fltA 133 (n : Int))]) (by simp [results, Tryz.results12, go_sem, s0, s1, fltA]) rfl ⟨_, rfl, .inl ⟨none, rfl, rfl⟩, RT⟩
        | true =>
          cases cy with
          | true => exact absurd hb (by simp)
          | false =>
            go_wp2_with fail
            refine bodyPost_ret (v := .tuple #[.slice none 0 0, .agg (fltA 133 (n : Int))]) (by simp [results, Tryz.results12, go_sem, s0, s1, fltA]) rfl ⟨_, rfl, .inl ⟨none, rfl, rfl⟩, RT⟩
      · subst hy1 hy2
        have hpe : pe = some es := by
          have h1 := HYS.out
          have h2 := HES.out
          cases pe with
          | none => cases h1
          | some e => rw [← h2]; rfl
        have heok := OKE.out ca es (by rw [HPE.out, hpe])
        have hst : eventsF c (cr.length + 1) (o ++ [es]) ((n : Int) + 1) cr = (r1, r2, r3) := by
          have h := HEV2.out
          rw [hpe] at h
          simp only at h
          rw [← h]
          exact eventsF_fuel c _ _ _ _ _ (by omega) (HCR.out (by trivial))
        have HST := Lib.hid hst
        have HOK := Lib.hid heok
        obtain ⟨cs, hcs, hR⟩ := E4.out.row
        obtain ⟨va, vc, rfl, hvc, hvm⟩ := hcs.len
        have SR := Lib.hid (src_lit w4 29 (0, 0) 5 1 1 (evA es.thread es.op.toNat es.obj es.a es.b).toList rfl (by omega) (by decide))
        have n5 := (Nw.refl w4).alloc (.cells (evA es.thread es.op.toNat es.obj es.a es.b) 29)
        have E5 := Lib.hid (E4.out.on n5)
        have V5 := Lib.hid (hcs.nw n5)
        have HRR := Lib.hid hR
        have hnw : IntKind.i64.wrap ((n : Int) + 1) = (n : Int) + 1 := IntWalk.i64_in _ (by have := HN.out; have := HS.out; omega)
        have hol : o.length ≤ 1000000000 := by have := HN.out; have := HS.out; omega
        have HOL := Lib.hid hol
        unfold evA at SR n5 E5 V5
        clear hst heok hcs hR n5 HEV2 hpe BAD HPE hol
        go_wp2_with (at_builtin; refine wpList_append_vec rfl _ _ 39 rfl 29 i0 (.agg #[.int .i64 0, .int .u8 0, .int .i64 0, .int .i64 0, .int .i64 0]) 5 40 Tryz.underlying39 HI.out HZ0.out HZ1.out HZ2.out rfl (by decide) rfl rfl V5.out SR.out (by simp [Value.oneCell']) (by have := HOL.out; unfold maxLen; omega) (by have := HOL.out; omega) ?_; intro v6 w6 hV6 hO6 hown; have E6 := Lib.hid (E5.out.app V5.out HRR.out hO6 hV6 hown HOK.out); obtain ⟨vb, vd, rfl, -⟩ := hV6.len; clear hV6 hO6 hown)
        have hcrl := HCR.out (by trivial)
        exact ⟨⟨cr, o ++ [es], n + 1, rfl, by simp, by omega, by have := HN.out; omega, by have := HN.out; simp only [List.length_append, List.length_singleton]; omega, HST.out, E6.out⟩, by show cr.length < s'.length; exact hcrl⟩
end Go.Proofs.YtcmaedoolinijaaGreatDoor
