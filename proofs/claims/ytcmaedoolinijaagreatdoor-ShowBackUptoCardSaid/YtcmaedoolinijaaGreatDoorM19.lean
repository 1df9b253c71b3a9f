/-
  Texts merged by a program of this claim's: WalkH, ChkD.
-/
import Derived.Test.YtcmaedoolinijaaGreatDoorM18
import Derived.Deep.DeepCutAuto
import Derived.Deep.CutRange
import Derived.Test.YtcmaedoolinijaaGreatDoorM7
namespace Go.Proofs.YtcmaedoolinijaaGreatDoor
open Go Go.RowKit Go.Sort
set_option maxRecDepth 100000
set_option maxHeartbeats 3200000
theorem RdK.imp {α : Type} {k : Nat} {R R' : List Value → α → Prop} {w : World} {v : Value} {l : List α} (h : RdK k R w v l) (hR : ∀ cs x, R cs x → R' cs x) : RdK k R' w v l := by
  rcases h with h | ⟨g, o, cap, rfl, h1, h2, hg, h3⟩
  · exact .inl h
  · exact .inr ⟨g, o, cap, rfl, h1, h2, hg, fun i hi => by obtain ⟨cs, a, b, r⟩ := h3 i hi; exact ⟨cs, a, b, hR _ _ r⟩⟩
theorem isThrG.off {w w' : World} {S : Nat → Prop} (hT : Thin w S) (ho : Only S w w') {cs : List Value} {t : ThrG} (h : isThrG w cs t) : isThrG w' cs t := by
  obtain ⟨v, h1, h2, h3, h4⟩ := h
  exact ⟨v, h1, h2, h3, h4.off hT ho⟩
theorem WkB.s {w : World} {g : Nat} {ask bad : Bool} (h : WkB w g 0 ask bad) : WkS w g ask (if bad then none else some 0) := by
  refine ⟨0, ?_, ?_⟩
  · cases bad <;> exact h
  · cases bad
    · rintro n ⟨rfl⟩; exact ⟨rfl, by omega⟩
    · rintro n h; cases h
theorem WkB.thrsG {w : World} {g n : Nat} {ask bad : Bool} (h : WkB w g n ask bad) {v : Value} {ts : List ThrG} (hv : RdK 3 (isThrG w) w v ts) : ts ≠ [] → ∀ k, v.ownBlock = some k → ¬ k = g := by
  rintro hne k hk rfl
  rcases hv with ⟨a, rfl, rfl⟩ | ⟨g, o, cap, rfl, h1, h2, hg, h3⟩
  · exact hne rfl
  · cases hk
    obtain ⟨cs, hk5, hc, ⟨x, rfl, -⟩⟩ := h3 0 (by cases ts with | nil => exact absurd rfl hne | cons a l => simp)
    have c2 := hc 2 (by simp)
    have c0 := hc 0 (by simp)
    rw [cell_of_row _ _ _ _ _ _ h] at c2 c0
    have hlt := (Array.getElem?_eq_some_iff.1 c2).1
    simp at hlt
    obtain rfl : o = 0 := by omega
    simp at c0
def thrG1 (ask : Bool) (t : ThrG) (n : Nat) : Option Nat := if (ask && !nameB t.name) = true then none else stsG ask t.body n 1
theorem thrsG_append (ask : Bool) : ∀ (a b : List ThrG) (n : Nat), thrsG ask (a ++ b) n = (thrsG ask a n).bind fun m => thrsG ask b m
  | [], b, n => by simp [thrsG]
  | e :: a, b, n => by
    rw [List.cons_append, thrsG, thrsG]
    split
    · rfl
    · cases stsG ask e.body n 1 with
      | none => rfl
      | some m => simp only [Option.bind_some]; exact thrsG_append ask a b m
theorem thrsG_one (ask : Bool) (t : ThrG) (n : Nat) : thrsG ask [t] n = thrG1 ask t n := by
  rw [thrsG, thrG1]
  split
  · rfl
  · cases stsG ask t.body n 1 <;> simp [thrsG]
theorem take_stepT {ask : Bool} {l : List ThrG} {o : Option Nat} {k : Nat} (hlt : k < l.length) :
    (o.bind fun n => thrsG ask (l.take (k + 1)) n) = (o.bind fun n => thrsG ask (l.take k) n).bind fun m => thrG1 ask l[k] m := by
  cases o with
  | none => rfl
  | some n =>
    simp only [Option.bind_some]
    rw [List.take_succ_eq_append_getElem hlt, thrsG_append]
    cases thrsG ask (l.take k) n with
    | none => rfl
    | some m => simp only [Option.bind_some]; exact thrsG_one ask _ m
theorem rightG_of {ask : Bool} {os : List Dcl} {ts : List ThrG} {x b : Bool} {o : Option Nat} (hx : x = (decide (os.length > 64) || decide (ts.length > 16))) (hb : b = (x || os.any fun d => ask && !objectB d)) (ho : o = (if b then none else some 0 : Option Nat).bind fun n => thrsG ask ts n) : (!o.isNone) = rightG ask os ts := by
  unfold rightG
  have e : (os.any fun d => ask && !objectB d) = !(os.all fun d => !ask || objectB d) := by
    clear hx hb ho
    induction os with
    | nil => rfl
    | cons d l ih => rw [List.any_cons, List.all_cons, ih]; cases ask <;> simp
  rw [e] at hb
  have c1 : decide (os.length ≤ 64) = !decide (os.length > 64) := by by_cases h : os.length > 64 <;> simp [h] <;> omega
  have c2 : decide (ts.length ≤ 16) = !decide (ts.length > 16) := by by_cases h : ts.length > 16 <;> simp [h] <;> omega
  rw [c1, c2]
  subst hx hb
  rw [ho]
  cases decide (os.length > 64) <;> cases decide (ts.length > 16) <;> cases (os.all fun d => !ask || objectB d) <;> simp <;> cases thrsG ask ts 0 <;> rfl
structure PgS (w wr : World) (g : Nat) (ask : Bool) (o : Option Nat) (v0 v1 : Value) : Prop where
  on : Only (fun k => k = g) w wr
  wk : WkS wr g ask o
  pb : wr.heap[w.heap.size]? = some (.cells #[v0, v1] 51 (0, 0))
  gw : g < w.heap.size
theorem PgS.step {w wr w' : World} {g : Nat} {ask : Bool} {o : Option Nat} {v0 v1 : Value} (h : PgS w wr g ask o v0 v1) (hn : Nw wr w') : PgS w w' g ask o v0 v1 := ⟨h.on.trans hn.only, h.wk.nw hn, hn.at_ h.pb, h.gw⟩
theorem PgS.run {w wr w' : World} {g : Nat} {ask : Bool} {o o' : Option Nat} {v0 v1 : Value} (h : PgS w wr g ask o v0 v1) (hn : Only (fun k => k = g) wr w') (hs : WkS w' g ask o') : PgS w w' g ask o' v0 v1 := ⟨h.on.trans hn, hs, hn.at_ h.pb (by have := h.gw; omega), h.gw⟩
theorem PgS.bad {w wr : World} {g : Nat} {ask : Bool} {o : Option Nat} {v0 v1 : Value} (h : PgS w wr g ask o v0 v1) : PgS w (wr.setCell ⟨g, 2, none⟩ (.bool true)) g ask none v0 v1 where
  on := Only.put (S := fun k => k = g) h.on rfl _ _
  wk := by
    obtain ⟨m, h1, -⟩ := h.wk
    exact ⟨m, (wk_put h1 _).2, fun n h => by cases h⟩
  pb := by rw [heap_setCell_other _ _ _ _ (by have := h.gw; simp; omega)]; exact h.pb
  gw := h.gw
theorem PgS.good {w wr : World} {g n : Nat} {ask : Bool} {v0 v1 : Value} (h : PgS w wr g ask (some n) v0 v1) : PgS w (wr.setCell ⟨g, 2, none⟩ (.bool false)) g ask (some n) v0 v1 where
  on := Only.put (S := fun k => k = g) h.on rfl _ _
  wk := by
    obtain ⟨m, h1, h2⟩ := h.wk
    exact ⟨m, (wk_put h1 _).2, h2⟩
  pb := by rw [heap_setCell_other _ _ _ _ (by have := h.gw; simp; omega)]; exact h.pb
  gw := h.gw
theorem PgB.s {w wr : World} {g : Nat} {ask bad : Bool} {v0 v1 : Value} (h : PgB w wr g ask bad v0 v1) : PgS w wr g ask (if bad then none else some 0) v0 v1 := ⟨h.on, h.wk.s, h.pb, h.gw⟩
theorem programG_ok {w : World} {g : Nat} {ask : Bool} (hg : WkB w g 0 ask false) (hM : Mx w) (hgM : ¬ 0 = g) {v0 v1 : Value} {os : List Dcl} {ts : List ThrG} (h0 : RdK 5 isDcl w v0 os) (h1 : RdK 3 (isThrG w) w v1 ts) :
    Calls Tryz.prog 37 #[.pointer (some ⟨g, 0, none⟩), .agg #[v0, v1]] w fun z w' => z = .returned (.bool (rightG ask os ts)) ∧ Only (fun k => k = g) w w' := by
  obtain ⟨a0, c0, rfl, hc0, hm0, -⟩ := h0.len
  obtain ⟨a1, c1, rfl, hc1, hm1, -⟩ := h1.len
  have H0 := Lib.hid (fun (W : World) (hW : Only (fun k => k = g) w W) => h0.off hW (fun hne k hk => hg.dcls h0 hne k hk))
  have H1 := Lib.hid (fun (W : World) (hW : Only (fun k => k = g) w W) => RdK.imp (h1.off hW (fun hne k hk => hg.thrsG h1 hne k hk)) (fun _ _ h => isThrG.off hg.s.thin hW h))
  have HM := Lib.hid (fun (W : World) (hW : Only (fun k => k = g) w W) => hM.on hW hgM)
  obtain ⟨no, hno⟩ : ∃ n, os.length = n := ⟨_, rfl⟩
  obtain ⟨nt, hnt⟩ : ∃ n, ts.length = n := ⟨_, rfl⟩
  have NO := Lib.hid hno
  have NT := Lib.hid hnt
  have HG := Lib.hid hg
  have hm0' : c0 ≤ 9223372036854775807 := by unfold maxLen at hm0; omega
  have hm1' : c1 ≤ 9223372036854775807 := by unfold maxLen at hm1; omega
  have hgw := lt_of_block hg
  obtain ⟨g0, g1, g2, gf⟩ := box3 hg
  have hgs : ¬ g = w.heap.size := by omega
  rw [hno] at hc0 H0 ⊢
  rw [hnt] at hc1 H1 ⊢
  clear h0 h1 hM hg hno hnt
  go_enter Tryz.func37, Tryz.ntmps37
  obtain ⟨x1, hx1⟩ : ∃ x, decide ((64 : Int) < (no : Int)) = x := ⟨_, rfl⟩
  obtain ⟨x2, hx2⟩ : ∃ x, decide ((16 : Int) < (nt : Int)) = x := ⟨_, rfl⟩
  go_upto_region 1 with fail
  go_cut [4] from 9 to 21 (fun v wx => v = .bool false ∧ wx = (w.setCell ⟨g, 2, none⟩ (.bool (x1 || x2))).alloc (.cells #[.slice a0 no c0, .slice a1 nt c1] 51))
  case first =>
    cases x1 <;> cases x2
    all_goals
      go_wp2_with fail
      go_meet
      exact ⟨rfl, rfl⟩
  case rest =>
  obtain ⟨rfl, rfl⟩ := hcut
  have HX : Hid ((x1 || x2) = (decide (os.length > 64) || decide (ts.length > 16))) := Lib.hid (by
    rw [← hx1, ← hx2, NO.out, NT.out]
    congr 1 <;> (rw [decide_eq_decide]; omega))
  obtain ⟨x, hx⟩ : ∃ x, (x1 || x2) = x := ⟨_, rfl⟩
  rw [hx] at HX ⊢
  clear hx hx1 hx2 g0 g1 g2 gf
  obtain ⟨wb, hwb⟩ : ∃ wb, (w.setCell ⟨g, 2, none⟩ (.bool x)).alloc (.cells #[.slice a0 no c0, .slice a1 nt c1] 51) = wb := ⟨_, rfl⟩
  have PB : Hid (PgB w wb g ask x (.slice a0 no c0) (.slice a1 nt c1)) := Lib.hid (by
    rw [← hwb]
    have ho : Only (fun k => k = g) w (w.setCell ⟨g, 2, none⟩ (.bool x)) := Only.put (S := fun k => k = g) (Only.refl w) rfl _ _
    have hn := Nw.alloc (Nw.refl (w.setCell ⟨g, 2, none⟩ (.bool x))) (.cells #[.slice a0 no c0, .slice a1 nt c1] 51)
    refine ⟨ho.trans hn.only, ?_, ?_, hgw⟩
    · have := hn.at_ (heap_put (i := 2) HG.out (.bool x))
      simpa [WkB] using this
    · have := heap_alloc_new (w.setCell ⟨g, 2, none⟩ (.bool x)) (.cells #[.slice a0 no c0, .slice a1 nt c1] 51)
      simpa using this)
  rw [hwb]
  clear hwb
  obtain ⟨p0, p1, pf⟩ := box2 PB.out.pb
  go_wp2_with fail
  clear p0 p1 pf
  go_loopw [25] (fun v wr => ∃ (k : Nat) (b : Bool), k ≤ no ∧ v = .int .i64 k ∧ b = (x || (os.take k).any fun d => ask && !objectB d) ∧ PgB w wr g ask b (.slice a0 no c0) (.slice a1 nt c1)) (fun v _ => no - (intOf v).toNat)
  case atStart => exact ⟨0, x, by omega, rfl, by simp, PB.out⟩
  case round =>
    obtain ⟨k, bd, hk, rfl, hbd, hP⟩ := hrel
    have HP := Lib.hid hP
    have HBD := Lib.hid hbd
    clear hP hbd
    by_cases hkn : k < no
    · have q : decide ((k : Int) < (no : Int)) = true := by simp; omega
      have hkl : k < os.length := by have := NO.out; omega
      rcases H0.out wr HP.out.on with ⟨a, -, e2⟩ | ⟨gv, ov, cap, e1, -, -, hgv, h3⟩
      · rw [e2] at NO; exact absurd NO.out (by simp; omega)
      obtain ⟨rfl, -, rfl⟩ : a0 = some ⟨gv, ov, none⟩ ∧ no = os.length ∧ c0 = cap := by simpa using e1
      obtain ⟨cs, -, hc, hd, hd1, hd2, -, hd3, -⟩ := h3 k hkl
      obtain ⟨d, hdd⟩ : ∃ d, os[k]'hkl = d := ⟨_, rfl⟩
      rw [hdd] at hd hd1 hd2 hd3
      subst hd
      have e0 := hc 0 (by simp)
      have e1' := hc 1 (by simp)
      have e2 := hc 2 (by simp)
      have e3 := hc 3 (by simp)
      have e4 := hc 4 (by simp)
      simp only [List.getElem_cons_zero, List.getElem_cons_succ, Nat.add_zero] at e0 e1' e2 e3 e4
      have hgl : gv < wr.heap.size := hgv
      have HST : Hid ((bd || (ask && !objectB d)) = (x || (os.take (k + 1)).any fun d => ask && !objectB d)) := Lib.hid (by
        rw [HBD.out, any_take_succ hkl, hdd, Bool.or_assoc])
      clear hc h3 e1 hdd hgv
      have hbox : Hid (Mx wr) := Lib.hid (HM.out wr HP.out.on)
      go_upto_region 5 with fail
      have PD := Lib.hid (HP.out.step (Nw.alloc (Nw.refl wr) (.cells (dclA d) 76)))
      have CALL := Lib.hid (objIs_ok (w := wr.alloc (.cells (dclA d) 76)) (hbox.out.nw (Nw.alloc (Nw.refl wr) _)) hd1 hd2 hd3)
      obtain ⟨wd, hwd⟩ : ∃ wd, wr.alloc (.cells (dclA d) 76) = wd := ⟨_, rfl⟩
      have DB : Hid (wd.heap[wr.heap.size]? = some (.cells (dclA d) 76 (0, 0))) := Lib.hid (by rw [← hwd]; exact heap_alloc_new wr _)
      rw [hwd] at PD CALL
      unfold dclA at hwd CALL
      rw [hwd]
      clear hwd e0 e1' e2 e3 e4
      obtain ⟨m0, m1, m2, mf⟩ := box3 PD.out.wk
      obtain ⟨d0, d1, d2, d3, d4, df⟩ := box5 DB.out
      cases bd with
      | true =>
        have PQ := Lib.hid (PD.out.put true)
        simp only [Bool.true_or] at HST
        go_wp2_with fail
        exact ⟨⟨k + 1, _, by omega, by simp, HST.out, PQ.out⟩, by simp [intOf]; omega⟩
      | false =>
        simp only [Bool.false_or] at HST
        cases ask with
        | false =>
          have PQ := Lib.hid (PD.out.put false)
          simp only [Bool.false_and] at HST
          go_wp2_with fail
          exact ⟨⟨k + 1, _, by omega, by simp, HST.out, PQ.out⟩, by simp [intOf]; omega⟩
        | true =>
          simp only [Bool.true_and] at HST
          obtain ⟨y, hy⟩ : ∃ y, objectB d = y := ⟨_, rfl⟩
          rw [hy] at HST CALL
          clear hy
          go_wp2_with fail
          refine CALL.out.mono ?_
          rintro z w4 ⟨rfl, n4⟩
          have PE := Lib.hid (PD.out.step n4)
          have PQ := Lib.hid (PE.out.put (!y))
          clear n4 CALL m0 m1 m2 mf d0 d1 d2 d3 d4 df
          obtain ⟨m0, m1, m2, mf⟩ := box3 PE.out.wk
          skip
          cases y with
          | true =>
            go_wp2_with fail
            exact ⟨⟨k + 1, _, by omega, by simp, HST.out, PQ.out⟩, by simp [intOf]; omega⟩
          | false =>
            go_wp2_with fail
            exact ⟨⟨k + 1, _, by omega, by simp, HST.out, PQ.out⟩, by simp [intOf]; omega⟩
    · have q : decide ((k : Int) < (no : Int)) = false := by simp; omega
      obtain rfl : no = k := by omega
      have hbd := HBD.out
      rw [List.take_of_length_le (by rw [NO.out]; omega)] at hbd
      have HB1 := Lib.hid hbd
      obtain ⟨p0, p1, pf⟩ := box2 HP.out.pb
      have P1 := HP
      clear hbd HBD HP
      go_wp2_with fail
      clear p0 p1 pf
      obtain ⟨bx, hbx⟩ : ∃ bx, bd = bx := ⟨_, rfl⟩
      rw [hbx] at P1 HB1
      clear hbx
      obtain ⟨o0, ho0⟩ : ∃ o : Option Nat, (if bx = true then none else some 0) = o := ⟨_, rfl⟩
      have PS0 : Hid (PgS w wr g ask o0 (.slice a0 no c0) (.slice a1 nt c1)) := Lib.hid (by rw [← ho0]; exact P1.out.s)
      have HO0 := Lib.hid ho0
      clear ho0 P1
      go_loopw [51] (fun v wr => ∃ (k : Nat) (o : Option Nat), k ≤ nt ∧ v = .int .i64 k ∧ o = (o0.bind fun n => thrsG ask (ts.take k) n) ∧ PgS w wr g ask o (.slice a0 no c0) (.slice a1 nt c1)) (fun v _ => nt - (intOf v).toNat)
      case atStart => exact ⟨0, o0, by omega, rfl, by cases o0 <;> simp [thrsG], PS0.out⟩
      case round =>
        obtain ⟨k, o, hk, rfl, hbd, hP⟩ := hrel
        have HP := Lib.hid hP
        have HBD := Lib.hid hbd
        clear hP hbd PS0
        by_cases hkn : k < nt
        · have q : decide ((k : Int) < (nt : Int)) = true := by simp; omega
          have hkl : k < ts.length := by have := NT.out; omega
          rcases (H1.out wr HP.out.on) with ⟨a, -, e2⟩ | ⟨gv, ov, cap, e1, -, -, hgv, h3⟩
          · rw [e2] at NT; exact absurd NT.out (by simp; omega)
          obtain ⟨rfl, -, rfl⟩ : a1 = some ⟨gv, ov, none⟩ ∧ nt = ts.length ∧ c1 = cap := by simpa using e1
          obtain ⟨cs, -, hc, ⟨bv, hd, hd1, -, hd2⟩⟩ := h3 k hkl
          obtain ⟨d, hdd⟩ : ∃ d, ts[k]'hkl = d := ⟨_, rfl⟩
          rw [hdd] at hd hd1 hd2
          obtain ⟨ba, bc, rfl, -⟩ := RdK.len hd2
          subst hd
          have e0 := hc 0 (by simp)
          have e1' := hc 1 (by simp)
          have e2 := hc 2 (by simp)
          simp only [List.getElem_cons_zero, List.getElem_cons_succ, Nat.add_zero] at e0 e1' e2
          have hgl : gv < wr.heap.size := hgv
          have HST : Hid ((o0.bind fun n => thrsG ask (ts.take (k + 1)) n) = o.bind fun m => thrG1 ask d m) := Lib.hid (by
            rw [take_stepT hkl, ← HBD.out, hdd])
          obtain ⟨nb, hnb⟩ : ∃ n, d.body.length = n := ⟨_, rfl⟩
          rw [hnb] at e1' hd2
          have HB2 := Lib.hid hd2
          clear hc h3 e1 hdd hgv hd2 hnb
          have hbox : Hid (Mx wr) := Lib.hid (HM.out wr HP.out.on)
          go_upto_region 10 with fail
          have PD := Lib.hid (HP.out.step (Nw.alloc (Nw.refl wr) (.cells #[.string ⟨d.name.toArray⟩, .slice ba nb bc, .int .i64 d.line] 93)))
          have CALL := Lib.hid (isName_ok (w := wr.alloc (.cells #[.string ⟨d.name.toArray⟩, .slice ba nb bc, .int .i64 d.line] 93)) (hbox.out.nw (Nw.alloc (Nw.refl wr) _)) hd1)
          have B3 := Lib.hid (HB2.out.nw (Nw.alloc (Nw.refl wr) (.cells #[.string ⟨d.name.toArray⟩, .slice ba nb bc, .int .i64 d.line] 93)))
          obtain ⟨wd, hwd⟩ : ∃ wd, wr.alloc (.cells #[.string ⟨d.name.toArray⟩, .slice ba nb bc, .int .i64 d.line] 93) = wd := ⟨_, rfl⟩
          have DB : Hid (wd.heap[wr.heap.size]? = some (.cells #[.string ⟨d.name.toArray⟩, .slice ba nb bc, .int .i64 d.line] 93 (0, 0))) := Lib.hid (by rw [← hwd]; exact heap_alloc_new wr _)
          rw [hwd] at PD CALL B3 ⊢
          have hne : ¬ g = wr.heap.size := by have := HP.out.wk.lt; omega
          have hne' : ¬ wr.heap.size = g := by omega
          have HNE := Lib.hid hne'
          clear hwd e0 e1' e2
          obtain ⟨mm, hmw, hmn⟩ := PD.out.wk
          obtain ⟨m0, m1, m2, mf⟩ := box3 hmw
          obtain ⟨d0, d1, d2, df⟩ := box3 DB.out
          clear hmw hmn
          cases o with
          | none =>
            have PQ := Lib.hid PD.out.bad
            simp only [Option.isNone_none] at m2
            go_wp2_with fail
            exact ⟨⟨k + 1, _, by omega, by simp, by rw [HST.out]; rfl, PQ.out⟩, by simp [intOf]; omega⟩
          | some n =>
            simp only [Option.isNone_some] at m2
            simp only [Option.bind_some, thrG1] at HST
            cases ask with
            | false =>
              have PQ := Lib.hid PD.out.good
              simp only [Bool.false_and, Bool.false_eq_true, if_false] at HST
              have BX := Lib.hid (B3.out.off PD.out.wk.thin (Only.put (S := fun k => k = g) (b := g) (Only.refl _) rfl 2 (.bool false)))
              have SK := Lib.hid (stmts_all _ _ g false (some n) 1 (.slice ba nb bc) d.body (Nat.le_refl _) PQ.out.wk (HM.out _ PQ.out.on) hgM BX.out (by omega))
              go_wp2_with fail
              refine SK.out.mono ?_
              rintro z w9 ⟨rfl, S9, O9⟩
              have PR := Lib.hid (PQ.out.run O9 S9)
              clear S9 O9 SK
              go_wp2_with fail
              exact ⟨⟨k + 1, _, by omega, by simp, by rw [HST.out]; rfl, PR.out⟩, by simp [intOf]; omega⟩
            | true =>
              simp only [Bool.true_and] at HST
              obtain ⟨y, hy⟩ : ∃ y, nameB d.name = y := ⟨_, rfl⟩
              rw [hy] at HST CALL
              clear hy
              go_wp2_with fail
              refine CALL.out.mono ?_
              rintro z w4 ⟨rfl, n4⟩
              have PE := Lib.hid (PD.out.step n4)
              have DE := Lib.hid (n4.at_ DB.out)
              have B4 := Lib.hid (B3.out.nw n4)
              clear n4 CALL m0 m1 m2 mf d0 d1 d2 df
              obtain ⟨mm, hmw, hmn⟩ := PE.out.wk
              obtain ⟨m0, m1, m2, mf⟩ := box3 hmw
              obtain ⟨d0, d1, d2, df⟩ := box3 DE.out
              clear hmw hmn
              cases y with
              | true =>
                have PQ := Lib.hid PE.out.good
                simp only [Bool.not_true, Bool.false_eq_true, if_false] at HST
                have BX := Lib.hid (B4.out.off PE.out.wk.thin (Only.put (S := fun k => k = g) (b := g) (Only.refl _) rfl 2 (.bool false)))
                have SK := Lib.hid (stmts_all _ _ g true (some n) 1 (.slice ba nb bc) d.body (Nat.le_refl _) PQ.out.wk (HM.out _ PQ.out.on) hgM BX.out (by omega))
                go_wp2_with fail
                refine SK.out.mono ?_
                rintro z w9 ⟨rfl, S9, O9⟩
                have PR := Lib.hid (PQ.out.run O9 S9)
                clear S9 O9 SK
                go_wp2_with fail
                exact ⟨⟨k + 1, _, by omega, by simp, by rw [HST.out]; rfl, PR.out⟩, by simp [intOf]; omega⟩
              | false =>
                have PQ := Lib.hid PE.out.bad
                simp only [Bool.not_false, if_true] at HST
                go_wp2_with fail
                exact ⟨⟨k + 1, _, by omega, by simp, by rw [HST.out], PQ.out⟩, by simp [intOf]; omega⟩
        · have q : decide ((k : Int) < (nt : Int)) = false := by simp; omega
          obtain rfl : nt = k := by omega
          have hbd := HBD.out
          rw [List.take_of_length_le (by rw [NT.out]; omega)] at hbd
          have HRES : Hid ((!o.isNone) = rightG ask os ts) := Lib.hid (rightG_of HX.out HB1.out (by rw [hbd, HO0.out]))
          obtain ⟨on, hon⟩ : ∃ b, o.isNone = b := ⟨_, rfl⟩
          rw [hon] at HRES
          obtain ⟨mm, hmw, hmn⟩ := HP.out.wk
          rw [hon] at hmw
          obtain ⟨m0, m1, m2, mf⟩ := box3 hmw
          clear hbd HBD hmw hmn hon
          go_wp2_with fail
          go_ret
          exact ⟨by rw [← HRES.out]; rfl, HP.out.on⟩
theorem RightG_ok {w : World} (hM : Mx w) {v0 v1 : Value} {os : List Dcl} {ts : List ThrG} (h0 : RdK 5 isDcl w v0 os) (h1 : RdK 3 (isThrG w) w v1 ts) :
    Calls Tryz.prog 72 #[.agg #[v0, v1]] w fun z w' => z = .returned (.bool (rightG true os ts)) ∧ Nw w w' := by
  obtain ⟨a0, c0, rfl, -⟩ := h0.len
  obtain ⟨a1, c1, rfl, -⟩ := h1.len
  obtain ⟨no, hno⟩ : ∃ n, os.length = n := ⟨_, rfl⟩
  obtain ⟨nt, hnt⟩ : ∃ n, ts.length = n := ⟨_, rfl⟩
  rw [hno] at h0 ⊢
  rw [hnt] at h1 ⊢
  clear hno hnt
  obtain ⟨wk, hwk⟩ : ∃ wk, (w.alloc (.cells #[.slice a0 no c0, .slice a1 nt c1] 51)).alloc (.cells #[.int .i64 0, .bool true, .bool false] 98) = wk := ⟨_, rfl⟩
  have TB := two_blk w #[.slice a0 no c0, .slice a1 nt c1] #[.int .i64 0, .bool true, .bool false] 51 98
  rw [hwk] at TB
  have PO := Lib.hid (programG_ok (g := w.heap.size + 1) TB.2.2 (hM.nw TB.1) (by have := hM.lt; omega) (h0.nw TB.1) (h1.nwR TB.1 (fun _ _ h => h.nw TB.1)))
  have N := Lib.hid TB.1
  obtain ⟨p0, p1, pf⟩ := box2 TB.2.1
  clear TB h0 h1 hM
  go_enter Tryz.func72, Tryz.ntmps72
  go_wp2_with fail
  refine PO.out.mono ?_
  rintro z w5 ⟨rfl, o5⟩
  have N5 : Hid (Nw w w5) := Lib.hid (N.out.trans' o5 (fun k hk e => absurd hk (by omega)))
  clear o5 PO
  go_wp2_with fail
  go_ret
  exact ⟨rfl, N5.out⟩
end Go.Proofs.YtcmaedoolinijaaGreatDoor

namespace Go.Proofs.YtcmaedoolinijaaGreatDoor
open Go Go.RowKit Go.Sort
set_option maxRecDepth 100000
section
variable {P : Program} {w : World} {t kt et : TypeId} {m clock : Nat} {L : List En} {k : Str}
theorem run_look2_at {A B : List En} {e : En} (ht : P.underlying t = some (.map kt et)) (hk : P.underlying kt = some .string)
    (hb : w.heap[m]? = some (.map (ents (A ++ e :: B)) clock)) (he : e.key = k) (hn : k ∉ A.map En.key) :
    (Instr.lookup t (.map (some m)) (.string ⟨k.toArray⟩) true).run P w = .ok (.tuple #[e.val, .bool true]) w := by
  have h1 := MapKept.run_findKey (w := w) hk (findNow_hit k e he A B 0 hn)
  have h2 := fun b => run_checkStr (w := w) hk b k
  unfold ents at hb
  generalize (A ++ e :: B).map En.entry = l at *
  simp [Instr.lookup, run_underlying ht, MapKept.run_getObj_map hb, h2, Result.andThen, h1]
end
theorem kindOf_append (os : List Dcl) (d : Dcl) (s : List UInt8) : kindOf (os ++ [d]) s = (kindOf os s).or (if d.name = s then some d.kind else none) := by
  unfold kindOf
  rw [List.find?_append]
  cases os.find? fun d => d.name = s with
  | some x => rfl
  | none => by_cases h : d.name = s <;> simp [h]
def KindM (w : World) (m : Nat) (os : List Dcl) : Prop := ∃ (L : List En) (clock : Nat), w.heap[m]? = some (.map (ents L) clock) ∧ ∀ s, (kindOf os s = none ∧ s ∉ L.map En.key) ∨ ∃ k A e B, kindOf os s = some k ∧ L = A ++ e :: B ∧ e.key = s ∧ s ∉ A.map En.key ∧ e.val = .int .u8 (k : Int)
theorem KindM.nw {w w' : World} {m : Nat} {os : List Dcl} (h : KindM w m os) (ho : Nw w w') : KindM w' m os := by
  obtain ⟨L, c, h1, h2⟩ := h
  exact ⟨L, c, ho.at_ h1, h2⟩
theorem KindM.off {w w' : World} {S : Nat → Prop} {m : Nat} {os : List Dcl} (h : KindM w m os) (ho : Only S w w') (hm : ¬ S m) : KindM w' m os := by
  obtain ⟨L, c, h1, h2⟩ := h
  exact ⟨L, c, ho.at_ h1 hm, h2⟩
theorem KindM.at_ {w w' : World} {m : Nat} {os : List Dcl} (h : KindM w m os) (ho : w'.heap[m]? = w.heap[m]?) : KindM w' m os := by
  obtain ⟨L, c, h1, h2⟩ := h
  exact ⟨L, c, by rw [ho]; exact h1, h2⟩
theorem KindM.lt {w : World} {m : Nat} {os : List Dcl} (h : KindM w m os) : m < w.heap.size := by
  obtain ⟨L, c, h1, h2⟩ := h
  exact (Array.getElem?_eq_some_iff.1 h1).1
theorem KindM.look {w : World} {m : Nat} {os : List Dcl} (h : KindM w m os) (s : List UInt8) : (Instr.lookup 149 (.map (some m)) (.string ⟨s.toArray⟩) true).run Tryz.prog w = .ok (.tuple #[.int .u8 (((kindOf os s).getD 0 : Nat) : Int), .bool (kindOf os s).isSome]) w := by
  obtain ⟨L, c, h1, h2⟩ := h
  rcases h2 s with ⟨e, hn⟩ | ⟨k, A, e, B, h3, rfl, he, hA, hv⟩
  · rw [e]
    exact run_look2_miss Tryz.underlying149 Tryz.underlying9 (Tryz.zeroValue74 _) h1 hn
  · rw [h3]
    have := run_look2_at (P := Tryz.prog) (t := 149) Tryz.underlying149 Tryz.underlying9 h1 he hA
    rw [hv] at this
    exact this
theorem KindM.put {w : World} {m : Nat} {os : List Dcl} (h : KindM w m os) {d : Dcl} (hd : kindOf os d.name = none) : ∃ w', (Instr.mapUpdate 149 (.map (some m)) (.string ⟨d.name.toArray⟩) (.int .u8 (d.kind : Int))).run Tryz.prog w = .ok () w' ∧ KindM w' m (os ++ [d]) ∧ Only (fun k => k = m) w w' := by
  obtain ⟨L, c, h1, h2⟩ := h
  have hn : d.name ∉ L.map En.key := by
    rcases h2 d.name with ⟨-, hn⟩ | ⟨k, A, e, B, h3, -⟩
    · exact hn
    · rw [hd] at h3; cases h3
  refine ⟨_, run_store_miss Tryz.underlying149 Tryz.underlying9 h1 hn (.int .u8 (d.kind : Int)), ⟨L ++ [⟨d.name, .int .u8 (d.kind : Int), c⟩], c + 1, setBlk_same h1, fun s => ?_⟩, Only.setBlk (S := fun k => k = m) (Only.refl _) (fun _ => rfl) _⟩
  rw [kindOf_append]
  rcases h2 s with ⟨e, hs⟩ | ⟨k, A, e, B, h3, rfl, he, hA, hv⟩
  · rw [e, Option.none_or]
    by_cases hds : d.name = s
    · refine .inr ⟨d.kind, L, ⟨d.name, .int .u8 (d.kind : Int), c⟩, [], if_pos hds, rfl, hds, hs, rfl⟩
    · exact .inl ⟨if_neg hds, by simp only [List.map_append, List.mem_append, not_or]; exact ⟨hs, by simp; exact fun e => hds e.symm⟩⟩
  · rw [h3]
    exact .inr ⟨k, A, e, B ++ [⟨d.name, .int .u8 (d.kind : Int), c⟩], rfl, by simp, he, hA, hv⟩
def LocM (w : World) (m : Nat) (l : List (List UInt8)) : Prop := ∃ (L : List En) (clock : Nat), w.heap[m]? = some (.map (ents L) clock) ∧ L.map En.key = l ∧ ∀ e ∈ L, e.val = .int .i64 1
theorem LocM.nw {w w' : World} {m : Nat} {l : List (List UInt8)} (h : LocM w m l) (ho : Nw w w') : LocM w' m l := by
  obtain ⟨L, c, h1, h2⟩ := h
  exact ⟨L, c, ho.at_ h1, h2⟩
theorem LocM.off {w w' : World} {S : Nat → Prop} {m : Nat} {l : List (List UInt8)} (h : LocM w m l) (ho : Only S w w') (hm : ¬ S m) : LocM w' m l := by
  obtain ⟨L, c, h1, h2⟩ := h
  exact ⟨L, c, ho.at_ h1 hm, h2⟩
theorem LocM.lt {w : World} {m : Nat} {l : List (List UInt8)} (h : LocM w m l) : m < w.heap.size := by
  obtain ⟨L, c, h1, h2⟩ := h
  exact (Array.getElem?_eq_some_iff.1 h1).1
theorem LocM.len {w : World} {m : Nat} {l : List (List UInt8)} (h : LocM w m l) (ty : TypeId) : (Builtin.len_ #[101] ty #[.map (some m)]).run Tryz.prog w = .ok (.int .i64 (l.length : Int)) w := by
  obtain ⟨L, c, h1, rfl, -⟩ := h
  rw [List.length_map]
  exact run_len_map ty Tryz.underlying101 h1
def locPut (l : List (List UInt8)) (s : List UInt8) : List (List UInt8) := if s ∈ l then l else l ++ [s]
theorem LocM.look {w : World} {m : Nat} {l : List (List UInt8)} (h : LocM w m l) (s : List UInt8) : (Instr.lookup 101 (.map (some m)) (.string ⟨s.toArray⟩) false).run Tryz.prog w = .ok (.int .i64 (if s ∈ l then 1 else 0)) w := by
  obtain ⟨L, c, h1, rfl, h3⟩ := h
  rcases split_key s L with hn | ⟨A, e, B, rfl, he, hA⟩
  · rw [if_neg hn]
    exact run_look_miss Tryz.underlying101 Tryz.underlying9 (Tryz.zeroValue3 _) h1 hn
  · rw [if_pos (by simp [he])]
    have := run_look_hit (P := Tryz.prog) (t := 101) Tryz.underlying101 Tryz.underlying9 h1 he hA
    rw [h3 e (by simp)] at this
    exact this
theorem LocM.put {w : World} {m : Nat} {l : List (List UInt8)} (h : LocM w m l) (s : List UInt8) : ∃ w', (Instr.mapUpdate 101 (.map (some m)) (.string ⟨s.toArray⟩) (.int .i64 1)).run Tryz.prog w = .ok () w' ∧ LocM w' m (locPut l s) ∧ Only (fun k => k = m) w w' := by
  obtain ⟨L, c, h1, rfl, h3⟩ := h
  rcases split_key s L with hn | ⟨A, e, B, rfl, he, hA⟩
  · refine ⟨_, run_store_miss Tryz.underlying101 Tryz.underlying9 h1 hn (.int .i64 1), ⟨L ++ [⟨s, .int .i64 1, c⟩], c + 1, setBlk_same h1, ?_, fun e he => ?_⟩, Only.setBlk (S := fun k => k = m) (Only.refl _) (fun _ => rfl) _⟩
    · unfold locPut
      rw [if_neg hn]
      simp
    · rcases List.mem_append.1 he with he | he
      · exact h3 e he
      · simp at he; rw [he]
  · refine ⟨_, run_store_hit Tryz.underlying101 Tryz.underlying9 h1 he hA (.int .i64 1), ⟨A ++ ⟨s, .int .i64 1, e.born⟩ :: B, c, setBlk_same h1, ?_, fun x hx => ?_⟩, Only.setBlk (S := fun k => k = m) (Only.refl _) (fun _ => rfl) _⟩
    · unfold locPut
      rw [if_pos (by simp [he])]
      simp [he]
    · rcases List.mem_append.1 hx with hx | hx
      · exact h3 x (by simp [hx])
      · rcases List.mem_cons.1 hx with rfl | hx
        · rfl
        · exact h3 x (by simp [hx])
end Go.Proofs.YtcmaedoolinijaaGreatDoor
