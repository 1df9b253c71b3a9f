/-
  Texts merged by a program of this claim's: ChkF.
-/
import Derived.Test.YtcmaedoolinijaaGreatDoorM20
import Derived.Deep.DeepCutAuto
namespace Go.Proofs.YtcmaedoolinijaaGreatDoor
open Go Go.RowKit Go.Sort
set_option maxRecDepth 100000
set_option maxHeartbeats 3200000
theorem cell_map {w : World} {b : Nat} {M : Array MapEntry} {c : Nat} (h : w.heap[b]? = some (.map M c)) (i : Nat) : w.cell? ⟨b, i, none⟩ = none := by
  simp [World.cell?, h]
theorem RdK.offMap {α : Type} {k : Nat} {R R' : List Value → α → Prop} {ml : Nat} {w w' : World} {v : Value} {l : List α} (h : RdK k R w v l) (ho : Only (fun j => j = ml) w w') {M : Array MapEntry} {c : Nat} (hm : w.heap[ml]? = some (.map M c)) (hk : 0 < k) (hR : ∀ cs x, R cs x → R' cs x) : RdK k R' w' v l := by
  rcases h with h | ⟨g, o, cap, rfl, h1, h2, hg, h3⟩
  · exact .inl h
  · refine .inr ⟨g, o, cap, rfl, h1, h2, Nat.lt_of_lt_of_le hg ho.size, fun i hi => ?_⟩
    obtain ⟨cs, hl, hc, hr⟩ := h3 i hi
    refine ⟨cs, hl, fun j hj => ho.cell (hc j hj) (fun e => ?_), hR _ _ hr⟩
    have := hc j hj
    simp only at e
    rw [e, cell_map hm] at this
    cases this
theorem isFs.offMap {ml : Nat} {w w' : World} {cs : List Value} {s : Fs} (h : isFs w cs s) (ho : Only (fun j => j = ml) w w') {M : Array MapEntry} {c : Nat} (hm : w.heap[ml]? = some (.map M c)) : isFs w' cs s := by
  obtain ⟨v1, v2, v3, h1, h2, h3, h4, h5, h6, h7⟩ := h
  exact ⟨v1, v2, v3, h1, h2, h3, h4, h5, h6.offMap ho hm (by omega) (fun _ _ h => h), h7⟩
theorem box2c {w : World} {p : Nat} {a b : Value} {t : TypeId} (h : w.heap[p]? = some (.cells #[a, b] t (0, 0))) (x y : Value) :
    ((w.setCell ⟨p, 0, none⟩ x).setCell ⟨p, 1, none⟩ y).cell? ⟨p, 0, none⟩ = some x ∧ ((w.setCell ⟨p, 0, none⟩ x).setCell ⟨p, 1, none⟩ y).cell? ⟨p, 1, none⟩ = some y := by
  have h1 := heap_put (i := 0) h x
  have h2 := heap_put (i := 1) h1 y
  obtain ⟨a, b, -⟩ := box2 (by simpa using h2)
  exact ⟨a, b⟩
theorem bodyE_cons (os : List Dcl) (l : List (List UInt8)) (s : Fs) (b : List Fs) : bodyE os l (s :: b) = if (stmtE os l s).1 ≠ 0 then ((stmtE os l s).1, s.line) else bodyE os (stmtE os l s).2 b := by
  rw [bodyE]
  unfold stmtE
  simp only
  have e : (if s.into = [] ∨ s.into ∈ l then l else l ++ [s.into]) = if s.into = [] then l else locPut l s.into := by
    unfold locPut
    by_cases h1 : s.into = [] <;> by_cases h2 : s.into ∈ l <;> simp [h1, h2]
  rw [e]
  by_cases c : namedE os s.obj (ofK s.op) ≠ 0
  · rw [if_pos c, if_pos c, if_pos c]
  · rw [if_neg c, if_neg c]
    by_cases c2 : (if s.into = [] then l else locPut l s.into).length > 20
    · simp only [if_pos c2]
      simp
    · simp only [if_neg c2]
      simp
theorem stmtE_len {os : List Dcl} {l : List (List UInt8)} {s : Fs} (hl : l.length ≤ 20) (h : (stmtE os l s).1 = 0) : (stmtE os l s).2.length ≤ 20 := by
  unfold stmtE at h ⊢
  by_cases c : namedE os s.obj (ofK s.op) ≠ 0
  · rw [if_pos c]; exact hl
  · rw [if_neg c] at h ⊢
    simp only at h ⊢
    by_cases c2 : (if s.into = [] then l else locPut l s.into).length > 20
    · rw [if_pos c2] at h; cases h
    · omega
theorem stmts_flat {w : World} {g m ml : Nat} {os : List Dcl} {l : List (List UInt8)} (hg : w.heap[g]? = some (.cells #[.map (some m), .map (some ml)] 151 (0, 0))) (hm : KindM w m os) (hl : LocM w ml l) (hne : ¬ m = ml) {v : Value} {b : List Fs} (hb : RdK 9 (isFs w) w v b) (hll : l.length ≤ 20) :
    Calls Tryz.prog 74 #[.pointer (some ⟨g, 0, none⟩), v] w fun z w' => z = .returned (.agg (fltA (bodyE os l b).1 (bodyE os l b).2)) ∧ Only (fun k => k = ml) w w' := by
  obtain ⟨a0, c0, rfl, hc0, hm0, -⟩ := hb.len
  have hm0' : c0 ≤ 9223372036854775807 := by unfold maxLen at hm0; omega
  have hgml : ¬ g = ml := by
    obtain ⟨L, c, h1, -⟩ := hl
    intro e
    rw [e, h1] at hg
    cases hg
  have HG := Lib.hid (fun (W : World) (hW : Only (fun k => k = ml) w W) => hW.at_ hg hgml)
  have HM := Lib.hid (fun (W : World) (hW : Only (fun k => k = ml) w W) => hm.off hW hne)
  have HB : Hid (∀ W, Only (fun k => k = ml) w W → RdK 9 (isFs W) W (.slice a0 b.length c0) b) := Lib.hid (by
    intro W hW
    obtain ⟨L, c, h1, -⟩ := hl
    exact RdK.offMap hb hW h1 (by omega) (fun _ _ h => isFs.offMap h hW h1))
  have HGM := Lib.hid hgml
  have HL := Lib.hid hl
  have HLL := Lib.hid hll
  have hgl := lt_of_block hg
  have hml := hl.lt
  obtain ⟨no, hno⟩ : ∃ n, b.length = n := ⟨_, rfl⟩
  have NO := Lib.hid hno
  rw [hno] at hc0 HB ⊢
  obtain ⟨w1, hw1⟩ : ∃ w1, w.alloc (.cells (fltA 0 0) 43) = w1 := ⟨_, rfl⟩
  have N1 : Hid (Nw w w1) := Lib.hid (by rw [← hw1]; exact (Nw.refl w).alloc _)
  obtain ⟨rb, hrb⟩ : ∃ rb, w.heap.size = rb := ⟨_, rfl⟩
  have R1 : Hid (w1.heap[rb]? = some (.cells (fltA 0 0) 43 (0, 0))) := Lib.hid (by rw [← hw1, ← hrb]; exact heap_alloc_new w _)
  have hrm : ¬ rb = ml := by omega
  have HRM := Lib.hid hrm
  have HRW := Lib.hid hrb
  have L1 := Lib.hid (HL.out.nw N1.out)
  have HW1 := Lib.hid hw1
  clear hg hm hl hne hb hll hgml hno hw1
  go_enter Tryz.func74, Tryz.ntmps74
  have hw1 := HW1.out
  unfold fltA at hw1
  go_wp2_with fail
  (try rw [hrb]); (try rw [hw1])
  clear hrb hw1 HW1
  go_loopw [13] (fun v wr => ∃ (k : Nat) (l' : List (List UInt8)), k ≤ no ∧ v = .int .i64 k ∧ l'.length ≤ 20 ∧ bodyE os l b = bodyE os l' (b.drop k) ∧ LocM wr ml l' ∧ Only (fun k => k = ml) w1 wr) (fun v _ => no - (intOf v).toNat)
  case atStart => exact ⟨0, l, by omega, rfl, HLL.out, rfl, L1.out, Only.refl _⟩
  case round =>
    obtain ⟨k, l', hk, rfl, hll, hbe, hl, hw⟩ := hrel
    have HW := Lib.hid hw
    have LR := Lib.hid hl
    have HBE := Lib.hid hbe
    have HLL' := Lib.hid hll
    have WW : Hid (Only (fun k => k = ml) w wr) := Lib.hid (N1.out.only.trans hw)
    clear hw hl hbe hll
    have RR := Lib.hid (HW.out.at_ R1.out HRM.out)
    by_cases hkn : k < no
    · have q : decide ((k : Int) < (no : Int)) = true := by simp; omega
      have hkl : k < b.length := by have := NO.out; omega
      rcases HB.out wr WW.out with ⟨a, -, e2⟩ | ⟨gv, ov, cap, e1, -, -, hgv, h3⟩
      · rw [e2] at NO; exact absurd NO.out (by simp; omega)
      obtain ⟨rfl, -, rfl⟩ : a0 = some ⟨gv, ov, none⟩ ∧ no = b.length ∧ c0 = cap := by simpa using e1
      obtain ⟨cs, -, hc, hd⟩ := h3 k hkl
      obtain ⟨s, hss⟩ : ∃ s, b[k]'hkl = s := ⟨_, rfl⟩
      rw [hss] at hd
      have HD := Lib.hid hd
      obtain ⟨v1, v2, v3, rfl, -, -, -, -, hv1, ⟨b2, rfl⟩, ⟨b3, rfl⟩⟩ := hd
      obtain ⟨p1, p2, rfl, -⟩ := hv1.len
      have e0 := hc 0 (by simp)
      have e1' := hc 1 (by simp)
      have e2 := hc 2 (by simp)
      have e3 := hc 3 (by simp)
      have e4 := hc 4 (by simp)
      have e5 := hc 5 (by simp)
      have e6 := hc 6 (by simp)
      have e7 := hc 7 (by simp)
      have e8 := hc 8 (by simp)
      simp only [List.getElem_cons_zero, List.getElem_cons_succ, Nat.add_zero] at e0 e1' e2 e3 e4 e5 e6 e7 e8
      have hgl' : gv < wr.heap.size := hgv
      have HBC : Hid (bodyE os l b = if (stmtE os l' s).1 ≠ 0 then ((stmtE os l' s).1, s.line) else bodyE os (stmtE os l' s).2 (b.drop (k + 1))) := Lib.hid (by
        rw [HBE.out, List.drop_eq_getElem_cons hkl, hss, bodyE_cons])
      have HSL := Lib.hid (stmtE_len (os := os) (s := s) HLL'.out)
      clear hc h3 e1 hss hgv hv1 HBE
      go_upto_region 4 with fail
      obtain ⟨wd, hwd⟩ : ∃ wd, wr.alloc (.cells #[.int .u8 1, .int .u8 (s.op : Int), .string ⟨s.obj.toArray⟩, .string ⟨s.into.toArray⟩, .int .i64 0, .slice p1 (List.replicate s.nargs ()).length p2, .slice b2 0 0, .slice b3 0 0, .int .i64 s.line] 144) = wd := ⟨_, rfl⟩
      obtain ⟨sb, hsb⟩ : ∃ sb, wr.heap.size = sb := ⟨_, rfl⟩
      have ND : Hid (Nw wr wd) := Lib.hid (by rw [← hwd]; exact (Nw.refl wr).alloc _)
      have DB : Hid (wd.heap[sb]? = some (.cells #[.int .u8 1, .int .u8 (s.op : Int), .string ⟨s.obj.toArray⟩, .string ⟨s.into.toArray⟩, .int .i64 0, .slice p1 (List.replicate s.nargs ()).length p2, .slice b2 0 0, .slice b3 0 0, .int .i64 s.line] 144 (0, 0))) := Lib.hid (by rw [← hwd, ← hsb]; exact heap_alloc_new wr _)
      have WD : Hid (Only (fun k => k = ml) w wd) := Lib.hid (WW.out.trans ND.out.only)
      have hsl := lt_of_block DB.out
      have hsm : ¬ sb = ml := by have := LR.out.lt; omega
      have HSM := Lib.hid hsm
      have ST := Lib.hid (stmt_flat (HG.out wd WD.out) (HM.out wd WD.out) (LR.out.nw ND.out) HGM.out (by have := WD.out.size; omega) (HD.out.nw ND.out) HLL'.out)
      simp only [List.length_replicate] at hwd DB ST
      rw [hwd, hsb]
      obtain ⟨d0, d1, d2, d3, d4, d5, d6, d7, d8, df⟩ := box9 DB.out
      clear hwd hsb e0 e1' e2 e3 e4 e5 e6 e7 e8 hsm hgl'
      go_wp2_with fail
      refine ST.out.mono ?_
      rintro z w4 ⟨rfl, l4, o4⟩
      have L4 := Lib.hid l4
      have D4 := Lib.hid (o4.at_ DB.out HSM.out)
      have W4 : Hid (Only (fun k => k = ml) w1 w4) := Lib.hid ((HW.out.trans ND.out.only).trans o4)
      have R4 := Lib.hid (W4.out.at_ R1.out HRM.out)
      clear l4 o4 d0 d1 d2 d3 d4 d5 d6 d7 d8 df ST
      obtain ⟨d0, d1, d2, d3, d4, d5, d6, d7, d8, df⟩ := box9 D4.out
      obtain ⟨es, hes⟩ : ∃ es, stmtE os l' s = es := ⟨_, rfl⟩
      rw [hes] at L4 HBC HSL ⊢
      obtain ⟨e4, l4⟩ := es
      simp only at L4 HBC HSL ⊢
      clear hes
      by_cases c4 : e4 = 0
      · have q4 : (e4 != 0) = false := by simp [c4]
        have hbc := HBC.out
        rw [if_neg (by simp [c4])] at hbc
        have hsl4 := HSL.out c4
        have HBD := Lib.hid hbc
        have HS4 := Lib.hid hsl4
        have i0 : ∀ W, (Instr.index 196 (.agg #[.slice b2 0 0, .slice b3 0 0]) (.int .i64 0)).run Tryz.prog W = .ok (.slice b2 0 0) W := by intro W; kernel_rfl
        have i1 : ∀ W, (Instr.index 196 (.agg #[.slice b2 0 0, .slice b3 0 0]) (.int .i64 1)).run Tryz.prog W = .ok (.slice b3 0 0) W := by intro W; kernel_rfl
        have WL4 : Hid (w4 = w4) := Lib.hid rfl
        clear hbc hsl4 HBC HSL c4
        go_wp2_with fail
        obtain ⟨u9x, hu9⟩ : ∃ x : Value, x = undef := ⟨_, rfl⟩
        go_loopw [31] (fun v wq => ∃ j : Nat, j ≤ 2 ∧ v = .int .i64 j ∧ Nw w4 wq) (fun v _ => 2 - (intOf v).toNat)
        case atStart => exact ⟨0, by omega, rfl, Nw.refl _⟩
        case round =>
          obtain ⟨j, hj, rfl, hwq⟩ := hrel
          have WQ := Lib.hid hwq
          clear hwq
          by_cases hj0 : j = 0
          · subst hj0
            go_wp2_with fail
            refine (knostmts_ok g b2 0).mono ?_
            rintro z w5 ⟨rfl, n5⟩
            have N5 := Lib.hid (WQ.out.trans n5)
            clear n5
            unfold fltA
            go_wp2_with fail
            exact ⟨⟨1, by omega, rfl, N5.out.alloc _⟩, by simp [intOf]⟩
          · by_cases hj1 : j = 1
            · subst hj1
              go_wp2_with fail
              refine (knostmts_ok g b3 0).mono ?_
              rintro z w5 ⟨rfl, n5⟩
              have N5 := Lib.hid (WQ.out.trans n5)
              clear n5
              unfold fltA
              go_wp2_with fail
              exact ⟨⟨2, by omega, rfl, N5.out.alloc _⟩, by simp [intOf]⟩
            · obtain rfl : j = 2 := by omega
              go_wp2_with fail
              exact ⟨⟨k + 1, l4, by omega, by simp, HS4.out, HBD.out, L4.out.nw WQ.out, W4.out.trans WQ.out.only⟩, by simp [intOf]; omega⟩
      · have q4 : (e4 != 0) = true := by simp [c4]
        have hbc := HBC.out
        rw [if_pos (by simp [c4])] at hbc
        obtain ⟨r0, r1⟩ := box2c R4.out (.int .i64 e4) (.int .i64 s.line)
        obtain ⟨s0, s1, sf⟩ := box2 R4.out
        have HBD := Lib.hid hbc
        clear hbc HBC HSL c4
        have hrl := lt_of_block R4.out
        go_wp2_with fail
        refine bodyPost_ret (v := .agg (fltA e4 s.line)) (by simp [results, Tryz.results74, go_sem, r0, r1, fltA]) rfl ⟨by rw [HBD.out], ?_⟩
        have := HRW.out
        exact Only.put' (Only.put' (N1.out.only.trans W4.out) (by omega) _ _) (by omega) _ _
    · have q : decide ((k : Int) < (no : Int)) = false := by simp; omega
      have hbe := HBE.out
      rw [List.drop_of_length_le (by have := NO.out; omega), bodyE] at hbe
      have HBD := Lib.hid hbe
      obtain ⟨r0, r1⟩ := box2c RR.out (.int .i64 0) (.int .i64 0)
      obtain ⟨s0, s1, sf⟩ := box2 RR.out
      have hrl := lt_of_block RR.out
      clear hbe HBE
      go_wp2_with fail
      refine bodyPost_ret (v := .agg (fltA 0 0)) (by simp [results, Tryz.results74, go_sem, r0, r1, fltA]) rfl ⟨by rw [HBD.out], ?_⟩
      have := HRW.out
      exact Only.put' (Only.put' WW.out (by omega) _ _) (by omega) _ _
def lenF (b : List Fs) : Nat := (b.map fun s => if s.op = 16 then 3 else 1).sum
theorem lenF_le : ∀ (b : List Fs), lenF b ≤ 3 * b.length
  | [] => by simp [lenF]
  | s :: b => by
    have := lenF_le b
    unfold lenF at this ⊢
    simp only [List.map_cons, List.sum_cons, List.length_cons]
    split <;> omega
theorem lenF_take {b : List Fs} {k : Nat} (h : k < b.length) : lenF (b.take (k + 1)) = lenF (b.take k) + if b[k].op = 16 then 3 else 1 := by
  unfold lenF
  rw [List.take_succ_eq_append_getElem h, List.map_append, List.sum_append]
  simp
theorem long_flat {w : World} {v : Value} {b : List Fs} (hb : RdK 9 (isFs w) w v b) (hn : b.length ≤ 1000) :
    Calls Tryz.prog 75 #[v] w fun z w' => z = .returned (.int .i64 (lenF b : Int)) ∧ Nw w w' := by
  obtain ⟨a0, c0, rfl, hc0, hm0, -⟩ := hb.len
  have hm0' : c0 ≤ 9223372036854775807 := by unfold maxLen at hm0; omega
  have HB := Lib.hid (fun (W : World) (hW : Nw w W) => hb.nwR hW (fun _ _ h => h.nw hW))
  obtain ⟨no, hno⟩ : ∃ n, b.length = n := ⟨_, rfl⟩
  have NO := Lib.hid hno
  rw [hno] at hc0 HB hn ⊢
  have HN := Lib.hid hn
  clear hb hno hn
  go_enter Tryz.func75, Tryz.ntmps75
  go_wp2_with fail
  go_loopw [3, 9] (fun n v wr => ∃ k : Nat, k ≤ no ∧ v = .int .i64 k ∧ n = .int .i64 (lenF (b.take k) : Int) ∧ Nw w wr) (fun _ v _ => no - (intOf v).toNat)
  case atStart => exact ⟨0, by omega, rfl, by simp [lenF], Nw.refl _⟩
  case round =>
    obtain ⟨k, hk, rfl, rfl, hw⟩ := hrel
    have HW := Lib.hid hw
    clear hw
    by_cases hkn : k < no
    · have q : decide ((k : Int) < (no : Int)) = true := by simp; omega
      have hkl : k < b.length := by have := NO.out; omega
      rcases HB.out wr HW.out with ⟨a, -, e2⟩ | ⟨gv, ov, cap, e1, -, -, hgv, h3⟩
      · rw [e2] at NO; exact absurd NO.out (by simp; omega)
      obtain ⟨rfl, -, rfl⟩ : a0 = some ⟨gv, ov, none⟩ ∧ no = b.length ∧ c0 = cap := by simpa using e1
      obtain ⟨cs, -, hc, hd⟩ := h3 k hkl
      have hst := lenF_take hkl
      obtain ⟨s, hss⟩ : ∃ s, b[k]'hkl = s := ⟨_, rfl⟩
      rw [hss] at hd hst
      obtain ⟨v1, v2, v3, rfl, -, -, -, -, hv1, ⟨b2, rfl⟩, ⟨b3, rfl⟩⟩ := hd
      obtain ⟨p1, p2, rfl, -⟩ := hv1.len
      have e0 := hc 0 (by simp)
      have e1' := hc 1 (by simp)
      have e2 := hc 2 (by simp)
      have e3 := hc 3 (by simp)
      have e4 := hc 4 (by simp)
      have e5 := hc 5 (by simp)
      have e6 := hc 6 (by simp)
      have e7 := hc 7 (by simp)
      have e8 := hc 8 (by simp)
      simp only [List.getElem_cons_zero, List.getElem_cons_succ, Nat.add_zero] at e0 e1' e2 e3 e4 e5 e6 e7 e8
      have hgl' : gv < wr.heap.size := hgv
      have HST := Lib.hid hst
      have hle := lenF_le (b.take k)
      rw [List.length_take, NO.out] at hle
      have HLE : Hid (lenF (b.take k) ≤ 3000) := Lib.hid (by have := HN.out; omega)
      obtain ⟨t, ht⟩ : ∃ t, lenF (b.take k) = t := ⟨_, rfl⟩
      obtain ⟨t', ht'⟩ : ∃ t', lenF (b.take (k + 1)) = t' := ⟨_, rfl⟩
      have HT' := Lib.hid ht'
      rw [ht] at HST HLE ⊢
      rw [ht'] at HST
      simp only [List.length_replicate] at e5
      clear hc h3 e1 hss hgv hv1 hst hle ht ht'
      go_upto_region 5 with fail
      obtain ⟨wd, hwd⟩ : ∃ wd, wr.alloc (.cells #[.int .u8 1, .int .u8 (s.op : Int), .string ⟨s.obj.toArray⟩, .string ⟨s.into.toArray⟩, .int .i64 0, .slice p1 s.nargs p2, .slice b2 0 0, .slice b3 0 0, .int .i64 s.line] 144) = wd := ⟨_, rfl⟩
      obtain ⟨sb, hsb⟩ : ∃ sb, wr.heap.size = sb := ⟨_, rfl⟩
      have ND : Hid (Nw w wd) := Lib.hid (by rw [← hwd]; exact HW.out.trans ((Nw.refl wr).alloc _))
      have DB : Hid (wd.heap[sb]? = some (.cells #[.int .u8 1, .int .u8 (s.op : Int), .string ⟨s.obj.toArray⟩, .string ⟨s.into.toArray⟩, .int .i64 0, .slice p1 s.nargs p2, .slice b2 0 0, .slice b3 0 0, .int .i64 s.line] 144 (0, 0))) := Lib.hid (by rw [← hwd, ← hsb]; exact heap_alloc_new wr _)
      rw [hwd, hsb]
      obtain ⟨d0, d1, d2, d3, d4, d5, d6, d7, d8, df⟩ := box9 DB.out
      have c6' := cellG d6
      have c7' := cellG d7
      have C1 : Hid (∀ (a : Option Addr) (p : Regrown), Calls Tryz.prog 75 #[.slice a 0 0] (grow (redrawn wd p.d) p.os) fun e w'' => e = .returned (.int .i64 0) ∧ ∃ p' : Regrown, w'' = grow (redrawn wd p'.d) p'.os) := Lib.hid fun a p => quiet_nw fun w2 hw2 => (nolong_ok a 0).mono fun e w' ⟨he, hw⟩ => ⟨he, hw ▸ Nw.refl _⟩
      clear hwd hsb e0 e1' e2 e3 e4 e5 e6 e7 e8 hgl' d0 d1 d2 d3 d4 d5 d6 d7 d8 df
      refine wp_region_quiet_below (by kernel_rfl) (by kernel_rfl) ?_
      repeat (first | go_big_quiet_step (with_reducible exact C1.out _ _) | quiet_step (with_reducible exact C1.out _ _))
      refine wpQuiet_nil ?_
      intro w2 hw2
      have D2 := Lib.hid ((Nw.of_regrown hw2).at_ DB.out)
      have N2 : Hid (Nw w w2) := Lib.hid (ND.out.trans (Nw.of_regrown hw2))
      clear hw2 c6' c7' C1
      obtain ⟨d0, d1, d2, d3, d4, d5, d6, d7, d8, df⟩ := box9 D2.out
      by_cases c16 : s.op = 16
      · have q16 : ((s.op : Int) == 16) = true := by simp; omega
        have hst := HST.out
        rw [if_pos c16] at hst
        have x1 : IntKind.i64.wrap ((t : Int) + 3) = (t : Int) + 3 := IntWalk.i64_in _ (by have := HLE.out; omega)
        have x2 : min ((t : Int) + 3) 1000000000 = (t' : Int) := by have := HLE.out; omega
        clear hst HST
        go_wp2_with fail
        exact ⟨⟨k + 1, by omega, by simp, by rw [HT'.out], N2.out⟩, by simp [intOf]; omega⟩
      · have q16 : ((s.op : Int) == 16) = false := by simp; omega
        have hst := HST.out
        rw [if_neg c16] at hst
        have x1 : IntKind.i64.wrap ((t : Int) + 1) = (t : Int) + 1 := IntWalk.i64_in _ (by have := HLE.out; omega)
        have x2 : min ((t : Int) + 1) 1000000000 = (t' : Int) := by have := HLE.out; omega
        clear hst HST
        go_wp2_with fail
        exact ⟨⟨k + 1, by omega, by simp, by rw [HT'.out], N2.out⟩, by simp [intOf]; omega⟩
    · have q : decide ((k : Int) < (no : Int)) = false := by simp; omega
      rw [List.take_of_length_le (by have := NO.out; omega)]
      go_wp2_with fail
      go_ret
      exact ⟨rfl, HW.out⟩
end Go.Proofs.YtcmaedoolinijaaGreatDoor
