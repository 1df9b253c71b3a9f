/-
  Texts merged by a program of this claim's: ShowN, ShowO, ShowL, ShowM.
-/
import Derived.Test.YtcmaedoolinijaaGreatDoorM9
import Derived.Deep.DeepCutAuto
import Derived.Test.YtcmaedoolinijaaGreatDoorM2
namespace Go.Proofs.YtcmaedoolinijaaGreatDoor
open Go Go.RowKit Go.Sort
set_option maxRecDepth 100000
set_option maxHeartbeats 3200000
def SeenM (w : World) (m : Nat) (seen : List (List UInt8)) : Prop := ∃ (L : List En) (clock : Nat), w.heap[m]? = some (.map (ents L) clock) ∧ (∀ s, s ∈ L.map En.key ↔ s ∈ seen) ∧ ∀ e ∈ L, e.val = .int .i64 1
theorem SeenM.nw {w w' : World} {m : Nat} {seen : List (List UInt8)} (h : SeenM w m seen) (ho : Nw w w') : SeenM w' m seen := by
  obtain ⟨L, c, h1, h2⟩ := h
  exact ⟨L, c, ho.at_ h1, h2⟩
theorem SeenM.look {w : World} {m : Nat} {seen : List (List UInt8)} (h : SeenM w m seen) (s : List UInt8) : ∃ x : Int, (Instr.lookup 101 (.map (some m)) (.string ⟨s.toArray⟩) false).run Tryz.prog w = .ok (.int .i64 x) w ∧ (x == 1) = seen.contains s := by
  obtain ⟨L, c, h1, h2, h3⟩ := h
  rcases split_key s L with hn | ⟨A, e, B, rfl, he, hA⟩
  · refine ⟨0, run_look_miss Tryz.underlying101 Tryz.underlying9 (Tryz.zeroValue3 _) h1 hn, ?_⟩
    have : s ∉ seen := fun h => hn ((h2 s).2 h)
    simp [this]
  · refine ⟨1, ?_, ?_⟩
    · have := run_look_hit (P := Tryz.prog) (t := 101) Tryz.underlying101 Tryz.underlying9 h1 he hA
      rw [h3 e (by simp)] at this
      exact this
    · have : s ∈ seen := (h2 s).1 (by rw [← he]; simp)
      simp [this]
theorem SeenM.store {w : World} {m : Nat} {seen : List (List UInt8)} (h : SeenM w m seen) {s : List UInt8} (hs : s ∉ seen) : ∃ w', (Instr.mapUpdate 101 (.map (some m)) (.string ⟨s.toArray⟩) (.int .i64 1)).run Tryz.prog w = .ok () w' ∧ SeenM w' m (s :: seen) ∧ Only (fun k => k = m) w w' := by
  obtain ⟨L, c, h1, h2, h3⟩ := h
  have hn : s ∉ L.map En.key := fun h => hs ((h2 s).1 h)
  refine ⟨_, run_store_miss Tryz.underlying101 Tryz.underlying9 h1 hn (.int .i64 1), ⟨L ++ [⟨s, .int .i64 1, c⟩], c + 1, setBlk_same h1, fun x => ?_, fun e he => ?_⟩, Only.setBlk (S := fun k => k = m) (Only.refl _) (fun _ => rfl) _⟩
  · rw [List.map_append, List.mem_append, h2 x]
    simp [or_comm]
  · rcases List.mem_append.1 he with he | he
    · exact h3 e he
    · simp at he; rw [he]
theorem namedT_ok {w : World} {v : Value} {l : List TextP} (h : RdK 3 (isText w) w v l) (hsh : True) :
    Calls Tryz.prog 42 #[v, .func (.func 43) #[] #[]] w fun z w' => z = .returned (.bool (namedS [] (l.map (·.name)))) ∧ Nw w w' := by
  obtain ⟨a0, c0, rfl, hc0, hm0, -⟩ := h.len
  have hm0' : c0 ≤ 9223372036854775807 := by unfold maxLen at hm0; omega
  have H0 := Lib.hid (fun (W : World) (hW : Nw w W) => h.nw hW)
  obtain ⟨no, hno⟩ : ∃ n, l.length = n := ⟨_, rfl⟩
  obtain ⟨R, hR⟩ : ∃ R, namedS [] (l.map (·.name)) = R := ⟨_, rfl⟩
  have NO := Lib.hid hno
  have HR := Lib.hid hR
  have HSH := Lib.hid hsh
  rw [hno] at hc0 H0 ⊢
  rw [hR]
  have hmm := @run_makeMap Tryz.prog
  have hin1 := enters_of Tryz.func43 (by kernel_rfl) rfl
  have HL := Lib.hid (fun (W : World) (u : Value) (s : List UInt8) (hu : Rd (fun b : UInt8 => Value.int .u8 (b.toNat : Int)) W u s) (hn : s.length ≤ 9223372036854775807) => hasLow_ok hu hn 87 (fun W b => isLow_ok b) (enters_of Tryz.func87 (by kernel_rfl) rfl))
  clear h hno hR hsh
  go_enter Tryz.func42, Tryz.ntmps42
  go_wp2_with fail
  clear hmm
  obtain ⟨m, hm⟩ : ∃ m, w.heap.size = m := ⟨_, rfl⟩
  obtain ⟨w1, hw1⟩ : ∃ w1, w.alloc (.map #[] 0) = w1 := ⟨_, rfl⟩
  have S0 : Hid (SeenM w1 m []) := Lib.hid ⟨[], 0, by rw [← hw1, ← hm]; exact heap_alloc_new w _, by simp, by simp⟩
  have N0 : Hid (Nw w w1) := Lib.hid (by rw [← hw1]; exact (Nw.refl w).alloc _)
  rw [hw1, hm]
  clear hw1
  go_loopw [13] (fun v wr => ∃ (k : Nat) (seen : List (List UInt8)), k ≤ no ∧ v = .int .i64 k ∧ namedS seen ((l.map (·.name)).drop k) = R ∧ SeenM wr m seen ∧ Nw w wr) (fun v _ => no - (intOf v).toNat)
  case atStart => exact ⟨0, [], by omega, rfl, HR.out, S0.out, N0.out⟩
  case round =>
    obtain ⟨k, seen, hk, rfl, hn, hs, hw⟩ := hrel
    have HN := Lib.hid hn
    have HS := Lib.hid hs
    have HW := Lib.hid hw
    clear hn hs hw S0 N0
    by_cases hkn : k < no
    · have q : decide ((k : Int) < (no : Int)) = true := by simp; omega
      have hkl : k < l.length := by have := NO.out; omega
      rcases H0.out wr HW.out with ⟨a, -, e2⟩ | ⟨gv, ov, cap, e1, -, -, hgv, h3⟩
      · rw [e2] at NO; exact absurd NO.out (by simp; omega)
      obtain ⟨rfl, -, rfl⟩ : a0 = some ⟨gv, ov, none⟩ ∧ no = l.length ∧ c0 = cap := by simpa using e1
      obtain ⟨cs, -, hc, hd⟩ := h3 k hkl
      obtain ⟨d, hdd⟩ : ∃ d, l[k]'hkl = d := ⟨_, rfl⟩
      rw [hdd] at hd
      obtain ⟨u1, u2, hd, hlen, hd2, hd3⟩ := hd
      obtain ⟨l1, l2, hu1, -⟩ := hd2.len
      obtain ⟨l3, l4, hu2, -⟩ := hd3.len
      obtain ⟨n1, hn1⟩ : ∃ n, d.locals.length = n := ⟨_, rfl⟩
      obtain ⟨n2, hn2⟩ : ∃ n, d.code.length = n := ⟨_, rfl⟩
      rw [hn1] at hu1
      rw [hn2] at hu2
      subst hd hu1 hu2
      clear hd2 hd3 hn1 hn2
      have e0 := hc 0 (by simp)
      have e1' := hc 1 (by simp)
      have e2 := hc 2 (by simp)
      simp only [List.getElem_cons_zero, List.getElem_cons_succ, Nat.add_zero] at e0 e1' e2
      have hgl : gv < wr.heap.size := hgv
      have hst := HN.out
      rw [List.drop_eq_getElem_cons (by simpa using hkl), List.getElem_map, hdd, namedS] at hst
      have HST := Lib.hid hst
      clear hc h3 e1 hdd hgv hst
      go_upto_region 5 with fail
      obtain ⟨wd, hwd⟩ : ∃ wd, wr.alloc (.cells #[.string ⟨d.name.toArray⟩, .slice l1 n1 l2, .slice l3 n2 l4] 73) = wd := ⟨_, rfl⟩
      obtain ⟨tb, htb⟩ : ∃ tb, wr.heap.size = tb := ⟨_, rfl⟩
      have ND : Hid (Nw wr wd) := Lib.hid (by rw [← hwd]; exact (Nw.refl wr).alloc _)
      have DB : Hid (wd.heap[tb]? = some (.cells #[.string ⟨d.name.toArray⟩, .slice l1 n1 l2, .slice l3 n2 l4] 73 (0, 0))) := Lib.hid (by rw [← hwd, ← htb]; exact heap_alloc_new wr _)
      skip
      rw [hwd, htb]
      clear hwd e0 e1' e2 htb hgl
      obtain ⟨s, hsn⟩ : ∃ s, d.name = s := ⟨_, rfl⟩
      rw [hsn] at HST hlen
      obtain ⟨ln, hln⟩ : ∃ n, s.length = n := ⟨_, rfl⟩
      have hlen' : ln ≤ 9223372036854775807 := by omega
      obtain ⟨d0, d1, d2, df⟩ := box3 DB.out
      have NC := fun (W : World) => nameOf1_ok (w := W) d.name (.slice l1 n1 l2) (.slice l3 n2 l4) rfl rfl
      skip
      simp only [hsn] at NC
      go_wp2_with fail
      refine (NC wd).mono ?_
      rintro z w2 ⟨rfl, n2⟩
      have S2 := Lib.hid (HS.out.nw (ND.out.trans n2))
      have N2 := Lib.hid (HW.out.trans (ND.out.trans n2))
      have cv := Lib.run_convert_string_bytes (P := Tryz.prog) w2 9 59 5 ⟨s.toArray⟩ Tryz.underlying9 Tryz.underlying59 Tryz.underlying5
      obtain ⟨hv, hnw⟩ := Vec.of_conv w2 5 s (by unfold maxLen; omega)
      obtain ⟨wc, hwc⟩ : ∃ wc, Lib.bytesWorld w2 5 ⟨s.toArray⟩ = wc := ⟨_, rfl⟩
      rw [hwc] at cv hv hnw
      have hts : (⟨s.toArray⟩ : ByteArray).size = s.length := by simp [ByteArray.size]
      rw [hts] at cv
      have LC := Lib.hid (HL.out wc _ s (Vec.rd (f := fun b : UInt8 => Value.int .u8 (b.toNat : Int)) hv) (by omega))
      have S3 := Lib.hid (S2.out.nw hnw)
      have N3 := Lib.hid (N2.out.trans hnw)
      rw [hln] at cv LC
      obtain ⟨gc, hgc⟩ : ∃ gc, grownCap w2 ln 0 5 = gc := ⟨_, rfl⟩
      rw [hgc] at cv LC
      obtain ⟨lw, hlw⟩ : ∃ y, (s.any fun b => decide (b ≤ 32)) = y := ⟨_, rfl⟩
      rw [hlw] at LC HST
      clear hv hnw hwc hts n2 NC d0 d1 d2 df DB ND hgc hlw
      go_upto_region 7 with (first | (refine LC.out.mono ?_; rintro z w4 ⟨rfl, rfl⟩))
      obtain ⟨x, hlk, hx⟩ := S3.out.look s
      have HX := Lib.hid hx
      obtain ⟨y1, hy1⟩ : ∃ y, (s == []) = y := ⟨_, rfl⟩
      obtain ⟨y2, hy2⟩ : ∃ y, decide ((40 : Int) < (ln : Int)) = y := ⟨_, rfl⟩
      obtain ⟨y3, hy3⟩ : ∃ y, (x == 1) = y := ⟨_, rfl⟩
      have HB : Hid ((!(y1 || y2 || y3 || lw) && namedS (s :: seen) ((l.map (·.name)).drop (k + 1))) = R) := Lib.hid (by
        rw [← HST.out, ← hy1, ← hy2, ← hy3, HX.out, ← hln]
        congr 3
        · congr 1
          congr 1
          · cases s <;> rfl
          · rw [decide_eq_decide]; omega)
      have HY3 := Lib.hid (hy3.symm.trans HX.out)
      clear hx HST cv
      cases y1 with
      | true =>
        simp only [Bool.true_or, Bool.not_true, Bool.false_and] at HB
        go_wp2_with fail
        go_ret
        exact ⟨by rw [← HB.out]; rfl, N3.out⟩
      | false =>
      cases y2 with
      | true =>
        simp only [Bool.true_or, Bool.or_true, Bool.not_true, Bool.false_and] at HB
        go_wp2_with fail
        go_ret
        exact ⟨by rw [← HB.out]; rfl, N3.out⟩
      | false =>
      cases y3 with
      | true =>
        simp only [Bool.true_or, Bool.or_true, Bool.not_true, Bool.false_and] at HB
        go_wp2_with fail
        go_ret
        exact ⟨by rw [← HB.out]; rfl, N3.out⟩
      | false =>
      cases lw with
      | true =>
        simp only [Bool.true_or, Bool.or_true, Bool.not_true, Bool.false_and] at HB
        go_wp2_with fail
        go_ret
        exact ⟨by rw [← HB.out]; rfl, N3.out⟩
      | false =>
        simp only [Bool.or_self, Bool.not_false, Bool.true_and] at HB
        have hnin : s ∉ seen := by
          intro hmem
          have := HY3.out
          rw [List.contains_iff_mem.2 hmem] at this
          cases this
        obtain ⟨w5, hup, S5, O5⟩ := S3.out.store hnin
        have HS5 := Lib.hid S5
        have N5 : Hid (Nw w w5) := Lib.hid (N3.out.trans' O5 (fun k hk e => absurd hk (by omega)))
        clear S5 O5 hnin
        go_wp2_with fail
        refine ⟨⟨k + 1, _, by omega, by simp, HB.out, HS5.out, N5.out⟩, by simp [intOf]; omega⟩
    · have q : decide ((k : Int) < (no : Int)) = false := by simp; omega
      have hn := HN.out
      rw [List.drop_eq_nil_of_le (by rw [List.length_map, NO.out]; omega), namedS] at hn
      subst hn
      go_wp2_with fail
      go_ret
      exact ⟨rfl, HW.out⟩
theorem namedD_ok {w : World} {v : Value} {l : List Dcl} (h : RdK 5 isDcl w v l) (hsh : True) :
    Calls Tryz.prog 44 #[v, .func (.func 45) #[] #[]] w fun z w' => z = .returned (.bool (namedS [] (l.map (·.name)))) ∧ Nw w w' := by
  obtain ⟨a0, c0, rfl, hc0, hm0, -⟩ := h.len
  have hm0' : c0 ≤ 9223372036854775807 := by unfold maxLen at hm0; omega
  have H0 := Lib.hid (fun (W : World) (hW : Nw w W) => h.nw hW)
  obtain ⟨no, hno⟩ : ∃ n, l.length = n := ⟨_, rfl⟩
  obtain ⟨R, hR⟩ : ∃ R, namedS [] (l.map (·.name)) = R := ⟨_, rfl⟩
  have NO := Lib.hid hno
  have HR := Lib.hid hR
  have HSH := Lib.hid hsh
  rw [hno] at hc0 H0 ⊢
  rw [hR]
  have hmm := @run_makeMap Tryz.prog
  have hin1 := enters_of Tryz.func45 (by kernel_rfl) rfl
  have HL := Lib.hid (fun (W : World) (u : Value) (s : List UInt8) (hu : Rd (fun b : UInt8 => Value.int .u8 (b.toNat : Int)) W u s) (hn : s.length ≤ 9223372036854775807) => hasLow_ok hu hn 88 (fun W b => isLow2_ok b) (enters_of Tryz.func88 (by kernel_rfl) rfl))
  clear h hno hR hsh
  go_enter Tryz.func44, Tryz.ntmps44
  go_wp2_with fail
  clear hmm
  obtain ⟨m, hm⟩ : ∃ m, w.heap.size = m := ⟨_, rfl⟩
  obtain ⟨w1, hw1⟩ : ∃ w1, w.alloc (.map #[] 0) = w1 := ⟨_, rfl⟩
  have S0 : Hid (SeenM w1 m []) := Lib.hid ⟨[], 0, by rw [← hw1, ← hm]; exact heap_alloc_new w _, by simp, by simp⟩
  have N0 : Hid (Nw w w1) := Lib.hid (by rw [← hw1]; exact (Nw.refl w).alloc _)
  rw [hw1, hm]
  clear hw1
  go_loopw [13] (fun v wr => ∃ (k : Nat) (seen : List (List UInt8)), k ≤ no ∧ v = .int .i64 k ∧ namedS seen ((l.map (·.name)).drop k) = R ∧ SeenM wr m seen ∧ Nw w wr) (fun v _ => no - (intOf v).toNat)
  case atStart => exact ⟨0, [], by omega, rfl, HR.out, S0.out, N0.out⟩
  case round =>
    obtain ⟨k, seen, hk, rfl, hn, hs, hw⟩ := hrel
    have HN := Lib.hid hn
    have HS := Lib.hid hs
    have HW := Lib.hid hw
    clear hn hs hw S0 N0
    by_cases hkn : k < no
    · have q : decide ((k : Int) < (no : Int)) = true := by simp; omega
      have hkl : k < l.length := by have := NO.out; omega
      rcases H0.out wr HW.out with ⟨a, -, e2⟩ | ⟨gv, ov, cap, e1, -, -, hgv, h3⟩
      · rw [e2] at NO; exact absurd NO.out (by simp; omega)
      obtain ⟨rfl, -, rfl⟩ : a0 = some ⟨gv, ov, none⟩ ∧ no = l.length ∧ c0 = cap := by simpa using e1
      obtain ⟨cs, -, hc, hd⟩ := h3 k hkl
      obtain ⟨d, hdd⟩ : ∃ d, l[k]'hkl = d := ⟨_, rfl⟩
      rw [hdd] at hd
      obtain ⟨hd, -, hlen, -⟩ := hd
      subst hd
      have e0 := hc 0 (by simp)
      have e1' := hc 1 (by simp)
      have e2 := hc 2 (by simp)
      have e3 := hc 3 (by simp)
      have e4 := hc 4 (by simp)
      simp only [List.getElem_cons_zero, List.getElem_cons_succ, Nat.add_zero] at e0 e1' e2 e3 e4
      have hgl : gv < wr.heap.size := hgv
      have hst := HN.out
      rw [List.drop_eq_getElem_cons (by simpa using hkl), List.getElem_map, hdd, namedS] at hst
      have HST := Lib.hid hst
      clear hc h3 e1 hdd hgv hst
      go_upto_region 5 with fail
      obtain ⟨wd, hwd⟩ : ∃ wd, wr.alloc (.cells (dclA d) 76) = wd := ⟨_, rfl⟩
      obtain ⟨tb, htb⟩ : ∃ tb, wr.heap.size = tb := ⟨_, rfl⟩
      have ND : Hid (Nw wr wd) := Lib.hid (by rw [← hwd]; exact (Nw.refl wr).alloc _)
      have DB : Hid (wd.heap[tb]? = some (.cells (dclA d) 76 (0, 0))) := Lib.hid (by rw [← hwd, ← htb]; exact heap_alloc_new wr _)
      unfold dclA at hwd
      rw [hwd, htb]
      clear hwd e0 e1' e2 e3 e4 htb hgl
      obtain ⟨s, hsn⟩ : ∃ s, d.name = s := ⟨_, rfl⟩
      rw [hsn] at HST hlen
      obtain ⟨ln, hln⟩ : ∃ n, s.length = n := ⟨_, rfl⟩
      have hlen' : ln ≤ 9223372036854775807 := by omega
      obtain ⟨d0, d1, d2, d3, d4, df⟩ := box5 DB.out
      have NC := fun (W : World) => nameOf2_ok (w := W) d
      unfold dclA at NC
      simp only [hsn] at NC
      go_wp2_with fail
      refine (NC wd).mono ?_
      rintro z w2 ⟨rfl, n2⟩
      have S2 := Lib.hid (HS.out.nw (ND.out.trans n2))
      have N2 := Lib.hid (HW.out.trans (ND.out.trans n2))
      have cv := Lib.run_convert_string_bytes (P := Tryz.prog) w2 9 59 5 ⟨s.toArray⟩ Tryz.underlying9 Tryz.underlying59 Tryz.underlying5
      obtain ⟨hv, hnw⟩ := Vec.of_conv w2 5 s (by unfold maxLen; omega)
      obtain ⟨wc, hwc⟩ : ∃ wc, Lib.bytesWorld w2 5 ⟨s.toArray⟩ = wc := ⟨_, rfl⟩
      rw [hwc] at cv hv hnw
      have hts : (⟨s.toArray⟩ : ByteArray).size = s.length := by simp [ByteArray.size]
      rw [hts] at cv
      have LC := Lib.hid (HL.out wc _ s (Vec.rd (f := fun b : UInt8 => Value.int .u8 (b.toNat : Int)) hv) (by omega))
      have S3 := Lib.hid (S2.out.nw hnw)
      have N3 := Lib.hid (N2.out.trans hnw)
      rw [hln] at cv LC
      obtain ⟨gc, hgc⟩ : ∃ gc, grownCap w2 ln 0 5 = gc := ⟨_, rfl⟩
      rw [hgc] at cv LC
      obtain ⟨lw, hlw⟩ : ∃ y, (s.any fun b => decide (b ≤ 32)) = y := ⟨_, rfl⟩
      rw [hlw] at LC HST
      clear hv hnw hwc hts n2 NC d0 d1 d2 d3 d4 df DB ND hgc hlw
      go_upto_region 7 with (first | (refine LC.out.mono ?_; rintro z w4 ⟨rfl, rfl⟩))
      obtain ⟨x, hlk, hx⟩ := S3.out.look s
      have HX := Lib.hid hx
      obtain ⟨y1, hy1⟩ : ∃ y, (s == []) = y := ⟨_, rfl⟩
      obtain ⟨y2, hy2⟩ : ∃ y, decide ((40 : Int) < (ln : Int)) = y := ⟨_, rfl⟩
      obtain ⟨y3, hy3⟩ : ∃ y, (x == 1) = y := ⟨_, rfl⟩
      have HB : Hid ((!(y1 || y2 || y3 || lw) && namedS (s :: seen) ((l.map (·.name)).drop (k + 1))) = R) := Lib.hid (by
        rw [← HST.out, ← hy1, ← hy2, ← hy3, HX.out, ← hln]
        congr 3
        · congr 1
          congr 1
          · cases s <;> rfl
          · rw [decide_eq_decide]; omega)
      have HY3 := Lib.hid (hy3.symm.trans HX.out)
      clear hx HST cv
      cases y1 with
      | true =>
        simp only [Bool.true_or, Bool.not_true, Bool.false_and] at HB
        go_wp2_with fail
        go_ret
        exact ⟨by rw [← HB.out]; rfl, N3.out⟩
      | false =>
      cases y2 with
      | true =>
        simp only [Bool.true_or, Bool.or_true, Bool.not_true, Bool.false_and] at HB
        go_wp2_with fail
        go_ret
        exact ⟨by rw [← HB.out]; rfl, N3.out⟩
      | false =>
      cases y3 with
      | true =>
        simp only [Bool.true_or, Bool.or_true, Bool.not_true, Bool.false_and] at HB
        go_wp2_with fail
        go_ret
        exact ⟨by rw [← HB.out]; rfl, N3.out⟩
      | false =>
      cases lw with
      | true =>
        simp only [Bool.true_or, Bool.or_true, Bool.not_true, Bool.false_and] at HB
        go_wp2_with fail
        go_ret
        exact ⟨by rw [← HB.out]; rfl, N3.out⟩
      | false =>
        simp only [Bool.or_self, Bool.not_false, Bool.true_and] at HB
        have hnin : s ∉ seen := by
          intro hmem
          have := HY3.out
          rw [List.contains_iff_mem.2 hmem] at this
          cases this
        obtain ⟨w5, hup, S5, O5⟩ := S3.out.store hnin
        have HS5 := Lib.hid S5
        have N5 : Hid (Nw w w5) := Lib.hid (N3.out.trans' O5 (fun k hk e => absurd hk (by omega)))
        clear S5 O5 hnin
        go_wp2_with fail
        refine ⟨⟨k + 1, _, by omega, by simp, HB.out, HS5.out, N5.out⟩, by simp [intOf]; omega⟩
    · have q : decide ((k : Int) < (no : Int)) = false := by simp; omega
      have hn := HN.out
      rw [List.drop_eq_nil_of_le (by rw [List.length_map, NO.out]; omega), namedS] at hn
      subst hn
      go_wp2_with fail
      go_ret
      exact ⟨rfl, HW.out⟩
end Go.Proofs.YtcmaedoolinijaaGreatDoor

namespace Go.Proofs.YtcmaedoolinijaaGreatDoor
open Go Go.RowKit Go.Sort
set_option maxRecDepth 100000
set_option maxHeartbeats 3200000
def opsA : Array Value := (showW.map fun s => Value.string ⟨s.toArray⟩).toArray
def OpsAt (w : World) (g : Nat) : Prop := w.heap[g]? = some (.cells opsA 9 (0, 0))
theorem OpsAt.nw {w w' : World} {g : Nat} (h : OpsAt w g) (ho : Nw w w') : OpsAt w' g := ho.at_ h
theorem showW_len : showW.length = 27 := by decide +kernel
theorem OpsAt.row {w : World} {g : Nat} (h : OpsAt w g) : Strs w (.slice (some ⟨g, 0, none⟩) 27 27) showW := by
  refine .inr ⟨g, 0, 27, by rw [showW_len], by rw [showW_len]; exact Nat.le_refl _, by decide, lt_of_block h, fun i hi => ?_⟩
  rw [cell_of_row _ _ _ _ _ _ h, Nat.zero_add, opsA]
  simp [hi]
theorem OpsAt.cell {w : World} {g : Nat} (h : OpsAt w g) (j : Nat) (hj : j < 27) : w.cell? ⟨g, j, none⟩ = some (.string ⟨(nth showW (j : Int)).toArray⟩) := by
  have hj' : j < showW.length := by rw [showW_len]; exact hj
  rw [cell_of_row _ _ _ _ _ _ h, opsA]
  simp [hj', nth]
def opsText : List UInt8 := [108, 111, 99, 107, 32, 117, 110, 108, 111, 99, 107, 32, 116, 114, 121, 108, 111, 99, 107, 32, 108, 111, 99, 107, 102, 111, 114, 32, 114, 108, 111, 99, 107, 32, 114, 117, 110, 108, 111, 99, 107, 32, 119, 108, 111, 99, 107, 32, 119, 117, 110, 108, 111, 99, 107, 32, 97, 99, 113, 117, 105, 114, 101, 32, 114, 101, 108, 101, 97, 115, 101, 32, 116, 114, 121, 97, 99, 113, 117, 105, 114, 101, 32, 119, 97, 105, 116, 111, 110, 32, 115, 105, 103, 110, 97, 108, 32, 98, 114, 111, 97, 100, 99, 97, 115, 116, 32, 97, 114, 114, 105, 118, 101, 32, 100, 111, 32, 97, 100, 100, 32, 100, 111, 110, 101, 32, 119, 97, 105, 116, 102, 111, 114, 32, 112, 117, 116, 32, 116, 97, 107, 101, 32, 114, 101, 97, 100, 32, 119, 114, 105, 116, 101, 32, 119, 111, 107, 101, 32, 112, 97, 115, 115, 32, 101, 110, 100, 32, 109, 105, 115, 117, 115, 101]
theorem opsText_fields : Lib.fields opsText = showW := by decide +kernel
theorem opsText_ascii : ∀ b ∈ opsText, b.toNat < 128 := by decide +kernel
theorem sOps_ok {w : World} (hT : STab w) : Calls Tryz.prog 46 #[] w fun z w' => ∃ g, z = .returned (.slice (some ⟨g, 0, none⟩) 27 27) ∧ OpsAt w' g ∧ Nw w w' := by
  have FC := Lib.hid (Tryz.strings_Fields ⟨opsText.toArray⟩ w (by decide +kernel) (fun j b hj => opsText_ascii b (List.mem_of_getElem? hj)) hT.sp)
  have e : Lib.fields (⟨opsText.toArray⟩ : ByteArray).data.toList = showW := opsText_fields
  rw [e, showW_len] at FC
  have HO : Hid (OpsAt (w.alloc (.cells opsA 9)) w.heap.size) := Lib.hid (heap_alloc_new w _)
  have HN := Lib.hid ((Nw.refl w).alloc (.cells opsA 9))
  clear e hT
  go_enter Tryz.func46, Tryz.ntmps46
  go_wp2_with fail
  refine FC.out.mono ?_
  rintro z w1 ⟨rfl, rfl⟩
  go_wp2_with fail
  go_ret
  exact ⟨_, rfl, HO.out, HN.out⟩
structure BareR (c : CodeP) : Prop where
  lo : c.objs.length ≤ 64
  lt : c.threads.length ≤ 16
  sound : ∀ d ∈ c.objs, soundK d
  bare : ∀ t ∈ c.threads, t.locals = [] ∧ t.code = []
  nt : namedS [] (c.threads.map (·.name)) = true
  no : namedS [] (c.objs.map (·.name)) = true
theorem sRight_ok {w : World} {v0 v1 : Value} {c : CodeP} (h : CodeM w [v0, v1] c) (hb : BareR c) :
    Calls Tryz.prog 17 #[.agg #[v0, v1]] w fun z w' => z = .returned (.bool true) ∧ Nw w w' := by
  obtain ⟨a, b, e, h0, h1⟩ := h
  cases e
  obtain ⟨a0, c0, rfl, -⟩ := h0.len
  obtain ⟨a1, c1, rfl, -⟩ := h1.len
  have hn0 := (Nw.refl w).alloc (.cells #[.slice a0 c.objs.length c0, .slice a1 c.threads.length c1] 25)
  have CC := Lib.hid (fun (W : World) (hW : Nw w W) => CodeCk_ok (c := c) (h0.nw hW) (h1.nwR hW (fun _ _ h => h.nw hW)) hb.lo hb.lt hb.sound hb.bare)
  have NT := Lib.hid (fun (W : World) (hW : Nw w W) => by have := namedT_ok (h1.nwR (R' := isText W) hW (fun _ _ h => h.nw hW)) trivial; rw [hb.nt] at this; exact this)
  have ND := Lib.hid (fun (W : World) (hW : Nw w W) => by have := namedD_ok (h0.nw hW) trivial; rw [hb.no] at this; exact this)
  have PB := Lib.hid (heap_alloc_new w (.cells #[.slice a0 c.objs.length c0, .slice a1 c.threads.length c1] 25))
  have N0 := Lib.hid hn0
  obtain ⟨no, hno⟩ : ∃ n, c.objs.length = n := ⟨_, rfl⟩
  obtain ⟨nt, hnt⟩ : ∃ n, c.threads.length = n := ⟨_, rfl⟩
  rw [hno] at CC ND PB N0 ⊢
  rw [hnt] at CC NT PB N0 ⊢
  clear h0 h1 hb hno hnt hn0
  go_enter Tryz.func17, Tryz.ntmps17
  go_wp2_with fail
  refine (CC.out _ N0.out).mono ?_
  rintro z w1 ⟨rfl, n1⟩
  have N1 := Lib.hid (N0.out.trans n1)
  have P1 := Lib.hid (n1.at_ PB.out)
  obtain ⟨p0, p1, pf⟩ := box2 P1.out
  clear n1
  go_wp2_with fail
  refine (NT.out _ N1.out).mono ?_
  rintro z w2 ⟨rfl, n2⟩
  have N2 := Lib.hid (N1.out.trans n2)
  have P2 := Lib.hid (n2.at_ P1.out)
  clear n2 p0 p1 pf
  obtain ⟨p0, p1, pf⟩ := box2 P2.out
  go_wp2_with fail
  refine (ND.out _ N2.out).mono ?_
  rintro z w3 ⟨rfl, n3⟩
  have N3 := Lib.hid (N2.out.trans n3)
  clear n3
  go_wp2_with fail
  go_ret
  exact ⟨rfl, N3.out⟩
end Go.Proofs.YtcmaedoolinijaaGreatDoor

namespace Go.Proofs.YtcmaedoolinijaaGreatDoor
open Go Go.RowKit Go.Sort
set_option maxRecDepth 100000
theorem wrap_u8 {j : Nat} (h : j < 27) : IntKind.u8.wrap (j : Int) = (j : Int) := by
  have : ∀ j : Fin 27, IntKind.u8.wrap ((j.val : Nat) : Int) = ((j.val : Nat) : Int) := by decide
  exact this ⟨j, h⟩
set_option maxHeartbeats 1600000 in
theorem line5 {w5 : World} {cb eb g0 o0 n0 c0 g1 o1 n1 c1 i j k : Nat} {na nb : Int} {tn dn : List UInt8}
    (PC : Hid (w5.heap[cb]? = some (.cells #[.slice (some ⟨g0, o0, none⟩) n0 c0, .slice (some ⟨g1, o1, none⟩) n1 c1] 25 (0, 0))))
    (PE : Hid (w5.heap[eb]? = some (.cells #[.int .i64 (i : Int), .int .u8 ((j : Int) + 1), .int .i64 (k : Int), .int .i64 na, .int .i64 nb] 29 (0, 0))))
    (HS : Hid (∀ W, Nw w5 W → Calls Tryz.prog 46 #[] W fun z w' => ∃ g, z = .returned (.slice (some ⟨g, 0, none⟩) 27 27) ∧ OpsAt w' g ∧ Nw W w'))
    (HF : Hid (∀ W, Nw w5 W → ∀ n, in64 n → Calls Tryz.prog 47 #[.int .i64 n, .int .i64 10] W fun e w' => e = .returned (.string ⟨(Lib.itoa n).toArray⟩) ∧ Nw W w'))
    (CT : Hid (w5.cell? ⟨g1, o1 + i * 3, none⟩ = some (.string ⟨(tn).toArray⟩))) (CD : Hid (w5.cell? ⟨g0, o0 + k * 5 + 1, none⟩ = some (.string ⟨(dn).toArray⟩)))
    (HI : Hid (i < n1)) (HJ : Hid (j < 27)) (HK : Hid (k < n0)) (HA : Hid (in64 na)) (G0 : Hid (g0 < w5.heap.size)) (G1 : Hid (g1 < w5.heap.size)) (L0 : Hid (n0 ≤ 9223372036854775807)) (L1 : Hid (n1 ≤ 9223372036854775807))
    {u0 u1 u4 u5 u6 u7 u8 u9 u10 u11 u12 u13 u14 u15 u16 u17 u18 u19 u20 u21 u22 u23 u24 u25 u26 u27 u28 u29 u30 u31 u32 u33 u34 u35 u36 u37 u38 u39 u40 u41 u42 u43 u44 u45 u46 u47 u48 u49 u50 u51 u52 u53 u54 u55 u56 u57 u58 u59 u60 u61 u62 u63 u64 u65 u66 u67 u68 u69 u70 u71 u72 u73 u74 u75 : Value} {Q : Exit → Act → World → Prop}
    (hQ : ∀ (s6 s41 s42 s43 s44 s45 s46 s47 s48 s49 s50 s51 s52 s53 s54 s55 s56 s57 s58 s59 s60 s61 s62 s63 s64 : Value) (wx : World), Nw w5 wx → (∃ g, s6 = .slice (some ⟨g, 0, none⟩) 4 4 ∧ wx.heap[g]? = some (.cells #[.string ⟨(tn).toArray⟩, .string ⟨(nth showW (j : Int)).toArray⟩, .string ⟨(dn).toArray⟩, .string ⟨(Lib.itoa na).toArray⟩] 9 (0, 0)) ∧ w5.heap.size ≤ g) → Q .normal ⟨#[u0, u1, .pointer (some ⟨cb, 0, none⟩), .pointer (some ⟨eb, 0, none⟩), u4, u5, s6, u7, u8, u9, u10, u11, u12, u13, u14, u15, u16, u17, u18, u19, u20, u21, u22, u23, u24, u25, u26, u27, u28, u29, u30, u31, u32, u33, u34, u35, u36, u37, u38, u39, u40, s41, s42, s43, s44, s45, s46, s47, s48, s49, s50, s51, s52, s53, s54, s55, s56, s57, s58, s59, s60, s61, s62, s63, s64, u65, u66, u67, u68, u69, u70, u71, u72, u73, u74, u75], []⟩ wx) :
    Code.wp Tryz.prog ((Tryz.f18.body.bind (regionOf 5)).getD .skip) Q ⟨#[u0, u1, .pointer (some ⟨cb, 0, none⟩), .pointer (some ⟨eb, 0, none⟩), u4, u5, u6, u7, u8, u9, u10, u11, u12, u13, u14, u15, u16, u17, u18, u19, u20, u21, u22, u23, u24, u25, u26, u27, u28, u29, u30, u31, u32, u33, u34, u35, u36, u37, u38, u39, u40, u41, u42, u43, u44, u45, u46, u47, u48, u49, u50, u51, u52, u53, u54, u55, u56, u57, u58, u59, u60, u61, u62, u63, u64, u65, u66, u67, u68, u69, u70, u71, u72, u73, u74, u75], []⟩ w5 := by
  (try dsimp only at hQ ⊢)
  conv => arg 2; whnf
  have HQ := Lib.hid hQ
  clear hQ
  refine name_act fun A hA => ?_
  have hA2 : A.tmps[2]? = some (.pointer (some ⟨cb, 0, none⟩)) := by rw [hA]; rfl
  have hA3 : A.tmps[3]? = some (.pointer (some ⟨eb, 0, none⟩)) := by rw [hA]; rfl
  have hlt0 : ∀ d ∈ ([41, 42, 43, 44, 45, 46, 47, 48, 49, 50, 51, 52, 53, 54, 55, 56, 57, 58, 59, 60, 61, 62, 63, 64, 6] : List Nat), d < 76 := by decide
  refine wp_region_tab [41, 42, 43, 44, 45, 46, 47, 48, 49, 50, 51, 52, 53, 54, 55, 56, 57, 58, 59, 60, 61, 62, 63, 64, 6] [isV (.pointer (some ⟨cb, 1, none⟩)), isV (.slice (some ⟨g1, o1, none⟩) n1 c1), isV (.pointer (some ⟨eb, 0, none⟩)), isV (.int .i64 (i : Int)), isV (.pointer (some ⟨g1, o1 + i * 3, none⟩)), isV (.pointer (some ⟨g1, o1 + i * 3, none⟩)), isV (.string ⟨(tn).toArray⟩), (⟨fun x w => ∃ g, x = .slice (some ⟨g, 0, none⟩) 27 27 ∧ OpsAt w g, fun x w w' ⟨g, h1, h2⟩ n => ⟨g, h1, h2.nw n⟩⟩), isV (.pointer (some ⟨eb, 1, none⟩)), isV (.int .u8 ((j : Int) + 1)), isV (.int .u8 (j : Int)), (⟨fun x w => ∃ g, x = .pointer (some ⟨g, j, none⟩) ∧ OpsAt w g, fun x w w' ⟨g, h1, h2⟩ n => ⟨g, h1, h2.nw n⟩⟩), isV (.string ⟨(nth showW (j : Int)).toArray⟩), isV (.pointer (some ⟨cb, 0, none⟩)), isV (.slice (some ⟨g0, o0, none⟩) n0 c0), isV (.pointer (some ⟨eb, 2, none⟩)), isV (.int .i64 (k : Int)), isV (.pointer (some ⟨g0, o0 + k * 5, none⟩)), isV (.pointer (some ⟨g0, o0 + k * 5 + 1, none⟩)), isV (.string ⟨(dn).toArray⟩), isV (.pointer (some ⟨eb, 3, none⟩)), isV (.int .i64 na), isV (.string ⟨(Lib.itoa na).toArray⟩), (⟨fun x w => ∃ g, x = .slice (some ⟨g, 0, none⟩) 4 4 ∧ w.heap[g]? = some (.cells #[.string ⟨(tn).toArray⟩, .string ⟨(nth showW (j : Int)).toArray⟩, .string ⟨(dn).toArray⟩, .string ⟨(Lib.itoa na).toArray⟩] 9 (0, 0)) ∧ w5.heap.size ≤ g, fun x w w' ⟨g, h1, h2, h3⟩ n => ⟨g, h1, n.at_ h2, h3⟩⟩), (⟨fun x w => ∃ g, x = .slice (some ⟨g, 0, none⟩) 4 4 ∧ w.heap[g]? = some (.cells #[.string ⟨(tn).toArray⟩, .string ⟨(nth showW (j : Int)).toArray⟩, .string ⟨(dn).toArray⟩, .string ⟨(Lib.itoa na).toArray⟩] 9 (0, 0)) ∧ w5.heap.size ≤ g, fun x w w' ⟨g, h1, h2, h3⟩ n => ⟨g, h1, n.at_ h2, h3⟩⟩)] (by kernel_rfl) (by kernel_rfl) (by kernel_rfl) (of_decide_eq_true (by kernel_rfl)) (fun d hd => by rw [hA]; exact hlt0 d hd) (fun L hL => ⟨?a0, ?a1, ?a2, ?a3, ?a4, ?a5, ?a6, ?a7, ?a8, ?a9, ?a10, ?a11, ?a12, ?a13, ?a14, ?a15, ?a16, ?a17, ?a18, ?a19, ?a20, ?a21, ?a22, ?a23, ?a24, trivial⟩) ?he
  · intro a w hN old new
    have e2 := old 2 (.pointer (some ⟨cb, 0, none⟩)) rfl hA2
    exact OpOk.val (.pointer (some ⟨cb, 1, none⟩)) (w_none rfl) [(2, _)] (forall_cons e2 <| forall_nil) (fun ρ e ⟨c1, c2⟩ => by (try simp only [List.forall_mem_cons] at e); go_simp) ⟨Nw.refl _, rfl⟩
  · intro a w hN old new
    obtain ⟨y41, e41, g41⟩ := new 0 41 rfl rfl
    obtain rfl : y41 = .pointer (some ⟨cb, 1, none⟩) := g41
    have hp := hN.at_ PC.out
    obtain ⟨q0, q1, qf⟩ := box2 hp
    exact OpOk.val (.slice (some ⟨g1, o1, none⟩) n1 c1) (w_none rfl) [(41, _)] (forall_cons e41 <| forall_nil) (fun ρ e ⟨c1, c2⟩ => by (try simp only [List.forall_mem_cons] at e); go_simp) ⟨Nw.refl _, rfl⟩
  · intro a w hN old new
    have e3 := old 3 (.pointer (some ⟨eb, 0, none⟩)) rfl hA3
    exact OpOk.val (.pointer (some ⟨eb, 0, none⟩)) (w_none rfl) [(3, _)] (forall_cons e3 <| forall_nil) (fun ρ e ⟨c1, c2⟩ => by (try simp only [List.forall_mem_cons] at e); go_simp) ⟨Nw.refl _, rfl⟩
  · intro a w hN old new
    obtain ⟨y43, e43, g43⟩ := new 2 43 rfl rfl
    obtain rfl : y43 = .pointer (some ⟨eb, 0, none⟩) := g43
    have hp := hN.at_ PE.out
    obtain ⟨q0, q1, q2, q3, q4, qf⟩ := box5 hp
    exact OpOk.val (.int .i64 (i : Int)) (w_none rfl) [(43, _)] (forall_cons e43 <| forall_nil) (fun ρ e ⟨c1, c2⟩ => by (try simp only [List.forall_mem_cons] at e); go_simp) ⟨Nw.refl _, rfl⟩
  · intro a w hN old new
    obtain ⟨y42, e42, g42⟩ := new 1 42 rfl rfl
    obtain rfl : y42 = .slice (some ⟨g1, o1, none⟩) n1 c1 := g42
    obtain ⟨y44, e44, g44⟩ := new 3 44 rfl rfl
    obtain rfl : y44 = .int .i64 (i : Int) := g44
    have hi1 := HI.out
    have hi2 := L1.out
    exact OpOk.val (.pointer (some ⟨g1, o1 + i * 3, none⟩)) (w_none rfl) [(42, _), (44, _)] (forall_cons e42 <| forall_cons e44 <| forall_nil) (fun ρ e ⟨c1, c2⟩ => by (try simp only [List.forall_mem_cons] at e); go_simp) ⟨Nw.refl _, rfl⟩
  · intro a w hN old new
    obtain ⟨y45, e45, g45⟩ := new 4 45 rfl rfl
    obtain rfl : y45 = .pointer (some ⟨g1, o1 + i * 3, none⟩) := g45
    exact OpOk.val (.pointer (some ⟨g1, o1 + i * 3, none⟩)) (w_none rfl) [(45, _)] (forall_cons e45 <| forall_nil) (fun ρ e ⟨c1, c2⟩ => by (try simp only [List.forall_mem_cons] at e); go_simp) ⟨Nw.refl _, rfl⟩
  · intro a w hN old new
    obtain ⟨y46, e46, g46⟩ := new 5 46 rfl rfl
    obtain rfl : y46 = .pointer (some ⟨g1, o1 + i * 3, none⟩) := g46
    have hc := hN.cell CT.out
    have hl := Nat.lt_of_lt_of_le G1.out hN.size
    exact OpOk.val (.string ⟨(tn).toArray⟩) (w_none rfl) [(46, _)] (forall_cons e46 <| forall_nil) (fun ρ e ⟨c1, c2⟩ => by (try simp only [List.forall_mem_cons] at e); go_simp) ⟨Nw.refl _, rfl⟩
  · intro a w hN old new
    refine OpOk.call (w_none rfl) [] (forall_nil) (fun ρ e ⟨c1, c2⟩ => by (try simp only [List.forall_mem_cons] at e); go_simp) (HS.out _ hN) (fun e w1 h => ?_)
    obtain ⟨g, rfl, q1, n1⟩ := h
    exact ⟨_, rfl, n1, ⟨g, rfl, q1⟩⟩
  · intro a w hN old new
    have e3 := old 3 (.pointer (some ⟨eb, 0, none⟩)) rfl hA3
    exact OpOk.val (.pointer (some ⟨eb, 1, none⟩)) (w_none rfl) [(3, _)] (forall_cons e3 <| forall_nil) (fun ρ e ⟨c1, c2⟩ => by (try simp only [List.forall_mem_cons] at e); go_simp) ⟨Nw.refl _, rfl⟩
  · intro a w hN old new
    obtain ⟨y49, e49, g49⟩ := new 8 49 rfl rfl
    obtain rfl : y49 = .pointer (some ⟨eb, 1, none⟩) := g49
    have hp := hN.at_ PE.out
    obtain ⟨q0, q1, q2, q3, q4, qf⟩ := box5 hp
    exact OpOk.val (.int .u8 ((j : Int) + 1)) (w_none rfl) [(49, _)] (forall_cons e49 <| forall_nil) (fun ρ e ⟨c1, c2⟩ => by (try simp only [List.forall_mem_cons] at e); go_simp) ⟨Nw.refl _, rfl⟩
  · intro a w hN old new
    obtain ⟨y50, e50, g50⟩ := new 9 50 rfl rfl
    obtain rfl : y50 = .int .u8 ((j : Int) + 1) := g50
    have hj := HJ.out
    have hu : IntKind.u8.wrap (j : Int) = (j : Int) := wrap_u8 hj
    exact OpOk.val (.int .u8 (j : Int)) (w_none rfl) [(50, _)] (forall_cons e50 <| forall_nil) (fun ρ e ⟨c1, c2⟩ => by (try simp only [List.forall_mem_cons] at e); go_simp) ⟨Nw.refl _, rfl⟩
  · intro a w hN old new
    obtain ⟨y48, e48, g48⟩ := new 7 48 rfl rfl
    obtain ⟨z, rfl, z0⟩ := g48
    obtain ⟨y51, e51, g51⟩ := new 10 51 rfl rfl
    obtain rfl : y51 = .int .u8 (j : Int) := g51
    have hj := HJ.out
    have hj2 : ((j : Int) < 27) := by omega
    have hj3 := lt_of_block z0
    exact OpOk.val _ (w_none rfl) [(48, _), (51, _)] (forall_cons e48 <| forall_cons e51 <| forall_nil) (fun ρ e ⟨c1, c2⟩ => by (try simp only [List.forall_mem_cons] at e); go_simp) ⟨Nw.refl _, ⟨z, rfl, z0⟩⟩
  · intro a w hN old new
    obtain ⟨y52, e52, g52⟩ := new 11 52 rfl rfl
    obtain ⟨z, rfl, z0⟩ := g52
    have hc := z0.cell j HJ.out
    have hl := lt_of_block z0
    exact OpOk.val (.string ⟨(nth showW (j : Int)).toArray⟩) (w_none rfl) [(52, _)] (forall_cons e52 <| forall_nil) (fun ρ e ⟨c1, c2⟩ => by (try simp only [List.forall_mem_cons] at e); go_simp) ⟨Nw.refl _, rfl⟩
  · intro a w hN old new
    have e2 := old 2 (.pointer (some ⟨cb, 0, none⟩)) rfl hA2
    exact OpOk.val (.pointer (some ⟨cb, 0, none⟩)) (w_none rfl) [(2, _)] (forall_cons e2 <| forall_nil) (fun ρ e ⟨c1, c2⟩ => by (try simp only [List.forall_mem_cons] at e); go_simp) ⟨Nw.refl _, rfl⟩
  · intro a w hN old new
    obtain ⟨y54, e54, g54⟩ := new 13 54 rfl rfl
    obtain rfl : y54 = .pointer (some ⟨cb, 0, none⟩) := g54
    have hp := hN.at_ PC.out
    obtain ⟨q0, q1, qf⟩ := box2 hp
    exact OpOk.val (.slice (some ⟨g0, o0, none⟩) n0 c0) (w_none rfl) [(54, _)] (forall_cons e54 <| forall_nil) (fun ρ e ⟨c1, c2⟩ => by (try simp only [List.forall_mem_cons] at e); go_simp) ⟨Nw.refl _, rfl⟩
  · intro a w hN old new
    have e3 := old 3 (.pointer (some ⟨eb, 0, none⟩)) rfl hA3
    exact OpOk.val (.pointer (some ⟨eb, 2, none⟩)) (w_none rfl) [(3, _)] (forall_cons e3 <| forall_nil) (fun ρ e ⟨c1, c2⟩ => by (try simp only [List.forall_mem_cons] at e); go_simp) ⟨Nw.refl _, rfl⟩
  · intro a w hN old new
    obtain ⟨y56, e56, g56⟩ := new 15 56 rfl rfl
    obtain rfl : y56 = .pointer (some ⟨eb, 2, none⟩) := g56
    have hp := hN.at_ PE.out
    obtain ⟨q0, q1, q2, q3, q4, qf⟩ := box5 hp
    exact OpOk.val (.int .i64 (k : Int)) (w_none rfl) [(56, _)] (forall_cons e56 <| forall_nil) (fun ρ e ⟨c1, c2⟩ => by (try simp only [List.forall_mem_cons] at e); go_simp) ⟨Nw.refl _, rfl⟩
  · intro a w hN old new
    obtain ⟨y55, e55, g55⟩ := new 14 55 rfl rfl
    obtain rfl : y55 = .slice (some ⟨g0, o0, none⟩) n0 c0 := g55
    obtain ⟨y57, e57, g57⟩ := new 16 57 rfl rfl
    obtain rfl : y57 = .int .i64 (k : Int) := g57
    have hi1 := HK.out
    have hi2 := L0.out
    exact OpOk.val (.pointer (some ⟨g0, o0 + k * 5, none⟩)) (w_none rfl) [(55, _), (57, _)] (forall_cons e55 <| forall_cons e57 <| forall_nil) (fun ρ e ⟨c1, c2⟩ => by (try simp only [List.forall_mem_cons] at e); go_simp) ⟨Nw.refl _, rfl⟩
  · intro a w hN old new
    obtain ⟨y58, e58, g58⟩ := new 17 58 rfl rfl
    obtain rfl : y58 = .pointer (some ⟨g0, o0 + k * 5, none⟩) := g58
    exact OpOk.val (.pointer (some ⟨g0, o0 + k * 5 + 1, none⟩)) (w_none rfl) [(58, _)] (forall_cons e58 <| forall_nil) (fun ρ e ⟨c1, c2⟩ => by (try simp only [List.forall_mem_cons] at e); go_simp) ⟨Nw.refl _, rfl⟩
  · intro a w hN old new
    obtain ⟨y59, e59, g59⟩ := new 18 59 rfl rfl
    obtain rfl : y59 = .pointer (some ⟨g0, o0 + k * 5 + 1, none⟩) := g59
    have hc := hN.cell CD.out
    have hl := Nat.lt_of_lt_of_le G0.out hN.size
    exact OpOk.val (.string ⟨(dn).toArray⟩) (w_none rfl) [(59, _)] (forall_cons e59 <| forall_nil) (fun ρ e ⟨c1, c2⟩ => by (try simp only [List.forall_mem_cons] at e); go_simp) ⟨Nw.refl _, rfl⟩
  · intro a w hN old new
    have e3 := old 3 (.pointer (some ⟨eb, 0, none⟩)) rfl hA3
    exact OpOk.val (.pointer (some ⟨eb, 3, none⟩)) (w_none rfl) [(3, _)] (forall_cons e3 <| forall_nil) (fun ρ e ⟨c1, c2⟩ => by (try simp only [List.forall_mem_cons] at e); go_simp) ⟨Nw.refl _, rfl⟩
  · intro a w hN old new
    obtain ⟨y61, e61, g61⟩ := new 20 61 rfl rfl
    obtain rfl : y61 = .pointer (some ⟨eb, 3, none⟩) := g61
    have hp := hN.at_ PE.out
    obtain ⟨q0, q1, q2, q3, q4, qf⟩ := box5 hp
    exact OpOk.val (.int .i64 na) (w_none rfl) [(61, _)] (forall_cons e61 <| forall_nil) (fun ρ e ⟨c1, c2⟩ => by (try simp only [List.forall_mem_cons] at e); go_simp) ⟨Nw.refl _, rfl⟩
  · intro a w hN old new
    obtain ⟨y62, e62, g62⟩ := new 21 62 rfl rfl
    obtain rfl : y62 = .int .i64 na := g62
    refine OpOk.call (w_none rfl) [(62, _)] (forall_cons e62 <| forall_nil) (fun ρ e ⟨c1, c2⟩ => by (try simp only [List.forall_mem_cons] at e); go_simp) (HF.out _ hN _ HA.out) (fun e w1 h => ?_)
    obtain ⟨rfl, n1⟩ := h
    exact ⟨_, rfl, n1, rfl⟩
  · intro a w hN old new
    obtain ⟨y47, e47, g47⟩ := new 6 47 rfl rfl
    obtain rfl : y47 = .string ⟨(tn).toArray⟩ := g47
    obtain ⟨y53, e53, g53⟩ := new 12 53 rfl rfl
    obtain rfl : y53 = .string ⟨(nth showW (j : Int)).toArray⟩ := g53
    obtain ⟨y60, e60, g60⟩ := new 19 60 rfl rfl
    obtain rfl : y60 = .string ⟨(dn).toArray⟩ := g60
    obtain ⟨y63, e63, g63⟩ := new 22 63 rfl rfl
    obtain rfl : y63 = .string ⟨(Lib.itoa na).toArray⟩ := g63
    exact OpOk.made (.slice (some ⟨w.heap.size, 0, none⟩) 4 4) (w.alloc (.cells #[.string ⟨(tn).toArray⟩, .string ⟨(nth showW (j : Int)).toArray⟩, .string ⟨(dn).toArray⟩, .string ⟨(Lib.itoa na).toArray⟩] 9 (0, 0))) (w_none rfl) [(47, _), (53, _), (60, _), (63, _)] (forall_cons e47 <| forall_cons e53 <| forall_cons e60 <| forall_cons e63 <| forall_nil) (fun ρ e ⟨c1, c2⟩ => by (try simp only [List.forall_mem_cons] at e); go_simp) ⟨(Nw.refl w).alloc _, ⟨_, rfl, heap_alloc_new w _, hN.size⟩⟩
  · intro a w hN old new
    obtain ⟨y64, e64, g64⟩ := new 23 64 rfl rfl
    obtain ⟨z, rfl, z0, z1⟩ := g64
    exact OpOk.val _ (w_none rfl) [(64, _)] (forall_cons e64 <| forall_nil) (fun ρ e ⟨c1, c2⟩ => by (try simp only [List.forall_mem_cons] at e); go_simp) ⟨Nw.refl _, ⟨_, rfl, z0, z1⟩⟩
  · intro a w hN hsz hdf old new
    obtain ⟨y6, e6, g6⟩ := new 24 6 rfl
    exact tab_frame (frame_lit (dst := [41, 42, 43, 44, 45, 46, 47, 48, 49, 50, 51, 52, 53, 54, 55, 56, 57, 58, 59, 60, 61, 62, 63, 64, 6]) (l := [u0, u1, .pointer (some ⟨cb, 0, none⟩), .pointer (some ⟨eb, 0, none⟩), u4, u5, u6, u7, u8, u9, u10, u11, u12, u13, u14, u15, u16, u17, u18, u19, u20, u21, u22, u23, u24, u25, u26, u27, u28, u29, u30, u31, u32, u33, u34, u35, u36, u37, u38, u39, u40, u41, u42, u43, u44, u45, u46, u47, u48, u49, u50, u51, u52, u53, u54, u55, u56, u57, u58, u59, u60, u61, u62, u63, u64, u65, u66, u67, u68, u69, u70, u71, u72, u73, u74, u75]) hA hsz hdf old (l' := [u0, u1, .pointer (some ⟨cb, 0, none⟩), .pointer (some ⟨eb, 0, none⟩), u4, u5, (a.tmps[6]?.getD undef), u7, u8, u9, u10, u11, u12, u13, u14, u15, u16, u17, u18, u19, u20, u21, u22, u23, u24, u25, u26, u27, u28, u29, u30, u31, u32, u33, u34, u35, u36, u37, u38, u39, u40, (a.tmps[41]?.getD undef), (a.tmps[42]?.getD undef), (a.tmps[43]?.getD undef), (a.tmps[44]?.getD undef), (a.tmps[45]?.getD undef), (a.tmps[46]?.getD undef), (a.tmps[47]?.getD undef), (a.tmps[48]?.getD undef), (a.tmps[49]?.getD undef), (a.tmps[50]?.getD undef), (a.tmps[51]?.getD undef), (a.tmps[52]?.getD undef), (a.tmps[53]?.getD undef), (a.tmps[54]?.getD undef), (a.tmps[55]?.getD undef), (a.tmps[56]?.getD undef), (a.tmps[57]?.getD undef), (a.tmps[58]?.getD undef), (a.tmps[59]?.getD undef), (a.tmps[60]?.getD undef), (a.tmps[61]?.getD undef), (a.tmps[62]?.getD undef), (a.tmps[63]?.getD undef), (a.tmps[64]?.getD undef), u65, u66, u67, u68, u69, u70, u71, u72, u73, u74, u75]) (by kernel_rfl)) (HQ.out _ _ _ _ _ _ _ _ _ _ _ _ _ _ _ _ _ _ _ _ _ _ _ _ _ w hN (by rw [e6]; exact g6))
end Go.Proofs.YtcmaedoolinijaaGreatDoor

namespace Go.Proofs.YtcmaedoolinijaaGreatDoor
open Go Go.RowKit Go.Sort
set_option maxRecDepth 100000
set_option maxHeartbeats 3200000
theorem fmt_ok {w : World} (hT : STab w) {n : Int} (hn : in64 n) : Calls Tryz.prog 47 #[.int .i64 n, .int .i64 10] w fun e w' => e = .returned (.string ⟨(Lib.itoa n).toArray⟩) ∧ Nw w w' := by
  refine (Tryz.strconv_FormatInt_10 n hn.1 hn.2 w hT.p10).mono ?_
  rintro z w' ⟨rfl, k, os, rfl⟩
  exact ⟨rfl, Nw.of_below (Lib.below_grow w.heap.size w (Nat.le_refl _) k os)⟩
structure LiB (w wr : World) (cb eb : Nat) (v0 v1 : Value) (e : Ev) : Prop where
  nw : Nw w wr
  pc : wr.heap[cb]? = some (.cells #[v0, v1] 25 (0, 0))
  pe : wr.heap[eb]? = some (.cells #[.int .i64 e.thread, .int .u8 (e.op.toNat : Int), .int .i64 e.obj, .int .i64 e.a, .int .i64 e.b] 29 (0, 0))
theorem LiB.on {w wr w' : World} {cb eb : Nat} {v0 v1 : Value} {e : Ev} (h : LiB w wr cb eb v0 v1 e) (hn : Nw wr w') : LiB w w' cb eb v0 v1 e := ⟨h.nw.trans hn, hn.at_ h.pc, hn.at_ h.pe⟩
theorem lineF_bad1 {c : CodeP} {e : Ev} (h : e.thread < 0 ∨ e.thread ≥ c.threads.length) : lineF c e = ([], 132) := by unfold lineF; rw [if_pos h]
theorem lineF_bad2 {c : CodeP} {e : Ev} (h1 : ¬ (e.thread < 0 ∨ e.thread ≥ c.threads.length)) (h : e.obj < 0 ∨ e.obj ≥ c.objs.length ∨ e.op.toNat < 1 ∨ e.op.toNat > 27) : lineF c e = ([], 133) := by unfold lineF; rw [if_neg h1, if_pos h]
theorem lineF_good {c : CodeP} {e : Ev} (h1 : ¬ (e.thread < 0 ∨ e.thread ≥ c.threads.length)) (h : ¬ (e.obj < 0 ∨ e.obj ≥ c.objs.length ∨ e.op.toNat < 1 ∨ e.op.toNat > 27)) : lineF c e = (Lib.join (lineParts c e) [32], 0) := by unfold lineF; rw [if_neg h1, if_neg h]
def evA (th : Int) (op : Nat) (ob na nb : Int) : Array Value := #[.int .i64 th, .int .u8 (op : Int), .int .i64 ob, .int .i64 na, .int .i64 nb]
theorem sLine_bad1 {w : World} {a0 a1 : Option Addr} {n0 c0 n1 c1 : Nat} {th ob na nb : Int} {op : Nat} (hm1 : n1 ≤ 9223372036854775807) (h : th < 0 ∨ th ≥ (n1 : Int)) :
    Calls Tryz.prog 18 #[.agg #[.slice a0 n0 c0, .slice a1 n1 c1], .agg (evA th op ob na nb)] w fun z w' => z = .returned (.tuple #[.string ⟨#[]⟩, .int .i64 132]) ∧ Nw w w' := by
  have TB := Lib.hid (two_blk w #[.slice a0 n0 c0, .slice a1 n1 c1] (evA th op ob na nb) 25 29)
  unfold evA at TB ⊢
  obtain ⟨p0, p1, pf⟩ := box2 TB.out.2.1
  obtain ⟨e0, e1, e2, e3, e4, ef⟩ := box5 TB.out.2.2
  by_cases q : th < 0
  · have q' : decide (th < 0) = true := decide_eq_true q
    clear h q
    go_enter Tryz.func18, Tryz.ntmps18
    go_wp2_with fail
    go_ret2
    exact ⟨rfl, TB.out.1⟩
  · have q' : decide (th < 0) = false := decide_eq_false q
    have q2 : decide ((n1 : Int) ≤ th) = true := decide_eq_true (h.resolve_left q)
    clear h q
    go_enter Tryz.func18, Tryz.ntmps18
    go_wp2_with fail
    go_ret2
    exact ⟨rfl, TB.out.1⟩
theorem sLine_bad2 {w : World} {a0 a1 : Option Addr} {n0 c0 n1 c1 : Nat} {th ob na nb : Int} {op : Nat} (hm0 : n0 ≤ 9223372036854775807) (hm1 : n1 ≤ 9223372036854775807) (h1 : 0 ≤ th) (h2 : th < (n1 : Int)) (h : ob < 0 ∨ ob ≥ (n0 : Int) ∨ op < 1 ∨ op > 27) :
    Calls Tryz.prog 18 #[.agg #[.slice a0 n0 c0, .slice a1 n1 c1], .agg (evA th op ob na nb)] w fun z w' => z = .returned (.tuple #[.string ⟨#[]⟩, .int .i64 133]) ∧ Nw w w' := by
  have TB := Lib.hid (two_blk w #[.slice a0 n0 c0, .slice a1 n1 c1] (evA th op ob na nb) 25 29)
  unfold evA at TB ⊢
  obtain ⟨p0, p1, pf⟩ := box2 TB.out.2.1
  obtain ⟨e0, e1, e2, e3, e4, ef⟩ := box5 TB.out.2.2
  have q1 : decide (th < 0) = false := by simp; omega
  have q2 : decide ((n1 : Int) ≤ th) = false := by simp; omega
  by_cases q3 : ob < 0
  · have q3' : decide (ob < 0) = true := decide_eq_true q3
    clear h q3 h1 h2
    go_enter Tryz.func18, Tryz.ntmps18
    go_wp2_with fail
    go_ret2
    exact ⟨rfl, TB.out.1⟩
  · have q3' : decide (ob < 0) = false := decide_eq_false q3
    by_cases q4 : (n0 : Int) ≤ ob
    · have q4' : decide ((n0 : Int) ≤ ob) = true := decide_eq_true q4
      clear h q3 q4 h1 h2
      go_enter Tryz.func18, Tryz.ntmps18
      go_wp2_with fail
      go_ret2
      exact ⟨rfl, TB.out.1⟩
    · have q4' : decide ((n0 : Int) ≤ ob) = false := decide_eq_false q4
      by_cases q5 : op < 1
      · have q5' : decide ((op : Int) < 1) = true := by simp; omega
        clear h q3 q4 q5 h1 h2
        go_enter Tryz.func18, Tryz.ntmps18
        go_wp2_with fail
        go_ret2
        exact ⟨rfl, TB.out.1⟩
      · have q5' : decide ((op : Int) < 1) = false := by simp; omega
        have q6 : decide (27 < (op : Int)) = true := by simp; omega
        clear h q3 q4 q5 h1 h2
        go_enter Tryz.func18, Tryz.ntmps18
        go_wp2_with fail
        go_ret2
        exact ⟨rfl, TB.out.1⟩
theorem join_ok {w : World} {v : Value} {l : List (List UInt8)} (h : SrcV 1 w v l.length (l.map fun s => Value.string ⟨s.toArray⟩)) (h0 : l ≠ []) (hn : l.length ≤ 140737488355328) (hs : (Lib.join l [32]).length ≤ 140737488355328) :
    Calls Tryz.prog 48 #[v, .string ⟨#[32]⟩] w fun z w' => z = .returned (.string ⟨(Lib.join l [32]).toArray⟩) ∧ Nw w w' := by
  obtain ⟨-, ⟨a, rfl, e⟩ | ⟨g, o, cap, rfl, h1, h2, h3, h4⟩⟩ := h
  · exact absurd (List.eq_nil_of_length_eq_zero e) h0
  · have e : (l.map fun s => (⟨s.toArray⟩ : ByteArray)).map (fun x : ByteArray => x.data.toList) = l := by rw [List.map_map]; exact List.map_id'' (fun _ => rfl) l
    have := Tryz.strings_Join g o cap (l.map fun s => ⟨s.toArray⟩) ⟨#[32]⟩ w (fun j x hx => by
      rw [List.getElem?_map] at hx
      cases hj : l[j]? with
      | none => rw [hj] at hx; cases hx
      | some y =>
        rw [hj] at hx
        obtain rfl : (⟨y.toArray⟩ : ByteArray) = x := by simpa using hx
        obtain ⟨hlt, rfl⟩ := List.getElem?_eq_some_iff.1 hj
        have := h4 j (by simpa using hlt)
        simpa using this) h3 (by simpa using hn) (by simpa using h1) (by rw [e]; exact hs)
    rw [e, List.length_map] at this
    refine this.mono ?_
    rintro z w' ⟨rfl, hb⟩
    exact ⟨rfl, Nw.of_below hb⟩
theorem infoStr : (Tryz.prog.info? 9).map (fun i => (i.zero, i.size, i.bytes)) = some (some (.string ⟨#[]⟩), 1, 16) := by kernel_rfl
set_option maxHeartbeats 6400000 in
theorem sLine_good {w : World} (hT : STab w) {g0 o0 n0 c0 g1 o1 n1 c1 i j k : Nat} {na nb : Int} {tn dn : List UInt8} (hm0 : n0 ≤ 9223372036854775807) (hm1 : n1 ≤ 9223372036854775807)
    (CT : w.cell? ⟨g1, o1 + i * 3, none⟩ = some (.string ⟨tn.toArray⟩)) (CD : w.cell? ⟨g0, o0 + k * 5 + 1, none⟩ = some (.string ⟨dn.toArray⟩)) (hi : i < n1) (hj : j < 27) (hk : k < n0) (hna : in64 na) (hnb : in64 nb)
    (hl : (Lib.join ([tn, nth showW (j : Int), dn, Lib.itoa na] ++ if nb = 0 then [] else [Lib.itoa nb]) [32]).length ≤ 140737488355328) :
    Calls Tryz.prog 18 #[.agg #[.slice (some ⟨g0, o0, none⟩) n0 c0, .slice (some ⟨g1, o1, none⟩) n1 c1], .agg (evA (i : Int) (j + 1) (k : Int) na nb)] w fun z w' => z = .returned (.tuple #[.string ⟨(Lib.join ([tn, nth showW (j : Int), dn, Lib.itoa na] ++ if nb = 0 then [] else [Lib.itoa nb]) [32]).toArray⟩, .int .i64 0]) ∧ Nw w w' := by
  have TB := Lib.hid (two_blk w #[.slice (some ⟨g0, o0, none⟩) n0 c0, .slice (some ⟨g1, o1, none⟩) n1 c1] (evA (i : Int) (j + 1) (k : Int) na nb) 25 29)
  have q1 : decide ((i : Int) < 0) = false := by simp
  have q2 : decide ((n1 : Int) ≤ (i : Int)) = false := by simp; omega
  have q3 : decide ((k : Int) < 0) = false := by simp
  have q4 : decide ((n0 : Int) ≤ (k : Int)) = false := by simp; omega
  have q2n : ¬ (n1 ≤ i) := by omega
  have q4n : ¬ (n0 ≤ k) := by omega
  have q5 : decide ((j : Int) + 1 < 1) = false := by simp; omega
  have q6 : decide (27 < (j : Int) + 1) = false := by simp; omega
  have N0 := Lib.hid TB.out.1
  obtain ⟨ps, hps⟩ : ∃ ps, ([tn, nth showW (j : Int), dn, Lib.itoa na] ++ if nb = 0 then [] else [Lib.itoa nb]) = ps := ⟨_, rfl⟩
  rw [hps] at hl ⊢
  have HPS := Lib.hid hps
  have HL := Lib.hid hl
  have HT := Lib.hid (fun (W : World) (hW : Nw w W) => hT.nw hW)
  have P0 := Lib.hid TB.out.2.1
  have E0 : Hid ((((w.alloc (.cells #[.slice (some ⟨g0, o0, none⟩) n0 c0, .slice (some ⟨g1, o1, none⟩) n1 c1] 25)).alloc (.cells (evA (i : Int) (j + 1) (k : Int) na nb) 29)).heap[w.heap.size + 1]? = some (.cells #[.int .i64 (i : Int), .int .u8 ((j : Int) + 1), .int .i64 (k : Int), .int .i64 na, .int .i64 nb] 29 (0, 0)))) := Lib.hid (by have := TB.out.2.2; unfold evA at this ⊢; rw [Int.natCast_add] at this; exact this)
  have hcT := CT
  have hcD := CD
  have CT' := Lib.hid (TB.out.1.cell CT)
  have CD' := Lib.hid (TB.out.1.cell CD)
  have G0 := Lib.hid (Nat.lt_of_lt_of_le (World.block_lt_of_cell? w _ hcD) TB.out.1.size)
  have G1 := Lib.hid (Nat.lt_of_lt_of_le (World.block_lt_of_cell? w _ hcT) TB.out.1.size)
  have HI := Lib.hid hi
  have HJ := Lib.hid hj
  have HK := Lib.hid hk
  have HA := Lib.hid hna
  have HB := Lib.hid hnb
  have L0 := Lib.hid hm0
  have L1 := Lib.hid hm1
  have hs : ((j + 1 : Nat) : Int) = (j : Int) + 1 := by omega
  clear hl hps hT CT CD hcT hcD hi hj hk hna hnb TB
  unfold evA at N0 P0 E0 CT' CD' G0 G1 ⊢
  rw [hs] at N0 P0 E0 CT' CD' G0 G1 ⊢
  obtain ⟨p0, p1, pf⟩ := box2 P0.out
  obtain ⟨e0, e1, e2, e3, e4, ef⟩ := box5 E0.out
  go_enter Tryz.func18, Tryz.ntmps18
  go_upto_region 5 with fail
  clear p0 p1 pf e0 e1 e2 e3 e4 ef q1 q2 q3 q4 q5 q6
  refine line5 P0 E0 (Lib.hid fun W hW => sOps_ok (HT.out W (N0.out.trans hW))) (Lib.hid fun W hW n hn => fmt_ok (HT.out W (N0.out.trans hW)) hn) CT' CD' HI HJ HK HA G0 G1 L0 L1 ?_
  rintro s6 s41 s42 s43 s44 s45 s46 s47 s48 s49 s50 s51 s52 s53 s54 s55 s56 s57 s58 s59 s60 s61 s62 s63 s64 w2 n2 ⟨g, rfl, hg, hgl⟩
  have N2 := Lib.hid (N0.out.trans n2)
  have E2 := Lib.hid (n2.at_ E0.out)
  have RG := Lib.hid hg
  have RL := Lib.hid (lt_of_block hg)
  have VC : Hid (Vec 1 w2 (.slice (some ⟨g, 0, none⟩) 4 4) 4 [.string ⟨tn.toArray⟩, .string ⟨(nth showW (j : Int)).toArray⟩, .string ⟨dn.toArray⟩, .string ⟨(Lib.itoa na).toArray⟩]) := Lib.hid ⟨rfl, .inr ⟨g, 0, 4, rfl, Nat.le_refl _, by decide, lt_of_block hg, fun j hj => by rw [Nat.zero_add, cell_of_row _ _ _ _ _ _ hg]; simp; omega, fun j hj => by simp [World.frozen?, hg], fun j hj => by rw [Nat.zero_add, cell_of_row _ _ _ _ _ _ hg]; simp⟩⟩
  have GL : Hid (w.heap.size ≤ g) := Lib.hid (Nat.le_trans N0.out.size hgl)
  clear hgl n2 hg P0 E0 N0 CT' CD' HI HJ HK G0 G1 L0 L1
  obtain ⟨e0, e1, e2, e3, e4, ef⟩ := box5 E2.out
  by_cases hb : nb = 0
  · subst hb
    have JN := Lib.hid (join_ok (v := .slice (some ⟨g, 0, none⟩) 4 4) (w := w2) (l := ps) (by rw [← HPS.out]; exact VC.out.src) (by rw [← HPS.out]; simp) (by rw [← HPS.out]; simp) HL.out)
    clear VC RG
    go_wp2_with fail
    refine JN.out.mono ?_
    rintro z w3 ⟨rfl, n3⟩
    have N3 := Lib.hid (N2.out.trans n3)
    clear n3
    go_wp2_with fail
    go_ret2
    exact ⟨rfl, N3.out⟩
  · have FB := Lib.hid (fmt_ok (HT.out w2 N2.out) HB.out)
    go_wp2_with fail
    refine FB.out.mono ?_
    rintro z w3 ⟨rfl, n3⟩
    have N3 := Lib.hid (N2.out.trans n3)
    have V3 := Lib.hid (VC.out.nw n3)
    clear n3
    obtain ⟨i0, hi, hz0, hz1, hz2⟩ := info_parts infoStr
    have HI := Lib.hid hi
    have HZ0 := Lib.hid hz0
    have HZ1 := Lib.hid hz1
    have HZ2 := Lib.hid hz2
    have SR := Lib.hid (src_lit w3 9 (0, 0) 1 1 1 [.string ⟨(Lib.itoa nb).toArray⟩] rfl (by omega) (by decide))
    have n4 := Nw.alloc (Nw.refl w3) (.cells #[.string ⟨(Lib.itoa nb).toArray⟩] 9)
    have V4 := Lib.hid (V3.out.nw n4)
    have N4 := Lib.hid (N3.out.trans n4)
    clear n4 hi hz0 hz1 hz2 VC V3 N3 N2
    go_wp2_with (at_builtin; refine wpList_append_vec rfl _ _ 70 rfl 9 i0 (.string ⟨#[]⟩) 1 16 Tryz.underlying70 HI.out HZ0.out HZ1.out HZ2.out rfl (by decide) rfl rfl V4.out SR.out (by simp [Value.oneCell']) (by unfold maxLen; omega) (by omega) ?_; intro v5 w5 hV5 hO5 _; have V5 := Lib.hid hV5; have N5 := Lib.hid (N4.out.trans' hO5 (fun k hk e => by have h1 := GL.out; have h2 : some g = some k := e; have h3 := Option.some.inj h2; omega)); clear hV5 hO5)
    have JN := Lib.hid (join_ok (v := v5) (w := w5) (l := ps) (by rw [← HPS.out, if_neg hb]; exact V5.out.src) (by rw [← HPS.out]; simp) (by rw [← HPS.out, if_neg hb]; simp) HL.out)
    go_wp2_with fail
    refine JN.out.mono ?_
    rintro z w6 ⟨rfl, n6⟩
    have N6 := Lib.hid (N5.out.trans n6)
    clear n6
    go_wp2_with fail
    go_ret2
    exact ⟨rfl, N6.out⟩
theorem CodeM.tname {w : World} {v0 v1 : Value} {c : CodeP} (h : CodeM w [v0, v1] c) {i : Nat} (hi : i < c.threads.length) : ∃ g1 o1 c1, v1 = .slice (some ⟨g1, o1, none⟩) c.threads.length c1 ∧ w.cell? ⟨g1, o1 + i * 3, none⟩ = some (.string ⟨(c.threads[i]).name.toArray⟩) ∧ c1 ≤ maxLen ∧ c.threads.length ≤ c1 := by
  obtain ⟨a, b, e, -, h1⟩ := h
  obtain ⟨rfl, rfl⟩ : v0 = a ∧ v1 = b := by simpa using e
  rcases h1 with ⟨a, -, e2⟩ | ⟨gv, ov, cap, rfl, k1, k2, hgv, h3⟩
  · rw [e2] at hi; exact absurd hi (by simp)
  · obtain ⟨cs, -, hc, u1, u2, rfl, -⟩ := h3 i hi
    exact ⟨gv, ov, cap, rfl, by have := hc 0 (by simp); simpa using this, k2, k1⟩
theorem CodeM.dname {w : World} {v0 v1 : Value} {c : CodeP} (h : CodeM w [v0, v1] c) {i : Nat} (hi : i < c.objs.length) : ∃ g1 o1 c1, v0 = .slice (some ⟨g1, o1, none⟩) c.objs.length c1 ∧ w.cell? ⟨g1, o1 + i * 5 + 1, none⟩ = some (.string ⟨(c.objs[i]).name.toArray⟩) ∧ c1 ≤ maxLen ∧ c.objs.length ≤ c1 := by
  obtain ⟨a, b, e, h1, -⟩ := h
  obtain ⟨rfl, rfl⟩ : v0 = a ∧ v1 = b := by simpa using e
  rcases h1 with ⟨a, -, e2⟩ | ⟨gv, ov, cap, rfl, k1, k2, hgv, h3⟩
  · rw [e2] at hi; exact absurd hi (by simp)
  · obtain ⟨cs, -, hc, rfl, -⟩ := h3 i hi
    exact ⟨gv, ov, cap, rfl, by have := hc 1 (by simp); simpa using this, k2, k1⟩
theorem CodeM.lens {w : World} {v0 v1 : Value} {c : CodeP} (h : CodeM w [v0, v1] c) : ∃ a0 c0 a1 c1, v0 = .slice a0 c.objs.length c0 ∧ v1 = .slice a1 c.threads.length c1 ∧ c.objs.length ≤ maxLen ∧ c.threads.length ≤ maxLen := by
  obtain ⟨a, b, e, h0, h1⟩ := h
  obtain ⟨rfl, rfl⟩ : v0 = a ∧ v1 = b := by simpa using e
  obtain ⟨a0, c0, rfl, x0, y0, -⟩ := h0.len
  obtain ⟨a1, c1, rfl, x1, y1, -⟩ := h1.len
  exact ⟨a0, c0, a1, c1, rfl, rfl, by omega, by omega⟩
theorem nth_map {α : Type} (f : α → List UInt8) {l : List α} {i : Nat} (hi : i < l.length) : nth (l.map f) ((i : Nat) : Int) = f l[i] := by simp [nth, hi]
def evV (e : Ev) : Value := .agg (evA e.thread e.op.toNat e.obj e.a e.b)
theorem sLine_ok {w : World} (hT : STab w) {v0 v1 : Value} {c : CodeP} {e : Ev} (h : CodeM w [v0, v1] c) (he : e.Ok) (hl : (lineF c e).1.length ≤ 140737488355328) :
    Calls Tryz.prog 18 #[.agg #[v0, v1], evV e] w fun z w' => z = .returned (.tuple #[.string ⟨(lineF c e).1.toArray⟩, .int .i64 (lineF c e).2]) ∧ Nw w w' := by
  obtain ⟨a0, c0, a1, c1, rfl, rfl, m0, m1⟩ := h.lens
  have hm0 : c.objs.length ≤ 9223372036854775807 := by unfold maxLen at m0; omega
  have hm1 : c.threads.length ≤ 9223372036854775807 := by unfold maxLen at m1; omega
  by_cases q1 : e.thread < 0 ∨ e.thread ≥ c.threads.length
  · rw [lineF_bad1 q1]
    exact sLine_bad1 hm1 q1
  · by_cases q2 : e.obj < 0 ∨ e.obj ≥ c.objs.length ∨ e.op.toNat < 1 ∨ e.op.toNat > 27
    · rw [lineF_bad2 q1 q2]
      exact sLine_bad2 hm0 hm1 (by omega) (by omega) q2
    · rw [lineF_good q1 q2] at hl ⊢
      have hb := he.a
      have hb' := he.b
      obtain ⟨th, op, ob, na, nb⟩ := e
      simp only at q1 q2 hb hb'
      obtain ⟨i, rfl⟩ : ∃ i : Nat, th = i := ⟨th.toNat, by omega⟩
      obtain ⟨k, rfl⟩ : ∃ k : Nat, ob = k := ⟨ob.toNat, by omega⟩
      obtain ⟨j, hj⟩ : ∃ j : Nat, op.toNat = j + 1 := ⟨op.toNat - 1, by omega⟩
      have hi : i < c.threads.length := by omega
      have hk : k < c.objs.length := by omega
      obtain ⟨g1, o1, d1, e1, CT, -⟩ := h.tname hi
      obtain ⟨g0, o0, d0, e0, CD, -⟩ := h.dname hk
      have hparts : lineParts c ⟨(i : Int), op, (k : Int), na, nb⟩ = [(c.threads[i]).name, nth showW (j : Int), (c.objs[k]).name, Lib.itoa na] ++ if nb = 0 then [] else [Lib.itoa nb] := by
        unfold lineParts
        simp only
        rw [nth_map _ hi, nth_map _ hk, hj, show (((j + 1 : Nat) : Int) - 1) = (j : Int) by omega]
      rw [hparts] at hl ⊢
      unfold evV
      simp only
      rw [hj, e0, e1]
      exact sLine_good hT hm0 hm1 CT CD hi (by omega) hk hb hb' hl
end Go.Proofs.YtcmaedoolinijaaGreatDoor
