/-
  Texts merged by a program of this claim's: CkF.
-/
import Derived.Test.YtcmaedoolinijaaGreatDoorM2
import Derived.Test.YtcmaedoolinijaaGreatDoorM27
namespace Go.Proofs.YtcmaedoolinijaaGreatDoor
open Go Go.RowKit Go.Sort
set_option maxRecDepth 100000
set_option maxHeartbeats 3200000
theorem ckclo_ok {w : World} (hM : Mx w) {tb : Nat} {v0 v2 : Value} {a1 : Option Addr} {nl c1 : Nat} (hb : w.heap[tb]? = some (.cells #[v0, .slice a1 nl c1, v2] 73 (0, 0))) {cs : List Value} {e : Ex} (hE : ExM w e cs) :
    Calls Tryz.prog 84 #[.agg cs.toArray, .pointer (some ⟨tb, 0, none⟩)] w fun z w' => z = .returned (.bool (!soundB nl e)) ∧ Nw w w' := by
  have HS := Lib.hid (fun W (hW : Nw w W) => sound_ok (nl := nl) (hM.nw hW) (ExM.nw hW hE))
  obtain ⟨kd, s, nv, kids⟩ := e
  rw [ExM.mk_iff] at hE
  obtain ⟨v3, rfl, -, -, -, hk⟩ := hE
  obtain ⟨a3, c3, rfl, -⟩ := RdK.len hk
  have NA := Lib.hid ((Nw.refl w).alloc (.cells #[.int .u8 (kd : Int), .string ⟨s.toArray⟩, .int .i64 nv, .slice a3 kids.length c3] 132))
  have E := heap_alloc_new w (.cells #[.int .u8 (kd : Int), .string ⟨s.toArray⟩, .int .i64 nv, .slice a3 kids.length c3] 132)
  obtain ⟨nk, hnk⟩ : ∃ n, kids.length = n := ⟨_, rfl⟩
  rw [hnk] at NA E HS ⊢
  clear hnk
  obtain ⟨e0, e1, e2, e3, ef⟩ := box4 E
  obtain ⟨t0, t1, t2, tf⟩ := box3 hb
  have htl := lt_of_block hb
  obtain ⟨y, hy⟩ : ∃ y, soundB nl (.mk kd s nv kids) = y := ⟨_, rfl⟩
  rw [hy] at HS ⊢
  clear hy hb hM hk E
  go_enter Tryz.func84, Tryz.ntmps84
  go_wp2_with fail
  refine (HS.out _ NA.out).mono ?_
  rintro z w5 ⟨rfl, n5⟩
  have N5 := Lib.hid (NA.out.trans n5)
  clear n5
  go_wp2_with fail
  go_ret
  exact ⟨rfl, N5.out⟩
theorem cidx_ok {w : World} (hM : Mx w) {tb : Nat} {v0 v2 : Value} {a1 : Option Addr} {nl c1 : Nat} (hb : w.heap[tb]? = some (.cells #[v0, .slice a1 nl c1, v2] 73 (0, 0))) {v : Value} {l : List Ex} (h : ExsM w v l) :
    Calls Tryz.prog 119 #[v, .func (.func 84) #[] #[.pointer (some ⟨tb, 0, none⟩)]] w fun z w' => (∃ k : Int, z = .returned (.int .i64 k) ∧ decide (0 ≤ k) = l.any fun e => !soundB nl e) ∧ Nw w w' := by
  obtain ⟨a0, c0, rfl, hc0, hm0, -⟩ := RdK.len h
  have hm0' : c0 ≤ 9223372036854775807 := by unfold maxLen at hm0; omega
  have H0 := Lib.hid (fun (W : World) (hW : Nw w W) => ExsM.nw h hW)
  have HC := Lib.hid (fun (W : World) (hW : Nw w W) (cs : List Value) (e : Ex) (hE : ExM W e cs) => ckclo_ok (nl := nl) (hM.nw hW) (hW.at_ hb) hE)
  obtain ⟨no, hno⟩ : ∃ n, l.length = n := ⟨_, rfl⟩
  have NO := Lib.hid hno
  rw [hno] at hc0 H0 ⊢
  have hin1 := enters_of Tryz.func84 (by kernel_rfl) rfl
  clear h hno hb hM
  go_enter Tryz.func119, Tryz.ntmps119
  go_wp2_with fail
  go_loopw [8] (fun v wr => ∃ k : Nat, k ≤ no ∧ v = .int .i64 k ∧ (l.take k).any (fun e => !soundB nl e) = false ∧ Nw w wr) (fun v _ => no - (intOf v).toNat)
  case atStart => exact ⟨0, by omega, rfl, by simp, Nw.refl _⟩
  case round =>
    obtain ⟨k, hk, rfl, hn, hw⟩ := hrel
    have HN := Lib.hid hn
    have HW := Lib.hid hw
    clear hn hw
    by_cases hkn : k < no
    · have q : decide ((k : Int) < (no : Int)) = true := by simp; omega
      have hkl : k < l.length := by have := NO.out; omega
      rcases H0.out wr HW.out with ⟨a, -, e2⟩ | ⟨gv, ov, cap, e1, -, -, hgv, h3⟩
      · rw [e2] at NO; exact absurd NO.out (by simp; omega)
      obtain ⟨rfl, -, rfl⟩ : a0 = some ⟨gv, ov, none⟩ ∧ no = l.length ∧ c0 = cap := by simpa using e1
      obtain ⟨cs, -, hc, hd⟩ := h3 k hkl
      have hst := any_take_succ hkl (fun e => !soundB nl e)
      rw [HN.out, Bool.false_or] at hst
      obtain ⟨x, hx⟩ : ∃ x, l[k]'hkl = x := ⟨_, rfl⟩
      rw [hx] at hd hst
      have hmem : x ∈ l := by rw [← hx]; exact List.getElem_mem hkl
      have CL := Lib.hid (HC.out wr HW.out cs x hd)
      obtain ⟨kx, sx, nx, kidx⟩ := x
      rw [ExM.mk_iff] at hd
      obtain ⟨v3x, rfl, -, -, -, hkx⟩ := hd
      obtain ⟨ax, cx, rfl, -⟩ := RdK.len hkx
      have i0 := hc 0 (by simp)
      have i1 := hc 1 (by simp)
      have i2 := hc 2 (by simp)
      have i3 := hc 3 (by simp)
      simp only [List.getElem_cons_zero, List.getElem_cons_succ, Nat.add_zero] at i0 i1 i2 i3
      have hgl : gv < wr.heap.size := hgv
      obtain ⟨y, hy⟩ : ∃ y, soundB nl (.mk kx sx nx kidx) = y := ⟨_, rfl⟩
      have hall : y = false → l.any (fun e => !soundB nl e) = true := fun h => List.any_eq_true.2 ⟨_, hmem, by rw [hy, h]; rfl⟩
      rw [hy] at CL hst
      have HST := Lib.hid hst
      have HAL := Lib.hid hall
      clear hc h3 e1 hx hgv hkx hst hmem hy hall
      go_wp2_with fail
      refine CL.out.mono ?_
      rintro z w4 ⟨rfl, n4⟩
      have N4 := Lib.hid (HW.out.trans n4)
      clear n4 CL i0 i1 i2 i3 hgl
      cases y with
      | true =>
        go_wp2_with fail
        exact ⟨⟨k + 1, by omega, by simp, HST.out, N4.out⟩, by simp [intOf]; omega⟩
      | false =>
        go_wp2_with fail
        go_ret
        exact ⟨⟨(k : Int), rfl, by rw [HAL.out (by trivial)]; simp⟩, N4.out⟩
    · have q : decide ((k : Int) < (no : Int)) = false := by simp; omega
      have hall := HN.out
      rw [List.take_of_length_le (by have := NO.out; omega)] at hall
      have HA := Lib.hid hall
      clear hall
      go_wp2_with fail
      go_ret
      exact ⟨⟨-1, rfl, by rw [HA.out]; rfl⟩, HW.out⟩
theorem ccont_ok {w : World} (hM : Mx w) {tb : Nat} {v0 v2 : Value} {a1 : Option Addr} {nl c1 : Nat} (hb : w.heap[tb]? = some (.cells #[v0, .slice a1 nl c1, v2] 73 (0, 0))) {v : Value} {l : List Ex} (h : ExsM w v l) :
    Calls Tryz.prog 83 #[v, .func (.func 84) #[] #[.pointer (some ⟨tb, 0, none⟩)]] w fun z w' => z = .returned (.bool (l.any fun e => !soundB nl e)) ∧ Nw w w' := by
  have CI := Lib.hid (cidx_ok (nl := nl) hM hb h)
  obtain ⟨a0, c0, rfl, -⟩ := RdK.len h
  obtain ⟨y, hy⟩ : ∃ y, (l.any fun e => !soundB nl e) = y := ⟨_, rfl⟩
  rw [hy] at CI ⊢
  clear h hb hM hy
  go_enter Tryz.func83, Tryz.ntmps83
  go_wp2_with fail
  refine CI.out.mono ?_
  rintro z w4 ⟨⟨k, rfl, hk⟩, n4⟩
  have N4 := Lib.hid n4
  clear n4
  go_wp2_with fail
  go_ret
  exact ⟨rfl, N4.out⟩
set_option maxHeartbeats 1600000 in
theorem ck14t {w5 : World} {cb tb gv ov dO op nl nc no na k c0 c1 c2 c6 : Nat} {a0 a1 a6 : Option Addr} {nm : List UInt8} {obj inn to_ n : Int} {vt : Value} {y : Bool}
    (CB : Hid (w5.heap[cb]? = some (.cells #[.slice a0 no c0, vt] 25 (0, 0)))) (TB : Hid (w5.heap[tb]? = some (.cells #[.string ⟨nm.toArray⟩, .slice a1 nl c1, .slice (some ⟨gv, ov, none⟩) nc c2] 73 (0, 0))))
    (HK : Hid (k < nc)) (HC2 : Hid (nc ≤ 9223372036854775807)) (GL : Hid (gv < w5.heap.size))
    (I0 : Hid (w5.cell? ⟨gv, ov + k * 7, none⟩ = some (.int .u8 (dO : Int)))) (I1 : Hid (w5.cell? ⟨gv, ov + k * 7 + 1, none⟩ = some (.int .u8 (op : Int)))) (I2 : Hid (w5.cell? ⟨gv, ov + k * 7 + 2, none⟩ = some (.int .i64 obj))) (I3 : Hid (w5.cell? ⟨gv, ov + k * 7 + 3, none⟩ = some (.int .i64 inn))) (I4 : Hid (w5.cell? ⟨gv, ov + k * 7 + 4, none⟩ = some (.int .i64 to_))) (I5 : Hid (w5.cell? ⟨gv, ov + k * 7 + 5, none⟩ = some (.int .i64 n))) (I6 : Hid (w5.cell? ⟨gv, ov + k * 7 + 6, none⟩ = some (.slice a6 na c6)))
    (HMAY : Hid (∀ W, Nw w5 W → Calls Tryz.prog 82 #[.agg #[.slice a0 no c0, vt], .agg #[.string ⟨nm.toArray⟩, .slice a1 nl c1, .slice (some ⟨gv, ov, none⟩) nc c2], .agg #[.int .u8 (dO : Int), .int .u8 (op : Int), .int .i64 obj, .int .i64 inn, .int .i64 to_, .int .i64 n, .slice a6 na c6]] W fun z w' => z = .returned (.bool true) ∧ Nw W w'))
    (HCF : Hid (∀ W, Nw w5 W → Calls Tryz.prog 83 #[.slice a6 na c6, .func (.func 84) #[] #[.pointer (some ⟨tb, 0, none⟩)]] W fun z w' => z = .returned (.bool y) ∧ Nw W w'))
    {u0 u2 u3 u4 u5 u6 u9 u10 u11 u12 u13 u14 u15 u16 u17 u18 u19 u20 u21 u22 u23 u24 u25 u26 u27 u28 u29 u30 u31 u32 u33 u34 u35 u36 u37 u38 u39 u40 u41 u42 u43 u44 u45 u46 u47 u48 u49 u50 u51 u52 u53 u54 u55 u56 u57 u58 u59 u60 u61 u62 u63 u64 u65 u66 u67 u68 u69 u70 u71 u72 u73 u74 u75 u76 u77 u78 u79 u80 u81 u82 u83 u84 u85 : Value} {Q : Exit → Act → World → Prop}
    (hQ : ∀ (s3 s65 s66 s67 s68 s69 s70 s71 s72 s73 s74 s75 s76 s77 s78 s79 s80 s81 s82 s83 : Value) (wx : World), Nw w5 wx → s3 = .bool y → Q .normal ⟨#[u0, .pointer (some ⟨cb, 0, none⟩), u2, s3, u4, u5, u6, .pointer (some ⟨tb, 0, none⟩), .int .i64 (k : Int), u9, u10, u11, u12, u13, u14, u15, u16, u17, u18, u19, u20, u21, u22, u23, u24, u25, u26, u27, u28, u29, u30, u31, u32, u33, u34, u35, u36, u37, u38, u39, u40, u41, u42, u43, u44, u45, u46, u47, u48, u49, u50, u51, u52, u53, u54, u55, u56, u57, u58, u59, u60, u61, u62, u63, u64, s65, s66, s67, s68, s69, s70, s71, s72, s73, s74, s75, s76, s77, s78, s79, s80, s81, s82, s83, u84, u85], []⟩ wx) :
    Code.wp Tryz.prog ((Tryz.f41.body.bind (regionOf 14)).getD .skip) Q ⟨#[u0, .pointer (some ⟨cb, 0, none⟩), u2, u3, u4, u5, u6, .pointer (some ⟨tb, 0, none⟩), .int .i64 (k : Int), u9, u10, u11, u12, u13, u14, u15, u16, u17, u18, u19, u20, u21, u22, u23, u24, u25, u26, u27, u28, u29, u30, u31, u32, u33, u34, u35, u36, u37, u38, u39, u40, u41, u42, u43, u44, u45, u46, u47, u48, u49, u50, u51, u52, u53, u54, u55, u56, u57, u58, u59, u60, u61, u62, u63, u64, u65, u66, u67, u68, u69, u70, u71, u72, u73, u74, u75, u76, u77, u78, u79, u80, u81, u82, u83, u84, u85], []⟩ w5 := by
  (try dsimp only at hQ ⊢)
  conv => arg 2; whnf
  have HQ := Lib.hid hQ
  clear hQ
  refine name_act fun A hA => ?_
  have hA1 : A.tmps[1]? = some (.pointer (some ⟨cb, 0, none⟩)) := by rw [hA]; rfl
  have hA7 : A.tmps[7]? = some (.pointer (some ⟨tb, 0, none⟩)) := by rw [hA]; rfl
  have hA8 : A.tmps[8]? = some (.int .i64 (k : Int)) := by rw [hA]; rfl
  have hlt0 : ∀ d ∈ ([65, 66, 67, 68, 69, 70, 71, 72, 73, 74, 75, 76, 77, 78, 79, 80, 81, 82, 83, 3] : List Nat), d < 86 := by decide
  refine wp_region_tab [65, 66, 67, 68, 69, 70, 71, 72, 73, 74, 75, 76, 77, 78, 79, 80, 81, 82, 83, 3] [isV (.agg #[.slice a0 no c0, vt]), isV (.agg #[.string ⟨nm.toArray⟩, .slice a1 nl c1, .slice (some ⟨gv, ov, none⟩) nc c2]), isV (.pointer (some ⟨tb, 2, none⟩)), isV (.slice (some ⟨gv, ov, none⟩) nc c2), isV (.int .i64 (k : Int)), isV (.pointer (some ⟨gv, ov + k * 7, none⟩)), isV (.agg #[.int .u8 (dO : Int), .int .u8 (op : Int), .int .i64 obj, .int .i64 inn, .int .i64 to_, .int .i64 n, .slice a6 na c6]), isV (.bool true), isV (.bool false), isV (.bool false), isV (.pointer (some ⟨tb, 2, none⟩)), isV (.slice (some ⟨gv, ov, none⟩) nc c2), isV (.int .i64 (k : Int)), isV (.pointer (some ⟨gv, ov + k * 7, none⟩)), isV (.pointer (some ⟨gv, ov + k * 7 + 6, none⟩)), isV (.slice a6 na c6), isV (.func (.func 84) #[] #[.pointer (some ⟨tb, 0, none⟩)]), isV (.bool y), isV (.bool y), isV (.bool y)] (by kernel_rfl) (by kernel_rfl) (by kernel_rfl) (of_decide_eq_true (by kernel_rfl)) (fun d hd => by rw [hA]; exact hlt0 d hd) (fun L hL => ⟨?a0, ?a1, ?a2, ?a3, ?a4, ?a5, ?a6, ?a7, ?a8, ?a9, ?a10, ?a11, ?a12, ?a13, ?a14, ?a15, ?a16, ?a17, ?a18, ?a19, trivial⟩) ?he
  · intro a w hN old new
    have e1 := old 1 (.pointer (some ⟨cb, 0, none⟩)) rfl hA1
    have hp := hN.at_ CB.out
    obtain ⟨q0, q1, qf⟩ := box2 hp
    exact OpOk.val (.agg #[.slice a0 no c0, vt]) (w_none rfl) [(1, _)] (forall_cons e1 <| forall_nil) (fun ρ e ⟨c1, c2⟩ => by (try simp only [List.forall_mem_cons] at e); go_simp) ⟨Nw.refl _, rfl⟩
  · intro a w hN old new
    have e7 := old 7 (.pointer (some ⟨tb, 0, none⟩)) rfl hA7
    have hp := hN.at_ TB.out
    obtain ⟨q0, q1, q2, qf⟩ := box3 hp
    exact OpOk.val (.agg #[.string ⟨nm.toArray⟩, .slice a1 nl c1, .slice (some ⟨gv, ov, none⟩) nc c2]) (w_none rfl) [(7, _)] (forall_cons e7 <| forall_nil) (fun ρ e ⟨c1, c2⟩ => by (try simp only [List.forall_mem_cons] at e); go_simp) ⟨Nw.refl _, rfl⟩
  · intro a w hN old new
    have e7 := old 7 (.pointer (some ⟨tb, 0, none⟩)) rfl hA7
    exact OpOk.val (.pointer (some ⟨tb, 2, none⟩)) (w_none rfl) [(7, _)] (forall_cons e7 <| forall_nil) (fun ρ e ⟨c1, c2⟩ => by (try simp only [List.forall_mem_cons] at e); go_simp) ⟨Nw.refl _, rfl⟩
  · intro a w hN old new
    obtain ⟨y67, e67, g67⟩ := new 2 67 rfl rfl
    obtain rfl : y67 = .pointer (some ⟨tb, 2, none⟩) := g67
    have hp := hN.at_ TB.out
    obtain ⟨q0, q1, q2, qf⟩ := box3 hp
    exact OpOk.val (.slice (some ⟨gv, ov, none⟩) nc c2) (w_none rfl) [(67, _)] (forall_cons e67 <| forall_nil) (fun ρ e ⟨c1, c2⟩ => by (try simp only [List.forall_mem_cons] at e); go_simp) ⟨Nw.refl _, rfl⟩
  · intro a w hN old new
    have e8 := old 8 (.int .i64 (k : Int)) rfl hA8
    exact OpOk.val (.int .i64 (k : Int)) (w_none rfl) [(8, _)] (forall_cons e8 <| forall_nil) (fun ρ e ⟨c1, c2⟩ => by (try simp only [List.forall_mem_cons] at e); go_simp) ⟨Nw.refl _, rfl⟩
  · intro a w hN old new
    obtain ⟨y68, e68, g68⟩ := new 3 68 rfl rfl
    obtain rfl : y68 = .slice (some ⟨gv, ov, none⟩) nc c2 := g68
    obtain ⟨y69, e69, g69⟩ := new 4 69 rfl rfl
    obtain rfl : y69 = .int .i64 (k : Int) := g69
    have hi1 := HK.out
    have hi2 := HC2.out
    exact OpOk.val (.pointer (some ⟨gv, ov + k * 7, none⟩)) (w_none rfl) [(68, _), (69, _)] (forall_cons e68 <| forall_cons e69 <| forall_nil) (fun ρ e ⟨c1, c2⟩ => by (try simp only [List.forall_mem_cons] at e); go_simp) ⟨Nw.refl _, rfl⟩
  · intro a w hN old new
    obtain ⟨y70, e70, g70⟩ := new 5 70 rfl rfl
    obtain rfl : y70 = .pointer (some ⟨gv, ov + k * 7, none⟩) := g70
    have hl := Nat.lt_of_lt_of_le GL.out hN.size
    have i0 := hN.cell (I0.out)
    have i1 := hN.cell (I1.out)
    have i2 := hN.cell (I2.out)
    have i3 := hN.cell (I3.out)
    have i4 := hN.cell (I4.out)
    have i5 := hN.cell (I5.out)
    have i6 := hN.cell (I6.out)
    exact OpOk.val (.agg #[.int .u8 (dO : Int), .int .u8 (op : Int), .int .i64 obj, .int .i64 inn, .int .i64 to_, .int .i64 n, .slice a6 na c6]) (w_none rfl) [(70, _)] (forall_cons e70 <| forall_nil) (fun ρ e ⟨c1, c2⟩ => by (try simp only [List.forall_mem_cons] at e); go_simp) ⟨Nw.refl _, rfl⟩
  · intro a w hN old new
    obtain ⟨y65, e65, g65⟩ := new 0 65 rfl rfl
    obtain rfl : y65 = .agg #[.slice a0 no c0, vt] := g65
    obtain ⟨y66, e66, g66⟩ := new 1 66 rfl rfl
    obtain rfl : y66 = .agg #[.string ⟨nm.toArray⟩, .slice a1 nl c1, .slice (some ⟨gv, ov, none⟩) nc c2] := g66
    obtain ⟨y71, e71, g71⟩ := new 6 71 rfl rfl
    obtain rfl : y71 = .agg #[.int .u8 (dO : Int), .int .u8 (op : Int), .int .i64 obj, .int .i64 inn, .int .i64 to_, .int .i64 n, .slice a6 na c6] := g71
    refine OpOk.call (w_none rfl) [(65, _), (66, _), (71, _)] (forall_cons e65 <| forall_cons e66 <| forall_cons e71 <| forall_nil) (fun ρ e ⟨c1, c2⟩ => by (try simp only [List.forall_mem_cons] at e); go_simp) (HMAY.out _ hN) (fun e w1 h => ?_)
    obtain ⟨rfl, n1⟩ := h
    exact ⟨_, rfl, n1, rfl⟩
  · intro a w hN old new
    obtain ⟨y72, e72, g72⟩ := new 7 72 rfl rfl
    obtain rfl : y72 = .bool true := g72
    exact OpOk.val (.bool false) (w_none rfl) [(72, _)] (forall_cons e72 <| forall_nil) (fun ρ e ⟨c1, c2⟩ => by (try simp only [List.forall_mem_cons] at e); go_simp) ⟨Nw.refl _, rfl⟩
  · intro a w hN old new
    obtain ⟨y73, e73, g73⟩ := new 8 73 rfl rfl
    obtain rfl : y73 = .bool false := g73
    exact OpOk.val (.bool false) (w_none rfl) [(73, _)] (forall_cons e73 <| forall_nil) (fun ρ e ⟨c1, c2⟩ => by (try simp only [List.forall_mem_cons] at e); go_simp) ⟨Nw.refl _, rfl⟩
  · intro a w hN old new
    obtain ⟨y74, e74, g74⟩ := new 9 74 rfl rfl
    obtain rfl : y74 = .bool false := g74
    have e7 := old 7 (.pointer (some ⟨tb, 0, none⟩)) rfl hA7
    exact OpOk.val (.pointer (some ⟨tb, 2, none⟩)) (tab_yes hL rfl rfl e74) [(7, _)] (forall_cons e7 <| forall_nil) (fun ρ e ⟨c1, c2⟩ => by (try simp only [List.forall_mem_cons] at e); go_simp) ⟨Nw.refl _, rfl⟩
  · intro a w hN old new
    obtain ⟨y74, e74, g74⟩ := new 9 74 rfl rfl
    obtain rfl : y74 = .bool false := g74
    obtain ⟨y75, e75, g75⟩ := new 10 75 rfl rfl
    obtain rfl : y75 = .pointer (some ⟨tb, 2, none⟩) := g75
    have hp := hN.at_ TB.out
    obtain ⟨q0, q1, q2, qf⟩ := box3 hp
    exact OpOk.val (.slice (some ⟨gv, ov, none⟩) nc c2) (tab_yes hL rfl rfl e74) [(75, _)] (forall_cons e75 <| forall_nil) (fun ρ e ⟨c1, c2⟩ => by (try simp only [List.forall_mem_cons] at e); go_simp) ⟨Nw.refl _, rfl⟩
  · intro a w hN old new
    obtain ⟨y74, e74, g74⟩ := new 9 74 rfl rfl
    obtain rfl : y74 = .bool false := g74
    have e8 := old 8 (.int .i64 (k : Int)) rfl hA8
    exact OpOk.val (.int .i64 (k : Int)) (tab_yes hL rfl rfl e74) [(8, _)] (forall_cons e8 <| forall_nil) (fun ρ e ⟨c1, c2⟩ => by (try simp only [List.forall_mem_cons] at e); go_simp) ⟨Nw.refl _, rfl⟩
  · intro a w hN old new
    obtain ⟨y74, e74, g74⟩ := new 9 74 rfl rfl
    obtain rfl : y74 = .bool false := g74
    obtain ⟨y76, e76, g76⟩ := new 11 76 rfl rfl
    obtain rfl : y76 = .slice (some ⟨gv, ov, none⟩) nc c2 := g76
    obtain ⟨y77, e77, g77⟩ := new 12 77 rfl rfl
    obtain rfl : y77 = .int .i64 (k : Int) := g77
    have hi1 := HK.out
    have hi2 := HC2.out
    exact OpOk.val (.pointer (some ⟨gv, ov + k * 7, none⟩)) (tab_yes hL rfl rfl e74) [(76, _), (77, _)] (forall_cons e76 <| forall_cons e77 <| forall_nil) (fun ρ e ⟨c1, c2⟩ => by (try simp only [List.forall_mem_cons] at e); go_simp) ⟨Nw.refl _, rfl⟩
  · intro a w hN old new
    obtain ⟨y74, e74, g74⟩ := new 9 74 rfl rfl
    obtain rfl : y74 = .bool false := g74
    obtain ⟨y78, e78, g78⟩ := new 13 78 rfl rfl
    obtain rfl : y78 = .pointer (some ⟨gv, ov + k * 7, none⟩) := g78
    exact OpOk.val (.pointer (some ⟨gv, ov + k * 7 + 6, none⟩)) (tab_yes hL rfl rfl e74) [(78, _)] (forall_cons e78 <| forall_nil) (fun ρ e ⟨c1, c2⟩ => by (try simp only [List.forall_mem_cons] at e); go_simp) ⟨Nw.refl _, rfl⟩
  · intro a w hN old new
    obtain ⟨y74, e74, g74⟩ := new 9 74 rfl rfl
    obtain rfl : y74 = .bool false := g74
    obtain ⟨y79, e79, g79⟩ := new 14 79 rfl rfl
    obtain rfl : y79 = .pointer (some ⟨gv, ov + k * 7 + 6, none⟩) := g79
    have hl := Nat.lt_of_lt_of_le GL.out hN.size
    have i6 := hN.cell I6.out
    exact OpOk.val (.slice a6 na c6) (tab_yes hL rfl rfl e74) [(79, _)] (forall_cons e79 <| forall_nil) (fun ρ e ⟨c1, c2⟩ => by (try simp only [List.forall_mem_cons] at e); go_simp) ⟨Nw.refl _, rfl⟩
  · intro a w hN old new
    obtain ⟨y74, e74, g74⟩ := new 9 74 rfl rfl
    obtain rfl : y74 = .bool false := g74
    have e7 := old 7 (.pointer (some ⟨tb, 0, none⟩)) rfl hA7
    exact OpOk.val (.func (.func 84) #[] #[.pointer (some ⟨tb, 0, none⟩)]) (tab_yes hL rfl rfl e74) [(7, _)] (forall_cons e7 <| forall_nil) (fun ρ e ⟨c1, c2⟩ => by (try simp only [List.forall_mem_cons] at e); go_simp) ⟨Nw.refl _, rfl⟩
  · intro a w hN old new
    obtain ⟨y74, e74, g74⟩ := new 9 74 rfl rfl
    obtain rfl : y74 = .bool false := g74
    obtain ⟨y80, e80, g80⟩ := new 15 80 rfl rfl
    obtain rfl : y80 = .slice a6 na c6 := g80
    obtain ⟨y81, e81, g81⟩ := new 16 81 rfl rfl
    obtain rfl : y81 = .func (.func 84) #[] #[.pointer (some ⟨tb, 0, none⟩)] := g81
    refine OpOk.call (tab_yes hL rfl rfl e74) [(80, _), (81, _)] (forall_cons e80 <| forall_cons e81 <| forall_nil) (fun ρ e ⟨c1, c2⟩ => by (try simp only [List.forall_mem_cons] at e); go_simp) (HCF.out _ hN) (fun e w1 h => ?_)
    obtain ⟨rfl, n1⟩ := h
    exact ⟨_, rfl, n1, rfl⟩
  · intro a w hN old new
    obtain ⟨y74, e74, g74⟩ := new 9 74 rfl rfl
    obtain rfl : y74 = .bool false := g74
    obtain ⟨y82, e82, g82⟩ := new 17 82 rfl rfl
    obtain rfl : y82 = .bool y := g82
    exact OpOk.val (.bool y) (w_none rfl) [(74, _), (82, _)] (forall_cons e74 <| forall_cons e82 <| forall_nil) (fun ρ e ⟨c1, c2⟩ => by (try simp only [List.forall_mem_cons] at e); go_simp) ⟨Nw.refl _, rfl⟩
  · intro a w hN old new
    obtain ⟨y83, e83, g83⟩ := new 18 83 rfl rfl
    obtain rfl : y83 = .bool y := g83
    exact OpOk.val (.bool y) (w_none rfl) [(83, _)] (forall_cons e83 <| forall_nil) (fun ρ e ⟨c1, c2⟩ => by (try simp only [List.forall_mem_cons] at e); go_simp) ⟨Nw.refl _, rfl⟩
  · intro a w hN hsz hdf old new
    obtain ⟨y3, e3, g3⟩ := new 19 3 rfl
    exact tab_frame (frame_lit (dst := [65, 66, 67, 68, 69, 70, 71, 72, 73, 74, 75, 76, 77, 78, 79, 80, 81, 82, 83, 3]) (l := [u0, .pointer (some ⟨cb, 0, none⟩), u2, u3, u4, u5, u6, .pointer (some ⟨tb, 0, none⟩), .int .i64 (k : Int), u9, u10, u11, u12, u13, u14, u15, u16, u17, u18, u19, u20, u21, u22, u23, u24, u25, u26, u27, u28, u29, u30, u31, u32, u33, u34, u35, u36, u37, u38, u39, u40, u41, u42, u43, u44, u45, u46, u47, u48, u49, u50, u51, u52, u53, u54, u55, u56, u57, u58, u59, u60, u61, u62, u63, u64, u65, u66, u67, u68, u69, u70, u71, u72, u73, u74, u75, u76, u77, u78, u79, u80, u81, u82, u83, u84, u85]) hA hsz hdf old (l' := [u0, .pointer (some ⟨cb, 0, none⟩), u2, (a.tmps[3]?.getD undef), u4, u5, u6, .pointer (some ⟨tb, 0, none⟩), .int .i64 (k : Int), u9, u10, u11, u12, u13, u14, u15, u16, u17, u18, u19, u20, u21, u22, u23, u24, u25, u26, u27, u28, u29, u30, u31, u32, u33, u34, u35, u36, u37, u38, u39, u40, u41, u42, u43, u44, u45, u46, u47, u48, u49, u50, u51, u52, u53, u54, u55, u56, u57, u58, u59, u60, u61, u62, u63, u64, (a.tmps[65]?.getD undef), (a.tmps[66]?.getD undef), (a.tmps[67]?.getD undef), (a.tmps[68]?.getD undef), (a.tmps[69]?.getD undef), (a.tmps[70]?.getD undef), (a.tmps[71]?.getD undef), (a.tmps[72]?.getD undef), (a.tmps[73]?.getD undef), (a.tmps[74]?.getD undef), (a.tmps[75]?.getD undef), (a.tmps[76]?.getD undef), (a.tmps[77]?.getD undef), (a.tmps[78]?.getD undef), (a.tmps[79]?.getD undef), (a.tmps[80]?.getD undef), (a.tmps[81]?.getD undef), (a.tmps[82]?.getD undef), (a.tmps[83]?.getD undef), u84, u85]) (by kernel_rfl)) (HQ.out _ _ _ _ _ _ _ _ _ _ _ _ _ _ _ _ _ _ _ _ w hN (by rw [e3]; exact g3))
set_option maxHeartbeats 1600000 in
theorem ck14f {w5 : World} {cb tb gv ov dO op nl nc no na k c0 c1 c2 c6 : Nat} {a0 a1 a6 : Option Addr} {nm : List UInt8} {obj inn to_ n : Int} {vt : Value}
    (CB : Hid (w5.heap[cb]? = some (.cells #[.slice a0 no c0, vt] 25 (0, 0)))) (TB : Hid (w5.heap[tb]? = some (.cells #[.string ⟨nm.toArray⟩, .slice a1 nl c1, .slice (some ⟨gv, ov, none⟩) nc c2] 73 (0, 0))))
    (HK : Hid (k < nc)) (HC2 : Hid (nc ≤ 9223372036854775807)) (GL : Hid (gv < w5.heap.size))
    (I0 : Hid (w5.cell? ⟨gv, ov + k * 7, none⟩ = some (.int .u8 (dO : Int)))) (I1 : Hid (w5.cell? ⟨gv, ov + k * 7 + 1, none⟩ = some (.int .u8 (op : Int)))) (I2 : Hid (w5.cell? ⟨gv, ov + k * 7 + 2, none⟩ = some (.int .i64 obj))) (I3 : Hid (w5.cell? ⟨gv, ov + k * 7 + 3, none⟩ = some (.int .i64 inn))) (I4 : Hid (w5.cell? ⟨gv, ov + k * 7 + 4, none⟩ = some (.int .i64 to_))) (I5 : Hid (w5.cell? ⟨gv, ov + k * 7 + 5, none⟩ = some (.int .i64 n))) (I6 : Hid (w5.cell? ⟨gv, ov + k * 7 + 6, none⟩ = some (.slice a6 na c6)))
    (HMAY : Hid (∀ W, Nw w5 W → Calls Tryz.prog 82 #[.agg #[.slice a0 no c0, vt], .agg #[.string ⟨nm.toArray⟩, .slice a1 nl c1, .slice (some ⟨gv, ov, none⟩) nc c2], .agg #[.int .u8 (dO : Int), .int .u8 (op : Int), .int .i64 obj, .int .i64 inn, .int .i64 to_, .int .i64 n, .slice a6 na c6]] W fun z w' => z = .returned (.bool false) ∧ Nw W w'))
    {u0 u2 u3 u4 u5 u6 u9 u10 u11 u12 u13 u14 u15 u16 u17 u18 u19 u20 u21 u22 u23 u24 u25 u26 u27 u28 u29 u30 u31 u32 u33 u34 u35 u36 u37 u38 u39 u40 u41 u42 u43 u44 u45 u46 u47 u48 u49 u50 u51 u52 u53 u54 u55 u56 u57 u58 u59 u60 u61 u62 u63 u64 u65 u66 u67 u68 u69 u70 u71 u72 u73 u74 u75 u76 u77 u78 u79 u80 u81 u82 u83 u84 u85 : Value} {Q : Exit → Act → World → Prop}
    (hQ : ∀ (s3 s65 s66 s67 s68 s69 s70 s71 s72 s73 s74 s75 s76 s77 s78 s79 s80 s81 s82 s83 : Value) (wx : World), Nw w5 wx → s3 = .bool true → Q .normal ⟨#[u0, .pointer (some ⟨cb, 0, none⟩), u2, s3, u4, u5, u6, .pointer (some ⟨tb, 0, none⟩), .int .i64 (k : Int), u9, u10, u11, u12, u13, u14, u15, u16, u17, u18, u19, u20, u21, u22, u23, u24, u25, u26, u27, u28, u29, u30, u31, u32, u33, u34, u35, u36, u37, u38, u39, u40, u41, u42, u43, u44, u45, u46, u47, u48, u49, u50, u51, u52, u53, u54, u55, u56, u57, u58, u59, u60, u61, u62, u63, u64, s65, s66, s67, s68, s69, s70, s71, s72, s73, s74, s75, s76, s77, s78, s79, s80, s81, s82, s83, u84, u85], []⟩ wx) :
    Code.wp Tryz.prog ((Tryz.f41.body.bind (regionOf 14)).getD .skip) Q ⟨#[u0, .pointer (some ⟨cb, 0, none⟩), u2, u3, u4, u5, u6, .pointer (some ⟨tb, 0, none⟩), .int .i64 (k : Int), u9, u10, u11, u12, u13, u14, u15, u16, u17, u18, u19, u20, u21, u22, u23, u24, u25, u26, u27, u28, u29, u30, u31, u32, u33, u34, u35, u36, u37, u38, u39, u40, u41, u42, u43, u44, u45, u46, u47, u48, u49, u50, u51, u52, u53, u54, u55, u56, u57, u58, u59, u60, u61, u62, u63, u64, u65, u66, u67, u68, u69, u70, u71, u72, u73, u74, u75, u76, u77, u78, u79, u80, u81, u82, u83, u84, u85], []⟩ w5 := by
  (try dsimp only at hQ ⊢)
  conv => arg 2; whnf
  have HQ := Lib.hid hQ
  clear hQ
  refine name_act fun A hA => ?_
  have hA1 : A.tmps[1]? = some (.pointer (some ⟨cb, 0, none⟩)) := by rw [hA]; rfl
  have hA7 : A.tmps[7]? = some (.pointer (some ⟨tb, 0, none⟩)) := by rw [hA]; rfl
  have hA8 : A.tmps[8]? = some (.int .i64 (k : Int)) := by rw [hA]; rfl
  have hlt0 : ∀ d ∈ ([65, 66, 67, 68, 69, 70, 71, 72, 73, 74, 75, 76, 77, 78, 79, 80, 81, 82, 83, 3] : List Nat), d < 86 := by decide
  refine wp_region_tab [65, 66, 67, 68, 69, 70, 71, 72, 73, 74, 75, 76, 77, 78, 79, 80, 81, 82, 83, 3] [isV (.agg #[.slice a0 no c0, vt]), isV (.agg #[.string ⟨nm.toArray⟩, .slice a1 nl c1, .slice (some ⟨gv, ov, none⟩) nc c2]), isV (.pointer (some ⟨tb, 2, none⟩)), isV (.slice (some ⟨gv, ov, none⟩) nc c2), isV (.int .i64 (k : Int)), isV (.pointer (some ⟨gv, ov + k * 7, none⟩)), isV (.agg #[.int .u8 (dO : Int), .int .u8 (op : Int), .int .i64 obj, .int .i64 inn, .int .i64 to_, .int .i64 n, .slice a6 na c6]), isV (.bool false), isV (.bool true), isV (.bool true), isV (undef), isV (undef), isV (undef), isV (undef), isV (undef), isV (undef), isV (undef), isV (undef), isV (.bool true), isV (.bool true)] (by kernel_rfl) (by kernel_rfl) (by kernel_rfl) (of_decide_eq_true (by kernel_rfl)) (fun d hd => by rw [hA]; exact hlt0 d hd) (fun L hL => ⟨?a0, ?a1, ?a2, ?a3, ?a4, ?a5, ?a6, ?a7, ?a8, ?a9, ?a10, ?a11, ?a12, ?a13, ?a14, ?a15, ?a16, ?a17, ?a18, ?a19, trivial⟩) ?he
  · intro a w hN old new
    have e1 := old 1 (.pointer (some ⟨cb, 0, none⟩)) rfl hA1
    have hp := hN.at_ CB.out
    obtain ⟨q0, q1, qf⟩ := box2 hp
    exact OpOk.val (.agg #[.slice a0 no c0, vt]) (w_none rfl) [(1, _)] (forall_cons e1 <| forall_nil) (fun ρ e ⟨c1, c2⟩ => by (try simp only [List.forall_mem_cons] at e); go_simp) ⟨Nw.refl _, rfl⟩
  · intro a w hN old new
    have e7 := old 7 (.pointer (some ⟨tb, 0, none⟩)) rfl hA7
    have hp := hN.at_ TB.out
    obtain ⟨q0, q1, q2, qf⟩ := box3 hp
    exact OpOk.val (.agg #[.string ⟨nm.toArray⟩, .slice a1 nl c1, .slice (some ⟨gv, ov, none⟩) nc c2]) (w_none rfl) [(7, _)] (forall_cons e7 <| forall_nil) (fun ρ e ⟨c1, c2⟩ => by (try simp only [List.forall_mem_cons] at e); go_simp) ⟨Nw.refl _, rfl⟩
  · intro a w hN old new
    have e7 := old 7 (.pointer (some ⟨tb, 0, none⟩)) rfl hA7
    exact OpOk.val (.pointer (some ⟨tb, 2, none⟩)) (w_none rfl) [(7, _)] (forall_cons e7 <| forall_nil) (fun ρ e ⟨c1, c2⟩ => by (try simp only [List.forall_mem_cons] at e); go_simp) ⟨Nw.refl _, rfl⟩
  · intro a w hN old new
    obtain ⟨y67, e67, g67⟩ := new 2 67 rfl rfl
    obtain rfl : y67 = .pointer (some ⟨tb, 2, none⟩) := g67
    have hp := hN.at_ TB.out
    obtain ⟨q0, q1, q2, qf⟩ := box3 hp
    exact OpOk.val (.slice (some ⟨gv, ov, none⟩) nc c2) (w_none rfl) [(67, _)] (forall_cons e67 <| forall_nil) (fun ρ e ⟨c1, c2⟩ => by (try simp only [List.forall_mem_cons] at e); go_simp) ⟨Nw.refl _, rfl⟩
  · intro a w hN old new
    have e8 := old 8 (.int .i64 (k : Int)) rfl hA8
    exact OpOk.val (.int .i64 (k : Int)) (w_none rfl) [(8, _)] (forall_cons e8 <| forall_nil) (fun ρ e ⟨c1, c2⟩ => by (try simp only [List.forall_mem_cons] at e); go_simp) ⟨Nw.refl _, rfl⟩
  · intro a w hN old new
    obtain ⟨y68, e68, g68⟩ := new 3 68 rfl rfl
    obtain rfl : y68 = .slice (some ⟨gv, ov, none⟩) nc c2 := g68
    obtain ⟨y69, e69, g69⟩ := new 4 69 rfl rfl
    obtain rfl : y69 = .int .i64 (k : Int) := g69
    have hi1 := HK.out
    have hi2 := HC2.out
    exact OpOk.val (.pointer (some ⟨gv, ov + k * 7, none⟩)) (w_none rfl) [(68, _), (69, _)] (forall_cons e68 <| forall_cons e69 <| forall_nil) (fun ρ e ⟨c1, c2⟩ => by (try simp only [List.forall_mem_cons] at e); go_simp) ⟨Nw.refl _, rfl⟩
  · intro a w hN old new
    obtain ⟨y70, e70, g70⟩ := new 5 70 rfl rfl
    obtain rfl : y70 = .pointer (some ⟨gv, ov + k * 7, none⟩) := g70
    have hl := Nat.lt_of_lt_of_le GL.out hN.size
    have i0 := hN.cell (I0.out)
    have i1 := hN.cell (I1.out)
    have i2 := hN.cell (I2.out)
    have i3 := hN.cell (I3.out)
    have i4 := hN.cell (I4.out)
    have i5 := hN.cell (I5.out)
    have i6 := hN.cell (I6.out)
    exact OpOk.val (.agg #[.int .u8 (dO : Int), .int .u8 (op : Int), .int .i64 obj, .int .i64 inn, .int .i64 to_, .int .i64 n, .slice a6 na c6]) (w_none rfl) [(70, _)] (forall_cons e70 <| forall_nil) (fun ρ e ⟨c1, c2⟩ => by (try simp only [List.forall_mem_cons] at e); go_simp) ⟨Nw.refl _, rfl⟩
  · intro a w hN old new
    obtain ⟨y65, e65, g65⟩ := new 0 65 rfl rfl
    obtain rfl : y65 = .agg #[.slice a0 no c0, vt] := g65
    obtain ⟨y66, e66, g66⟩ := new 1 66 rfl rfl
    obtain rfl : y66 = .agg #[.string ⟨nm.toArray⟩, .slice a1 nl c1, .slice (some ⟨gv, ov, none⟩) nc c2] := g66
    obtain ⟨y71, e71, g71⟩ := new 6 71 rfl rfl
    obtain rfl : y71 = .agg #[.int .u8 (dO : Int), .int .u8 (op : Int), .int .i64 obj, .int .i64 inn, .int .i64 to_, .int .i64 n, .slice a6 na c6] := g71
    refine OpOk.call (w_none rfl) [(65, _), (66, _), (71, _)] (forall_cons e65 <| forall_cons e66 <| forall_cons e71 <| forall_nil) (fun ρ e ⟨c1, c2⟩ => by (try simp only [List.forall_mem_cons] at e); go_simp) (HMAY.out _ hN) (fun e w1 h => ?_)
    obtain ⟨rfl, n1⟩ := h
    exact ⟨_, rfl, n1, rfl⟩
  · intro a w hN old new
    obtain ⟨y72, e72, g72⟩ := new 7 72 rfl rfl
    obtain rfl : y72 = .bool false := g72
    exact OpOk.val (.bool true) (w_none rfl) [(72, _)] (forall_cons e72 <| forall_nil) (fun ρ e ⟨c1, c2⟩ => by (try simp only [List.forall_mem_cons] at e); go_simp) ⟨Nw.refl _, rfl⟩
  · intro a w hN old new
    obtain ⟨y73, e73, g73⟩ := new 8 73 rfl rfl
    obtain rfl : y73 = .bool true := g73
    exact OpOk.val (.bool true) (w_none rfl) [(73, _)] (forall_cons e73 <| forall_nil) (fun ρ e ⟨c1, c2⟩ => by (try simp only [List.forall_mem_cons] at e); go_simp) ⟨Nw.refl _, rfl⟩
  · intro a w hN old new
    obtain ⟨y74, e74, g74⟩ := new 9 74 rfl rfl
    obtain rfl : y74 = .bool true := g74
    exact OpOk.skip (tab_no hL rfl rfl e74) ⟨Nw.refl _, rfl⟩
  · intro a w hN old new
    obtain ⟨y74, e74, g74⟩ := new 9 74 rfl rfl
    obtain rfl : y74 = .bool true := g74
    exact OpOk.skip (tab_no hL rfl rfl e74) ⟨Nw.refl _, rfl⟩
  · intro a w hN old new
    obtain ⟨y74, e74, g74⟩ := new 9 74 rfl rfl
    obtain rfl : y74 = .bool true := g74
    exact OpOk.skip (tab_no hL rfl rfl e74) ⟨Nw.refl _, rfl⟩
  · intro a w hN old new
    obtain ⟨y74, e74, g74⟩ := new 9 74 rfl rfl
    obtain rfl : y74 = .bool true := g74
    exact OpOk.skip (tab_no hL rfl rfl e74) ⟨Nw.refl _, rfl⟩
  · intro a w hN old new
    obtain ⟨y74, e74, g74⟩ := new 9 74 rfl rfl
    obtain rfl : y74 = .bool true := g74
    exact OpOk.skip (tab_no hL rfl rfl e74) ⟨Nw.refl _, rfl⟩
  · intro a w hN old new
    obtain ⟨y74, e74, g74⟩ := new 9 74 rfl rfl
    obtain rfl : y74 = .bool true := g74
    exact OpOk.skip (tab_no hL rfl rfl e74) ⟨Nw.refl _, rfl⟩
  · intro a w hN old new
    obtain ⟨y74, e74, g74⟩ := new 9 74 rfl rfl
    obtain rfl : y74 = .bool true := g74
    exact OpOk.skip (tab_no hL rfl rfl e74) ⟨Nw.refl _, rfl⟩
  · intro a w hN old new
    obtain ⟨y74, e74, g74⟩ := new 9 74 rfl rfl
    obtain rfl : y74 = .bool true := g74
    exact OpOk.skip (tab_no hL rfl rfl e74) ⟨Nw.refl _, rfl⟩
  · intro a w hN old new
    obtain ⟨y74, e74, g74⟩ := new 9 74 rfl rfl
    obtain rfl : y74 = .bool true := g74
    obtain ⟨y82, e82, g82⟩ := new 17 82 rfl rfl
    obtain rfl : y82 = undef := g82
    exact OpOk.val (.bool true) (w_none rfl) [(74, _), (82, _)] (forall_cons e74 <| forall_cons e82 <| forall_nil) (fun ρ e ⟨c1, c2⟩ => by (try simp only [List.forall_mem_cons] at e); go_simp) ⟨Nw.refl _, rfl⟩
  · intro a w hN old new
    obtain ⟨y83, e83, g83⟩ := new 18 83 rfl rfl
    obtain rfl : y83 = .bool true := g83
    exact OpOk.val (.bool true) (w_none rfl) [(83, _)] (forall_cons e83 <| forall_nil) (fun ρ e ⟨c1, c2⟩ => by (try simp only [List.forall_mem_cons] at e); go_simp) ⟨Nw.refl _, rfl⟩
  · intro a w hN hsz hdf old new
    obtain ⟨y3, e3, g3⟩ := new 19 3 rfl
    exact tab_frame (frame_lit (dst := [65, 66, 67, 68, 69, 70, 71, 72, 73, 74, 75, 76, 77, 78, 79, 80, 81, 82, 83, 3]) (l := [u0, .pointer (some ⟨cb, 0, none⟩), u2, u3, u4, u5, u6, .pointer (some ⟨tb, 0, none⟩), .int .i64 (k : Int), u9, u10, u11, u12, u13, u14, u15, u16, u17, u18, u19, u20, u21, u22, u23, u24, u25, u26, u27, u28, u29, u30, u31, u32, u33, u34, u35, u36, u37, u38, u39, u40, u41, u42, u43, u44, u45, u46, u47, u48, u49, u50, u51, u52, u53, u54, u55, u56, u57, u58, u59, u60, u61, u62, u63, u64, u65, u66, u67, u68, u69, u70, u71, u72, u73, u74, u75, u76, u77, u78, u79, u80, u81, u82, u83, u84, u85]) hA hsz hdf old (l' := [u0, .pointer (some ⟨cb, 0, none⟩), u2, (a.tmps[3]?.getD undef), u4, u5, u6, .pointer (some ⟨tb, 0, none⟩), .int .i64 (k : Int), u9, u10, u11, u12, u13, u14, u15, u16, u17, u18, u19, u20, u21, u22, u23, u24, u25, u26, u27, u28, u29, u30, u31, u32, u33, u34, u35, u36, u37, u38, u39, u40, u41, u42, u43, u44, u45, u46, u47, u48, u49, u50, u51, u52, u53, u54, u55, u56, u57, u58, u59, u60, u61, u62, u63, u64, (a.tmps[65]?.getD undef), (a.tmps[66]?.getD undef), (a.tmps[67]?.getD undef), (a.tmps[68]?.getD undef), (a.tmps[69]?.getD undef), (a.tmps[70]?.getD undef), (a.tmps[71]?.getD undef), (a.tmps[72]?.getD undef), (a.tmps[73]?.getD undef), (a.tmps[74]?.getD undef), (a.tmps[75]?.getD undef), (a.tmps[76]?.getD undef), (a.tmps[77]?.getD undef), (a.tmps[78]?.getD undef), (a.tmps[79]?.getD undef), (a.tmps[80]?.getD undef), (a.tmps[81]?.getD undef), (a.tmps[82]?.getD undef), (a.tmps[83]?.getD undef), u84, u85]) (by kernel_rfl)) (HQ.out _ _ _ _ _ _ _ _ _ _ _ _ _ _ _ _ _ _ _ _ w hN (by rw [e3]; exact g3))
end Go.Proofs.YtcmaedoolinijaaGreatDoor
