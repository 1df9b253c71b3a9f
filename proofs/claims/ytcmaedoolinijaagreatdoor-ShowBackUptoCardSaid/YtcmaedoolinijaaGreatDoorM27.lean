/-
  Texts merged by a program of this claim's: CkE.
-/
import Derived.Test.YtcmaedoolinijaaGreatDoorM26
import Derived.Test.YtcmaedoolinijaaGreatDoorM2
import Derived.Deep.DeepCutAuto
import Derived.Deep.QuietTactic
import Derived.BigQuiet
namespace Go.Proofs.YtcmaedoolinijaaGreatDoor
open Go Go.RowKit Go.Sort
set_option maxRecDepth 100000
set_option maxHeartbeats 3200000

theorem box7 {w : World} {p : Nat} {a b c d e f g : Value} {t : TypeId} (hb : w.heap[p]? = some (.cells #[a, b, c, d, e, f, g] t (0, 0))) :
    w.cell? ⟨p, 0, none⟩ = some a ∧ w.cell? ⟨p, 1, none⟩ = some b ∧ w.cell? ⟨p, 2, none⟩ = some c ∧ w.cell? ⟨p, 3, none⟩ = some d ∧ w.cell? ⟨p, 4, none⟩ = some e ∧ w.cell? ⟨p, 5, none⟩ = some f ∧ w.cell? ⟨p, 6, none⟩ = some g ∧ ∀ i, w.frozen? ⟨p, i, none⟩ = false := by
  simp [World.cell?, World.frozen?, hb]

theorem may1 {wc : World} {cb tb xb dO op nl nc no na c0 c1 c2 c6 : Nat} {a0 a1 a2 a6 : Option Addr} {nm : List UInt8} {obj inn to_ n : Int} {vt : Value} {b : Bool}
    (CB : Hid (wc.heap[cb]? = some (.cells #[.slice a0 no c0, vt] 25 (0, 0)))) (TB : Hid (wc.heap[tb]? = some (.cells #[.string ⟨nm.toArray⟩, .slice a1 nl c1, .slice a2 nc c2] 73 (0, 0)))) (XB : Hid (wc.heap[xb]? = some (.cells #[.int .u8 (dO : Int), .int .u8 (op : Int), .int .i64 obj, .int .i64 inn, .int .i64 to_, .int .i64 n, .slice a6 na c6] 129 (0, 0))))
    (hb : Hid (b = (decide (0 ≤ inn) && decide (inn < (nl : Int))))) {u0 u1 u2 u6 u7 u8 u9 u10 u11 u12 u13 u14 u15 u16 u17 u18 u19 u20 u21 u22 u23 u24 u25 u26 u27 u28 u29 u30 u31 u32 u33 u34 u35 u36 u37 u38 u39 u40 u41 u42 u43 u44 u45 u46 u47 u48 u49 u50 u51 u52 u53 u54 u55 u56 u57 u58 u59 u60 u61 u62 u63 u64 u65 u66 u67 u68 u69 u70 u71 u72 u73 u74 u75 u76 u77 u78 u79 u80 u81 u82 u83 u84 u85 u86 u87 u88 u89 u90 u91 u92 u93 u94 u95 u96 u97 u98 u99 u100 u101 u102 u103 u104 u105 u106 u107 u108 u109 u110 : Value} {Q : Exit → Act → World → Prop} (hP : PanicOk Q)
    (hQ : ∀ (s10 s11 s12 s13 s14 s15 s16 s17 s18 s19 s20 : Value)  (wx : World), wx = wc → Q .normal ⟨#[u0, u1, u2, .pointer (some ⟨cb, 0, none⟩), .pointer (some ⟨tb, 0, none⟩), .pointer (some ⟨xb, 0, none⟩), u6, .bool b, u8, u9, s10, s11, s12, s13, s14, s15, s16, s17, s18, s19, s20, u21, u22, u23, u24, u25, u26, u27, u28, u29, u30, u31, u32, u33, u34, u35, u36, u37, u38, u39, u40, u41, u42, u43, u44, u45, u46, u47, u48, u49, u50, u51, u52, u53, u54, u55, u56, u57, u58, u59, u60, u61, u62, u63, u64, u65, u66, u67, u68, u69, u70, u71, u72, u73, u74, u75, u76, u77, u78, u79, u80, u81, u82, u83, u84, u85, u86, u87, u88, u89, u90, u91, u92, u93, u94, u95, u96, u97, u98, u99, u100, u101, u102, u103, u104, u105, u106, u107, u108, u109, u110], []⟩ wx) :
    Code.wp Tryz.prog ((Tryz.f82.body.bind (regionOf 1)).getD .skip) Q ⟨#[u0, u1, u2, .pointer (some ⟨cb, 0, none⟩), .pointer (some ⟨tb, 0, none⟩), .pointer (some ⟨xb, 0, none⟩), u6, u7, u8, u9, u10, u11, u12, u13, u14, u15, u16, u17, u18, u19, u20, u21, u22, u23, u24, u25, u26, u27, u28, u29, u30, u31, u32, u33, u34, u35, u36, u37, u38, u39, u40, u41, u42, u43, u44, u45, u46, u47, u48, u49, u50, u51, u52, u53, u54, u55, u56, u57, u58, u59, u60, u61, u62, u63, u64, u65, u66, u67, u68, u69, u70, u71, u72, u73, u74, u75, u76, u77, u78, u79, u80, u81, u82, u83, u84, u85, u86, u87, u88, u89, u90, u91, u92, u93, u94, u95, u96, u97, u98, u99, u100, u101, u102, u103, u104, u105, u106, u107, u108, u109, u110], []⟩ wc := by
  have _hP := hP
  dsimp only at hQ ⊢
  conv => arg 2; whnf
  have HQ := Lib.hid hQ
  clear hQ
  have hb' := hb
  clear hb
  obtain ⟨p0, p1, pf⟩ := box2 CB.out
  obtain ⟨t0, t1, t2, tf⟩ := box3 TB.out
  obtain ⟨x0, x1, x2, x3, x4, x5, x6, xf⟩ := box7 XB.out
  by_cases c1 : 0 ≤ inn
  · have u1 : decide ((0 : Int) ≤ inn) = true := by simp; omega
    by_cases c2 : inn < (nl : Int)
    · have u2 : decide (inn < (nl : Int)) = true := by simp; omega
      have hbb : b = true := by rw [hb'.out, u1, u2]; rfl
      subst hbb
      clear hb' c1 c2
      go_wp2_with fail
      exact HQ.out _ _ _ _ _ _ _ _ _ _ _  _ rfl
    · have u2 : decide (inn < (nl : Int)) = false := by simp; omega
      have hbb : b = false := by rw [hb'.out, u1, u2]; rfl
      subst hbb
      clear hb' c1 c2
      go_wp2_with fail
      exact HQ.out _ _ _ _ _ _ _ _ _ _ _  _ rfl
  · have u1 : decide ((0 : Int) ≤ inn) = false := by simp; omega
    have hbb : b = false := by rw [hb'.out, u1]; rfl
    subst hbb
    clear hb' c1
    go_wp2_with fail
    exact HQ.out _ _ _ _ _ _ _ _ _ _ _  _ rfl

theorem may2 {wc : World} {cb tb xb dO op nl nc no na c0 c1 c2 c6 : Nat} {a0 a1 a2 a6 : Option Addr} {nm : List UInt8} {obj inn to_ n : Int} {vt : Value} {b : Bool}
    (CB : Hid (wc.heap[cb]? = some (.cells #[.slice a0 no c0, vt] 25 (0, 0)))) (TB : Hid (wc.heap[tb]? = some (.cells #[.string ⟨nm.toArray⟩, .slice a1 nl c1, .slice a2 nc c2] 73 (0, 0)))) (XB : Hid (wc.heap[xb]? = some (.cells #[.int .u8 (dO : Int), .int .u8 (op : Int), .int .i64 obj, .int .i64 inn, .int .i64 to_, .int .i64 n, .slice a6 na c6] 129 (0, 0))))
    (hb : Hid (b = (decide (0 ≤ to_) && decide (to_ ≤ (nc : Int))))) {u0 u1 u2 u6 u7 u8 u9 u10 u11 u12 u13 u14 u15 u16 u17 u18 u19 u20 u21 u22 u23 u24 u25 u26 u27 u28 u29 u30 u31 u32 u33 u34 u35 u36 u37 u38 u39 u40 u41 u42 u43 u44 u45 u46 u47 u48 u49 u50 u51 u52 u53 u54 u55 u56 u57 u58 u59 u60 u61 u62 u63 u64 u65 u66 u67 u68 u69 u70 u71 u72 u73 u74 u75 u76 u77 u78 u79 u80 u81 u82 u83 u84 u85 u86 u87 u88 u89 u90 u91 u92 u93 u94 u95 u96 u97 u98 u99 u100 u101 u102 u103 u104 u105 u106 u107 u108 u109 u110 : Value} {Q : Exit → Act → World → Prop} (hP : PanicOk Q)
    (hQ : ∀ (s21 s22 s23 s24 s25 s26 s27 s28 s29 s30 s31 : Value)  (wx : World), wx = wc → Q .normal ⟨#[u0, u1, u2, .pointer (some ⟨cb, 0, none⟩), .pointer (some ⟨tb, 0, none⟩), .pointer (some ⟨xb, 0, none⟩), u6, u7, .bool b, u9, u10, u11, u12, u13, u14, u15, u16, u17, u18, u19, u20, s21, s22, s23, s24, s25, s26, s27, s28, s29, s30, s31, u32, u33, u34, u35, u36, u37, u38, u39, u40, u41, u42, u43, u44, u45, u46, u47, u48, u49, u50, u51, u52, u53, u54, u55, u56, u57, u58, u59, u60, u61, u62, u63, u64, u65, u66, u67, u68, u69, u70, u71, u72, u73, u74, u75, u76, u77, u78, u79, u80, u81, u82, u83, u84, u85, u86, u87, u88, u89, u90, u91, u92, u93, u94, u95, u96, u97, u98, u99, u100, u101, u102, u103, u104, u105, u106, u107, u108, u109, u110], []⟩ wx) :
    Code.wp Tryz.prog ((Tryz.f82.body.bind (regionOf 2)).getD .skip) Q ⟨#[u0, u1, u2, .pointer (some ⟨cb, 0, none⟩), .pointer (some ⟨tb, 0, none⟩), .pointer (some ⟨xb, 0, none⟩), u6, u7, u8, u9, u10, u11, u12, u13, u14, u15, u16, u17, u18, u19, u20, u21, u22, u23, u24, u25, u26, u27, u28, u29, u30, u31, u32, u33, u34, u35, u36, u37, u38, u39, u40, u41, u42, u43, u44, u45, u46, u47, u48, u49, u50, u51, u52, u53, u54, u55, u56, u57, u58, u59, u60, u61, u62, u63, u64, u65, u66, u67, u68, u69, u70, u71, u72, u73, u74, u75, u76, u77, u78, u79, u80, u81, u82, u83, u84, u85, u86, u87, u88, u89, u90, u91, u92, u93, u94, u95, u96, u97, u98, u99, u100, u101, u102, u103, u104, u105, u106, u107, u108, u109, u110], []⟩ wc := by
  have _hP := hP
  dsimp only at hQ ⊢
  conv => arg 2; whnf
  have HQ := Lib.hid hQ
  clear hQ
  have hb' := hb
  clear hb
  obtain ⟨p0, p1, pf⟩ := box2 CB.out
  obtain ⟨t0, t1, t2, tf⟩ := box3 TB.out
  obtain ⟨x0, x1, x2, x3, x4, x5, x6, xf⟩ := box7 XB.out
  by_cases c1 : 0 ≤ to_
  · have u1 : decide ((0 : Int) ≤ to_) = true := by simp; omega
    by_cases c2 : to_ ≤ (nc : Int)
    · have u2 : decide (to_ ≤ (nc : Int)) = true := by simp; omega
      have hbb : b = true := by rw [hb'.out, u1, u2]; rfl
      subst hbb
      clear hb' c1 c2
      go_wp2_with fail
      exact HQ.out _ _ _ _ _ _ _ _ _ _ _  _ rfl
    · have u2 : decide (to_ ≤ (nc : Int)) = false := by simp; omega
      have hbb : b = false := by rw [hb'.out, u1, u2]; rfl
      subst hbb
      clear hb' c1 c2
      go_wp2_with fail
      exact HQ.out _ _ _ _ _ _ _ _ _ _ _  _ rfl
  · have u1 : decide ((0 : Int) ≤ to_) = false := by simp; omega
    have hbb : b = false := by rw [hb'.out, u1]; rfl
    subst hbb
    clear hb' c1
    go_wp2_with fail
    exact HQ.out _ _ _ _ _ _ _ _ _ _ _  _ rfl

theorem may3 {wc : World} {cb tb xb dO op nl nc no na c0 c1 c2 c6 : Nat} {a0 a1 a2 a6 : Option Addr} {nm : List UInt8} {obj inn to_ n : Int} {vt : Value} {b : Bool}
    (CB : Hid (wc.heap[cb]? = some (.cells #[.slice a0 no c0, vt] 25 (0, 0)))) (TB : Hid (wc.heap[tb]? = some (.cells #[.string ⟨nm.toArray⟩, .slice a1 nl c1, .slice a2 nc c2] 73 (0, 0)))) (XB : Hid (wc.heap[xb]? = some (.cells #[.int .u8 (dO : Int), .int .u8 (op : Int), .int .i64 obj, .int .i64 inn, .int .i64 to_, .int .i64 n, .slice a6 na c6] 129 (0, 0))))
    (hb : Hid (b = (decide (0 ≤ obj) && decide (obj < (no : Int))))) {u0 u1 u2 u6 u7 u8 u9 u10 u11 u12 u13 u14 u15 u16 u17 u18 u19 u20 u21 u22 u23 u24 u25 u26 u27 u28 u29 u30 u31 u32 u33 u34 u35 u36 u37 u38 u39 u40 u41 u42 u43 u44 u45 u46 u47 u48 u49 u50 u51 u52 u53 u54 u55 u56 u57 u58 u59 u60 u61 u62 u63 u64 u65 u66 u67 u68 u69 u70 u71 u72 u73 u74 u75 u76 u77 u78 u79 u80 u81 u82 u83 u84 u85 u86 u87 u88 u89 u90 u91 u92 u93 u94 u95 u96 u97 u98 u99 u100 u101 u102 u103 u104 u105 u106 u107 u108 u109 u110 : Value} {Q : Exit → Act → World → Prop} (hP : PanicOk Q)
    (hQ : ∀ (s32 s33 s34 s35 s36 s37 s38 s39 s40 s41 s42 : Value)  (wx : World), wx = wc → Q .normal ⟨#[u0, u1, u2, .pointer (some ⟨cb, 0, none⟩), .pointer (some ⟨tb, 0, none⟩), .pointer (some ⟨xb, 0, none⟩), u6, u7, u8, .bool b, u10, u11, u12, u13, u14, u15, u16, u17, u18, u19, u20, u21, u22, u23, u24, u25, u26, u27, u28, u29, u30, u31, s32, s33, s34, s35, s36, s37, s38, s39, s40, s41, s42, u43, u44, u45, u46, u47, u48, u49, u50, u51, u52, u53, u54, u55, u56, u57, u58, u59, u60, u61, u62, u63, u64, u65, u66, u67, u68, u69, u70, u71, u72, u73, u74, u75, u76, u77, u78, u79, u80, u81, u82, u83, u84, u85, u86, u87, u88, u89, u90, u91, u92, u93, u94, u95, u96, u97, u98, u99, u100, u101, u102, u103, u104, u105, u106, u107, u108, u109, u110], []⟩ wx) :
    Code.wp Tryz.prog ((Tryz.f82.body.bind (regionOf 3)).getD .skip) Q ⟨#[u0, u1, u2, .pointer (some ⟨cb, 0, none⟩), .pointer (some ⟨tb, 0, none⟩), .pointer (some ⟨xb, 0, none⟩), u6, u7, u8, u9, u10, u11, u12, u13, u14, u15, u16, u17, u18, u19, u20, u21, u22, u23, u24, u25, u26, u27, u28, u29, u30, u31, u32, u33, u34, u35, u36, u37, u38, u39, u40, u41, u42, u43, u44, u45, u46, u47, u48, u49, u50, u51, u52, u53, u54, u55, u56, u57, u58, u59, u60, u61, u62, u63, u64, u65, u66, u67, u68, u69, u70, u71, u72, u73, u74, u75, u76, u77, u78, u79, u80, u81, u82, u83, u84, u85, u86, u87, u88, u89, u90, u91, u92, u93, u94, u95, u96, u97, u98, u99, u100, u101, u102, u103, u104, u105, u106, u107, u108, u109, u110], []⟩ wc := by
  have _hP := hP
  dsimp only at hQ ⊢
  conv => arg 2; whnf
  have HQ := Lib.hid hQ
  clear hQ
  have hb' := hb
  clear hb
  obtain ⟨p0, p1, pf⟩ := box2 CB.out
  obtain ⟨t0, t1, t2, tf⟩ := box3 TB.out
  obtain ⟨x0, x1, x2, x3, x4, x5, x6, xf⟩ := box7 XB.out
  by_cases c1 : 0 ≤ obj
  · have u1 : decide ((0 : Int) ≤ obj) = true := by simp; omega
    by_cases c2 : obj < (no : Int)
    · have u2 : decide (obj < (no : Int)) = true := by simp; omega
      have hbb : b = true := by rw [hb'.out, u1, u2]; rfl
      subst hbb
      clear hb' c1 c2
      go_wp2_with fail
      exact HQ.out _ _ _ _ _ _ _ _ _ _ _  _ rfl
    · have u2 : decide (obj < (no : Int)) = false := by simp; omega
      have hbb : b = false := by rw [hb'.out, u1, u2]; rfl
      subst hbb
      clear hb' c1 c2
      go_wp2_with fail
      exact HQ.out _ _ _ _ _ _ _ _ _ _ _  _ rfl
  · have u1 : decide ((0 : Int) ≤ obj) = false := by simp; omega
    have hbb : b = false := by rw [hb'.out, u1]; rfl
    subst hbb
    clear hb' c1
    go_wp2_with fail
    exact HQ.out _ _ _ _ _ _ _ _ _ _ _  _ rfl

theorem cmay_ok {w : World} (hM : Mx w) {v0 v1 : Value} {os : List Dcl} (h0 : RdK 5 isDcl w v0 os) {ts : List Value} {t : TextP} (ht : isText w ts t) {cs : List Value} {x : InsP} (hx : isIns w cs x) (hargs : x.args.length ≤ 1048576) :
    Calls Tryz.prog 82 #[.agg #[v0, v1], .agg ts.toArray, .agg cs.toArray] w fun z w' => z = .returned (.bool (mayB os t x)) ∧ Nw w w' := by
  obtain ⟨nm, los, cod⟩ := t
  have HX := Lib.hid (fun W (hW : Nw w W) => hx.nw hW)
  have HARG := Lib.hid hargs
  obtain ⟨dO, op, obj, inn, to_, n, args⟩ := x
  obtain ⟨v6, rfl, hdo, hop, hob, hin, hto, hn, hv6⟩ := hx
  obtain ⟨a6, c6, rfl, hc6, hm6, -⟩ := RdK.len hv6
  obtain ⟨t1, t2, rfl, htn, ht1, ht2⟩ := ht
  obtain ⟨a1, c1, rfl, hc1, hm1, -⟩ := RdK.len ht1
  obtain ⟨a2, c2, rfl, hc2, hm2, -⟩ := RdK.len ht2
  obtain ⟨a0, c0, rfl, hc0, hm0, -⟩ := h0.len
  have H0 := Lib.hid (fun W (hW : Nw w W) => h0.nw hW)
  have HM := Lib.hid (fun W (hW : Nw w W) => hM.nw hW)
  have hm0' : c0 ≤ 9223372036854775807 := by unfold maxLen at hm0; omega
  have HM0 := Lib.hid hm0'
  simp only at *
  obtain ⟨na, hna⟩ : ∃ n, args.length = n := ⟨_, rfl⟩
  obtain ⟨nl, hnl⟩ : ∃ n, los.length = n := ⟨_, rfl⟩
  obtain ⟨nc, hnc⟩ : ∃ n, cod.length = n := ⟨_, rfl⟩
  obtain ⟨no, hno⟩ : ∃ n, os.length = n := ⟨_, rfl⟩
  have NO := Lib.hid hno
  have NA := Lib.hid hna
  obtain ⟨r, hr⟩ : ∃ r, mayB os ⟨nm, los, cod⟩ ⟨dO, op, obj, inn, to_, n, args⟩ = r := ⟨_, rfl⟩
  rw [hr]
  unfold mayB at hr
  simp only at hr
  rw [hna, hnl, hnc, hno] at hr
  rw [hno] at H0
  rw [hna] at hc6
  have HR := Lib.hid hr
  simp only [hna, hnl, hnc, hno]
  simp only [hna] at HX
  clear hv6 ht1 ht2 h0 hM hr hna hnl hnc hno hop hob hin hto hn htn hargs hm0'
  go_enter Tryz.func82, Tryz.ntmps82
  go_upto_region 1 with fail
  obtain ⟨cb, hcb⟩ : ∃ cb, w.heap.size = cb := ⟨_, rfl⟩
  have TB := two_blk w #[.slice a0 no c0, v1] #[.string ⟨nm.toArray⟩, .slice a1 nl c1, .slice a2 nc c2] 25 73
  have NX := (Nw.refl ((w.alloc (.cells #[.slice a0 no c0, v1] 25)).alloc (.cells #[.string ⟨nm.toArray⟩, .slice a1 nl c1, .slice a2 nc c2] 73))).alloc (.cells #[.int .u8 (dO : Int), .int .u8 (op : Int), .int .i64 obj, .int .i64 inn, .int .i64 to_, .int .i64 n, .slice a6 na c6] 129)
  have XA := heap_alloc_new ((w.alloc (.cells #[.slice a0 no c0, v1] 25)).alloc (.cells #[.string ⟨nm.toArray⟩, .slice a1 nl c1, .slice a2 nc c2] 73)) (.cells #[.int .u8 (dO : Int), .int .u8 (op : Int), .int .i64 obj, .int .i64 inn, .int .i64 to_, .int .i64 n, .slice a6 na c6] 129)
  obtain ⟨wc, hwc⟩ : ∃ x, ((w.alloc (.cells #[.slice a0 no c0, v1] 25)).alloc (.cells #[.string ⟨nm.toArray⟩, .slice a1 nl c1, .slice a2 nc c2] 73)).alloc (.cells #[.int .u8 (dO : Int), .int .u8 (op : Int), .int .i64 obj, .int .i64 inn, .int .i64 to_, .int .i64 n, .slice a6 na c6] 129) = x := ⟨_, rfl⟩
  rw [hwc] at NX XA
  have W0 : Hid (Nw w wc) := Lib.hid (TB.1.trans NX)
  have CB : Hid (wc.heap[cb]? = some (.cells #[.slice a0 no c0, v1] 25 (0, 0))) := Lib.hid (by rw [← hcb]; exact NX.at_ TB.2.1)
  have TBX : Hid (wc.heap[cb + 1]? = some (.cells #[.string ⟨nm.toArray⟩, .slice a1 nl c1, .slice a2 nc c2] 73 (0, 0))) := Lib.hid (by rw [← hcb]; exact NX.at_ TB.2.2)
  have XB : Hid (wc.heap[cb + 1 + 1]? = some (.cells #[.int .u8 (dO : Int), .int .u8 (op : Int), .int .i64 obj, .int .i64 inn, .int .i64 to_, .int .i64 n, .slice a6 na c6] 129 (0, 0))) := Lib.hid (by rw [← hcb]; simpa using XA)
  (try rw [hcb]); rw [hwc]
  clear hwc hcb TB NX XA
  obtain ⟨lb, hlb⟩ : ∃ b, (decide (0 ≤ inn) && decide (inn < (nl : Int))) = b := ⟨_, rfl⟩
  obtain ⟨tb, htb⟩ : ∃ b, (decide (0 ≤ to_) && decide (to_ ≤ (nc : Int))) = b := ⟨_, rfl⟩
  obtain ⟨ob, hob⟩ : ∃ b, (decide (0 ≤ obj) && decide (obj < (no : Int))) = b := ⟨_, rfl⟩
  have hr := HR.out
  rw [hlb, htb, hob] at hr
  have HR := Lib.hid hr
  have LB := Lib.hid hlb.symm
  have TTB := Lib.hid htb.symm
  have OBB := Lib.hid hob.symm
  clear hr hlb htb hob
  refine may1 CB TBX XB LB (fun _ _ _ _ _ h => h) ?_
  intro s10 s11 s12 s13 s14 s15 s16 s17 s18 s19 s20
  rintro wx rfl
  go_upto_region 2 with fail
  refine may2 CB TBX XB TTB (fun _ _ _ _ _ h => h) ?_
  intro s21 s22 s23 s24 s25 s26 s27 s28 s29 s30 s31
  rintro wx rfl
  go_upto_region 3 with fail
  refine may3 CB TBX XB OBB (fun _ _ _ _ _ h => h) ?_
  intro s32 s33 s34 s35 s36 s37 s38 s39 s40 s41 s42
  rintro wx rfl
  obtain ⟨p0, p1, pf⟩ := box2 CB.out
  obtain ⟨q0, q1, q2, qf⟩ := box3 TBX.out
  obtain ⟨x0, x1, x2, x3, x4, x5, x6, xf⟩ := box7 XB.out
  by_cases d1 : dO = 1
  · subst d1
    have hr := HR.out
    simp only [if_true] at hr
    cases ob with
    | false =>
      have hr0 : r = false := by rw [← hr]; simp
      subst hr0
      clear hr
      go_upto_region 6 with fail
      clear p0 p1 pf q0 q1 q2 qf x0 x1 x2 x3 x4 x5 x6 xf
      refine wp_region_quiet_below (by kernel_rfl) (by kernel_rfl) ?_
      repeat (first | go_big_quiet_step (fail) | quiet_step (fail))
      refine wpQuiet_nil ?_
      intro w2 hw2
      have N2 := Lib.hid (Nw.of_regrown hw2)
      clear hw2
      go_wp2_with fail
      go_ret
      exact ⟨rfl, W0.out.trans N2.out⟩
    | true =>
      have hob2 := OBB.out
      have c1 : 0 ≤ obj := by
        cases h : decide (0 ≤ obj) with
        | true => simpa using h
        | false => (rw [h] at hob2; cases hob2)
      obtain ⟨k, rfl⟩ := Int.eq_ofNat_of_zero_le c1
      have hkn : k < no := by
        cases h : decide ((k : Int) < (no : Int)) with
        | true => simp at h; omega
        | false => rw [h, Bool.and_false] at hob2; cases hob2
      have hkl : k < os.length := by have := NO.out; omega
      rcases H0.out wx W0.out with ⟨a, -, e2⟩ | ⟨gv, ov, cap, e1, -, -, hgv, h3⟩
      · rw [e2] at hkl; exact absurd hkl (by simp)
      obtain ⟨rfl, -, rfl⟩ : a0 = some ⟨gv, ov, none⟩ ∧ no = os.length ∧ c0 = cap := by simpa using e1
      obtain ⟨cs, -, hc, hd', hd2, -⟩ := h3 k hkl
      obtain ⟨y, hy⟩ : ∃ y, os[k]'hkl = y := ⟨_, rfl⟩
      rw [hy] at hd' hd2
      subst hd'
      have e0 := hc 0 (by simp)
      simp only [List.getElem_cons_zero, Nat.add_zero] at e0
      have hgl : gv < wx.heap.size := hgv
      have hkk : kindAt os (k : Int) = y.kind := by
        unfold kindAt
        rw [Int.toNat_natCast, List.getElem?_map, List.getElem?_eq_getElem hkl, hy]; rfl
      rw [hkk] at hr
      have u2 : decide ((k : Int) < (no : Int)) = true := by simp; omega
      have hm0' := HM0.out
      clear hc h3 e1 hy hgv hkk hob2 c1
      obtain ⟨db, hdb⟩ : ∃ d, doesB y.kind op na (decide (inn ≠ -1)) lb = d := ⟨_, rfl⟩
      rw [hdb] at hr
      have CD : Hid (∀ p : Regrown, Calls Tryz.prog 118 #[.int .u8 (y.kind : Int), .agg #[.int .u8 1, .int .u8 (op : Int), .int .i64 (k : Int), .int .i64 inn, .int .i64 to_, .int .i64 n, .slice a6 na c6], .bool lb] (grow (redrawn wx p.d) p.os) fun e w'' => e = .returned (.bool db) ∧ ∃ p' : Regrown, w'' = grow (redrawn wx p'.d) p'.os) := Lib.hid fun p => quiet_nw fun w2 hw2 => by
        have := does_ok (HM.out w2 (W0.out.trans hw2)) hd2 (HX.out w2 (W0.out.trans hw2)) HARG.out lb
        simp only [NA.out] at this
        rw [hdb] at this
        exact this
      clear hdb
      go_upto_region 6 with fail
      have ce := cellG e0
      have g0 := cellG p0
      have y0 := cellG x0
      have y1 := cellG x1
      have y2 := cellG x2
      have y3 := cellG x3
      have y4 := cellG x4
      have y5 := cellG x5
      have y6 := cellG x6
      have hgl2 : ∀ p : Regrown, gv < (grow (redrawn wx p.d) p.os).heap.size := fun p => Nat.lt_of_lt_of_le hgl (Nw.of_regrown ⟨p, rfl⟩).size
      clear p0 p1 pf q0 q1 q2 qf x0 x1 x2 x3 x4 x5 x6 xf e0
      cases db with
      | false =>
        have hr0 : r = false := by rw [← hr]; simp
        subst hr0
        clear hr
        refine wp_region_quiet_below (by kernel_rfl) (by kernel_rfl) ?_
        repeat (first | go_big_quiet_step (with_reducible exact CD.out _) | quiet_step (with_reducible exact CD.out _))
        refine wpQuiet_nil ?_
        intro w2 hw2
        have N2 := Lib.hid (Nw.of_regrown hw2)
        clear hw2
        go_wp2_with fail
        go_ret
        exact ⟨rfl, W0.out.trans N2.out⟩
      | true =>
        by_cases c16 : op = 16
        · have u16 : ((op : Int) != 16) = false := by simp; omega
          have hr0 : r = tb := by rw [← hr]; simp [c16]
          subst hr0
          clear hr
          clear c16
          refine wp_region_quiet_below (by kernel_rfl) (by kernel_rfl) ?_
          repeat (first | go_big_quiet_step (with_reducible exact CD.out _) | quiet_step (with_reducible exact CD.out _))
          refine wpQuiet_nil ?_
          intro w2 hw2
          have N2 := Lib.hid (Nw.of_regrown hw2)
          clear hw2
          go_wp2_with fail
          go_ret
          exact ⟨rfl, W0.out.trans N2.out⟩
        · have u16 : ((op : Int) != 16) = true := by simp; omega
          have hr0 : r = true := by rw [← hr]; simp [c16]
          subst hr0
          clear hr
          clear c16
          refine wp_region_quiet_below (by kernel_rfl) (by kernel_rfl) ?_
          repeat (first | go_big_quiet_step (with_reducible exact CD.out _) | quiet_step (with_reducible exact CD.out _))
          refine wpQuiet_nil ?_
          intro w2 hw2
          have N2 := Lib.hid (Nw.of_regrown hw2)
          clear hw2
          go_wp2_with fail
          go_ret
          exact ⟨rfl, W0.out.trans N2.out⟩
  have k1 : ((dO : Int) == 1) = false := by simp; omega
  by_cases d2 : dO = 2
  · subst d2
    have hr := HR.out
    simp only [show ¬ (2 : Nat) = 1 from by omega, if_false, if_true] at hr
    cases ob with
    | false =>
      have hr0 : r = false := by rw [← hr]; simp
      subst hr0
      clear hr
      go_wp2_with fail
      go_ret
      exact ⟨rfl, W0.out⟩
    | true =>
      have hob2 := OBB.out
      have c1 : 0 ≤ obj := by
        cases h : decide (0 ≤ obj) with
        | true => simpa using h
        | false => (rw [h] at hob2; cases hob2)
      obtain ⟨k, rfl⟩ := Int.eq_ofNat_of_zero_le c1
      have hkn : k < no := by
        cases h : decide ((k : Int) < (no : Int)) with
        | true => simp at h; omega
        | false => rw [h, Bool.and_false] at hob2; cases hob2
      have hkl : k < os.length := by have := NO.out; omega
      rcases H0.out wx W0.out with ⟨a, -, e2⟩ | ⟨gv, ov, cap, e1, -, -, hgv, h3⟩
      · rw [e2] at hkl; exact absurd hkl (by simp)
      obtain ⟨rfl, -, rfl⟩ : a0 = some ⟨gv, ov, none⟩ ∧ no = os.length ∧ c0 = cap := by simpa using e1
      obtain ⟨cs, -, hc, hd', hd2, -⟩ := h3 k hkl
      obtain ⟨y, hy⟩ : ∃ y, os[k]'hkl = y := ⟨_, rfl⟩
      rw [hy] at hd' hd2
      subst hd'
      have e0 := hc 0 (by simp)
      simp only [List.getElem_cons_zero, Nat.add_zero] at e0
      have hgl : gv < wx.heap.size := hgv
      have hkk : kindAt os (k : Int) = y.kind := by
        unfold kindAt
        rw [Int.toNat_natCast, List.getElem?_map, List.getElem?_eq_getElem hkl, hy]; rfl
      rw [hkk] at hr
      have u2 : decide ((k : Int) < (no : Int)) = true := by simp; omega
      have hm0' := HM0.out
      clear hc h3 e1 hy hgv hkk hob2 c1
      by_cases c6 : y.kind = 6
      · have u6 : ((y.kind : Int) == 6) = true := by simp; omega
        have hr0 : r = true := by rw [← hr]; simp [c6]
        subst hr0
        clear hr
        go_wp2_with fail
        go_ret
        exact ⟨rfl, W0.out⟩
      · have u6 : ((y.kind : Int) == 6) = false := by simp; omega
        have hr0 : r = false := by rw [← hr]; simp [c6]
        subst hr0
        clear hr
        go_wp2_with fail
        go_ret
        exact ⟨rfl, W0.out⟩
  have k2 : ((dO : Int) == 2) = false := by simp; omega
  by_cases d3 : dO = 3
  · subst d3
    have hr := HR.out
    simp only [show ¬ (3 : Nat) = 1 from by omega, show ¬ (3 : Nat) = 2 from by omega, if_false, if_true] at hr
    cases lb with
    | false =>
      have hr0 : r = false := by rw [← hr]; simp
      subst hr0
      clear hr
      go_wp2_with fail
      go_ret
      exact ⟨rfl, W0.out⟩
    | true =>
      by_cases c1 : na = 1
      · have u6 : ((na : Int) == 1) = true := by simp; omega
        have hr0 : r = true := by rw [← hr]; simp [c1]
        subst hr0
        clear hr
        go_wp2_with fail
        go_ret
        exact ⟨rfl, W0.out⟩
      · have u6 : ((na : Int) == 1) = false := by simp; omega
        have hr0 : r = false := by rw [← hr]; simp [c1]
        subst hr0
        clear hr
        go_wp2_with fail
        go_ret
        exact ⟨rfl, W0.out⟩
  have k3 : ((dO : Int) == 3) = false := by simp; omega
  by_cases d4 : dO = 4
  · subst d4
    have hr := HR.out
    simp only [show ¬ (4 : Nat) = 1 from by omega, show ¬ (4 : Nat) = 2 from by omega, show ¬ (4 : Nat) = 3 from by omega, if_false, if_true] at hr
    cases tb with
    | false =>
      have hr0 : r = false := by rw [← hr]; simp
      subst hr0
      clear hr
      go_wp2_with fail
      go_ret
      exact ⟨rfl, W0.out⟩
    | true =>
      by_cases c1 : na = 1
      · have u6 : ((na : Int) == 1) = true := by simp; omega
        have hr0 : r = true := by rw [← hr]; simp [c1]
        subst hr0
        clear hr
        go_wp2_with fail
        go_ret
        exact ⟨rfl, W0.out⟩
      · have u6 : ((na : Int) == 1) = false := by simp; omega
        have hr0 : r = false := by rw [← hr]; simp [c1]
        subst hr0
        clear hr
        go_wp2_with fail
        go_ret
        exact ⟨rfl, W0.out⟩
  have k4 : ((dO : Int) == 4) = false := by simp; omega
  by_cases d5 : dO = 5
  · subst d5
    have hr := HR.out
    simp only [show ¬ (5 : Nat) = 1 from by omega, show ¬ (5 : Nat) = 2 from by omega, show ¬ (5 : Nat) = 3 from by omega, show ¬ (5 : Nat) = 4 from by omega, if_false, if_true] at hr
    have hr0 : r = tb := hr.symm
    subst hr0
    clear hr
    go_wp2_with fail
    go_ret
    exact ⟨rfl, W0.out⟩
  have k5 : ((dO : Int) == 5) = false := by simp; omega
  by_cases d6 : dO = 6
  · subst d6
    have hr := HR.out
    simp only [show ¬ (6 : Nat) = 1 from by omega, show ¬ (6 : Nat) = 2 from by omega, show ¬ (6 : Nat) = 3 from by omega, show ¬ (6 : Nat) = 4 from by omega, show ¬ (6 : Nat) = 5 from by omega, if_false, if_true] at hr
    have hr0 : r = lb := hr.symm
    subst hr0
    clear hr
    go_wp2_with fail
    go_ret
    exact ⟨rfl, W0.out⟩
  have k6 : ((dO : Int) == 6) = false := by simp; omega
  by_cases d7 : dO = 7
  · subst d7
    have hr := HR.out
    simp only [show ¬ (7 : Nat) = 1 from by omega, show ¬ (7 : Nat) = 2 from by omega, show ¬ (7 : Nat) = 3 from by omega, show ¬ (7 : Nat) = 4 from by omega, show ¬ (7 : Nat) = 5 from by omega, show ¬ (7 : Nat) = 6 from by omega, if_false, if_true] at hr
    cases lb with
    | false =>
      have hr0 : r = false := by rw [← hr]; simp
      subst hr0
      clear hr
      go_wp2_with fail
      go_ret
      exact ⟨rfl, W0.out⟩
    | true =>
      have hr0 : r = tb := by rw [← hr]; simp
      subst hr0
      clear hr
      go_wp2_with fail
      go_ret
      exact ⟨rfl, W0.out⟩
  have k7 : ((dO : Int) == 7) = false := by simp; omega
  have hr := HR.out
  rw [if_neg d1, if_neg d2, if_neg d3, if_neg d4, if_neg d5, if_neg d6, if_neg d7] at hr
  have hr0 : r = false := hr.symm
  subst hr0
  clear hr
  go_wp2_with fail
  go_ret
  exact ⟨rfl, W0.out⟩

end Go.Proofs.YtcmaedoolinijaaGreatDoor
