/-
  Texts merged by a program of this claim's: PlaysB, Close.
-/
import Derived.Test.YtkhcdbafcigeoaaDoorM22
import Derived.Deep.DeepCutAuto
import Derived.Test.YtkhcdbafcigeoaaDoorM1
import Derived.Carry
import Derived.ChangeCalls
import Derived.Deep.DeepHandedRow
import Derived.Lib.LaidTab
import Derived.Deep.Slices
/-
  amanuensislaw02.DiskPlays: a call, whichever it is. (Printed by gen_pl.py.)
-/
namespace Go.Proofs.YtkhcdbafcigeoaaDoor.DiskPlays
open Go Go.RowKit Go.Sort
set_option maxRecDepth 100000
set_option maxHeartbeats 3200000

theorem b2 {W wc : World} {b pw po : Nat} {d r : Dsk} {o : OpR} {vb vk : Value} {a : Option Addr} {c : Nat} (HM : Hid (PM W wc b pw po d r o vb vk a c)) (HO : Hid (RefOf d r)) {k : Int} (hs1 : o.b.length ≤ 200) (hs2 : o.name.length ≤ 100) (hs3 : o.tgt.length ≤ 100)  {u0 u1 u2 u3 u4 u6 u8 u9 u15 u16 u17 u18 u19 u20 u21 u22 u23 u24 u25 u26 u27 u28 u29 u30 u31 u32 u33 u34 u35 u36 u37 u38 u39 u40 u41 u42 u43 u44 u45 u46 u47 u48 u49 u50 u51 u52 u53 u54 u55 u56 u57 u58 u59 u60 u61 u62 u63 u64 u65 u66 u67 u68 u69 u70 u71 u72 u73 u74 u75 u76 u77 u78 u79 u80 u81 u82 u84 u85 u86 u87 u88 u89 u90 u91 u92 u93 u94 u95 u96 u97 u98 u99 u100 u101 u102 u103 u104 u105 u106 u107 u108 u109 u110 u111 u112 u113 u114 u115 u116 u117 u118 u119 u120 u121 u122 u123 u124 u125 u126 u127 u128 u129 u130 u131 u132 u133 u134 u135 u136 u137 u138 u139 u140 u141 u142 u143 u144 u145 u146 u147 u148 u149 u150 u151 u152 u153 u154 u155 u156 u157 u158 u159 u160 u161 u162 u163 u164 u165 u166 u167 u168 u169 u170 u171 u172 u173 u174 u175 u176 u177 u178 u179 u180 u181 u182 u183 u184 u185 u186 u187 u188 u189 u190 u191 u192 u193 u194 u195 u196 u197 u198 u199 u200 u201 u202 u203 u204 u205 u206 u207 u208 u209 u210 u211 u212 u213 u214 u215 u216 u217 u218 u219 u220 u221 u222 u223 u224 u225 u226 u227 u228 u229 u230 u231 u232 u233 u234 : Value} {Q : Exit → Act → World → Prop} (hP : PanicOk Q)
    (hQ : ∀ (s84 s85 s86 s87 s88 s89 s90 s91 s92 s93 s94 s95 s96 s97 s98 s99 s100 s101 s102 s103 s104 s105 s106 s107 s108 s109 s110 s111 s112 s113 s114 s115 s116 s117 s118 s119 s120 s121 s122 s123 s124 s125 s126 s127 s128 s129 s130 s131 s132 s133 s134 s135 s136 s137 s138 s139 s140 s141 s142 s143 s144 s145 s146 s147 s148 s149 s150 s151 s152 s153 s154 s155 s156 s157 s158 s159 s160 s161 s162 s163 s164 s165 s166 s167 s168 s169 s170 s171 s172 s173 s174 s175 s176 s177 s178 s179 s180 s181 s182 s183 s184 s185 s186 s187 s188 s189 s190 s191 s192 s193 s194 s195 s196 s197 s198 s199 : Value) (d' r' : Dsk) (a' : Option Addr) (c' : Nat) (l : List UInt8) (x : Int) (a1 a2 : Option Addr) (z1 z2 : Nat)  (wx : World), PM W wx b pw po d' r' o vb vk a' c' → RefOf d' r' → Bs wx (.slice a1 l.length z1) l → Bs wx (.slice a2 l.length z2) l → Q .normal ⟨#[u0, u1, u2, u3, u4, .pointer (some ⟨b, 0, none⟩), u6, .pointer (some ⟨pw, 0, none⟩), u8, u9, .pointer (some ⟨po, 0, none⟩), .int .i64 x, .int .i64 x, .slice a1 l.length z1, .slice a2 l.length z2, u15, u16, u17, u18, u19, u20, u21, u22, u23, u24, u25, u26, u27, u28, u29, u30, u31, u32, u33, u34, u35, u36, u37, u38, u39, u40, u41, u42, u43, u44, u45, u46, u47, u48, u49, u50, u51, u52, u53, u54, u55, u56, u57, u58, u59, u60, u61, u62, u63, u64, u65, u66, u67, u68, u69, u70, u71, u72, u73, u74, u75, u76, u77, u78, u79, u80, u81, u82, .int .i64 k, s84, s85, s86, s87, s88, s89, s90, s91, s92, s93, s94, s95, s96, s97, s98, s99, s100, s101, s102, s103, s104, s105, s106, s107, s108, s109, s110, s111, s112, s113, s114, s115, s116, s117, s118, s119, s120, s121, s122, s123, s124, s125, s126, s127, s128, s129, s130, s131, s132, s133, s134, s135, s136, s137, s138, s139, s140, s141, s142, s143, s144, s145, s146, s147, s148, s149, s150, s151, s152, s153, s154, s155, s156, s157, s158, s159, s160, s161, s162, s163, s164, s165, s166, s167, s168, s169, s170, s171, s172, s173, s174, s175, s176, s177, s178, s179, s180, s181, s182, s183, s184, s185, s186, s187, s188, s189, s190, s191, s192, s193, s194, s195, s196, s197, s198, s199, u200, u201, u202, u203, u204, u205, u206, u207, u208, u209, u210, u211, u212, u213, u214, u215, u216, u217, u218, u219, u220, u221, u222, u223, u224, u225, u226, u227, u228, u229, u230, u231, u232, u233, u234], []⟩ wx) :
    Code.wp Tryd.prog ((Tryd.f3.body.bind (blockOf 2)).getD .skip) Q ⟨#[u0, u1, u2, u3, u4, .pointer (some ⟨b, 0, none⟩), u6, .pointer (some ⟨pw, 0, none⟩), u8, u9, .pointer (some ⟨po, 0, none⟩), .int .i64 0, .int .i64 0, .slice none 0 0, .slice none 0 0, u15, u16, u17, u18, u19, u20, u21, u22, u23, u24, u25, u26, u27, u28, u29, u30, u31, u32, u33, u34, u35, u36, u37, u38, u39, u40, u41, u42, u43, u44, u45, u46, u47, u48, u49, u50, u51, u52, u53, u54, u55, u56, u57, u58, u59, u60, u61, u62, u63, u64, u65, u66, u67, u68, u69, u70, u71, u72, u73, u74, u75, u76, u77, u78, u79, u80, u81, u82, .int .i64 k, u84, u85, u86, u87, u88, u89, u90, u91, u92, u93, u94, u95, u96, u97, u98, u99, u100, u101, u102, u103, u104, u105, u106, u107, u108, u109, u110, u111, u112, u113, u114, u115, u116, u117, u118, u119, u120, u121, u122, u123, u124, u125, u126, u127, u128, u129, u130, u131, u132, u133, u134, u135, u136, u137, u138, u139, u140, u141, u142, u143, u144, u145, u146, u147, u148, u149, u150, u151, u152, u153, u154, u155, u156, u157, u158, u159, u160, u161, u162, u163, u164, u165, u166, u167, u168, u169, u170, u171, u172, u173, u174, u175, u176, u177, u178, u179, u180, u181, u182, u183, u184, u185, u186, u187, u188, u189, u190, u191, u192, u193, u194, u195, u196, u197, u198, u199, u200, u201, u202, u203, u204, u205, u206, u207, u208, u209, u210, u211, u212, u213, u214, u215, u216, u217, u218, u219, u220, u221, u222, u223, u224, u225, u226, u227, u228, u229, u230, u231, u232, u233, u234], []⟩ wc := by
  have _hP := hP
  dsimp only at hQ ⊢
  conv => arg 2; whnf
  have HQ := Lib.hid hQ
  clear hQ
  have hk : k = 1 ∨ k = 2 ∨ k = 3 ∨ k = 4 ∨ k = 5 ∨ k = 6 ∨ k = 7 ∨ k = 8 ∨ k = 9 ∨ k = 10 ∨ k = 11 ∨ (k ≠ 1 ∧ k ≠ 2 ∧ k ≠ 3 ∧ k ≠ 4 ∧ k ≠ 5 ∧ k ≠ 6 ∧ k ≠ 7 ∧ k ≠ 8 ∧ k ≠ 9 ∧ k ≠ 10 ∧ k ≠ 11) := by omega
  rcases hk with rfl | rfl | rfl | rfl | rfl | rfl | rfl | rfl | rfl | rfl | rfl | ⟨n1, n2, n3, n4, n5, n6, n7, n8, n9, n10, n11⟩
  · have HK := Lib.hid (ROk.of HM.out.ok HO.out)
    obtain ⟨d', x, hr⟩ : ∃ d' x, d.append o.name o.b = (d', x) := ⟨_, _, rfl⟩
    obtain ⟨r', hr', ho'⟩ := ref_append HM.out.ok HO.out hr
    have HR := Lib.hid hr
    have HR' := Lib.hid hr'
    have HW' := Lib.hid ho'
    clear hr hr' ho'
    go_upto_region 18 with fail
    refine p18 HM HR hs1 hs2 (fun _ _ _ _ _ h => _hP _ _ _ _ _ h) ?_
    intro s88 s89 s90 s91 s92 s93 w1 hw1
    have M1 := Lib.hid hw1
    clear hw1
    go_upto_region 19 with fail
    refine p19 M1 HK HR' hs1 hs2 (fun _ _ _ _ _ h => _hP _ _ _ _ _ h) ?_
    intro s94 s95 s96 s97 s98 s99 s100 s101 s102 a' c' w2 hw2
    have MW := Lib.hid hw2
    clear hw2
    go_wp2
    exact HQ.out _ _ _ _ _ _ _ _ _ _ _ _ _ _ _ _ _ _ _ _ _ _ _ _ _ _ _ _ _ _ _ _ _ _ _ _ _ _ _ _ _ _ _ _ _ _ _ _ _ _ _ _ _ _ _ _ _ _ _ _ _ _ _ _ _ _ _ _ _ _ _ _ _ _ _ _ _ _ _ _ _ _ _ _ _ _ _ _ _ _ _ _ _ _ _ _ _ _ _ _ _ _ _ _ _ _ _ _ _ _ _ _ _ _ _ _ _ _ _ _ [] x none none 0 0 _ MW.out HW'.out (.inl ⟨_, rfl, rfl⟩) (.inl ⟨_, rfl, rfl⟩)
  · have HK := Lib.hid (ROk.of HM.out.ok HO.out)
    obtain ⟨d', x, hr⟩ : ∃ d' x, d.append o.name o.b = (d', x) := ⟨_, _, rfl⟩
    obtain ⟨r', hr', ho'⟩ := ref_append HM.out.ok HO.out hr
    have HR := Lib.hid hr
    have HR' := Lib.hid hr'
    have HW' := Lib.hid ho'
    clear hr hr' ho'
    go_upto_region 18 with fail
    refine p18 HM HR hs1 hs2 (fun _ _ _ _ _ h => _hP _ _ _ _ _ h) ?_
    intro s88 s89 s90 s91 s92 s93 w1 hw1
    have M1 := Lib.hid hw1
    clear hw1
    go_upto_region 19 with fail
    refine p19 M1 HK HR' hs1 hs2 (fun _ _ _ _ _ h => _hP _ _ _ _ _ h) ?_
    intro s94 s95 s96 s97 s98 s99 s100 s101 s102 a' c' w2 hw2
    have MW := Lib.hid hw2
    clear hw2
    go_wp2
    exact HQ.out _ _ _ _ _ _ _ _ _ _ _ _ _ _ _ _ _ _ _ _ _ _ _ _ _ _ _ _ _ _ _ _ _ _ _ _ _ _ _ _ _ _ _ _ _ _ _ _ _ _ _ _ _ _ _ _ _ _ _ _ _ _ _ _ _ _ _ _ _ _ _ _ _ _ _ _ _ _ _ _ _ _ _ _ _ _ _ _ _ _ _ _ _ _ _ _ _ _ _ _ _ _ _ _ _ _ _ _ _ _ _ _ _ _ _ _ _ _ _ _ [] x none none 0 0 _ MW.out HW'.out (.inl ⟨_, rfl, rfl⟩) (.inl ⟨_, rfl, rfl⟩)
  · have HK := Lib.hid (ROk.of HM.out.ok HO.out)
    obtain ⟨d', x, hr⟩ : ∃ d' x, d.append o.name o.b = (d', x) := ⟨_, _, rfl⟩
    obtain ⟨r', hr', ho'⟩ := ref_append HM.out.ok HO.out hr
    have HR := Lib.hid hr
    have HR' := Lib.hid hr'
    have HW' := Lib.hid ho'
    clear hr hr' ho'
    go_upto_region 18 with fail
    refine p18 HM HR hs1 hs2 (fun _ _ _ _ _ h => _hP _ _ _ _ _ h) ?_
    intro s88 s89 s90 s91 s92 s93 w1 hw1
    have M1 := Lib.hid hw1
    clear hw1
    go_upto_region 19 with fail
    refine p19 M1 HK HR' hs1 hs2 (fun _ _ _ _ _ h => _hP _ _ _ _ _ h) ?_
    intro s94 s95 s96 s97 s98 s99 s100 s101 s102 a' c' w2 hw2
    have MW := Lib.hid hw2
    clear hw2
    go_wp2
    exact HQ.out _ _ _ _ _ _ _ _ _ _ _ _ _ _ _ _ _ _ _ _ _ _ _ _ _ _ _ _ _ _ _ _ _ _ _ _ _ _ _ _ _ _ _ _ _ _ _ _ _ _ _ _ _ _ _ _ _ _ _ _ _ _ _ _ _ _ _ _ _ _ _ _ _ _ _ _ _ _ _ _ _ _ _ _ _ _ _ _ _ _ _ _ _ _ _ _ _ _ _ _ _ _ _ _ _ _ _ _ _ _ _ _ _ _ _ _ _ _ _ _ [] x none none 0 0 _ MW.out HW'.out (.inl ⟨_, rfl, rfl⟩) (.inl ⟨_, rfl, rfl⟩)
  · have HK := Lib.hid (ROk.of HM.out.ok HO.out)
    obtain ⟨d', x, hr⟩ : ∃ d' x, d.sync o.name = (d', x) := ⟨_, _, rfl⟩
    obtain ⟨r', hr', ho'⟩ := ref_sync HO.out hr
    have HR := Lib.hid hr
    have HR' := Lib.hid hr'
    have HW' := Lib.hid ho'
    clear hr hr' ho'
    go_upto_region 22 with fail
    refine p22 HM HR (fun _ _ _ _ _ h => _hP _ _ _ _ _ h) ?_
    intro s106 s107 s108 s109 w1 hw1
    have M1 := Lib.hid hw1
    clear hw1
    go_upto_region 23 with fail
    refine p23 M1 HK HR' (fun _ _ _ _ _ h => _hP _ _ _ _ _ h) ?_
    intro s110 s111 s112 s113 s114 s115 s116 a' c' w2 hw2
    have MW := Lib.hid hw2
    clear hw2
    go_wp2
    exact HQ.out _ _ _ _ _ _ _ _ _ _ _ _ _ _ _ _ _ _ _ _ _ _ _ _ _ _ _ _ _ _ _ _ _ _ _ _ _ _ _ _ _ _ _ _ _ _ _ _ _ _ _ _ _ _ _ _ _ _ _ _ _ _ _ _ _ _ _ _ _ _ _ _ _ _ _ _ _ _ _ _ _ _ _ _ _ _ _ _ _ _ _ _ _ _ _ _ _ _ _ _ _ _ _ _ _ _ _ _ _ _ _ _ _ _ _ _ _ _ _ _ [] x none none 0 0 _ MW.out HW'.out (.inl ⟨_, rfl, rfl⟩) (.inl ⟨_, rfl, rfl⟩)
  · have HK := Lib.hid (ROk.of HM.out.ok HO.out)
    obtain ⟨d', x, hr⟩ : ∃ d' x, d.sync o.name = (d', x) := ⟨_, _, rfl⟩
    obtain ⟨r', hr', ho'⟩ := ref_sync HO.out hr
    have HR := Lib.hid hr
    have HR' := Lib.hid hr'
    have HW' := Lib.hid ho'
    clear hr hr' ho'
    go_upto_region 22 with fail
    refine p22 HM HR (fun _ _ _ _ _ h => _hP _ _ _ _ _ h) ?_
    intro s106 s107 s108 s109 w1 hw1
    have M1 := Lib.hid hw1
    clear hw1
    go_upto_region 23 with fail
    refine p23 M1 HK HR' (fun _ _ _ _ _ h => _hP _ _ _ _ _ h) ?_
    intro s110 s111 s112 s113 s114 s115 s116 a' c' w2 hw2
    have MW := Lib.hid hw2
    clear hw2
    go_wp2
    exact HQ.out _ _ _ _ _ _ _ _ _ _ _ _ _ _ _ _ _ _ _ _ _ _ _ _ _ _ _ _ _ _ _ _ _ _ _ _ _ _ _ _ _ _ _ _ _ _ _ _ _ _ _ _ _ _ _ _ _ _ _ _ _ _ _ _ _ _ _ _ _ _ _ _ _ _ _ _ _ _ _ _ _ _ _ _ _ _ _ _ _ _ _ _ _ _ _ _ _ _ _ _ _ _ _ _ _ _ _ _ _ _ _ _ _ _ _ _ _ _ _ _ [] x none none 0 0 _ MW.out HW'.out (.inl ⟨_, rfl, rfl⟩) (.inl ⟨_, rfl, rfl⟩)
  · go_upto_if 117 with fail
    refine c117 HM HO hs3 (fun _ _ _ _ _ h => _hP _ _ _ _ _ h) ?_
    intro s119 s120 s121 s122 s123 s124 s125 s126 s127 s128 s129 s130 s131 s132 s133 d' r' x a' c' w2 m2 o2
    have MW := Lib.hid m2
    have HW' := Lib.hid o2
    clear m2 o2
    go_wp2
    exact HQ.out _ _ _ _ _ _ _ _ _ _ _ _ _ _ _ _ _ _ _ _ _ _ _ _ _ _ _ _ _ _ _ _ _ _ _ _ _ _ _ _ _ _ _ _ _ _ _ _ _ _ _ _ _ _ _ _ _ _ _ _ _ _ _ _ _ _ _ _ _ _ _ _ _ _ _ _ _ _ _ _ _ _ _ _ _ _ _ _ _ _ _ _ _ _ _ _ _ _ _ _ _ _ _ _ _ _ _ _ _ _ _ _ _ _ _ _ _ _ _ _ [] x none none 0 0 _ MW.out HW'.out (.inl ⟨_, rfl, rfl⟩) (.inl ⟨_, rfl, rfl⟩)
  · go_upto_if 134 with fail
    refine c134 HM HO (fun _ _ _ _ _ h => _hP _ _ _ _ _ h) ?_
    intro s136 s137 s138 s139 s140 s141 s142 s143 s144 s145 s146 d' r' x a' c' w2 m2 o2
    have MW := Lib.hid m2
    have HW' := Lib.hid o2
    clear m2 o2
    go_wp2
    exact HQ.out _ _ _ _ _ _ _ _ _ _ _ _ _ _ _ _ _ _ _ _ _ _ _ _ _ _ _ _ _ _ _ _ _ _ _ _ _ _ _ _ _ _ _ _ _ _ _ _ _ _ _ _ _ _ _ _ _ _ _ _ _ _ _ _ _ _ _ _ _ _ _ _ _ _ _ _ _ _ _ _ _ _ _ _ _ _ _ _ _ _ _ _ _ _ _ _ _ _ _ _ _ _ _ _ _ _ _ _ _ _ _ _ _ _ _ _ _ _ _ _ [] x none none 0 0 _ MW.out HW'.out (.inl ⟨_, rfl, rfl⟩) (.inl ⟨_, rfl, rfl⟩)
  · go_upto_if 147 with fail
    refine c147 HM HO (fun _ _ _ _ _ h => _hP _ _ _ _ _ h) ?_
    intro s149 s150 s151 s152 s153 s154 s155 s156 s157 s158 s159 s160 s161 s162 s163 d' r' x a' c' w2 m2 o2
    have MW := Lib.hid m2
    have HW' := Lib.hid o2
    clear m2 o2
    go_wp2
    exact HQ.out _ _ _ _ _ _ _ _ _ _ _ _ _ _ _ _ _ _ _ _ _ _ _ _ _ _ _ _ _ _ _ _ _ _ _ _ _ _ _ _ _ _ _ _ _ _ _ _ _ _ _ _ _ _ _ _ _ _ _ _ _ _ _ _ _ _ _ _ _ _ _ _ _ _ _ _ _ _ _ _ _ _ _ _ _ _ _ _ _ _ _ _ _ _ _ _ _ _ _ _ _ _ _ _ _ _ _ _ _ _ _ _ _ _ _ _ _ _ _ _ [] x none none 0 0 _ MW.out HW'.out (.inl ⟨_, rfl, rfl⟩) (.inl ⟨_, rfl, rfl⟩)
  · go_upto_if 164 with fail
    refine c164 HM HO (fun _ _ _ _ _ h => _hP _ _ _ _ _ h) ?_
    intro s166 s167 s168 s169 s170 s171 s172 s173 d' r' a' c' w2 m2 o2
    have MW := Lib.hid m2
    have HW' := Lib.hid o2
    clear m2 o2
    go_wp2
    exact HQ.out _ _ _ _ _ _ _ _ _ _ _ _ _ _ _ _ _ _ _ _ _ _ _ _ _ _ _ _ _ _ _ _ _ _ _ _ _ _ _ _ _ _ _ _ _ _ _ _ _ _ _ _ _ _ _ _ _ _ _ _ _ _ _ _ _ _ _ _ _ _ _ _ _ _ _ _ _ _ _ _ _ _ _ _ _ _ _ _ _ _ _ _ _ _ _ _ _ _ _ _ _ _ _ _ _ _ _ _ _ _ _ _ _ _ _ _ _ _ _ _ [] 0 none none 0 0 _ MW.out HW'.out (.inl ⟨_, rfl, rfl⟩) (.inl ⟨_, rfl, rfl⟩)
  · go_upto_if 174 with fail
    refine c174 HM HO (fun _ _ _ _ _ h => _hP _ _ _ _ _ h) ?_
    intro s176 s177 s178 s179 s180 s181 s182 s183 d' r' a' c' w2 m2 o2
    have MW := Lib.hid m2
    have HW' := Lib.hid o2
    clear m2 o2
    go_wp2
    exact HQ.out _ _ _ _ _ _ _ _ _ _ _ _ _ _ _ _ _ _ _ _ _ _ _ _ _ _ _ _ _ _ _ _ _ _ _ _ _ _ _ _ _ _ _ _ _ _ _ _ _ _ _ _ _ _ _ _ _ _ _ _ _ _ _ _ _ _ _ _ _ _ _ _ _ _ _ _ _ _ _ _ _ _ _ _ _ _ _ _ _ _ _ _ _ _ _ _ _ _ _ _ _ _ _ _ _ _ _ _ _ _ _ _ _ _ _ _ _ _ _ _ [] 0 none none 0 0 _ MW.out HW'.out (.inl ⟨_, rfl, rfl⟩) (.inl ⟨_, rfl, rfl⟩)
  · go_upto_if 184 with fail
    refine c184 HM HO (fun _ _ _ _ _ h => _hP _ _ _ _ _ h) ?_
    intro s186 s187 s188 s189 s190 s191 s192 s193 s194 s195 s196 s197 s198 s199 l x a1 a2 z1 z2 w2 m2 b1 b2
    have MW := Lib.hid m2
    have B1 := Lib.hid b1
    have B2 := Lib.hid b2
    clear m2 b1 b2
    go_wp2
    exact HQ.out _ _ _ _ _ _ _ _ _ _ _ _ _ _ _ _ _ _ _ _ _ _ _ _ _ _ _ _ _ _ _ _ _ _ _ _ _ _ _ _ _ _ _ _ _ _ _ _ _ _ _ _ _ _ _ _ _ _ _ _ _ _ _ _ _ _ _ _ _ _ _ _ _ _ _ _ _ _ _ _ _ _ _ _ _ _ _ _ _ _ _ _ _ _ _ _ _ _ _ _ _ _ _ _ _ _ _ _ _ _ _ _ _ _ _ _ _ _ _ _ l x a1 a2 z1 z2 _ MW.out HO.out B1.out B2.out
  · have q1 : (k == 1) = false := by simpa using n1
    have q2 : (k == 2) = false := by simpa using n2
    have q3 : (k == 3) = false := by simpa using n3
    have q4 : (k == 4) = false := by simpa using n4
    have q5 : (k == 5) = false := by simpa using n5
    have q6 : (k == 6) = false := by simpa using n6
    have q7 : (k == 7) = false := by simpa using n7
    have q8 : (k == 8) = false := by simpa using n8
    have q9 : (k == 9) = false := by simpa using n9
    have q10 : (k == 10) = false := by simpa using n10
    have q11 : (k == 11) = false := by simpa using n11
    clear n1 n2 n3 n4 n5 n6 n7 n8 n9 n10 n11
    go_wp2
    exact HQ.out _ _ _ _ _ _ _ _ _ _ _ _ _ _ _ _ _ _ _ _ _ _ _ _ _ _ _ _ _ _ _ _ _ _ _ _ _ _ _ _ _ _ _ _ _ _ _ _ _ _ _ _ _ _ _ _ _ _ _ _ _ _ _ _ _ _ _ _ _ _ _ _ _ _ _ _ _ _ _ _ _ _ _ _ _ _ _ _ _ _ _ _ _ _ _ _ _ _ _ _ _ _ _ _ _ _ _ _ _ _ _ _ _ _ _ _ _ _ _ _ [] 0 none none 0 0 _ HM.out HO.out (.inl ⟨_, rfl, rfl⟩) (.inl ⟨_, rfl, rfl⟩)

end Go.Proofs.YtkhcdbafcigeoaaDoor.DiskPlays

/-
  What every law of this seat asks behind its walk: the law returned true, and nothing that was there has turned: so each argument reads as it did.
-/
namespace Go.Proofs.YtkhcdbafcigeoaaDoor
open Go Go.ChangeShapes Go.WideShapes Go.RowKit

section
variable {H : Type} {enc : TypeId × Value → H} {P : Program} {W W' : World}
theorem trodAll_nw (hl : laidOutB P = true) (hb : Nw W W') {sp : Nat → Bool} : ∀ {ts : List TypeId} {vs : List Value} {ds : List (DataW H)} {ps : List MemPlace}, (∀ t ∈ ts, P.readableRec t = true ∧ t < P.types.size) →
    DataW.TrodAll enc P W 0 (fun _ => true) true ts vs ds ps → (∀ p ∈ ps, p.block < W.heap.size) → (∀ p ∈ ps, sp p.block = true) → DataW.TrodAll enc P W' 0 sp true ts vs ds ps
  | [], [], [], _, _, h, _, _ => h
  | _ :: _, _ :: _, _ :: _, _, ht, ⟨p, q, h1, h2, e⟩, hlt, hs =>
    ⟨p, q, WideElems.Trod_stays hl (ht _ (List.mem_cons.2 (Or.inl rfl))).1 (ht _ (List.mem_cons.2 (Or.inl rfl))).2 h1
      (fun x hx => hb.below.same (hlt x (by rw [e]; exact List.mem_append_left _ hx))) (fun x hx => hs x (by rw [e]; exact List.mem_append_left _ hx)),
      trodAll_nw hl hb (fun t h => ht t (List.mem_cons.2 (Or.inr h))) h2 (fun x hx => hlt x (by rw [e]; exact List.mem_append_right _ hx)) (fun x hx => hs x (by rw [e]; exact List.mem_append_right _ hx)), e⟩

theorem post_true {f : Func} {s : ChangeSpec} {apart fresh handsOn again : Bool} {args : Array Value} {ds gs : List (DataW H)} {before : List MemPlace} {tb : TypeId}
    (hl : laidOutB P = true) (hts : (f.params.toList.all fun t => P.readableRec t && decide (t < P.types.size)) = true) (hr : f.resultTypes = #[tb]) (htb : P.underlying tb = some .bool) (hv : s.vars = [])
    (hs : ∀ ds : List (DataW H), ds.length = f.params.size → s.fn H (ds ++ []) = { results := [.lit (.bool true)], args := ds })
    (hW : DataW.Whole enc P f.params.toList s.vars apart W args.toList ds gs before) (hb : Nw W W') : s.post enc P f apart fresh handsOn again W args (.bool true) W' := by
  have hlt := hW.lt
  have hW' := hW
  obtain ⟨p, q, hA, hV, rfl, hz, hn⟩ := hW
  rw [hv] at hV
  obtain ⟨rfl, rfl⟩ := trodVars_none hV
  have hlen : ds.length = f.params.size := by rw [(trodAll_length hA).2]; simp
  have he := hs ds hlen
  have ht : ∀ t ∈ f.params.toList, P.readableRec t = true ∧ t < P.types.size := fun t ht => by
    have := List.all_eq_true.1 hts t ht
    simpa using this
  have hargs : ∀ sp : Nat → Bool, (∀ x ∈ p ++ [], sp x.block = true) → DataW.TrodAll enc P W' 0 sp true f.params.toList args.toList (s.fn H (ds ++ [])).args (p ++ []) := fun sp hsp => by
    rw [he]
    simp only [List.append_nil] at hsp hlt ⊢
    exact trodAll_nw hl hb ht hA hlt hsp
  have hres : ∀ (b : Nat) (sp : Nat → Bool) (hd : Bool), DataW.TrodAll enc P W' b sp hd f.resultTypes.toList ((Value.bool true).resultList f.resultTypes.size) (s.fn H (ds ++ [])).results [] := fun b sp hd => by
    rw [he, hr]
    exact trodAll_mk1 (shut_bool htb true)
  have hvars : ∀ sp : Nat → Bool, DataW.TrodVars enc P W' sp s.vars (s.fn H (ds ++ [])).vars [] := fun sp => by
    rw [he, hv]; rfl
  refine ⟨ds, [], p ++ [], [], p ++ [], [], hW', hres _ _ _, hargs _ (fun x hx => by simpa using hlt x hx), hvars _, hb.below.frame _, fun _ => ⟨ok_one hr rfl (okWide_bool_mk htb true), _, _, ([] ++ (p ++ [])) ++ [], ⟨[] ++ (p ++ []), [], trodAll_append (hargs _ (fun _ _ => rfl)) (hres _ _ _), hvars _, rfl, ?_, ?_⟩, ?_⟩⟩
  · intro b off hp
    simp only [List.append_nil, List.nil_append] at hp hz hlt
    have hbk : b < W.heap.size := hlt _ hp
    rw [hb.below.frozen (p := ⟨b, off, _⟩) hbk]
    exact hz b off hp
  · intro ha
    simpa using hn ha
  · intro x hx _
    simpa using hx
end
end Go.Proofs.YtkhcdbafcigeoaaDoor
