/-
  Texts merged by a program of this claim's: PlaysP.
-/
import Derived.Test.YtkhcdbafcigeoaaDoorM21
import Derived.Test.YtkhcdbafcigeoaaDoorM15
/-
  amanuensislaw02.DiskPlays, in pieces: each call, and the test behind it. (Printed by gen_pl.py.)
-/
namespace Go.Proofs.YtkhcdbafcigeoaaDoor.DiskPlays
open Go Go.RowKit Go.Sort
set_option maxRecDepth 100000
set_option maxHeartbeats 3200000

theorem p18 {W wc : World} {b pw po : Nat} {d r d2 : Dsk} {o : OpR} {vb vk : Value} {a : Option Addr} {c : Nat} {x : Int} (HM : Hid (PM W wc b pw po d r o vb vk a c)) (HR : Hid (d.append o.name o.b = (d2, x))) (hs1 : o.b.length ≤ 200) (hs2 : o.name.length ≤ 100)  {u0 u1 u2 u3 u4 u6 u8 u9 u11 u12 u13 u14 u15 u16 u17 u18 u19 u20 u21 u22 u23 u24 u25 u26 u27 u28 u29 u30 u31 u32 u33 u34 u35 u36 u37 u38 u39 u40 u41 u42 u43 u44 u45 u46 u47 u48 u49 u50 u51 u52 u53 u54 u55 u56 u57 u58 u59 u60 u61 u62 u63 u64 u65 u66 u67 u68 u69 u70 u71 u72 u73 u74 u75 u76 u77 u78 u79 u80 u81 u82 u83 u84 u85 u86 u87 u88 u89 u90 u91 u92 u93 u94 u95 u96 u97 u98 u99 u100 u101 u102 u103 u104 u105 u106 u107 u108 u109 u110 u111 u112 u113 u114 u115 u116 u117 u118 u119 u120 u121 u122 u123 u124 u125 u126 u127 u128 u129 u130 u131 u132 u133 u134 u135 u136 u137 u138 u139 u140 u141 u142 u143 u144 u145 u146 u147 u148 u149 u150 u151 u152 u153 u154 u155 u156 u157 u158 u159 u160 u161 u162 u163 u164 u165 u166 u167 u168 u169 u170 u171 u172 u173 u174 u175 u176 u177 u178 u179 u180 u181 u182 u183 u184 u185 u186 u187 u188 u189 u190 u191 u192 u193 u194 u195 u196 u197 u198 u199 u200 u201 u202 u203 u204 u205 u206 u207 u208 u209 u210 u211 u212 u213 u214 u215 u216 u217 u218 u219 u220 u221 u222 u223 u224 u225 u226 u227 u228 u229 u230 u231 u232 u233 u234 : Value} {Q : Exit → Act → World → Prop} (hP : PanicOk Q)
    (hQ : ∀ (s88 s89 s90 s91 s92 s93 : Value)  (wx : World), PM W wx b pw po d2 r o vb vk a c → Q .normal ⟨#[u0, u1, u2, u3, u4, .pointer (some ⟨b, 0, none⟩), u6, .pointer (some ⟨pw, 0, none⟩), u8, u9, .pointer (some ⟨po, 0, none⟩), .int .i64 x, u12, u13, u14, u15, u16, u17, u18, u19, u20, u21, u22, u23, u24, u25, u26, u27, u28, u29, u30, u31, u32, u33, u34, u35, u36, u37, u38, u39, u40, u41, u42, u43, u44, u45, u46, u47, u48, u49, u50, u51, u52, u53, u54, u55, u56, u57, u58, u59, u60, u61, u62, u63, u64, u65, u66, u67, u68, u69, u70, u71, u72, u73, u74, u75, u76, u77, u78, u79, u80, u81, u82, u83, u84, u85, u86, u87, s88, s89, s90, s91, s92, s93, u94, u95, u96, u97, u98, u99, u100, u101, u102, u103, u104, u105, u106, u107, u108, u109, u110, u111, u112, u113, u114, u115, u116, u117, u118, u119, u120, u121, u122, u123, u124, u125, u126, u127, u128, u129, u130, u131, u132, u133, u134, u135, u136, u137, u138, u139, u140, u141, u142, u143, u144, u145, u146, u147, u148, u149, u150, u151, u152, u153, u154, u155, u156, u157, u158, u159, u160, u161, u162, u163, u164, u165, u166, u167, u168, u169, u170, u171, u172, u173, u174, u175, u176, u177, u178, u179, u180, u181, u182, u183, u184, u185, u186, u187, u188, u189, u190, u191, u192, u193, u194, u195, u196, u197, u198, u199, u200, u201, u202, u203, u204, u205, u206, u207, u208, u209, u210, u211, u212, u213, u214, u215, u216, u217, u218, u219, u220, u221, u222, u223, u224, u225, u226, u227, u228, u229, u230, u231, u232, u233, u234], []⟩ wx) :
    Code.wp Tryd.prog ((Tryd.f3.body.bind (regionOf 18)).getD .skip) Q ⟨#[u0, u1, u2, u3, u4, .pointer (some ⟨b, 0, none⟩), u6, .pointer (some ⟨pw, 0, none⟩), u8, u9, .pointer (some ⟨po, 0, none⟩), u11, u12, u13, u14, u15, u16, u17, u18, u19, u20, u21, u22, u23, u24, u25, u26, u27, u28, u29, u30, u31, u32, u33, u34, u35, u36, u37, u38, u39, u40, u41, u42, u43, u44, u45, u46, u47, u48, u49, u50, u51, u52, u53, u54, u55, u56, u57, u58, u59, u60, u61, u62, u63, u64, u65, u66, u67, u68, u69, u70, u71, u72, u73, u74, u75, u76, u77, u78, u79, u80, u81, u82, u83, u84, u85, u86, u87, u88, u89, u90, u91, u92, u93, u94, u95, u96, u97, u98, u99, u100, u101, u102, u103, u104, u105, u106, u107, u108, u109, u110, u111, u112, u113, u114, u115, u116, u117, u118, u119, u120, u121, u122, u123, u124, u125, u126, u127, u128, u129, u130, u131, u132, u133, u134, u135, u136, u137, u138, u139, u140, u141, u142, u143, u144, u145, u146, u147, u148, u149, u150, u151, u152, u153, u154, u155, u156, u157, u158, u159, u160, u161, u162, u163, u164, u165, u166, u167, u168, u169, u170, u171, u172, u173, u174, u175, u176, u177, u178, u179, u180, u181, u182, u183, u184, u185, u186, u187, u188, u189, u190, u191, u192, u193, u194, u195, u196, u197, u198, u199, u200, u201, u202, u203, u204, u205, u206, u207, u208, u209, u210, u211, u212, u213, u214, u215, u216, u217, u218, u219, u220, u221, u222, u223, u224, u225, u226, u227, u228, u229, u230, u231, u232, u233, u234], []⟩ wc := by
  have _hP := hP
  dsimp only at hQ ⊢
  conv => arg 2; whnf
  have HQ := Lib.hid hQ
  clear hQ
  obtain ⟨c0, c1, c2, c3, c4, c5⟩ := HM.out.base.cells
  go_wp2_with fail
  refine (HM.out.append hs1 hs2 HR.out).mono ?_
  rintro e w1 ⟨rfl, m1⟩
  have M1 := Lib.hid m1
  clear m1 c0 c1 c2 c3 c4 c5
  go_wp2
  exact HQ.out _ _ _ _ _ _  _ M1.out

theorem p19 {W wc : World} {b pw po : Nat} {d r r2 : Dsk} {o : OpR} {vb vk : Value} {a : Option Addr} {c : Nat} {x : Int} (HM : Hid (PM W wc b pw po d r o vb vk a c)) (HK : Hid (ROk r)) (HR : Hid (r.rAppend o.name o.b = (r2, x))) (hs1 : o.b.length ≤ 200) (hs2 : o.name.length ≤ 100)  {u0 u1 u2 u3 u4 u6 u8 u9 u11 u12 u13 u14 u15 u16 u17 u18 u19 u20 u21 u22 u23 u24 u25 u26 u27 u28 u29 u30 u31 u32 u33 u34 u35 u36 u37 u38 u39 u40 u41 u42 u43 u44 u45 u46 u47 u48 u49 u50 u51 u52 u53 u54 u55 u56 u57 u58 u59 u60 u61 u62 u63 u64 u65 u66 u67 u68 u69 u70 u71 u72 u73 u74 u75 u76 u77 u78 u79 u80 u81 u82 u83 u84 u85 u86 u87 u88 u89 u90 u91 u92 u93 u94 u95 u96 u97 u98 u99 u100 u101 u102 u103 u104 u105 u106 u107 u108 u109 u110 u111 u112 u113 u114 u115 u116 u117 u118 u119 u120 u121 u122 u123 u124 u125 u126 u127 u128 u129 u130 u131 u132 u133 u134 u135 u136 u137 u138 u139 u140 u141 u142 u143 u144 u145 u146 u147 u148 u149 u150 u151 u152 u153 u154 u155 u156 u157 u158 u159 u160 u161 u162 u163 u164 u165 u166 u167 u168 u169 u170 u171 u172 u173 u174 u175 u176 u177 u178 u179 u180 u181 u182 u183 u184 u185 u186 u187 u188 u189 u190 u191 u192 u193 u194 u195 u196 u197 u198 u199 u200 u201 u202 u203 u204 u205 u206 u207 u208 u209 u210 u211 u212 u213 u214 u215 u216 u217 u218 u219 u220 u221 u222 u223 u224 u225 u226 u227 u228 u229 u230 u231 u232 u233 u234 : Value} {Q : Exit → Act → World → Prop} (hP : PanicOk Q)
    (hQ : ∀ (s94 s95 s96 s97 s98 s99 s100 s101 s102 : Value) (a' : Option Addr) (c' : Nat) (wx : World), PM W wx b pw po d r2 o vb vk a' c' → Q .normal ⟨#[u0, u1, u2, u3, u4, .pointer (some ⟨b, 0, none⟩), u6, .pointer (some ⟨pw, 0, none⟩), u8, u9, .pointer (some ⟨po, 0, none⟩), u11, .int .i64 x, u13, u14, u15, u16, u17, u18, u19, u20, u21, u22, u23, u24, u25, u26, u27, u28, u29, u30, u31, u32, u33, u34, u35, u36, u37, u38, u39, u40, u41, u42, u43, u44, u45, u46, u47, u48, u49, u50, u51, u52, u53, u54, u55, u56, u57, u58, u59, u60, u61, u62, u63, u64, u65, u66, u67, u68, u69, u70, u71, u72, u73, u74, u75, u76, u77, u78, u79, u80, u81, u82, u83, u84, u85, u86, u87, u88, u89, u90, u91, u92, u93, s94, s95, s96, s97, s98, s99, s100, s101, s102, u103, u104, u105, u106, u107, u108, u109, u110, u111, u112, u113, u114, u115, u116, u117, u118, u119, u120, u121, u122, u123, u124, u125, u126, u127, u128, u129, u130, u131, u132, u133, u134, u135, u136, u137, u138, u139, u140, u141, u142, u143, u144, u145, u146, u147, u148, u149, u150, u151, u152, u153, u154, u155, u156, u157, u158, u159, u160, u161, u162, u163, u164, u165, u166, u167, u168, u169, u170, u171, u172, u173, u174, u175, u176, u177, u178, u179, u180, u181, u182, u183, u184, u185, u186, u187, u188, u189, u190, u191, u192, u193, u194, u195, u196, u197, u198, u199, u200, u201, u202, u203, u204, u205, u206, u207, u208, u209, u210, u211, u212, u213, u214, u215, u216, u217, u218, u219, u220, u221, u222, u223, u224, u225, u226, u227, u228, u229, u230, u231, u232, u233, u234], []⟩ wx) :
    Code.wp Tryd.prog ((Tryd.f3.body.bind (regionOf 19)).getD .skip) Q ⟨#[u0, u1, u2, u3, u4, .pointer (some ⟨b, 0, none⟩), u6, .pointer (some ⟨pw, 0, none⟩), u8, u9, .pointer (some ⟨po, 0, none⟩), u11, u12, u13, u14, u15, u16, u17, u18, u19, u20, u21, u22, u23, u24, u25, u26, u27, u28, u29, u30, u31, u32, u33, u34, u35, u36, u37, u38, u39, u40, u41, u42, u43, u44, u45, u46, u47, u48, u49, u50, u51, u52, u53, u54, u55, u56, u57, u58, u59, u60, u61, u62, u63, u64, u65, u66, u67, u68, u69, u70, u71, u72, u73, u74, u75, u76, u77, u78, u79, u80, u81, u82, u83, u84, u85, u86, u87, u88, u89, u90, u91, u92, u93, u94, u95, u96, u97, u98, u99, u100, u101, u102, u103, u104, u105, u106, u107, u108, u109, u110, u111, u112, u113, u114, u115, u116, u117, u118, u119, u120, u121, u122, u123, u124, u125, u126, u127, u128, u129, u130, u131, u132, u133, u134, u135, u136, u137, u138, u139, u140, u141, u142, u143, u144, u145, u146, u147, u148, u149, u150, u151, u152, u153, u154, u155, u156, u157, u158, u159, u160, u161, u162, u163, u164, u165, u166, u167, u168, u169, u170, u171, u172, u173, u174, u175, u176, u177, u178, u179, u180, u181, u182, u183, u184, u185, u186, u187, u188, u189, u190, u191, u192, u193, u194, u195, u196, u197, u198, u199, u200, u201, u202, u203, u204, u205, u206, u207, u208, u209, u210, u211, u212, u213, u214, u215, u216, u217, u218, u219, u220, u221, u222, u223, u224, u225, u226, u227, u228, u229, u230, u231, u232, u233, u234], []⟩ wc := by
  have _hP := hP
  dsimp only at hQ ⊢
  conv => arg 2; whnf
  have HQ := Lib.hid hQ
  clear hQ
  obtain ⟨c0, c1, c2, c3, c4, c5⟩ := HM.out.base.cells
  obtain ⟨b0, b1, b2, b3⟩ := HM.out.disk
  go_wp2_with fail
  refine (HM.out.rAppend HK.out hs1 hs2 HR.out).mono ?_
  rintro e w2 ⟨a', c', rfl, m2⟩
  have M2 := Lib.hid m2
  clear m2 c0 c1 c2 c3 c4 c5 b0 b1 b2 b3
  obtain ⟨x0, x1, x2, x3, y0, y1, y2, y3, z0, z1, z2, z3⟩ := M2.out.free
  go_wp2
  exact HQ.out _ _ _ _ _ _ _ _ _  a' c' _ M2.out.store

theorem p22 {W wc : World} {b pw po : Nat} {d r d2 : Dsk} {o : OpR} {vb vk : Value} {a : Option Addr} {c : Nat} {x : Int} (HM : Hid (PM W wc b pw po d r o vb vk a c)) (HR : Hid (d.sync o.name = (d2, x)))  {u0 u1 u2 u3 u4 u6 u8 u9 u11 u12 u13 u14 u15 u16 u17 u18 u19 u20 u21 u22 u23 u24 u25 u26 u27 u28 u29 u30 u31 u32 u33 u34 u35 u36 u37 u38 u39 u40 u41 u42 u43 u44 u45 u46 u47 u48 u49 u50 u51 u52 u53 u54 u55 u56 u57 u58 u59 u60 u61 u62 u63 u64 u65 u66 u67 u68 u69 u70 u71 u72 u73 u74 u75 u76 u77 u78 u79 u80 u81 u82 u83 u84 u85 u86 u87 u88 u89 u90 u91 u92 u93 u94 u95 u96 u97 u98 u99 u100 u101 u102 u103 u104 u105 u106 u107 u108 u109 u110 u111 u112 u113 u114 u115 u116 u117 u118 u119 u120 u121 u122 u123 u124 u125 u126 u127 u128 u129 u130 u131 u132 u133 u134 u135 u136 u137 u138 u139 u140 u141 u142 u143 u144 u145 u146 u147 u148 u149 u150 u151 u152 u153 u154 u155 u156 u157 u158 u159 u160 u161 u162 u163 u164 u165 u166 u167 u168 u169 u170 u171 u172 u173 u174 u175 u176 u177 u178 u179 u180 u181 u182 u183 u184 u185 u186 u187 u188 u189 u190 u191 u192 u193 u194 u195 u196 u197 u198 u199 u200 u201 u202 u203 u204 u205 u206 u207 u208 u209 u210 u211 u212 u213 u214 u215 u216 u217 u218 u219 u220 u221 u222 u223 u224 u225 u226 u227 u228 u229 u230 u231 u232 u233 u234 : Value} {Q : Exit → Act → World → Prop} (hP : PanicOk Q)
    (hQ : ∀ (s106 s107 s108 s109 : Value)  (wx : World), PM W wx b pw po d2 r o vb vk a c → Q .normal ⟨#[u0, u1, u2, u3, u4, .pointer (some ⟨b, 0, none⟩), u6, .pointer (some ⟨pw, 0, none⟩), u8, u9, .pointer (some ⟨po, 0, none⟩), .int .i64 x, u12, u13, u14, u15, u16, u17, u18, u19, u20, u21, u22, u23, u24, u25, u26, u27, u28, u29, u30, u31, u32, u33, u34, u35, u36, u37, u38, u39, u40, u41, u42, u43, u44, u45, u46, u47, u48, u49, u50, u51, u52, u53, u54, u55, u56, u57, u58, u59, u60, u61, u62, u63, u64, u65, u66, u67, u68, u69, u70, u71, u72, u73, u74, u75, u76, u77, u78, u79, u80, u81, u82, u83, u84, u85, u86, u87, u88, u89, u90, u91, u92, u93, u94, u95, u96, u97, u98, u99, u100, u101, u102, u103, u104, u105, s106, s107, s108, s109, u110, u111, u112, u113, u114, u115, u116, u117, u118, u119, u120, u121, u122, u123, u124, u125, u126, u127, u128, u129, u130, u131, u132, u133, u134, u135, u136, u137, u138, u139, u140, u141, u142, u143, u144, u145, u146, u147, u148, u149, u150, u151, u152, u153, u154, u155, u156, u157, u158, u159, u160, u161, u162, u163, u164, u165, u166, u167, u168, u169, u170, u171, u172, u173, u174, u175, u176, u177, u178, u179, u180, u181, u182, u183, u184, u185, u186, u187, u188, u189, u190, u191, u192, u193, u194, u195, u196, u197, u198, u199, u200, u201, u202, u203, u204, u205, u206, u207, u208, u209, u210, u211, u212, u213, u214, u215, u216, u217, u218, u219, u220, u221, u222, u223, u224, u225, u226, u227, u228, u229, u230, u231, u232, u233, u234], []⟩ wx) :
    Code.wp Tryd.prog ((Tryd.f3.body.bind (regionOf 22)).getD .skip) Q ⟨#[u0, u1, u2, u3, u4, .pointer (some ⟨b, 0, none⟩), u6, .pointer (some ⟨pw, 0, none⟩), u8, u9, .pointer (some ⟨po, 0, none⟩), u11, u12, u13, u14, u15, u16, u17, u18, u19, u20, u21, u22, u23, u24, u25, u26, u27, u28, u29, u30, u31, u32, u33, u34, u35, u36, u37, u38, u39, u40, u41, u42, u43, u44, u45, u46, u47, u48, u49, u50, u51, u52, u53, u54, u55, u56, u57, u58, u59, u60, u61, u62, u63, u64, u65, u66, u67, u68, u69, u70, u71, u72, u73, u74, u75, u76, u77, u78, u79, u80, u81, u82, u83, u84, u85, u86, u87, u88, u89, u90, u91, u92, u93, u94, u95, u96, u97, u98, u99, u100, u101, u102, u103, u104, u105, u106, u107, u108, u109, u110, u111, u112, u113, u114, u115, u116, u117, u118, u119, u120, u121, u122, u123, u124, u125, u126, u127, u128, u129, u130, u131, u132, u133, u134, u135, u136, u137, u138, u139, u140, u141, u142, u143, u144, u145, u146, u147, u148, u149, u150, u151, u152, u153, u154, u155, u156, u157, u158, u159, u160, u161, u162, u163, u164, u165, u166, u167, u168, u169, u170, u171, u172, u173, u174, u175, u176, u177, u178, u179, u180, u181, u182, u183, u184, u185, u186, u187, u188, u189, u190, u191, u192, u193, u194, u195, u196, u197, u198, u199, u200, u201, u202, u203, u204, u205, u206, u207, u208, u209, u210, u211, u212, u213, u214, u215, u216, u217, u218, u219, u220, u221, u222, u223, u224, u225, u226, u227, u228, u229, u230, u231, u232, u233, u234], []⟩ wc := by
  have _hP := hP
  dsimp only at hQ ⊢
  conv => arg 2; whnf
  have HQ := Lib.hid hQ
  clear hQ
  obtain ⟨c0, c1, c2, c3, c4, c5⟩ := HM.out.base.cells
  go_wp2_with fail
  refine (HM.out.sync HR.out).mono ?_
  rintro e w1 ⟨rfl, m1⟩
  have M1 := Lib.hid m1
  clear m1 c0 c1 c2 c3 c4 c5
  go_wp2
  exact HQ.out _ _ _ _  _ M1.out

theorem p23 {W wc : World} {b pw po : Nat} {d r r2 : Dsk} {o : OpR} {vb vk : Value} {a : Option Addr} {c : Nat} {x : Int} (HM : Hid (PM W wc b pw po d r o vb vk a c)) (HK : Hid (ROk r)) (HR : Hid (r.rSync o.name = (r2, x)))  {u0 u1 u2 u3 u4 u6 u8 u9 u11 u12 u13 u14 u15 u16 u17 u18 u19 u20 u21 u22 u23 u24 u25 u26 u27 u28 u29 u30 u31 u32 u33 u34 u35 u36 u37 u38 u39 u40 u41 u42 u43 u44 u45 u46 u47 u48 u49 u50 u51 u52 u53 u54 u55 u56 u57 u58 u59 u60 u61 u62 u63 u64 u65 u66 u67 u68 u69 u70 u71 u72 u73 u74 u75 u76 u77 u78 u79 u80 u81 u82 u83 u84 u85 u86 u87 u88 u89 u90 u91 u92 u93 u94 u95 u96 u97 u98 u99 u100 u101 u102 u103 u104 u105 u106 u107 u108 u109 u110 u111 u112 u113 u114 u115 u116 u117 u118 u119 u120 u121 u122 u123 u124 u125 u126 u127 u128 u129 u130 u131 u132 u133 u134 u135 u136 u137 u138 u139 u140 u141 u142 u143 u144 u145 u146 u147 u148 u149 u150 u151 u152 u153 u154 u155 u156 u157 u158 u159 u160 u161 u162 u163 u164 u165 u166 u167 u168 u169 u170 u171 u172 u173 u174 u175 u176 u177 u178 u179 u180 u181 u182 u183 u184 u185 u186 u187 u188 u189 u190 u191 u192 u193 u194 u195 u196 u197 u198 u199 u200 u201 u202 u203 u204 u205 u206 u207 u208 u209 u210 u211 u212 u213 u214 u215 u216 u217 u218 u219 u220 u221 u222 u223 u224 u225 u226 u227 u228 u229 u230 u231 u232 u233 u234 : Value} {Q : Exit → Act → World → Prop} (hP : PanicOk Q)
    (hQ : ∀ (s110 s111 s112 s113 s114 s115 s116 : Value) (a' : Option Addr) (c' : Nat) (wx : World), PM W wx b pw po d r2 o vb vk a' c' → Q .normal ⟨#[u0, u1, u2, u3, u4, .pointer (some ⟨b, 0, none⟩), u6, .pointer (some ⟨pw, 0, none⟩), u8, u9, .pointer (some ⟨po, 0, none⟩), u11, .int .i64 x, u13, u14, u15, u16, u17, u18, u19, u20, u21, u22, u23, u24, u25, u26, u27, u28, u29, u30, u31, u32, u33, u34, u35, u36, u37, u38, u39, u40, u41, u42, u43, u44, u45, u46, u47, u48, u49, u50, u51, u52, u53, u54, u55, u56, u57, u58, u59, u60, u61, u62, u63, u64, u65, u66, u67, u68, u69, u70, u71, u72, u73, u74, u75, u76, u77, u78, u79, u80, u81, u82, u83, u84, u85, u86, u87, u88, u89, u90, u91, u92, u93, u94, u95, u96, u97, u98, u99, u100, u101, u102, u103, u104, u105, u106, u107, u108, u109, s110, s111, s112, s113, s114, s115, s116, u117, u118, u119, u120, u121, u122, u123, u124, u125, u126, u127, u128, u129, u130, u131, u132, u133, u134, u135, u136, u137, u138, u139, u140, u141, u142, u143, u144, u145, u146, u147, u148, u149, u150, u151, u152, u153, u154, u155, u156, u157, u158, u159, u160, u161, u162, u163, u164, u165, u166, u167, u168, u169, u170, u171, u172, u173, u174, u175, u176, u177, u178, u179, u180, u181, u182, u183, u184, u185, u186, u187, u188, u189, u190, u191, u192, u193, u194, u195, u196, u197, u198, u199, u200, u201, u202, u203, u204, u205, u206, u207, u208, u209, u210, u211, u212, u213, u214, u215, u216, u217, u218, u219, u220, u221, u222, u223, u224, u225, u226, u227, u228, u229, u230, u231, u232, u233, u234], []⟩ wx) :
    Code.wp Tryd.prog ((Tryd.f3.body.bind (regionOf 23)).getD .skip) Q ⟨#[u0, u1, u2, u3, u4, .pointer (some ⟨b, 0, none⟩), u6, .pointer (some ⟨pw, 0, none⟩), u8, u9, .pointer (some ⟨po, 0, none⟩), u11, u12, u13, u14, u15, u16, u17, u18, u19, u20, u21, u22, u23, u24, u25, u26, u27, u28, u29, u30, u31, u32, u33, u34, u35, u36, u37, u38, u39, u40, u41, u42, u43, u44, u45, u46, u47, u48, u49, u50, u51, u52, u53, u54, u55, u56, u57, u58, u59, u60, u61, u62, u63, u64, u65, u66, u67, u68, u69, u70, u71, u72, u73, u74, u75, u76, u77, u78, u79, u80, u81, u82, u83, u84, u85, u86, u87, u88, u89, u90, u91, u92, u93, u94, u95, u96, u97, u98, u99, u100, u101, u102, u103, u104, u105, u106, u107, u108, u109, u110, u111, u112, u113, u114, u115, u116, u117, u118, u119, u120, u121, u122, u123, u124, u125, u126, u127, u128, u129, u130, u131, u132, u133, u134, u135, u136, u137, u138, u139, u140, u141, u142, u143, u144, u145, u146, u147, u148, u149, u150, u151, u152, u153, u154, u155, u156, u157, u158, u159, u160, u161, u162, u163, u164, u165, u166, u167, u168, u169, u170, u171, u172, u173, u174, u175, u176, u177, u178, u179, u180, u181, u182, u183, u184, u185, u186, u187, u188, u189, u190, u191, u192, u193, u194, u195, u196, u197, u198, u199, u200, u201, u202, u203, u204, u205, u206, u207, u208, u209, u210, u211, u212, u213, u214, u215, u216, u217, u218, u219, u220, u221, u222, u223, u224, u225, u226, u227, u228, u229, u230, u231, u232, u233, u234], []⟩ wc := by
  have _hP := hP
  dsimp only at hQ ⊢
  conv => arg 2; whnf
  have HQ := Lib.hid hQ
  clear hQ
  obtain ⟨c0, c1, c2, c3, c4, c5⟩ := HM.out.base.cells
  obtain ⟨b0, b1, b2, b3⟩ := HM.out.disk
  go_wp2_with fail
  refine (HM.out.rSync HK.out HR.out).mono ?_
  rintro e w2 ⟨a', c', rfl, m2⟩
  have M2 := Lib.hid m2
  clear m2 c0 c1 c2 c3 c4 c5 b0 b1 b2 b3
  obtain ⟨x0, x1, x2, x3, y0, y1, y2, y3, z0, z1, z2, z3⟩ := M2.out.free
  go_wp2
  exact HQ.out _ _ _ _ _ _ _  a' c' _ M2.out.store

theorem c117 {W wc : World} {b pw po : Nat} {d r : Dsk} {o : OpR} {vb vk : Value} {a : Option Addr} {c : Nat} (HM : Hid (PM W wc b pw po d r o vb vk a c)) (HO : Hid (RefOf d r)) (hs2 : o.tgt.length ≤ 100)  {u0 u1 u2 u3 u4 u6 u8 u9 u11 u12 u13 u14 u15 u16 u17 u18 u19 u20 u21 u22 u23 u24 u25 u26 u27 u28 u29 u30 u31 u32 u33 u34 u35 u36 u37 u38 u39 u40 u41 u42 u43 u44 u45 u46 u47 u48 u49 u50 u51 u52 u53 u54 u55 u56 u57 u58 u59 u60 u61 u62 u63 u64 u65 u66 u67 u68 u69 u70 u71 u72 u73 u74 u75 u76 u77 u78 u79 u80 u81 u82 u83 u84 u85 u86 u87 u88 u89 u90 u91 u92 u93 u94 u95 u96 u97 u98 u99 u100 u101 u102 u103 u104 u105 u106 u107 u108 u109 u110 u111 u112 u113 u114 u115 u116 u118 u119 u120 u121 u122 u123 u124 u125 u126 u127 u128 u129 u130 u131 u132 u133 u134 u135 u136 u137 u138 u139 u140 u141 u142 u143 u144 u145 u146 u147 u148 u149 u150 u151 u152 u153 u154 u155 u156 u157 u158 u159 u160 u161 u162 u163 u164 u165 u166 u167 u168 u169 u170 u171 u172 u173 u174 u175 u176 u177 u178 u179 u180 u181 u182 u183 u184 u185 u186 u187 u188 u189 u190 u191 u192 u193 u194 u195 u196 u197 u198 u199 u200 u201 u202 u203 u204 u205 u206 u207 u208 u209 u210 u211 u212 u213 u214 u215 u216 u217 u218 u219 u220 u221 u222 u223 u224 u225 u226 u227 u228 u229 u230 u231 u232 u233 u234 : Value} {Q : Exit → Act → World → Prop} (hP : PanicOk Q)
    (hQ : ∀ (s119 s120 s121 s122 s123 s124 s125 s126 s127 s128 s129 s130 s131 s132 s133 : Value) (d' r' : Dsk) (x : Int) (a' : Option Addr) (c' : Nat)  (wx : World), PM W wx b pw po d' r' o vb vk a' c' → RefOf d' r' → Q .normal ⟨#[u0, u1, u2, u3, u4, .pointer (some ⟨b, 0, none⟩), u6, .pointer (some ⟨pw, 0, none⟩), u8, u9, .pointer (some ⟨po, 0, none⟩), .int .i64 x, .int .i64 x, u13, u14, u15, u16, u17, u18, u19, u20, u21, u22, u23, u24, u25, u26, u27, u28, u29, u30, u31, u32, u33, u34, u35, u36, u37, u38, u39, u40, u41, u42, u43, u44, u45, u46, u47, u48, u49, u50, u51, u52, u53, u54, u55, u56, u57, u58, u59, u60, u61, u62, u63, u64, u65, u66, u67, u68, u69, u70, u71, u72, u73, u74, u75, u76, u77, u78, u79, u80, u81, u82, u83, u84, u85, u86, u87, u88, u89, u90, u91, u92, u93, u94, u95, u96, u97, u98, u99, u100, u101, u102, u103, u104, u105, u106, u107, u108, u109, u110, u111, u112, u113, u114, u115, u116, .bool true, u118, s119, s120, s121, s122, s123, s124, s125, s126, s127, s128, s129, s130, s131, s132, s133, u134, u135, u136, u137, u138, u139, u140, u141, u142, u143, u144, u145, u146, u147, u148, u149, u150, u151, u152, u153, u154, u155, u156, u157, u158, u159, u160, u161, u162, u163, u164, u165, u166, u167, u168, u169, u170, u171, u172, u173, u174, u175, u176, u177, u178, u179, u180, u181, u182, u183, u184, u185, u186, u187, u188, u189, u190, u191, u192, u193, u194, u195, u196, u197, u198, u199, u200, u201, u202, u203, u204, u205, u206, u207, u208, u209, u210, u211, u212, u213, u214, u215, u216, u217, u218, u219, u220, u221, u222, u223, u224, u225, u226, u227, u228, u229, u230, u231, u232, u233, u234], []⟩ wx) :
    Code.wp Tryd.prog ((Tryd.f3.body.bind (condLast 117)).getD .skip) Q ⟨#[u0, u1, u2, u3, u4, .pointer (some ⟨b, 0, none⟩), u6, .pointer (some ⟨pw, 0, none⟩), u8, u9, .pointer (some ⟨po, 0, none⟩), u11, u12, u13, u14, u15, u16, u17, u18, u19, u20, u21, u22, u23, u24, u25, u26, u27, u28, u29, u30, u31, u32, u33, u34, u35, u36, u37, u38, u39, u40, u41, u42, u43, u44, u45, u46, u47, u48, u49, u50, u51, u52, u53, u54, u55, u56, u57, u58, u59, u60, u61, u62, u63, u64, u65, u66, u67, u68, u69, u70, u71, u72, u73, u74, u75, u76, u77, u78, u79, u80, u81, u82, u83, u84, u85, u86, u87, u88, u89, u90, u91, u92, u93, u94, u95, u96, u97, u98, u99, u100, u101, u102, u103, u104, u105, u106, u107, u108, u109, u110, u111, u112, u113, u114, u115, u116, .bool true, u118, u119, u120, u121, u122, u123, u124, u125, u126, u127, u128, u129, u130, u131, u132, u133, u134, u135, u136, u137, u138, u139, u140, u141, u142, u143, u144, u145, u146, u147, u148, u149, u150, u151, u152, u153, u154, u155, u156, u157, u158, u159, u160, u161, u162, u163, u164, u165, u166, u167, u168, u169, u170, u171, u172, u173, u174, u175, u176, u177, u178, u179, u180, u181, u182, u183, u184, u185, u186, u187, u188, u189, u190, u191, u192, u193, u194, u195, u196, u197, u198, u199, u200, u201, u202, u203, u204, u205, u206, u207, u208, u209, u210, u211, u212, u213, u214, u215, u216, u217, u218, u219, u220, u221, u222, u223, u224, u225, u226, u227, u228, u229, u230, u231, u232, u233, u234], []⟩ wc := by
  have _hP := hP
  dsimp only at hQ ⊢
  conv => arg 2; whnf
  have HQ := Lib.hid hQ
  clear hQ
  have HK := Lib.hid (ROk.of HM.out.ok HO.out)
  have HSY := Lib.hid (HO.out.sy HM.out.ok)
  obtain ⟨d', x, hr⟩ : ∃ d' x, d.rename o.name o.tgt = (d', x) := ⟨_, _, rfl⟩
  obtain ⟨r', hr', ho'⟩ := ref_rename HM.out.ok HO.out hr
  have HR := Lib.hid hr
  have HR' := Lib.hid hr'
  have HO' := Lib.hid ho'
  clear hr hr' ho'
  obtain ⟨c0, c1, c2, c3, c4, c5⟩ := HM.out.base.cells
  go_wp2_with fail
  refine (HM.out.rename hs2 HR.out).mono ?_
  rintro e w1 ⟨rfl, m1⟩
  have M1 := Lib.hid m1
  clear m1 c0 c1 c2 c3 c4 c5
  obtain ⟨c0, c1, c2, c3, c4, c5⟩ := M1.out.base.cells
  obtain ⟨b0, b1, b2, b3⟩ := M1.out.disk
  go_wp2_with fail
  refine (M1.out.rRename HK.out hs2 HR'.out).mono ?_
  rintro e w2 ⟨a', c', rfl, m2⟩
  have M2 := Lib.hid m2
  clear m2 c0 c1 c2 c3 c4 c5 b0 b1 b2 b3
  obtain ⟨x0, x1, x2, x3, y0, y1, y2, y3, z0, z1, z2, z3⟩ := M2.out.free
  go_wp2
  exact HQ.out _ _ _ _ _ _ _ _ _ _ _ _ _ _ _  d' r' x a' c' _ M2.out.store HO'.out

theorem c134 {W wc : World} {b pw po : Nat} {d r : Dsk} {o : OpR} {vb vk : Value} {a : Option Addr} {c : Nat} (HM : Hid (PM W wc b pw po d r o vb vk a c)) (HO : Hid (RefOf d r))  {u0 u1 u2 u3 u4 u6 u8 u9 u11 u12 u13 u14 u15 u16 u17 u18 u19 u20 u21 u22 u23 u24 u25 u26 u27 u28 u29 u30 u31 u32 u33 u34 u35 u36 u37 u38 u39 u40 u41 u42 u43 u44 u45 u46 u47 u48 u49 u50 u51 u52 u53 u54 u55 u56 u57 u58 u59 u60 u61 u62 u63 u64 u65 u66 u67 u68 u69 u70 u71 u72 u73 u74 u75 u76 u77 u78 u79 u80 u81 u82 u83 u84 u85 u86 u87 u88 u89 u90 u91 u92 u93 u94 u95 u96 u97 u98 u99 u100 u101 u102 u103 u104 u105 u106 u107 u108 u109 u110 u111 u112 u113 u114 u115 u116 u117 u118 u119 u120 u121 u122 u123 u124 u125 u126 u127 u128 u129 u130 u131 u132 u133 u135 u136 u137 u138 u139 u140 u141 u142 u143 u144 u145 u146 u147 u148 u149 u150 u151 u152 u153 u154 u155 u156 u157 u158 u159 u160 u161 u162 u163 u164 u165 u166 u167 u168 u169 u170 u171 u172 u173 u174 u175 u176 u177 u178 u179 u180 u181 u182 u183 u184 u185 u186 u187 u188 u189 u190 u191 u192 u193 u194 u195 u196 u197 u198 u199 u200 u201 u202 u203 u204 u205 u206 u207 u208 u209 u210 u211 u212 u213 u214 u215 u216 u217 u218 u219 u220 u221 u222 u223 u224 u225 u226 u227 u228 u229 u230 u231 u232 u233 u234 : Value} {Q : Exit → Act → World → Prop} (hP : PanicOk Q)
    (hQ : ∀ (s136 s137 s138 s139 s140 s141 s142 s143 s144 s145 s146 : Value) (d' r' : Dsk) (x : Int) (a' : Option Addr) (c' : Nat)  (wx : World), PM W wx b pw po d' r' o vb vk a' c' → RefOf d' r' → Q .normal ⟨#[u0, u1, u2, u3, u4, .pointer (some ⟨b, 0, none⟩), u6, .pointer (some ⟨pw, 0, none⟩), u8, u9, .pointer (some ⟨po, 0, none⟩), .int .i64 x, .int .i64 x, u13, u14, u15, u16, u17, u18, u19, u20, u21, u22, u23, u24, u25, u26, u27, u28, u29, u30, u31, u32, u33, u34, u35, u36, u37, u38, u39, u40, u41, u42, u43, u44, u45, u46, u47, u48, u49, u50, u51, u52, u53, u54, u55, u56, u57, u58, u59, u60, u61, u62, u63, u64, u65, u66, u67, u68, u69, u70, u71, u72, u73, u74, u75, u76, u77, u78, u79, u80, u81, u82, u83, u84, u85, u86, u87, u88, u89, u90, u91, u92, u93, u94, u95, u96, u97, u98, u99, u100, u101, u102, u103, u104, u105, u106, u107, u108, u109, u110, u111, u112, u113, u114, u115, u116, u117, u118, u119, u120, u121, u122, u123, u124, u125, u126, u127, u128, u129, u130, u131, u132, u133, .bool true, u135, s136, s137, s138, s139, s140, s141, s142, s143, s144, s145, s146, u147, u148, u149, u150, u151, u152, u153, u154, u155, u156, u157, u158, u159, u160, u161, u162, u163, u164, u165, u166, u167, u168, u169, u170, u171, u172, u173, u174, u175, u176, u177, u178, u179, u180, u181, u182, u183, u184, u185, u186, u187, u188, u189, u190, u191, u192, u193, u194, u195, u196, u197, u198, u199, u200, u201, u202, u203, u204, u205, u206, u207, u208, u209, u210, u211, u212, u213, u214, u215, u216, u217, u218, u219, u220, u221, u222, u223, u224, u225, u226, u227, u228, u229, u230, u231, u232, u233, u234], []⟩ wx) :
    Code.wp Tryd.prog ((Tryd.f3.body.bind (condLast 134)).getD .skip) Q ⟨#[u0, u1, u2, u3, u4, .pointer (some ⟨b, 0, none⟩), u6, .pointer (some ⟨pw, 0, none⟩), u8, u9, .pointer (some ⟨po, 0, none⟩), u11, u12, u13, u14, u15, u16, u17, u18, u19, u20, u21, u22, u23, u24, u25, u26, u27, u28, u29, u30, u31, u32, u33, u34, u35, u36, u37, u38, u39, u40, u41, u42, u43, u44, u45, u46, u47, u48, u49, u50, u51, u52, u53, u54, u55, u56, u57, u58, u59, u60, u61, u62, u63, u64, u65, u66, u67, u68, u69, u70, u71, u72, u73, u74, u75, u76, u77, u78, u79, u80, u81, u82, u83, u84, u85, u86, u87, u88, u89, u90, u91, u92, u93, u94, u95, u96, u97, u98, u99, u100, u101, u102, u103, u104, u105, u106, u107, u108, u109, u110, u111, u112, u113, u114, u115, u116, u117, u118, u119, u120, u121, u122, u123, u124, u125, u126, u127, u128, u129, u130, u131, u132, u133, .bool true, u135, u136, u137, u138, u139, u140, u141, u142, u143, u144, u145, u146, u147, u148, u149, u150, u151, u152, u153, u154, u155, u156, u157, u158, u159, u160, u161, u162, u163, u164, u165, u166, u167, u168, u169, u170, u171, u172, u173, u174, u175, u176, u177, u178, u179, u180, u181, u182, u183, u184, u185, u186, u187, u188, u189, u190, u191, u192, u193, u194, u195, u196, u197, u198, u199, u200, u201, u202, u203, u204, u205, u206, u207, u208, u209, u210, u211, u212, u213, u214, u215, u216, u217, u218, u219, u220, u221, u222, u223, u224, u225, u226, u227, u228, u229, u230, u231, u232, u233, u234], []⟩ wc := by
  have _hP := hP
  dsimp only at hQ ⊢
  conv => arg 2; whnf
  have HQ := Lib.hid hQ
  clear hQ
  have HK := Lib.hid (ROk.of HM.out.ok HO.out)
  have HSY := Lib.hid (HO.out.sy HM.out.ok)
  obtain ⟨d', x, hr⟩ : ∃ d' x, d.remove o.name = (d', x) := ⟨_, _, rfl⟩
  obtain ⟨r', hr', ho'⟩ := ref_remove HM.out.ok HO.out hr
  have HR := Lib.hid hr
  have HR' := Lib.hid hr'
  have HO' := Lib.hid ho'
  clear hr hr' ho'
  obtain ⟨c0, c1, c2, c3, c4, c5⟩ := HM.out.base.cells
  go_wp2_with fail
  refine (HM.out.remove HR.out).mono ?_
  rintro e w1 ⟨rfl, m1⟩
  have M1 := Lib.hid m1
  clear m1 c0 c1 c2 c3 c4 c5
  obtain ⟨c0, c1, c2, c3, c4, c5⟩ := M1.out.base.cells
  obtain ⟨b0, b1, b2, b3⟩ := M1.out.disk
  go_wp2_with fail
  refine (M1.out.rRemove HK.out HR'.out).mono ?_
  rintro e w2 ⟨a', c', rfl, m2⟩
  have M2 := Lib.hid m2
  clear m2 c0 c1 c2 c3 c4 c5 b0 b1 b2 b3
  obtain ⟨x0, x1, x2, x3, y0, y1, y2, y3, z0, z1, z2, z3⟩ := M2.out.free
  go_wp2
  exact HQ.out _ _ _ _ _ _ _ _ _ _ _  d' r' x a' c' _ M2.out.store HO'.out

theorem c147 {W wc : World} {b pw po : Nat} {d r : Dsk} {o : OpR} {vb vk : Value} {a : Option Addr} {c : Nat} (HM : Hid (PM W wc b pw po d r o vb vk a c)) (HO : Hid (RefOf d r))  {u0 u1 u2 u3 u4 u6 u8 u9 u11 u12 u13 u14 u15 u16 u17 u18 u19 u20 u21 u22 u23 u24 u25 u26 u27 u28 u29 u30 u31 u32 u33 u34 u35 u36 u37 u38 u39 u40 u41 u42 u43 u44 u45 u46 u47 u48 u49 u50 u51 u52 u53 u54 u55 u56 u57 u58 u59 u60 u61 u62 u63 u64 u65 u66 u67 u68 u69 u70 u71 u72 u73 u74 u75 u76 u77 u78 u79 u80 u81 u82 u83 u84 u85 u86 u87 u88 u89 u90 u91 u92 u93 u94 u95 u96 u97 u98 u99 u100 u101 u102 u103 u104 u105 u106 u107 u108 u109 u110 u111 u112 u113 u114 u115 u116 u117 u118 u119 u120 u121 u122 u123 u124 u125 u126 u127 u128 u129 u130 u131 u132 u133 u134 u135 u136 u137 u138 u139 u140 u141 u142 u143 u144 u145 u146 u148 u149 u150 u151 u152 u153 u154 u155 u156 u157 u158 u159 u160 u161 u162 u163 u164 u165 u166 u167 u168 u169 u170 u171 u172 u173 u174 u175 u176 u177 u178 u179 u180 u181 u182 u183 u184 u185 u186 u187 u188 u189 u190 u191 u192 u193 u194 u195 u196 u197 u198 u199 u200 u201 u202 u203 u204 u205 u206 u207 u208 u209 u210 u211 u212 u213 u214 u215 u216 u217 u218 u219 u220 u221 u222 u223 u224 u225 u226 u227 u228 u229 u230 u231 u232 u233 u234 : Value} {Q : Exit → Act → World → Prop} (hP : PanicOk Q)
    (hQ : ∀ (s149 s150 s151 s152 s153 s154 s155 s156 s157 s158 s159 s160 s161 s162 s163 : Value) (d' r' : Dsk) (x : Int) (a' : Option Addr) (c' : Nat)  (wx : World), PM W wx b pw po d' r' o vb vk a' c' → RefOf d' r' → Q .normal ⟨#[u0, u1, u2, u3, u4, .pointer (some ⟨b, 0, none⟩), u6, .pointer (some ⟨pw, 0, none⟩), u8, u9, .pointer (some ⟨po, 0, none⟩), .int .i64 x, .int .i64 x, u13, u14, u15, u16, u17, u18, u19, u20, u21, u22, u23, u24, u25, u26, u27, u28, u29, u30, u31, u32, u33, u34, u35, u36, u37, u38, u39, u40, u41, u42, u43, u44, u45, u46, u47, u48, u49, u50, u51, u52, u53, u54, u55, u56, u57, u58, u59, u60, u61, u62, u63, u64, u65, u66, u67, u68, u69, u70, u71, u72, u73, u74, u75, u76, u77, u78, u79, u80, u81, u82, u83, u84, u85, u86, u87, u88, u89, u90, u91, u92, u93, u94, u95, u96, u97, u98, u99, u100, u101, u102, u103, u104, u105, u106, u107, u108, u109, u110, u111, u112, u113, u114, u115, u116, u117, u118, u119, u120, u121, u122, u123, u124, u125, u126, u127, u128, u129, u130, u131, u132, u133, u134, u135, u136, u137, u138, u139, u140, u141, u142, u143, u144, u145, u146, .bool true, u148, s149, s150, s151, s152, s153, s154, s155, s156, s157, s158, s159, s160, s161, s162, s163, u164, u165, u166, u167, u168, u169, u170, u171, u172, u173, u174, u175, u176, u177, u178, u179, u180, u181, u182, u183, u184, u185, u186, u187, u188, u189, u190, u191, u192, u193, u194, u195, u196, u197, u198, u199, u200, u201, u202, u203, u204, u205, u206, u207, u208, u209, u210, u211, u212, u213, u214, u215, u216, u217, u218, u219, u220, u221, u222, u223, u224, u225, u226, u227, u228, u229, u230, u231, u232, u233, u234], []⟩ wx) :
    Code.wp Tryd.prog ((Tryd.f3.body.bind (condLast 147)).getD .skip) Q ⟨#[u0, u1, u2, u3, u4, .pointer (some ⟨b, 0, none⟩), u6, .pointer (some ⟨pw, 0, none⟩), u8, u9, .pointer (some ⟨po, 0, none⟩), u11, u12, u13, u14, u15, u16, u17, u18, u19, u20, u21, u22, u23, u24, u25, u26, u27, u28, u29, u30, u31, u32, u33, u34, u35, u36, u37, u38, u39, u40, u41, u42, u43, u44, u45, u46, u47, u48, u49, u50, u51, u52, u53, u54, u55, u56, u57, u58, u59, u60, u61, u62, u63, u64, u65, u66, u67, u68, u69, u70, u71, u72, u73, u74, u75, u76, u77, u78, u79, u80, u81, u82, u83, u84, u85, u86, u87, u88, u89, u90, u91, u92, u93, u94, u95, u96, u97, u98, u99, u100, u101, u102, u103, u104, u105, u106, u107, u108, u109, u110, u111, u112, u113, u114, u115, u116, u117, u118, u119, u120, u121, u122, u123, u124, u125, u126, u127, u128, u129, u130, u131, u132, u133, u134, u135, u136, u137, u138, u139, u140, u141, u142, u143, u144, u145, u146, .bool true, u148, u149, u150, u151, u152, u153, u154, u155, u156, u157, u158, u159, u160, u161, u162, u163, u164, u165, u166, u167, u168, u169, u170, u171, u172, u173, u174, u175, u176, u177, u178, u179, u180, u181, u182, u183, u184, u185, u186, u187, u188, u189, u190, u191, u192, u193, u194, u195, u196, u197, u198, u199, u200, u201, u202, u203, u204, u205, u206, u207, u208, u209, u210, u211, u212, u213, u214, u215, u216, u217, u218, u219, u220, u221, u222, u223, u224, u225, u226, u227, u228, u229, u230, u231, u232, u233, u234], []⟩ wc := by
  have _hP := hP
  dsimp only at hQ ⊢
  conv => arg 2; whnf
  have HQ := Lib.hid hQ
  clear hQ
  have HK := Lib.hid (ROk.of HM.out.ok HO.out)
  have HSY := Lib.hid (HO.out.sy HM.out.ok)
  obtain ⟨d', x, hr⟩ : ∃ d' x, d.cut o.name o.n = (d', x) := ⟨_, _, rfl⟩
  obtain ⟨r', hr', ho'⟩ := ref_cut HO.out hr
  have HR := Lib.hid hr
  have HR' := Lib.hid hr'
  have HO' := Lib.hid ho'
  clear hr hr' ho'
  obtain ⟨c0, c1, c2, c3, c4, c5⟩ := HM.out.base.cells
  go_wp2_with fail
  refine (HM.out.cut HR.out).mono ?_
  rintro e w1 ⟨rfl, m1⟩
  have M1 := Lib.hid m1
  clear m1 c0 c1 c2 c3 c4 c5
  obtain ⟨c0, c1, c2, c3, c4, c5⟩ := M1.out.base.cells
  obtain ⟨b0, b1, b2, b3⟩ := M1.out.disk
  go_wp2_with fail
  refine (M1.out.rCut HK.out HR'.out).mono ?_
  rintro e w2 ⟨a', c', rfl, m2⟩
  have M2 := Lib.hid m2
  clear m2 c0 c1 c2 c3 c4 c5 b0 b1 b2 b3
  obtain ⟨x0, x1, x2, x3, y0, y1, y2, y3, z0, z1, z2, z3⟩ := M2.out.free
  go_wp2
  exact HQ.out _ _ _ _ _ _ _ _ _ _ _ _ _ _ _  d' r' x a' c' _ M2.out.store HO'.out

theorem c164 {W wc : World} {b pw po : Nat} {d r : Dsk} {o : OpR} {vb vk : Value} {a : Option Addr} {c : Nat} (HM : Hid (PM W wc b pw po d r o vb vk a c)) (HO : Hid (RefOf d r))  {u0 u1 u2 u3 u4 u6 u8 u9 u11 u12 u13 u14 u15 u16 u17 u18 u19 u20 u21 u22 u23 u24 u25 u26 u27 u28 u29 u30 u31 u32 u33 u34 u35 u36 u37 u38 u39 u40 u41 u42 u43 u44 u45 u46 u47 u48 u49 u50 u51 u52 u53 u54 u55 u56 u57 u58 u59 u60 u61 u62 u63 u64 u65 u66 u67 u68 u69 u70 u71 u72 u73 u74 u75 u76 u77 u78 u79 u80 u81 u82 u83 u84 u85 u86 u87 u88 u89 u90 u91 u92 u93 u94 u95 u96 u97 u98 u99 u100 u101 u102 u103 u104 u105 u106 u107 u108 u109 u110 u111 u112 u113 u114 u115 u116 u117 u118 u119 u120 u121 u122 u123 u124 u125 u126 u127 u128 u129 u130 u131 u132 u133 u134 u135 u136 u137 u138 u139 u140 u141 u142 u143 u144 u145 u146 u147 u148 u149 u150 u151 u152 u153 u154 u155 u156 u157 u158 u159 u160 u161 u162 u163 u165 u166 u167 u168 u169 u170 u171 u172 u173 u174 u175 u176 u177 u178 u179 u180 u181 u182 u183 u184 u185 u186 u187 u188 u189 u190 u191 u192 u193 u194 u195 u196 u197 u198 u199 u200 u201 u202 u203 u204 u205 u206 u207 u208 u209 u210 u211 u212 u213 u214 u215 u216 u217 u218 u219 u220 u221 u222 u223 u224 u225 u226 u227 u228 u229 u230 u231 u232 u233 u234 : Value} {Q : Exit → Act → World → Prop} (hP : PanicOk Q)
    (hQ : ∀ (s166 s167 s168 s169 s170 s171 s172 s173 : Value) (d' r' : Dsk) (a' : Option Addr) (c' : Nat)  (wx : World), PM W wx b pw po d' r' o vb vk a' c' → RefOf d' r' → Q .normal ⟨#[u0, u1, u2, u3, u4, .pointer (some ⟨b, 0, none⟩), u6, .pointer (some ⟨pw, 0, none⟩), u8, u9, .pointer (some ⟨po, 0, none⟩), u11, u12, u13, u14, u15, u16, u17, u18, u19, u20, u21, u22, u23, u24, u25, u26, u27, u28, u29, u30, u31, u32, u33, u34, u35, u36, u37, u38, u39, u40, u41, u42, u43, u44, u45, u46, u47, u48, u49, u50, u51, u52, u53, u54, u55, u56, u57, u58, u59, u60, u61, u62, u63, u64, u65, u66, u67, u68, u69, u70, u71, u72, u73, u74, u75, u76, u77, u78, u79, u80, u81, u82, u83, u84, u85, u86, u87, u88, u89, u90, u91, u92, u93, u94, u95, u96, u97, u98, u99, u100, u101, u102, u103, u104, u105, u106, u107, u108, u109, u110, u111, u112, u113, u114, u115, u116, u117, u118, u119, u120, u121, u122, u123, u124, u125, u126, u127, u128, u129, u130, u131, u132, u133, u134, u135, u136, u137, u138, u139, u140, u141, u142, u143, u144, u145, u146, u147, u148, u149, u150, u151, u152, u153, u154, u155, u156, u157, u158, u159, u160, u161, u162, u163, .bool true, u165, s166, s167, s168, s169, s170, s171, s172, s173, u174, u175, u176, u177, u178, u179, u180, u181, u182, u183, u184, u185, u186, u187, u188, u189, u190, u191, u192, u193, u194, u195, u196, u197, u198, u199, u200, u201, u202, u203, u204, u205, u206, u207, u208, u209, u210, u211, u212, u213, u214, u215, u216, u217, u218, u219, u220, u221, u222, u223, u224, u225, u226, u227, u228, u229, u230, u231, u232, u233, u234], []⟩ wx) :
    Code.wp Tryd.prog ((Tryd.f3.body.bind (condLast 164)).getD .skip) Q ⟨#[u0, u1, u2, u3, u4, .pointer (some ⟨b, 0, none⟩), u6, .pointer (some ⟨pw, 0, none⟩), u8, u9, .pointer (some ⟨po, 0, none⟩), u11, u12, u13, u14, u15, u16, u17, u18, u19, u20, u21, u22, u23, u24, u25, u26, u27, u28, u29, u30, u31, u32, u33, u34, u35, u36, u37, u38, u39, u40, u41, u42, u43, u44, u45, u46, u47, u48, u49, u50, u51, u52, u53, u54, u55, u56, u57, u58, u59, u60, u61, u62, u63, u64, u65, u66, u67, u68, u69, u70, u71, u72, u73, u74, u75, u76, u77, u78, u79, u80, u81, u82, u83, u84, u85, u86, u87, u88, u89, u90, u91, u92, u93, u94, u95, u96, u97, u98, u99, u100, u101, u102, u103, u104, u105, u106, u107, u108, u109, u110, u111, u112, u113, u114, u115, u116, u117, u118, u119, u120, u121, u122, u123, u124, u125, u126, u127, u128, u129, u130, u131, u132, u133, u134, u135, u136, u137, u138, u139, u140, u141, u142, u143, u144, u145, u146, u147, u148, u149, u150, u151, u152, u153, u154, u155, u156, u157, u158, u159, u160, u161, u162, u163, .bool true, u165, u166, u167, u168, u169, u170, u171, u172, u173, u174, u175, u176, u177, u178, u179, u180, u181, u182, u183, u184, u185, u186, u187, u188, u189, u190, u191, u192, u193, u194, u195, u196, u197, u198, u199, u200, u201, u202, u203, u204, u205, u206, u207, u208, u209, u210, u211, u212, u213, u214, u215, u216, u217, u218, u219, u220, u221, u222, u223, u224, u225, u226, u227, u228, u229, u230, u231, u232, u233, u234], []⟩ wc := by
  have _hP := hP
  dsimp only at hQ ⊢
  conv => arg 2; whnf
  have HQ := Lib.hid hQ
  clear hQ
  have HK := Lib.hid (ROk.of HM.out.ok HO.out)
  have HSY := Lib.hid (HO.out.sy HM.out.ok)
  obtain ⟨d', hr⟩ : ∃ d', d.armed o.n = d' := ⟨_, rfl⟩
  obtain ⟨r', hr'⟩ : ∃ r', r.armed o.n = r' := ⟨_, rfl⟩
  have ho' := ref_arm HO.out o.n
  rw [hr, hr'] at ho'
  have HR := Lib.hid hr
  have HR' := Lib.hid hr'
  have HO' := Lib.hid ho'
  clear hr hr' ho'
  obtain ⟨c0, c1, c2, c3, c4, c5⟩ := HM.out.base.cells
  go_wp2_with fail
  refine (HM.out.arm HR.out).mono ?_
  rintro e w1 ⟨rfl, m1⟩
  have M1 := Lib.hid m1
  clear m1 c0 c1 c2 c3 c4 c5
  obtain ⟨c0, c1, c2, c3, c4, c5⟩ := M1.out.base.cells
  obtain ⟨b0, b1, b2, b3⟩ := M1.out.disk
  go_wp2_with fail
  refine (M1.out.rArm HR'.out).mono ?_
  rintro e w2 ⟨a', c', rfl, m2⟩
  have M2 := Lib.hid m2
  clear m2 c0 c1 c2 c3 c4 c5 b0 b1 b2 b3
  obtain ⟨x0, x1, x2, x3, y0, y1, y2, y3, z0, z1, z2, z3⟩ := M2.out.free
  go_wp2
  exact HQ.out _ _ _ _ _ _ _ _  d' r' a' c' _ M2.out.store HO'.out

theorem c174 {W wc : World} {b pw po : Nat} {d r : Dsk} {o : OpR} {vb vk : Value} {a : Option Addr} {c : Nat} (HM : Hid (PM W wc b pw po d r o vb vk a c)) (HO : Hid (RefOf d r))  {u0 u1 u2 u3 u4 u6 u8 u9 u11 u12 u13 u14 u15 u16 u17 u18 u19 u20 u21 u22 u23 u24 u25 u26 u27 u28 u29 u30 u31 u32 u33 u34 u35 u36 u37 u38 u39 u40 u41 u42 u43 u44 u45 u46 u47 u48 u49 u50 u51 u52 u53 u54 u55 u56 u57 u58 u59 u60 u61 u62 u63 u64 u65 u66 u67 u68 u69 u70 u71 u72 u73 u74 u75 u76 u77 u78 u79 u80 u81 u82 u83 u84 u85 u86 u87 u88 u89 u90 u91 u92 u93 u94 u95 u96 u97 u98 u99 u100 u101 u102 u103 u104 u105 u106 u107 u108 u109 u110 u111 u112 u113 u114 u115 u116 u117 u118 u119 u120 u121 u122 u123 u124 u125 u126 u127 u128 u129 u130 u131 u132 u133 u134 u135 u136 u137 u138 u139 u140 u141 u142 u143 u144 u145 u146 u147 u148 u149 u150 u151 u152 u153 u154 u155 u156 u157 u158 u159 u160 u161 u162 u163 u164 u165 u166 u167 u168 u169 u170 u171 u172 u173 u175 u176 u177 u178 u179 u180 u181 u182 u183 u184 u185 u186 u187 u188 u189 u190 u191 u192 u193 u194 u195 u196 u197 u198 u199 u200 u201 u202 u203 u204 u205 u206 u207 u208 u209 u210 u211 u212 u213 u214 u215 u216 u217 u218 u219 u220 u221 u222 u223 u224 u225 u226 u227 u228 u229 u230 u231 u232 u233 u234 : Value} {Q : Exit → Act → World → Prop} (hP : PanicOk Q)
    (hQ : ∀ (s176 s177 s178 s179 s180 s181 s182 s183 : Value) (d' r' : Dsk) (a' : Option Addr) (c' : Nat)  (wx : World), PM W wx b pw po d' r' o vb vk a' c' → RefOf d' r' → Q .normal ⟨#[u0, u1, u2, u3, u4, .pointer (some ⟨b, 0, none⟩), u6, .pointer (some ⟨pw, 0, none⟩), u8, u9, .pointer (some ⟨po, 0, none⟩), u11, u12, u13, u14, u15, u16, u17, u18, u19, u20, u21, u22, u23, u24, u25, u26, u27, u28, u29, u30, u31, u32, u33, u34, u35, u36, u37, u38, u39, u40, u41, u42, u43, u44, u45, u46, u47, u48, u49, u50, u51, u52, u53, u54, u55, u56, u57, u58, u59, u60, u61, u62, u63, u64, u65, u66, u67, u68, u69, u70, u71, u72, u73, u74, u75, u76, u77, u78, u79, u80, u81, u82, u83, u84, u85, u86, u87, u88, u89, u90, u91, u92, u93, u94, u95, u96, u97, u98, u99, u100, u101, u102, u103, u104, u105, u106, u107, u108, u109, u110, u111, u112, u113, u114, u115, u116, u117, u118, u119, u120, u121, u122, u123, u124, u125, u126, u127, u128, u129, u130, u131, u132, u133, u134, u135, u136, u137, u138, u139, u140, u141, u142, u143, u144, u145, u146, u147, u148, u149, u150, u151, u152, u153, u154, u155, u156, u157, u158, u159, u160, u161, u162, u163, u164, u165, u166, u167, u168, u169, u170, u171, u172, u173, .bool true, u175, s176, s177, s178, s179, s180, s181, s182, s183, u184, u185, u186, u187, u188, u189, u190, u191, u192, u193, u194, u195, u196, u197, u198, u199, u200, u201, u202, u203, u204, u205, u206, u207, u208, u209, u210, u211, u212, u213, u214, u215, u216, u217, u218, u219, u220, u221, u222, u223, u224, u225, u226, u227, u228, u229, u230, u231, u232, u233, u234], []⟩ wx) :
    Code.wp Tryd.prog ((Tryd.f3.body.bind (condLast 174)).getD .skip) Q ⟨#[u0, u1, u2, u3, u4, .pointer (some ⟨b, 0, none⟩), u6, .pointer (some ⟨pw, 0, none⟩), u8, u9, .pointer (some ⟨po, 0, none⟩), u11, u12, u13, u14, u15, u16, u17, u18, u19, u20, u21, u22, u23, u24, u25, u26, u27, u28, u29, u30, u31, u32, u33, u34, u35, u36, u37, u38, u39, u40, u41, u42, u43, u44, u45, u46, u47, u48, u49, u50, u51, u52, u53, u54, u55, u56, u57, u58, u59, u60, u61, u62, u63, u64, u65, u66, u67, u68, u69, u70, u71, u72, u73, u74, u75, u76, u77, u78, u79, u80, u81, u82, u83, u84, u85, u86, u87, u88, u89, u90, u91, u92, u93, u94, u95, u96, u97, u98, u99, u100, u101, u102, u103, u104, u105, u106, u107, u108, u109, u110, u111, u112, u113, u114, u115, u116, u117, u118, u119, u120, u121, u122, u123, u124, u125, u126, u127, u128, u129, u130, u131, u132, u133, u134, u135, u136, u137, u138, u139, u140, u141, u142, u143, u144, u145, u146, u147, u148, u149, u150, u151, u152, u153, u154, u155, u156, u157, u158, u159, u160, u161, u162, u163, u164, u165, u166, u167, u168, u169, u170, u171, u172, u173, .bool true, u175, u176, u177, u178, u179, u180, u181, u182, u183, u184, u185, u186, u187, u188, u189, u190, u191, u192, u193, u194, u195, u196, u197, u198, u199, u200, u201, u202, u203, u204, u205, u206, u207, u208, u209, u210, u211, u212, u213, u214, u215, u216, u217, u218, u219, u220, u221, u222, u223, u224, u225, u226, u227, u228, u229, u230, u231, u232, u233, u234], []⟩ wc := by
  have _hP := hP
  dsimp only at hQ ⊢
  conv => arg 2; whnf
  have HQ := Lib.hid hQ
  clear hQ
  have HK := Lib.hid (ROk.of HM.out.ok HO.out)
  have HSY := Lib.hid (HO.out.sy HM.out.ok)
  obtain ⟨d', hr⟩ : ∃ d', d.crash o.keeps = d' := ⟨_, rfl⟩
  obtain ⟨r', hr'⟩ : ∃ r', r.rCrash o.keeps = r' := ⟨_, rfl⟩
  have ho' := ref_crash HM.out.ok HO.out o.keeps
  rw [hr, hr'] at ho'
  have HR := Lib.hid hr
  have HR' := Lib.hid hr'
  have HO' := Lib.hid ho'
  clear hr hr' ho'
  obtain ⟨c0, c1, c2, c3, c4, c5⟩ := HM.out.base.cells
  go_wp2_with fail
  refine (HM.out.crash HR.out).mono ?_
  rintro e w1 ⟨rfl, m1⟩
  have M1 := Lib.hid m1
  clear m1 c0 c1 c2 c3 c4 c5
  obtain ⟨c0, c1, c2, c3, c4, c5⟩ := M1.out.base.cells
  obtain ⟨b0, b1, b2, b3⟩ := M1.out.disk
  go_wp2_with fail
  refine (M1.out.rCrash HK.out HSY.out HR'.out).mono ?_
  rintro e w2 ⟨a', c', rfl, m2⟩
  have M2 := Lib.hid m2
  clear m2 c0 c1 c2 c3 c4 c5 b0 b1 b2 b3
  obtain ⟨x0, x1, x2, x3, y0, y1, y2, y3, z0, z1, z2, z3⟩ := M2.out.free
  go_wp2
  exact HQ.out _ _ _ _ _ _ _ _  d' r' a' c' _ M2.out.store HO'.out

theorem c184 {W wc : World} {b pw po : Nat} {d r : Dsk} {o : OpR} {vb vk : Value} {a : Option Addr} {c : Nat} (HM : Hid (PM W wc b pw po d r o vb vk a c)) (HO : Hid (RefOf d r))  {u0 u1 u2 u3 u4 u6 u8 u9 u11 u12 u13 u14 u15 u16 u17 u18 u19 u20 u21 u22 u23 u24 u25 u26 u27 u28 u29 u30 u31 u32 u33 u34 u35 u36 u37 u38 u39 u40 u41 u42 u43 u44 u45 u46 u47 u48 u49 u50 u51 u52 u53 u54 u55 u56 u57 u58 u59 u60 u61 u62 u63 u64 u65 u66 u67 u68 u69 u70 u71 u72 u73 u74 u75 u76 u77 u78 u79 u80 u81 u82 u83 u84 u85 u86 u87 u88 u89 u90 u91 u92 u93 u94 u95 u96 u97 u98 u99 u100 u101 u102 u103 u104 u105 u106 u107 u108 u109 u110 u111 u112 u113 u114 u115 u116 u117 u118 u119 u120 u121 u122 u123 u124 u125 u126 u127 u128 u129 u130 u131 u132 u133 u134 u135 u136 u137 u138 u139 u140 u141 u142 u143 u144 u145 u146 u147 u148 u149 u150 u151 u152 u153 u154 u155 u156 u157 u158 u159 u160 u161 u162 u163 u164 u165 u166 u167 u168 u169 u170 u171 u172 u173 u174 u175 u176 u177 u178 u179 u180 u181 u182 u183 u185 u186 u187 u188 u189 u190 u191 u192 u193 u194 u195 u196 u197 u198 u199 u200 u201 u202 u203 u204 u205 u206 u207 u208 u209 u210 u211 u212 u213 u214 u215 u216 u217 u218 u219 u220 u221 u222 u223 u224 u225 u226 u227 u228 u229 u230 u231 u232 u233 u234 : Value} {Q : Exit → Act → World → Prop} (hP : PanicOk Q)
    (hQ : ∀ (s186 s187 s188 s189 s190 s191 s192 s193 s194 s195 s196 s197 s198 s199 : Value) (l : List UInt8) (x : Int) (a1 a2 : Option Addr) (z1 z2 : Nat)  (wx : World), PM W wx b pw po d r o vb vk a c → Bs wx (.slice a1 l.length z1) l → Bs wx (.slice a2 l.length z2) l → Q .normal ⟨#[u0, u1, u2, u3, u4, .pointer (some ⟨b, 0, none⟩), u6, .pointer (some ⟨pw, 0, none⟩), u8, u9, .pointer (some ⟨po, 0, none⟩), .int .i64 x, .int .i64 x, .slice a1 l.length z1, .slice a2 l.length z2, u15, u16, u17, u18, u19, u20, u21, u22, u23, u24, u25, u26, u27, u28, u29, u30, u31, u32, u33, u34, u35, u36, u37, u38, u39, u40, u41, u42, u43, u44, u45, u46, u47, u48, u49, u50, u51, u52, u53, u54, u55, u56, u57, u58, u59, u60, u61, u62, u63, u64, u65, u66, u67, u68, u69, u70, u71, u72, u73, u74, u75, u76, u77, u78, u79, u80, u81, u82, u83, u84, u85, u86, u87, u88, u89, u90, u91, u92, u93, u94, u95, u96, u97, u98, u99, u100, u101, u102, u103, u104, u105, u106, u107, u108, u109, u110, u111, u112, u113, u114, u115, u116, u117, u118, u119, u120, u121, u122, u123, u124, u125, u126, u127, u128, u129, u130, u131, u132, u133, u134, u135, u136, u137, u138, u139, u140, u141, u142, u143, u144, u145, u146, u147, u148, u149, u150, u151, u152, u153, u154, u155, u156, u157, u158, u159, u160, u161, u162, u163, u164, u165, u166, u167, u168, u169, u170, u171, u172, u173, u174, u175, u176, u177, u178, u179, u180, u181, u182, u183, .bool true, u185, s186, s187, s188, s189, s190, s191, s192, s193, s194, s195, s196, s197, s198, s199, u200, u201, u202, u203, u204, u205, u206, u207, u208, u209, u210, u211, u212, u213, u214, u215, u216, u217, u218, u219, u220, u221, u222, u223, u224, u225, u226, u227, u228, u229, u230, u231, u232, u233, u234], []⟩ wx) :
    Code.wp Tryd.prog ((Tryd.f3.body.bind (condOf 184)).getD .skip) Q ⟨#[u0, u1, u2, u3, u4, .pointer (some ⟨b, 0, none⟩), u6, .pointer (some ⟨pw, 0, none⟩), u8, u9, .pointer (some ⟨po, 0, none⟩), u11, u12, u13, u14, u15, u16, u17, u18, u19, u20, u21, u22, u23, u24, u25, u26, u27, u28, u29, u30, u31, u32, u33, u34, u35, u36, u37, u38, u39, u40, u41, u42, u43, u44, u45, u46, u47, u48, u49, u50, u51, u52, u53, u54, u55, u56, u57, u58, u59, u60, u61, u62, u63, u64, u65, u66, u67, u68, u69, u70, u71, u72, u73, u74, u75, u76, u77, u78, u79, u80, u81, u82, u83, u84, u85, u86, u87, u88, u89, u90, u91, u92, u93, u94, u95, u96, u97, u98, u99, u100, u101, u102, u103, u104, u105, u106, u107, u108, u109, u110, u111, u112, u113, u114, u115, u116, u117, u118, u119, u120, u121, u122, u123, u124, u125, u126, u127, u128, u129, u130, u131, u132, u133, u134, u135, u136, u137, u138, u139, u140, u141, u142, u143, u144, u145, u146, u147, u148, u149, u150, u151, u152, u153, u154, u155, u156, u157, u158, u159, u160, u161, u162, u163, u164, u165, u166, u167, u168, u169, u170, u171, u172, u173, u174, u175, u176, u177, u178, u179, u180, u181, u182, u183, .bool true, u185, u186, u187, u188, u189, u190, u191, u192, u193, u194, u195, u196, u197, u198, u199, u200, u201, u202, u203, u204, u205, u206, u207, u208, u209, u210, u211, u212, u213, u214, u215, u216, u217, u218, u219, u220, u221, u222, u223, u224, u225, u226, u227, u228, u229, u230, u231, u232, u233, u234], []⟩ wc := by
  have _hP := hP
  dsimp only at hQ ⊢
  conv => arg 2; whnf
  have HQ := Lib.hid hQ
  clear hQ
  obtain ⟨l, x, hr⟩ : ∃ l x, d.read o.name = (l, x) := ⟨_, _, rfl⟩
  have hr' : r.read o.name = (l, x) := by rw [ref_read HO.out]; exact hr
  have HR := Lib.hid hr
  have HR' := Lib.hid hr'
  clear hr hr'
  obtain ⟨c0, c1, c2, c3, c4, c5⟩ := HM.out.base.cells
  go_wp2_with fail
  refine (HM.out.read HR.out).mono ?_
  rintro e w1 ⟨a1, z1, rfl, b1, m1⟩
  have M1 := Lib.hid m1
  have B1 := Lib.hid b1
  clear m1 b1 c0 c1 c2 c3 c4 c5
  obtain ⟨c0, c1, c2, c3, c4, c5⟩ := M1.out.base.cells
  obtain ⟨b0, b1, b2, b3⟩ := M1.out.disk
  go_wp2_with fail
  refine (M1.out.rRead HR'.out).mono ?_
  rintro e w2 ⟨a2, z2, rfl, k2, n2, m2⟩
  have M2 := Lib.hid m2
  have B2 := Lib.hid k2
  have B1' := Lib.hid (B1.out.nw n2)
  clear m2 k2 n2 c0 c1 c2 c3 c4 c5 b0 b1 b2 b3
  go_wp2
  exact HQ.out _ _ _ _ _ _ _ _ _ _ _ _ _ _  l x a1 a2 z1 z2 _ M2.out B1'.out B2.out

theorem p42 {W wc : World} {b pw po : Nat} {d r : Dsk} {o : OpR} {vb vk : Value} {a : Option Addr} {c : Nat} (HM : Hid (PM W wc b pw po d r o vb vk a c)) (HO : Hid (RefOf d r)) {l : List UInt8} {x : Int} {a1 a2 : Option Addr} {z1 z2 : Nat} (HB1 : Hid (Bs wc (.slice a1 l.length z1) l)) (HB2 : Hid (Bs wc (.slice a2 l.length z2) l))  {u0 u1 u2 u3 u4 u6 u8 u9 u15 u16 u17 u18 u19 u20 u21 u22 u23 u24 u25 u26 u27 u28 u29 u30 u31 u32 u33 u34 u35 u36 u37 u38 u39 u40 u41 u42 u43 u44 u45 u46 u47 u48 u49 u50 u51 u52 u53 u54 u55 u56 u57 u58 u59 u60 u61 u62 u63 u64 u65 u66 u67 u68 u69 u70 u71 u72 u73 u74 u75 u76 u77 u78 u79 u80 u81 u82 u83 u84 u85 u86 u87 u88 u89 u90 u91 u92 u93 u94 u95 u96 u97 u98 u99 u100 u101 u102 u103 u104 u105 u106 u107 u108 u109 u110 u111 u112 u113 u114 u115 u116 u117 u118 u119 u120 u121 u122 u123 u124 u125 u126 u127 u128 u129 u130 u131 u132 u133 u134 u135 u136 u137 u138 u139 u140 u141 u142 u143 u144 u145 u146 u147 u148 u149 u150 u151 u152 u153 u154 u155 u156 u157 u158 u159 u160 u161 u162 u163 u164 u165 u166 u167 u168 u169 u170 u171 u172 u173 u174 u175 u176 u177 u178 u179 u180 u181 u182 u183 u184 u185 u186 u187 u188 u189 u190 u191 u192 u193 u194 u195 u196 u197 u198 u199 u200 u201 u202 u203 u204 u205 u206 u207 u208 u209 u210 u211 u212 u213 u214 u215 u216 u217 u218 u219 u220 u221 u222 u223 u224 u225 u226 u227 u228 u229 u230 u231 u232 u233 u234 : Value} {Q : Exit → Act → World → Prop} (hP : PanicOk Q)
    (hQ : ∀ (s200 s201 s202 s203 s204 s205 s206 s207 s208 s209 s210 s211 s212 s213 s214 s215 s216 s217 s218 s219 s220 s221 s222 s223 s224 s225 s226 s227 s228 s229 s230 s231 s232 : Value)  (wx : World), PM W wx b pw po d r o vb vk a c → Q .normal ⟨#[u0, u1, u2, u3, u4, .pointer (some ⟨b, 0, none⟩), u6, .pointer (some ⟨pw, 0, none⟩), u8, u9, .pointer (some ⟨po, 0, none⟩), .int .i64 x, .int .i64 x, .slice a1 l.length z1, .slice a2 l.length z2, u15, u16, u17, u18, u19, u20, u21, u22, u23, u24, u25, u26, u27, u28, u29, u30, u31, u32, u33, u34, u35, u36, u37, u38, u39, u40, u41, u42, u43, u44, u45, u46, u47, u48, u49, u50, u51, u52, u53, u54, u55, u56, u57, u58, u59, u60, u61, u62, u63, u64, u65, u66, u67, u68, u69, u70, u71, u72, u73, u74, u75, u76, u77, u78, u79, u80, u81, u82, u83, u84, u85, u86, u87, u88, u89, u90, u91, u92, u93, u94, u95, u96, u97, u98, u99, u100, u101, u102, u103, u104, u105, u106, u107, u108, u109, u110, u111, u112, u113, u114, u115, u116, u117, u118, u119, u120, u121, u122, u123, u124, u125, u126, u127, u128, u129, u130, u131, u132, u133, u134, u135, u136, u137, u138, u139, u140, u141, u142, u143, u144, u145, u146, u147, u148, u149, u150, u151, u152, u153, u154, u155, u156, u157, u158, u159, u160, u161, u162, u163, u164, u165, u166, u167, u168, u169, u170, u171, u172, u173, u174, u175, u176, u177, u178, u179, u180, u181, u182, u183, u184, u185, u186, u187, u188, u189, u190, u191, u192, u193, u194, u195, u196, u197, u198, u199, s200, s201, s202, s203, s204, s205, s206, s207, s208, s209, s210, s211, s212, s213, s214, s215, s216, s217, s218, s219, s220, s221, s222, s223, s224, s225, s226, s227, s228, s229, s230, s231, s232, .bool false, u234], []⟩ wx) :
    Code.wp Tryd.prog ((Tryd.f3.body.bind (regionOf 42)).getD .skip) Q ⟨#[u0, u1, u2, u3, u4, .pointer (some ⟨b, 0, none⟩), u6, .pointer (some ⟨pw, 0, none⟩), u8, u9, .pointer (some ⟨po, 0, none⟩), .int .i64 x, .int .i64 x, .slice a1 l.length z1, .slice a2 l.length z2, u15, u16, u17, u18, u19, u20, u21, u22, u23, u24, u25, u26, u27, u28, u29, u30, u31, u32, u33, u34, u35, u36, u37, u38, u39, u40, u41, u42, u43, u44, u45, u46, u47, u48, u49, u50, u51, u52, u53, u54, u55, u56, u57, u58, u59, u60, u61, u62, u63, u64, u65, u66, u67, u68, u69, u70, u71, u72, u73, u74, u75, u76, u77, u78, u79, u80, u81, u82, u83, u84, u85, u86, u87, u88, u89, u90, u91, u92, u93, u94, u95, u96, u97, u98, u99, u100, u101, u102, u103, u104, u105, u106, u107, u108, u109, u110, u111, u112, u113, u114, u115, u116, u117, u118, u119, u120, u121, u122, u123, u124, u125, u126, u127, u128, u129, u130, u131, u132, u133, u134, u135, u136, u137, u138, u139, u140, u141, u142, u143, u144, u145, u146, u147, u148, u149, u150, u151, u152, u153, u154, u155, u156, u157, u158, u159, u160, u161, u162, u163, u164, u165, u166, u167, u168, u169, u170, u171, u172, u173, u174, u175, u176, u177, u178, u179, u180, u181, u182, u183, u184, u185, u186, u187, u188, u189, u190, u191, u192, u193, u194, u195, u196, u197, u198, u199, u200, u201, u202, u203, u204, u205, u206, u207, u208, u209, u210, u211, u212, u213, u214, u215, u216, u217, u218, u219, u220, u221, u222, u223, u224, u225, u226, u227, u228, u229, u230, u231, u232, u233, u234], []⟩ wc := by
  have _hP := hP
  dsimp only at hQ ⊢
  conv => arg 2; whnf
  have HQ := Lib.hid hQ
  clear hQ
  obtain ⟨c0, c1, c2, c3, c4, c5⟩ := HM.out.base.cells
  obtain ⟨b0, b1, b2, b3⟩ := HM.out.disk
  have d0 := cellG b0
  have d1 := cellG b1
  have d2 := cellG b2
  have d3 := cellG b3
  have e2 := cellG c2
  clear b0 b1 b2 b3 c0 c1 c2 c3 c4 c5
  obtain ⟨X, hR⟩ := HM.out.base.lies.ref
  have HRD := Lib.hid hR
  clear hR
  have C1 : Hid (∀ p' : Regrown, Calls Tryd.prog 23 #[.slice a1 l.length z1, .slice a2 l.length z2] (grow (redrawn wc p'.d) p'.os) fun e w'' => e = .returned (.bool true) ∧ ∃ p'' : Regrown, w'' = grow (redrawn wc p''.d) p''.os) := Lib.hid (fun p' => quiet_nw fun w2 hw2 => (SameBytes_ok (HB1.out.nw hw2) (HB2.out.nw hw2)).mono fun e w' ⟨he, hw⟩ => ⟨by rw [he]; simp, by rw [← hw]; exact Nw.refl _⟩)
  have C2 : Hid (∀ p' : Regrown, Calls Tryd.prog 24 #[.pointer (some ⟨b, 0, none⟩), .agg #[.int .i64 r.most, .slice a r.files.length c, .int .i64 r.arm, .bool r.down]] (grow (redrawn wc p'.d) p'.os) fun e w'' => e = .returned (.bool true) ∧ ∃ p'' : Regrown, w'' = grow (redrawn wc p''.d) p''.os) := Lib.hid (fun p' => quiet_nw fun w2 hw2 => by
    obtain ⟨S, hS, -⟩ := HM.out.base.lies.has
    exact SameDisk_ok (hS.nw hw2) (HRD.out.nw hw2) HO.out)
  have C3 : Hid (∀ p' : Regrown, Calls Tryd.prog 25 #[.agg #[.int .i64 r.most, .slice a r.files.length c, .int .i64 r.arm, .bool r.down], .string ⟨o.name.toArray⟩] (grow (redrawn wc p'.d) p'.os) fun e w'' => e = .returned (.int .i64 (rfindI r.files o.name)) ∧ ∃ p'' : Regrown, w'' = grow (redrawn wc p''.d) p''.os) := Lib.hid (fun p' => quiet_nw fun w2 hw2 => rFind_ok (HRD.out.nw hw2) o.name)
  have hcase : rfindI r.files o.name < 0 ∨ 0 ≤ rfindI r.files o.name := by omega
  rcases hcase with hn | hn
  · have hz : fileOf d.files o.name = ⟨[], 0⟩ := by unfold fileOf; rw [← HO.out.get, rfind_neg hn]; rfl
    have C4 : Hid (∀ p' : Regrown, Calls Tryd.prog 26 #[.pointer (some ⟨b, 0, none⟩), .string ⟨o.name.toArray⟩] (grow (redrawn wc p'.d) p'.os) fun e w'' => e = .returned (.int .i64 0) ∧ ∃ p'' : Regrown, w'' = grow (redrawn wc p''.d) p''.os) := Lib.hid (fun p' => quiet_nw fun w2 hw2 => by
      have := (HM.out.base.lies.has.nw hw2).size o.name (k := 0) (by rw [hz]; rfl)
      exact this)
    have C5 : Hid (∀ p' : Regrown, Calls Tryd.prog 27 #[.pointer (some ⟨b, 0, none⟩), .string ⟨o.name.toArray⟩] (grow (redrawn wc p'.d) p'.os) fun e w'' => e = .returned (.int .i64 0) ∧ ∃ p'' : Regrown, w'' = grow (redrawn wc p''.d) p''.os) := Lib.hid (fun p' => quiet_nw fun w2 hw2 => by
      have := (HM.out.base.lies.has.nw hw2).synced o.name (k := 0) (by rw [hz])
      exact this)
    have hq : decide (rfindI r.files o.name < 0) = true := by simp; exact hn
    clear hn hz
    generalize rfindI r.files o.name = fi at C3 hq
    refine wp_region_quiet_below (by kernel_rfl) (by kernel_rfl) ?_
    repeat (first | go_big_quiet_step (first | with_reducible exact C1.out _ | with_reducible exact C2.out _ | with_reducible exact C3.out _ | with_reducible exact C4.out _ | with_reducible exact C5.out _) | quiet_step (first | with_reducible exact C1.out _ | with_reducible exact C2.out _ | with_reducible exact C3.out _ | with_reducible exact C4.out _ | with_reducible exact C5.out _))
    refine wpQuiet_nil ?_
    intro w2 hw2
    exact HQ.out _ _ _ _ _ _ _ _ _ _ _ _ _ _ _ _ _ _ _ _ _ _ _ _ _ _ _ _ _ _ _ _ _  _ (HM.out.nw (Nw.of_regrown hw2))
  · have hq : decide (rfindI r.files o.name < 0) = false := by simp; exact hn
    clear hn
    generalize rfindI r.files o.name = fi at C3 hq
    refine wp_region_quiet_below (by kernel_rfl) (by kernel_rfl) ?_
    repeat (first | go_big_quiet_step (first | with_reducible exact C1.out _ | with_reducible exact C2.out _ | with_reducible exact C3.out _) | quiet_step (first | with_reducible exact C1.out _ | with_reducible exact C2.out _ | with_reducible exact C3.out _))
    refine wpQuiet_nil ?_
    intro w2 hw2
    exact HQ.out _ _ _ _ _ _ _ _ _ _ _ _ _ _ _ _ _ _ _ _ _ _ _ _ _ _ _ _ _ _ _ _ _  _ (HM.out.nw (Nw.of_regrown hw2))
end Go.Proofs.YtkhcdbafcigeoaaDoor.DiskPlays
