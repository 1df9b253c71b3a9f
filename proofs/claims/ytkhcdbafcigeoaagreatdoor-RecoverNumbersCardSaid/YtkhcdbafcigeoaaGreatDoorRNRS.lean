/-
  Texts merged by a program of this claim's: RNR.
-/
import Derived.Test.YtkhcdbafcigeoaaGreatDoorM31
import Derived.Test.YtkhcdbafcigeoaaGreatDoorM10
namespace Go.Proofs.YtkhcdbafcigeoaaGreatDoor.RecoverNumbers
open Go Go.RowKit Go.Sort
set_option maxRecDepth 100000
set_option maxHeartbeats 3200000

theorem files_lit1 (w : World) (T : TypeId) {s0 : Str} {l0 : List UInt8} {a0 : Option Addr} {n0 c0 : Nat} (e0 : n0 = l0.length) (h0 : Bs w (.slice a0 n0 c0) l0) :
    FilesAt (w.alloc (.cells #[.string ⟨s0.toArray⟩, .slice a0 n0 c0] T (0, 0))) (.slice (some ⟨w.heap.size, 0, none⟩) 1 1) [(s0, l0)] := by
  subst e0
  have hb := heap_alloc_new w (.cells #[.string ⟨s0.toArray⟩, .slice a0 l0.length c0] T (0, 0))
  have hn := (Nw.refl w).alloc (.cells #[.string ⟨s0.toArray⟩, .slice a0 l0.length c0] T (0, 0))
  generalize w.alloc (.cells #[.string ⟨s0.toArray⟩, .slice a0 l0.length c0] T (0, 0)) = w2 at hb hn ⊢
  refine ⟨_, 1, rfl, by simp, by decide, fun i hi => ?_⟩
  match i, hi with
  | 0, _ => exact ⟨_, 0, a0, c0, rfl, lt_of_block hb, by simp [World.cell?, hb], by simp [World.cell?, hb], h0.nw hn⟩

theorem files_lit2 (w : World) (T : TypeId) {s0 : Str} {l0 : List UInt8} {a0 : Option Addr} {n0 c0 : Nat} (e0 : n0 = l0.length) (h0 : Bs w (.slice a0 n0 c0) l0) {s1 : Str} {l1 : List UInt8} {a1 : Option Addr} {n1 c1 : Nat} (e1 : n1 = l1.length) (h1 : Bs w (.slice a1 n1 c1) l1) :
    FilesAt (w.alloc (.cells #[.string ⟨s0.toArray⟩, .slice a0 n0 c0, .string ⟨s1.toArray⟩, .slice a1 n1 c1] T (0, 0))) (.slice (some ⟨w.heap.size, 0, none⟩) 2 2) [(s0, l0), (s1, l1)] := by
  subst e0
  subst e1
  have hb := heap_alloc_new w (.cells #[.string ⟨s0.toArray⟩, .slice a0 l0.length c0, .string ⟨s1.toArray⟩, .slice a1 l1.length c1] T (0, 0))
  have hn := (Nw.refl w).alloc (.cells #[.string ⟨s0.toArray⟩, .slice a0 l0.length c0, .string ⟨s1.toArray⟩, .slice a1 l1.length c1] T (0, 0))
  generalize w.alloc (.cells #[.string ⟨s0.toArray⟩, .slice a0 l0.length c0, .string ⟨s1.toArray⟩, .slice a1 l1.length c1] T (0, 0)) = w2 at hb hn ⊢
  refine ⟨_, 2, rfl, by simp, by decide, fun i hi => ?_⟩
  match i, hi with
  | 0, _ => exact ⟨_, 0, a0, c0, rfl, lt_of_block hb, by simp [World.cell?, hb], by simp [World.cell?, hb], h0.nw hn⟩
  | 1, _ => exact ⟨_, 0, a1, c1, rfl, lt_of_block hb, by simp [World.cell?, hb], by simp [World.cell?, hb], h1.nw hn⟩

theorem files_lit3 (w : World) (T : TypeId) {s0 : Str} {l0 : List UInt8} {a0 : Option Addr} {n0 c0 : Nat} (e0 : n0 = l0.length) (h0 : Bs w (.slice a0 n0 c0) l0) {s1 : Str} {l1 : List UInt8} {a1 : Option Addr} {n1 c1 : Nat} (e1 : n1 = l1.length) (h1 : Bs w (.slice a1 n1 c1) l1) {s2 : Str} {l2 : List UInt8} {a2 : Option Addr} {n2 c2 : Nat} (e2 : n2 = l2.length) (h2 : Bs w (.slice a2 n2 c2) l2) :
    FilesAt (w.alloc (.cells #[.string ⟨s0.toArray⟩, .slice a0 n0 c0, .string ⟨s1.toArray⟩, .slice a1 n1 c1, .string ⟨s2.toArray⟩, .slice a2 n2 c2] T (0, 0))) (.slice (some ⟨w.heap.size, 0, none⟩) 3 3) [(s0, l0), (s1, l1), (s2, l2)] := by
  subst e0
  subst e1
  subst e2
  have hb := heap_alloc_new w (.cells #[.string ⟨s0.toArray⟩, .slice a0 l0.length c0, .string ⟨s1.toArray⟩, .slice a1 l1.length c1, .string ⟨s2.toArray⟩, .slice a2 l2.length c2] T (0, 0))
  have hn := (Nw.refl w).alloc (.cells #[.string ⟨s0.toArray⟩, .slice a0 l0.length c0, .string ⟨s1.toArray⟩, .slice a1 l1.length c1, .string ⟨s2.toArray⟩, .slice a2 l2.length c2] T (0, 0))
  generalize w.alloc (.cells #[.string ⟨s0.toArray⟩, .slice a0 l0.length c0, .string ⟨s1.toArray⟩, .slice a1 l1.length c1, .string ⟨s2.toArray⟩, .slice a2 l2.length c2] T (0, 0)) = w2 at hb hn ⊢
  refine ⟨_, 3, rfl, by simp, by decide, fun i hi => ?_⟩
  match i, hi with
  | 0, _ => exact ⟨_, 0, a0, c0, rfl, lt_of_block hb, by simp [World.cell?, hb], by simp [World.cell?, hb], h0.nw hn⟩
  | 1, _ => exact ⟨_, 0, a1, c1, rfl, lt_of_block hb, by simp [World.cell?, hb], by simp [World.cell?, hb], h1.nw hn⟩
  | 2, _ => exact ⟨_, 0, a2, c2, rfl, lt_of_block hb, by simp [World.cell?, hb], by simp [World.cell?, hb], h2.nw hn⟩

theorem files_lit5 (w : World) (T : TypeId) {s0 : Str} {l0 : List UInt8} {a0 : Option Addr} {n0 c0 : Nat} (e0 : n0 = l0.length) (h0 : Bs w (.slice a0 n0 c0) l0) {s1 : Str} {l1 : List UInt8} {a1 : Option Addr} {n1 c1 : Nat} (e1 : n1 = l1.length) (h1 : Bs w (.slice a1 n1 c1) l1) {s2 : Str} {l2 : List UInt8} {a2 : Option Addr} {n2 c2 : Nat} (e2 : n2 = l2.length) (h2 : Bs w (.slice a2 n2 c2) l2) {s3 : Str} {l3 : List UInt8} {a3 : Option Addr} {n3 c3 : Nat} (e3 : n3 = l3.length) (h3 : Bs w (.slice a3 n3 c3) l3) {s4 : Str} {l4 : List UInt8} {a4 : Option Addr} {n4 c4 : Nat} (e4 : n4 = l4.length) (h4 : Bs w (.slice a4 n4 c4) l4) :
    FilesAt (w.alloc (.cells #[.string ⟨s0.toArray⟩, .slice a0 n0 c0, .string ⟨s1.toArray⟩, .slice a1 n1 c1, .string ⟨s2.toArray⟩, .slice a2 n2 c2, .string ⟨s3.toArray⟩, .slice a3 n3 c3, .string ⟨s4.toArray⟩, .slice a4 n4 c4] T (0, 0))) (.slice (some ⟨w.heap.size, 0, none⟩) 5 5) [(s0, l0), (s1, l1), (s2, l2), (s3, l3), (s4, l4)] := by
  subst e0
  subst e1
  subst e2
  subst e3
  subst e4
  have hb := heap_alloc_new w (.cells #[.string ⟨s0.toArray⟩, .slice a0 l0.length c0, .string ⟨s1.toArray⟩, .slice a1 l1.length c1, .string ⟨s2.toArray⟩, .slice a2 l2.length c2, .string ⟨s3.toArray⟩, .slice a3 l3.length c3, .string ⟨s4.toArray⟩, .slice a4 l4.length c4] T (0, 0))
  have hn := (Nw.refl w).alloc (.cells #[.string ⟨s0.toArray⟩, .slice a0 l0.length c0, .string ⟨s1.toArray⟩, .slice a1 l1.length c1, .string ⟨s2.toArray⟩, .slice a2 l2.length c2, .string ⟨s3.toArray⟩, .slice a3 l3.length c3, .string ⟨s4.toArray⟩, .slice a4 l4.length c4] T (0, 0))
  generalize w.alloc (.cells #[.string ⟨s0.toArray⟩, .slice a0 l0.length c0, .string ⟨s1.toArray⟩, .slice a1 l1.length c1, .string ⟨s2.toArray⟩, .slice a2 l2.length c2, .string ⟨s3.toArray⟩, .slice a3 l3.length c3, .string ⟨s4.toArray⟩, .slice a4 l4.length c4] T (0, 0)) = w2 at hb hn ⊢
  refine ⟨_, 5, rfl, by simp, by decide, fun i hi => ?_⟩
  match i, hi with
  | 0, _ => exact ⟨_, 0, a0, c0, rfl, lt_of_block hb, by simp [World.cell?, hb], by simp [World.cell?, hb], h0.nw hn⟩
  | 1, _ => exact ⟨_, 0, a1, c1, rfl, lt_of_block hb, by simp [World.cell?, hb], by simp [World.cell?, hb], h1.nw hn⟩
  | 2, _ => exact ⟨_, 0, a2, c2, rfl, lt_of_block hb, by simp [World.cell?, hb], by simp [World.cell?, hb], h2.nw hn⟩
  | 3, _ => exact ⟨_, 0, a3, c3, rfl, lt_of_block hb, by simp [World.cell?, hb], by simp [World.cell?, hb], h3.nw hn⟩
  | 4, _ => exact ⟨_, 0, a4, c4, rfl, lt_of_block hb, by simp [World.cell?, hb], by simp [World.cell?, hb], h4.nw hn⟩

theorem r13 {w5 : World} {g1 o1 c1 c3 c5 c8 c10 c12 : Nat} {a3 a5 a8 a10 a12 : Option Addr} (h9 : Hid (9 = hB.length)) (h5 : Hid (5 = (hB.take 5).length))
    (H1 : Hid (Bs w5 (.slice (some ⟨g1, o1, none⟩) 9 c1) hB)) (H3 : Hid (Bs w5 (.slice a3 zB0.length c3) zB0)) (H5 : Hid (Bs w5 (.slice a5 kB.length c5) kB)) (H8 : Hid (Bs w5 (.slice a8 mB.length c8) mB)) (H10 : Hid (Bs w5 (.slice a10 lB.length c10) lB)) (H12 : Hid (Bs w5 (.slice a12 tB.length c12) tB)) (HT5 : Hid (Bs w5 (.slice (some ⟨g1, o1, none⟩) 5 c1) (hB.take 5))) (HN : Hid (Bs w5 (.slice none 0 0) []))
    (HSL : Hid (∀ W, (Instr.slice 23 (.slice (some ⟨g1, o1, none⟩) 9 c1) none (some (.int .i64 5)) none).run Tryz.prog W = .ok (.slice (some ⟨g1, o1, none⟩) 5 c1) W))
    (NL : Hid (∀ W, Nw w5 W → ∀ i, i < 10 → ∀ v, FilesAt W v (bad i) → Calls Tryz.prog 28 #[v] W fun e w' => e = .returned (.bool true) ∧ Nw W w')) {u0 u2 u4 u6 u7 u9 u11 u13 u14 u15 u16 u17 u18 u19 u20 u21 u22 u23 u24 u25 u26 u27 u28 u29 u30 u31 u32 u33 u34 u35 u36 u37 u38 u39 u40 u41 u42 u43 u44 u45 u46 u47 u48 u49 u50 u51 u52 u53 u54 u55 u56 u57 u58 u59 u60 u61 u62 u63 u64 u65 u66 u67 u68 u69 u70 u71 u72 u73 u74 u75 u76 u77 u78 u79 u80 u81 u82 u83 u84 u85 u86 u87 u88 u89 u90 u91 u92 u93 u94 u95 u96 u97 u98 u99 u100 u101 u102 u103 u104 u105 u106 u107 u108 u109 u110 u111 u112 u113 u114 u115 u116 u117 u118 u119 u120 u121 u122 u123 u124 u125 u126 u127 u128 u129 u130 u131 u132 u133 u134 u135 u136 u137 u138 u139 u140 u141 u142 u143 u144 u145 u146 u147 u148 u149 u150 u151 u152 u153 u154 u155 u156 u157 u158 u159 u160 u161 u162 u163 u164 u165 u166 u167 u168 u169 u170 u171 u172 u173 u174 u175 u176 u177 u178 u179 u180 u181 u182 u183 u184 u185 u186 u187 u188 u189 u190 u191 u192 u193 u194 u195 u196 u197 u198 u199 u200 u201 u202 u203 u204 u205 u206 u207 u208 u209 u210 u211 u212 u213 u214 u215 u216 u217 u218 u219 u220 u221 u222 u223 u224 u225 u226 u227 u228 u229 u230 u231 u232 u233 u234 u235 u236 u237 u238 u239 u240 u241 u242 u243 u244 u245 u246 u247 u248 u249 u250 u251 u252 u253 u254 u255 u256 u257 u258 u259 u260 u261 u262 u263 u264 u265 u266 u267 u268 u269 u270 u271 u272 u273 u274 u275 u276 u277 u278 u279 u280 u281 u282 u283 u284 u285 u286 u287 u288 u289 u290 u291 u292 u293 u294 u295 u296 u297 u298 u299 : Value} {Q : Exit → Act → World → Prop} (hP : PanicOk Q)
    (hQ : ∀ (s151 s152 s153 s154 s155 s156 s157 s158 s159 s160 s161 s162 s163 s164 s165 s166 s167 s168 s169 s170 s171 s172 s173 s174 s175 s176 s177 s178 s179 s180 s181 s182 s183 s184 s185 s186 s187 s188 s189 s190 s191 s192 s193 s194 s195 s196 s197 s198 s199 s200 s201 s202 s203 s204 s205 s206 s207 s208 s209 s210 s211 s212 s213 s214 s215 s216 s217 s218 s219 s220 s221 s222 s223 s224 s225 s226 s227 s228 s229 s230 s231 s232 s233 s234 s235 s236 : Value)  (wx : World), Nw w5 wx → Q .normal ⟨#[u0, .slice (some ⟨g1, o1, none⟩) 9 c1, u2, .slice a3 zB0.length c3, u4, .slice a5 kB.length c5, u6, u7, .slice a8 mB.length c8, u9, .slice a10 lB.length c10, u11, .slice a12 tB.length c12, u13, u14, u15, u16, u17, u18, u19, u20, u21, u22, u23, .bool true, u25, u26, u27, u28, u29, u30, u31, u32, u33, u34, u35, u36, u37, u38, u39, u40, u41, u42, u43, u44, u45, u46, u47, u48, u49, u50, u51, u52, u53, u54, u55, u56, u57, u58, u59, u60, u61, u62, u63, u64, u65, u66, u67, u68, u69, u70, u71, u72, u73, u74, u75, u76, u77, u78, u79, u80, u81, u82, u83, u84, u85, u86, u87, u88, u89, u90, u91, u92, u93, u94, u95, u96, u97, u98, u99, u100, u101, u102, u103, u104, u105, u106, u107, u108, u109, u110, u111, u112, u113, u114, u115, u116, u117, u118, u119, u120, u121, u122, u123, u124, u125, u126, u127, u128, u129, u130, u131, u132, u133, u134, u135, u136, u137, u138, u139, u140, u141, u142, u143, u144, u145, u146, u147, u148, u149, u150, s151, s152, s153, s154, s155, s156, s157, s158, s159, s160, s161, s162, s163, s164, s165, s166, s167, s168, s169, s170, s171, s172, s173, s174, s175, s176, s177, s178, s179, s180, s181, s182, s183, s184, s185, s186, s187, s188, s189, s190, s191, s192, s193, s194, s195, s196, s197, s198, s199, s200, s201, s202, s203, s204, s205, s206, s207, s208, s209, s210, s211, s212, s213, s214, s215, s216, s217, s218, s219, s220, s221, s222, s223, s224, s225, s226, s227, s228, s229, s230, s231, s232, s233, s234, s235, s236, u237, u238, u239, u240, u241, u242, u243, u244, u245, u246, u247, u248, u249, u250, u251, u252, u253, u254, u255, u256, u257, u258, u259, u260, u261, u262, u263, u264, u265, u266, u267, u268, u269, u270, u271, u272, u273, u274, u275, u276, u277, u278, u279, u280, u281, u282, u283, u284, u285, u286, u287, u288, u289, u290, u291, u292, u293, u294, u295, u296, u297, u298, u299], []⟩ wx) :
    Code.wp Tryz.prog ((Tryz.f4.body.bind (regionOf 13)).getD .skip) Q ⟨#[u0, .slice (some ⟨g1, o1, none⟩) 9 c1, u2, .slice a3 zB0.length c3, u4, .slice a5 kB.length c5, u6, u7, .slice a8 mB.length c8, u9, .slice a10 lB.length c10, u11, .slice a12 tB.length c12, u13, u14, u15, u16, u17, u18, u19, u20, u21, u22, u23, u24, u25, u26, u27, u28, u29, u30, u31, u32, u33, u34, u35, u36, u37, u38, u39, u40, u41, u42, u43, u44, u45, u46, u47, u48, u49, u50, u51, u52, u53, u54, u55, u56, u57, u58, u59, u60, u61, u62, u63, u64, u65, u66, u67, u68, u69, u70, u71, u72, u73, u74, u75, u76, u77, u78, u79, u80, u81, u82, u83, u84, u85, u86, u87, u88, u89, u90, u91, u92, u93, u94, u95, u96, u97, u98, u99, u100, u101, u102, u103, u104, u105, u106, u107, u108, u109, u110, u111, u112, u113, u114, u115, u116, u117, u118, u119, u120, u121, u122, u123, u124, u125, u126, u127, u128, u129, u130, u131, u132, u133, u134, u135, u136, u137, u138, u139, u140, u141, u142, u143, u144, u145, u146, u147, u148, u149, u150, u151, u152, u153, u154, u155, u156, u157, u158, u159, u160, u161, u162, u163, u164, u165, u166, u167, u168, u169, u170, u171, u172, u173, u174, u175, u176, u177, u178, u179, u180, u181, u182, u183, u184, u185, u186, u187, u188, u189, u190, u191, u192, u193, u194, u195, u196, u197, u198, u199, u200, u201, u202, u203, u204, u205, u206, u207, u208, u209, u210, u211, u212, u213, u214, u215, u216, u217, u218, u219, u220, u221, u222, u223, u224, u225, u226, u227, u228, u229, u230, u231, u232, u233, u234, u235, u236, u237, u238, u239, u240, u241, u242, u243, u244, u245, u246, u247, u248, u249, u250, u251, u252, u253, u254, u255, u256, u257, u258, u259, u260, u261, u262, u263, u264, u265, u266, u267, u268, u269, u270, u271, u272, u273, u274, u275, u276, u277, u278, u279, u280, u281, u282, u283, u284, u285, u286, u287, u288, u289, u290, u291, u292, u293, u294, u295, u296, u297, u298, u299], []⟩ w5 := by
  have _hP := hP
  dsimp only at hQ ⊢
  conv => arg 2; whnf
  have HQ := Lib.hid hQ
  clear hQ
  have N0 : Nw w5 w5 := Nw.refl w5
  have hsl := HSL.out
  go_wp2_with fail
  refine (NL.out _ (N0.alloc _) 0 (by decide) _ (files_lit1 _ _ rfl (HN.out.nw N0))).mono ?_
  rintro e y1 ⟨rfl, n1⟩
  have N1 : Nw w5 y1 := (N0.alloc _).trans n1
  clear n1 N0
  go_wp2_with fail
  refine (NL.out _ (N1.alloc _) 1 (by decide) _ (files_lit1 _ _ rfl (H8.out.nw N1))).mono ?_
  rintro e y2 ⟨rfl, n1⟩
  have N2 : Nw w5 y2 := (N1.alloc _).trans n1
  clear n1 N1
  go_wp2_with fail
  refine (NL.out _ (N2.alloc _) 2 (by decide) _ (files_lit2 _ _ rfl (H8.out.nw N2) rfl (H5.out.nw N2))).mono ?_
  rintro e y3 ⟨rfl, n1⟩
  have N3 : Nw w5 y3 := (N2.alloc _).trans n1
  clear n1 N2
  go_wp2_with fail
  refine (NL.out _ (N3.alloc _) 3 (by decide) _ (files_lit2 _ _ rfl (H8.out.nw N3) h9.out (H1.out.nw N3))).mono ?_
  rintro e y4 ⟨rfl, n1⟩
  have N4 : Nw w5 y4 := (N3.alloc _).trans n1
  clear n1 N3
  go_wp2_with fail
  refine (NL.out _ (N4.alloc _) 4 (by decide) _ (files_lit3 _ _ rfl (H8.out.nw N4) rfl (H5.out.nw N4) rfl (H3.out.nw N4))).mono ?_
  rintro e y5 ⟨rfl, n1⟩
  have N5 : Nw w5 y5 := (N4.alloc _).trans n1
  clear n1 N4
  go_wp2_with fail
  refine (NL.out _ (N5.alloc _) 5 (by decide) _ (files_lit3 _ _ rfl (H8.out.nw N5) rfl (H3.out.nw N5) h9.out (H1.out.nw N5))).mono ?_
  rintro e y6 ⟨rfl, n1⟩
  have N6 : Nw w5 y6 := (N5.alloc _).trans n1
  clear n1 N5
  go_wp2_with fail
  refine (NL.out _ (N6.alloc _) 6 (by decide) _ (files_lit3 _ _ rfl (H10.out.nw N6) rfl (H5.out.nw N6) h9.out (H1.out.nw N6))).mono ?_
  rintro e y7 ⟨rfl, n1⟩
  have N7 : Nw w5 y7 := (N6.alloc _).trans n1
  clear n1 N6
  go_wp2_with fail
  refine (NL.out _ (N7.alloc _) 7 (by decide) _ (files_lit3 _ _ rfl (H10.out.nw N7) rfl (H3.out.nw N7) h9.out (H1.out.nw N7))).mono ?_
  rintro e y8 ⟨rfl, n1⟩
  have N8 : Nw w5 y8 := (N7.alloc _).trans n1
  clear n1 N7
  go_wp2_with fail
  refine (NL.out _ (N8.alloc _) 8 (by decide) _ (files_lit3 _ _ rfl (H12.out.nw N8) rfl (H5.out.nw N8) h9.out (H1.out.nw N8))).mono ?_
  rintro e y9 ⟨rfl, n1⟩
  have N9 : Nw w5 y9 := (N8.alloc _).trans n1
  clear n1 N8
  go_wp2_with fail
  refine (NL.out _ (N9.alloc _) 9 (by decide) _ (files_lit3 _ _ rfl (H8.out.nw N9) rfl (H5.out.nw N9) h5.out (HT5.out.nw N9))).mono ?_
  rintro e y10 ⟨rfl, n1⟩
  have N10 : Nw w5 y10 := (N9.alloc _).trans n1
  clear n1 N9
  go_wp2
  exact HQ.out _ _ _ _ _ _ _ _ _ _ _ _ _ _ _ _ _ _ _ _ _ _ _ _ _ _ _ _ _ _ _ _ _ _ _ _ _ _ _ _ _ _ _ _ _ _ _ _ _ _ _ _ _ _ _ _ _ _ _ _ _ _ _ _ _ _ _ _ _ _ _ _ _ _ _ _ _ _ _ _ _ _ _ _ _ _  _ N10
end Go.Proofs.YtkhcdbafcigeoaaGreatDoor.RecoverNumbers
