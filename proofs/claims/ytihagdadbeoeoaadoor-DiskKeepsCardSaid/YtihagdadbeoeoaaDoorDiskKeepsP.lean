/-
  amanuensislaw02.DiskKeeps: the pieces of a round, each walked in a theorem of its own.
-/
import Derived.Test.YtihagdadbeoeoaaDoorKeepsMem
import Derived.Test.YtihagdadbeoeoaaDoorStp
import Derived.Test.YtihagdadbeoeoaaDoorPiece
import Derived.Deep.DeepCutAuto
namespace Go.Proofs.YtihagdadbeoeoaaDoor.DiskKeeps
open Go Go.RowKit Go.Sort
set_option maxRecDepth 100000
set_option maxHeartbeats 3200000

def St (w : World) (q p8 p9 p10 a B : Nat) (wr : World) : Prop := ∃ V A s t d, KMem w wr q p8 p9 p10 a V A s t d ∧ Inv d A s t B
/-- What came of an operation that is asked, or not. -/
structure Got (d : Dsk) (r : Dsk × Int) (d' : Dsk) (x : Bool) : Prop where
  files : x = false → d'.files = d.files
  yes : x = true → r = (d', 0)
theorem Got.no {d d' : Dsk} {r : Dsk × Int} (h : d' = d) : Got d r d' false := ⟨fun _ => by rw [h], (fun h => by cases h)⟩
theorem Got.op {d d' : Dsk} {x : Int} {may : Int} {act : List (Str × DFile) → List (Str × DFile)} (h : d.op may act = (d', x)) : Got d (d.op may act) d' (x == 0) := by
  refine ⟨fun hx => ?_, fun hx => ?_⟩
  · rcases op_files h with ⟨rfl, -⟩ | ⟨-, hf⟩
    · exact absurd hx (by decide)
    · exact hf
  · obtain rfl : x = 0 := by simpa using hx
    exact h
theorem u8s_one (l : List UInt8) : ∀ u ∈ l.map u8, u.oneCell' = true := by
  intro u hu
  obtain ⟨c, -, rfl⟩ := List.mem_map.1 hu
  rfl

theorem p16 {w wc : World} {q p8 p9 p10 a : Nat} {V : Nat → Value} {A : Nat → List UInt8} {s : Nat → Nat} {t : Nat → Bool} {d : Dsk} {B : Nat} (HMM : Hid (KMem w wc q p8 p9 p10 a V A s t d)) (HIV : Hid (Inv d A s t B)) {p : List UInt8} {g o nps cap n : Nat} {ba : Option Addr} {bc : Nat} (hn4 : n < nps) (hcap : nps ≤ cap) (hp : p.length ≤ 100) (HBS : Hid (Bs w (.slice ba p.length bc) p)) (HC0 : Hid (w.cell? ⟨g, o + n, none⟩ = some (.slice ba p.length bc))) {k : Nat} (hk3 : k < 3)  {u1 u2 u3 u4 u7 u8 u9 u10 u12 u14 u15 u16 u17 u18 u19 u20 u21 u22 u23 u24 u25 u26 u27 u28 u29 u30 u31 u32 u33 u34 u35 u36 u37 u38 u39 u40 u41 u42 u43 u44 u45 u46 u47 u48 u49 u50 u51 u52 u53 u54 u55 u56 u57 u58 u59 u60 u61 u62 u63 u64 u65 u66 u67 u68 u69 u70 u71 u72 u73 u74 u75 u76 u77 u78 u79 u80 u81 u82 u83 u84 u85 u86 u87 u88 u89 u90 u91 u92 u93 u94 u95 u96 u97 u98 u99 u100 u101 u102 u103 u104 u105 u106 u107 u108 u109 u110 u111 u112 u113 u114 u115 u116 u117 u118 u119 u120 u121 u122 u123 u124 u125 u126 u127 u128 u129 u130 u131 u132 u133 u134 u135 u136 u137 u138 u139 u140 u141 u142 u143 u144 u145 u146 u147 u148 u149 u150 u151 u152 u153 u154 u155 u156 u157 u158 u159 u160 u161 u162 u163 u164 u165 u166 u167 u168 u169 u170 u171 u172 u173 u174 u175 u176 u177 u178 u179 u180 u181 u182 u183 u184 u185 u186 u187 u188 u189 u190 u191 u192 u193 u194 u195 u196 u197 u198 u199 u200 u201 u202 u203 u204 u205 u206 u207 u208 u209 u210 u211 u212 u213 u214 u215 u216 u217 u218 u219 u220 u221 u222 u223 u224 u225 u226 u227 u228 u229 u230 u231 u232 u233 u234 u235 : Value} {Q : Exit → Act → World → Prop} (hP : PanicOk Q)
    (hQ : ∀ (s66 s67 s68 s69 s70 s71 s72 s73 s74 s75 : Value) (d' : Dsk) (x : Int) (wx : World), d.append (nm k) p = (d', x) → KMem w wx q p8 p9 p10 a V A s t d' → Q .normal ⟨#[.slice (some ⟨g, o, none⟩) nps cap, u1, u2, u3, u4, .slice (some ⟨q, 0, none⟩) 3 3, .pointer (some ⟨a, 0, none⟩), u7, u8, u9, u10, .int .i64 n, u12, .int .i64 k, u14, u15, u16, u17, u18, u19, u20, u21, u22, u23, u24, u25, u26, u27, u28, u29, u30, u31, u32, u33, u34, u35, u36, u37, u38, u39, u40, u41, u42, u43, u44, u45, u46, u47, u48, u49, u50, u51, u52, u53, u54, u55, u56, u57, u58, u59, u60, u61, u62, u63, u64, u65, s66, s67, s68, s69, s70, s71, s72, s73, s74, s75, .bool (x == 0), u77, u78, u79, u80, u81, u82, u83, u84, u85, u86, u87, u88, u89, u90, u91, u92, u93, u94, u95, u96, u97, u98, u99, u100, u101, u102, u103, u104, u105, u106, u107, u108, u109, u110, u111, u112, u113, u114, u115, u116, u117, u118, u119, u120, u121, u122, u123, u124, u125, u126, u127, u128, u129, u130, u131, u132, u133, u134, u135, u136, u137, u138, u139, u140, u141, u142, u143, u144, u145, u146, u147, u148, u149, u150, u151, u152, u153, u154, u155, u156, u157, u158, u159, u160, u161, u162, u163, u164, u165, u166, u167, u168, u169, u170, u171, u172, u173, u174, u175, u176, u177, u178, u179, u180, u181, u182, u183, u184, u185, u186, u187, u188, u189, u190, u191, u192, u193, u194, u195, u196, u197, u198, u199, u200, u201, u202, u203, u204, u205, u206, u207, u208, u209, u210, u211, u212, u213, u214, u215, u216, u217, u218, u219, u220, u221, u222, u223, u224, u225, u226, u227, u228, u229, u230, u231, u232, u233, u234, u235], []⟩ wx) :
    Code.wp Tryd.prog ((Tryd.f3.body.bind (regionOf 16)).getD .skip) Q ⟨#[.slice (some ⟨g, o, none⟩) nps cap, u1, u2, u3, u4, .slice (some ⟨q, 0, none⟩) 3 3, .pointer (some ⟨a, 0, none⟩), u7, u8, u9, u10, .int .i64 n, u12, .int .i64 k, u14, u15, u16, u17, u18, u19, u20, u21, u22, u23, u24, u25, u26, u27, u28, u29, u30, u31, u32, u33, u34, u35, u36, u37, u38, u39, u40, u41, u42, u43, u44, u45, u46, u47, u48, u49, u50, u51, u52, u53, u54, u55, u56, u57, u58, u59, u60, u61, u62, u63, u64, u65, u66, u67, u68, u69, u70, u71, u72, u73, u74, u75, u76, u77, u78, u79, u80, u81, u82, u83, u84, u85, u86, u87, u88, u89, u90, u91, u92, u93, u94, u95, u96, u97, u98, u99, u100, u101, u102, u103, u104, u105, u106, u107, u108, u109, u110, u111, u112, u113, u114, u115, u116, u117, u118, u119, u120, u121, u122, u123, u124, u125, u126, u127, u128, u129, u130, u131, u132, u133, u134, u135, u136, u137, u138, u139, u140, u141, u142, u143, u144, u145, u146, u147, u148, u149, u150, u151, u152, u153, u154, u155, u156, u157, u158, u159, u160, u161, u162, u163, u164, u165, u166, u167, u168, u169, u170, u171, u172, u173, u174, u175, u176, u177, u178, u179, u180, u181, u182, u183, u184, u185, u186, u187, u188, u189, u190, u191, u192, u193, u194, u195, u196, u197, u198, u199, u200, u201, u202, u203, u204, u205, u206, u207, u208, u209, u210, u211, u212, u213, u214, u215, u216, u217, u218, u219, u220, u221, u222, u223, u224, u225, u226, u227, u228, u229, u230, u231, u232, u233, u234, u235], []⟩ wc := by
  dsimp only at hQ ⊢
  conv => arg 2; whnf
  have hk0 : (0 : Int) ≤ (k : Int) := by omega
  have hk1 : (k : Int) < 3 := by omega
  have hn0 : (0 : Int) ≤ (n : Int) := by omega
  have hn4 : (n : Int) < (nps : Int) := by omega
  refine wp_region_steps 10 [.rd 0, .rd 1, .rd 2, .rd 3, .rd 4, .rd 5, .rd 6, .rd 7, .rd 8, .dn 9] [10] (fun x => x.cell? ⟨q, k, none⟩ = some (.string ⟨(nm k).toArray⟩) ∧ x.cell? ⟨g, o + n, none⟩ = some (.slice ba p.length bc)) (by kernel_rfl) (by kernel_rfl) hP ⟨HMM.out.name hk3, HMM.out.has.base.cell HC0.out⟩ ?_
  refine stp_to (.pointer (some ⟨a, 0, none⟩)) rfl rfl rfl (fun x hx => by go_simp) (fun K hK => ?_); go_simp; refine hK _ ?_; clear hK K
  refine stp_to (.slice (some ⟨q, 0, none⟩) 3 3) rfl rfl rfl (fun x hx => by go_simp) (fun K hK => ?_); go_simp; refine hK _ ?_; clear hK K
  refine stp_to (.int .i64 k) rfl rfl rfl (fun x hx => by go_simp) (fun K hK => ?_); go_simp; refine hK _ ?_; clear hK K
  refine stp_to (.pointer (some ⟨q, k, none⟩)) rfl rfl rfl (fun x hx => by go_simp) (fun K hK => ?_); go_simp; refine hK _ ?_; clear hK K
  refine stp_to (.string ⟨(nm k).toArray⟩) rfl rfl rfl (fun x hx => by obtain ⟨e1, e2⟩ := hx; go_simp) (fun K hK => ?_); go_simp; refine hK _ ?_; clear hK K
  refine stp_to (.slice (some ⟨g, o, none⟩) nps cap) rfl rfl rfl (fun x hx => by go_simp) (fun K hK => ?_); go_simp; refine hK _ ?_; clear hK K
  refine stp_to (.int .i64 n) rfl rfl rfl (fun x hx => by go_simp) (fun K hK => ?_); go_simp; refine hK _ ?_; clear hK K
  refine stp_to (.pointer (some ⟨g, o + n, none⟩)) rfl rfl rfl (fun x hx => by go_simp) (fun K hK => ?_); go_simp; refine hK _ ?_; clear hK K
  refine stp_to (.slice ba p.length bc) rfl rfl rfl (fun x hx => by obtain ⟨e1, e2⟩ := hx; go_simp) (fun K hK => ?_); go_simp; refine hK _ ?_; clear hK K
  refine stp_dn rfl (fun K hK => ?_)
  go_wp2_with fail
  obtain ⟨d', x, hr⟩ : ∃ d' x, d.append (nm k) p = (d', x) := ⟨_, _, rfl⟩
  have M2 := Lib.hid (HMM.out.nw ((Nw.refl wc).drew))
  refine (M2.out.has.append (nm k) p _ (HBS.out.nw M2.out.has.base) (fun hne g hg => .inr (HBS.out.lt hne g hg)) (nm_len k) (by omega) hr).mono ?_
  have HR := Lib.hid hr
  clear hr
  rintro e w3 ⟨rfl, H3, K3⟩
  have M3 := Lib.hid (M2.out.did H3 K3)
  clear H3 K3
  have HQ := Lib.hid hQ
  clear hQ
  go_wp2
  refine hK _ _ ⟨M3.out.name hk3, M3.out.has.base.cell HC0.out⟩ ?_; clear hK K
  refine wpSteps_nil ?_
  refine stp_do rfl (by decide) (fun K hK => ?_)
  go_wp2
  (try (refine hK _ _ ?_; clear hK K))
  refine wpNums_nil ?_
  refine HQ.out _ _ _ _ _ _ _ _ _ _ d' x _ HR.out M3.out

theorem p76 {w wc : World} {q p8 p9 p10 a : Nat} {V : Nat → Value} {A : Nat → List UInt8} {s : Nat → Nat} {t : Nat → Bool} {d d2 : Dsk} {x2 : Int} {B : Nat} (HM2 : Hid (KMem w wc q p8 p9 p10 a V A s t d2)) (HIV : Hid (Inv d A s t B)) {p : List UInt8} {g o nps cap n : Nat} {ba : Option Addr} {bc : Nat} (hn4 : n < nps) (hcap : nps ≤ cap) (hp : p.length ≤ 100) (HBS : Hid (Bs w (.slice ba p.length bc) p)) (HC0 : Hid (w.cell? ⟨g, o + n, none⟩ = some (.slice ba p.length bc))) {k : Nat} (hk3 : k < 3) {i0 : TypeInfo} (HI : Hid (Tryd.prog.info? 5 = some i0)) (HZ0 : Hid (i0.zero = some (.int .u8 0))) (HZ1 : Hid (i0.size = 1)) (HZ2 : Hid (i0.bytes = 1)) (HR2 : Hid (d.append (nm k) p = (d2, x2))) {xb : Bool} (hxb : xb = (x2 == 0)) (hB : B + 100 ≤ 4000)  {u1 u2 u3 u4 u5 u6 u7 u9 u12 u14 u15 u16 u17 u18 u19 u20 u21 u22 u23 u24 u25 u26 u27 u28 u29 u30 u31 u32 u33 u34 u35 u36 u37 u38 u39 u40 u41 u42 u43 u44 u45 u46 u47 u48 u49 u50 u51 u52 u53 u54 u55 u56 u57 u58 u59 u60 u61 u62 u63 u64 u65 u66 u67 u68 u69 u70 u71 u72 u73 u74 u75 u77 u78 u79 u80 u81 u82 u83 u84 u85 u86 u87 u88 u89 u90 u91 u92 u93 u94 u95 u96 u97 u98 u99 u100 u101 u102 u103 u104 u105 u106 u107 u108 u109 u110 u111 u112 u113 u114 u115 u116 u117 u118 u119 u120 u121 u122 u123 u124 u125 u126 u127 u128 u129 u130 u131 u132 u133 u134 u135 u136 u137 u138 u139 u140 u141 u142 u143 u144 u145 u146 u147 u148 u149 u150 u151 u152 u153 u154 u155 u156 u157 u158 u159 u160 u161 u162 u163 u164 u165 u166 u167 u168 u169 u170 u171 u172 u173 u174 u175 u176 u177 u178 u179 u180 u181 u182 u183 u184 u185 u186 u187 u188 u189 u190 u191 u192 u193 u194 u195 u196 u197 u198 u199 u200 u201 u202 u203 u204 u205 u206 u207 u208 u209 u210 u211 u212 u213 u214 u215 u216 u217 u218 u219 u220 u221 u222 u223 u224 u225 u226 u227 u228 u229 u230 u231 u232 u233 u234 u235 : Value} {Q : Exit → Act → World → Prop} (hP : PanicOk Q)
    (hQ : ∀ (s77 s78 s79 s80 s81 s82 s83 s84 s85 s86 s87 s88 s89 : Value)  (wx : World), St w q p8 p9 p10 a (B + 100) wx → Q .normal ⟨#[.slice (some ⟨g, o, none⟩) nps cap, u1, u2, u3, u4, u5, u6, u7, .pointer (some ⟨p8, 0, none⟩), u9, .pointer (some ⟨p10, 0, none⟩), .int .i64 n, u12, .int .i64 k, u14, u15, u16, u17, u18, u19, u20, u21, u22, u23, u24, u25, u26, u27, u28, u29, u30, u31, u32, u33, u34, u35, u36, u37, u38, u39, u40, u41, u42, u43, u44, u45, u46, u47, u48, u49, u50, u51, u52, u53, u54, u55, u56, u57, u58, u59, u60, u61, u62, u63, u64, u65, u66, u67, u68, u69, u70, u71, u72, u73, u74, u75, .bool xb, s77, s78, s79, s80, s81, s82, s83, s84, s85, s86, s87, s88, s89, u90, u91, u92, u93, u94, u95, u96, u97, u98, u99, u100, u101, u102, u103, u104, u105, u106, u107, u108, u109, u110, u111, u112, u113, u114, u115, u116, u117, u118, u119, u120, u121, u122, u123, u124, u125, u126, u127, u128, u129, u130, u131, u132, u133, u134, u135, u136, u137, u138, u139, u140, u141, u142, u143, u144, u145, u146, u147, u148, u149, u150, u151, u152, u153, u154, u155, u156, u157, u158, u159, u160, u161, u162, u163, u164, u165, u166, u167, u168, u169, u170, u171, u172, u173, u174, u175, u176, u177, u178, u179, u180, u181, u182, u183, u184, u185, u186, u187, u188, u189, u190, u191, u192, u193, u194, u195, u196, u197, u198, u199, u200, u201, u202, u203, u204, u205, u206, u207, u208, u209, u210, u211, u212, u213, u214, u215, u216, u217, u218, u219, u220, u221, u222, u223, u224, u225, u226, u227, u228, u229, u230, u231, u232, u233, u234, u235], []⟩ wx) :
    Code.wp Tryd.prog ((Tryd.f3.body.bind (condOf 76)).getD .skip) Q ⟨#[.slice (some ⟨g, o, none⟩) nps cap, u1, u2, u3, u4, u5, u6, u7, .pointer (some ⟨p8, 0, none⟩), u9, .pointer (some ⟨p10, 0, none⟩), .int .i64 n, u12, .int .i64 k, u14, u15, u16, u17, u18, u19, u20, u21, u22, u23, u24, u25, u26, u27, u28, u29, u30, u31, u32, u33, u34, u35, u36, u37, u38, u39, u40, u41, u42, u43, u44, u45, u46, u47, u48, u49, u50, u51, u52, u53, u54, u55, u56, u57, u58, u59, u60, u61, u62, u63, u64, u65, u66, u67, u68, u69, u70, u71, u72, u73, u74, u75, .bool xb, u77, u78, u79, u80, u81, u82, u83, u84, u85, u86, u87, u88, u89, u90, u91, u92, u93, u94, u95, u96, u97, u98, u99, u100, u101, u102, u103, u104, u105, u106, u107, u108, u109, u110, u111, u112, u113, u114, u115, u116, u117, u118, u119, u120, u121, u122, u123, u124, u125, u126, u127, u128, u129, u130, u131, u132, u133, u134, u135, u136, u137, u138, u139, u140, u141, u142, u143, u144, u145, u146, u147, u148, u149, u150, u151, u152, u153, u154, u155, u156, u157, u158, u159, u160, u161, u162, u163, u164, u165, u166, u167, u168, u169, u170, u171, u172, u173, u174, u175, u176, u177, u178, u179, u180, u181, u182, u183, u184, u185, u186, u187, u188, u189, u190, u191, u192, u193, u194, u195, u196, u197, u198, u199, u200, u201, u202, u203, u204, u205, u206, u207, u208, u209, u210, u211, u212, u213, u214, u215, u216, u217, u218, u219, u220, u221, u222, u223, u224, u225, u226, u227, u228, u229, u230, u231, u232, u233, u234, u235], []⟩ wc := by
  dsimp only at hQ ⊢
  conv => arg 2; whnf
  have HQ := Lib.hid hQ
  clear hQ
  have hk0 : (0 : Int) ≤ (k : Int) := by omega
  have hk1 : (k : Int) < 3 := by omega
  have hn0 : (0 : Int) ≤ (n : Int) := by omega
  have hn4 : (n : Int) < (nps : Int) := by omega
  by_cases hx : x2 = 0
  · subst hx
    obtain rfl : xb = true := by simpa using hxb
    clear hxb
    have MK := HM2.out
    have ck := MK.all hk3
    have cp := MK.has.base.cell HC0.out
    obtain ⟨ka, kc, hvk, -⟩ := (MK.bs k hk3).len
    have BK := Lib.hid (MK.bs k hk3)
    have HAK := Lib.hid (HIV.out.len k hk3)
    have HVK := Lib.hid hvk
    rw [hvk] at ck BK
    go_upto_region 17 with fail
    refine wp_region_steps 10 [.rd 0, .rd 1, .rd 2, .rd 3, .rd 5, .rd 6, .rd 7, .rd 8, .dn 4, .dn 9] [10, 11] (fun x => x.cell? ⟨p8, k, none⟩ = some (.slice ka (A k).length kc) ∧ x.cell? ⟨g, o + n, none⟩ = some (.slice ba p.length bc)) (by kernel_rfl) (by kernel_rfl) hP ⟨ck, cp⟩ ?_
    clear hvk MK ck cp
    refine stp_to (.int .i64 k) rfl rfl rfl (fun x hx => by go_simp) (fun K hK => ?_); go_simp; refine hK _ ?_; clear hK K
    refine stp_to (.int .i64 k) rfl rfl rfl (fun x hx => by go_simp) (fun K hK => ?_); go_simp; refine hK _ ?_; clear hK K
    refine stp_to (.pointer (some ⟨p8, k, none⟩)) rfl rfl rfl (fun x hx => by go_simp) (fun K hK => ?_); go_simp; refine hK _ ?_; clear hK K
    refine stp_to (.slice ka (A k).length kc) rfl rfl rfl (fun x hx => by obtain ⟨e1, e2⟩ := hx; go_simp) (fun K hK => ?_); go_simp; refine hK _ ?_; clear hK K
    refine stp_to (.slice (some ⟨g, o, none⟩) nps cap) rfl rfl rfl (fun x hx => by go_simp) (fun K hK => ?_); go_simp; refine hK _ ?_; clear hK K
    refine stp_to (.int .i64 n) rfl rfl rfl (fun x hx => by go_simp) (fun K hK => ?_); go_simp; refine hK _ ?_; clear hK K
    refine stp_to (.pointer (some ⟨g, o + n, none⟩)) rfl rfl rfl (fun x hx => by go_simp) (fun K hK => ?_); go_simp; refine hK _ ?_; clear hK K
    refine stp_to (.slice ba p.length bc) rfl rfl rfl (fun x hx => by obtain ⟨e1, e2⟩ := hx; go_simp) (fun K hK => ?_); go_simp; refine hK _ ?_; clear hK K
    refine stp_dn rfl (fun K hK => ?_)
    go_wp2_with fail
    have M3 := Lib.hid (HM2.out.nw ((Nw.refl wc).drew))
    refine (CopyBytes_ok (BK.out.nw ((Nw.refl wc).drew)) (by have := HAK.out; omega)).mono ?_
    rintro e w3 ⟨v3, rfl, hv3, n3, f3⟩
    have V3 := Lib.hid hv3
    have N3 := Lib.hid n3
    have F3 := Lib.hid f3
    have HP3 := Lib.hid (HBS.out.nw ((M3.out.nw n3).has.base))
    have ck := (M3.out.nw n3).all hk3
    have cp := (M3.out.nw n3).has.base.cell HC0.out
    clear hv3 n3 f3
    go_wp2
    refine hK _ _ ⟨?_, cp⟩ ?_
    · rw [HVK.out] at ck; exact ck
    clear hK K ck cp
    refine stp_dn rfl (fun K hK => ?_)
    refine (wpList_append_vec rfl _ _ 29 rfl 5 i0 (.int .u8 0) 1 1 Tryd.underlying29 HI.out HZ0.out HZ1.out HZ2.out rfl (by decide) rfl rfl V3.out (SrcV.of_rd HP3.out) (u8s_one _) ?c1 ?c2 ?_)
    case c1 => have := HAK.out; simp [maxLen]; omega
    case c2 => have := HAK.out; simp; omega
    intro v4 w4 hv4 ho4 hf4
    obtain ⟨a4, c4, rfl, -, -⟩ := hv4.len
    have ho5 : Nw wc.drew w4 := N3.out.trans' ho4 (fun b hb hs => by have := F3.out b hs; omega)
    have F4 : Hid (∀ g, (Value.slice a4 ((A k).length + p.length) c4).ownBlock = some g → wc.drew.heap.size ≤ g) := Lib.hid (fun g hg => by
      rcases hf4 with h | h
      · exact F3.out g (h ▸ hg)
      · exact Nat.le_trans N3.out.size (h g hg))
    have B4 : Hid (Bs w4 (.slice a4 ((A k).length + p.length) c4) (A k ++ p)) := Lib.hid (Vec.rd (f := u8) (by rw [List.length_append, List.map_append]; exact hv4))
    have N4 := Lib.hid ho5
    have M4 := Lib.hid (M3.out.nw ho5)
    clear hv4 ho4 hf4 ho5
    have ck := M4.out.all hk3
    have cp := M4.out.has.base.cell HC0.out
    rw [HVK.out] at ck
    refine hK _ _ ⟨ck, cp⟩ ?_
    clear hK K cp
    refine wpSteps_nil ?_
    refine stp_do rfl (by decide) (fun K hK => ?_)
    go_wp2
    (try (refine hK _ _ ?_; clear hK K))
    refine stp_do rfl (by decide) (fun K hK => ?_)
    obtain ⟨fz, -, -⟩ := M4.out.free k
    go_wp2
    (try (refine hK _ _ ?_; clear hK K))
    refine wpNums_nil ?_
    have M5 := Lib.hid (M3.out.setAll hk3 N4.out B4.out (fun hne g hg => ⟨by have := F4.out g hg; have := lt_of_block M3.out.h10; omega, .inr (F4.out g hg)⟩))
    clear ck fz
    generalize w4.setCell ⟨p8, k, none⟩ (.slice a4 ((A k).length + p.length) c4) = w5 at M5 ⊢
    obtain ⟨-, -, fz⟩ := M5.out.free k
    have ck := M5.out.there hk3
    go_wp2_with fail
    exact HQ.out _ _ _ _ _ _ _ _ _ _ _ _ _ _ ⟨_, _, _, _, _, M5.out.setThere hk3 true, (HIV.out.append hk3 (by omega) HR2.out)⟩
  · obtain rfl : xb = false := by rw [hxb]; simpa using hx
    clear hxb
    go_wp2_with fail
    refine HQ.out _ _ _ _ _ _ _ _ _ _ _ _ _ _ ?_
    rcases op_files HR2.out with ⟨h0, -⟩ | ⟨-, hf⟩
    · exact absurd h0 hx
    · exact ⟨_, _, _, _, _, HM2.out, (HIV.out.same hf).wide (by omega)⟩

theorem p19 {w wc : World} {q p8 p9 p10 a : Nat} {V : Nat → Value} {A : Nat → List UInt8} {s : Nat → Nat} {t : Nat → Bool} {d : Dsk} {B : Nat} (HMM : Hid (KMem w wc q p8 p9 p10 a V A s t d)) (HIV : Hid (Inv d A s t B)) {k : Nat} (hk3 : k < 3) {m : Nat} (hmlt : m < 1000003)  {u0 u1 u2 u3 u4 u7 u8 u9 u10 u11 u14 u15 u16 u17 u18 u19 u20 u21 u22 u23 u24 u25 u26 u27 u28 u29 u30 u31 u32 u33 u34 u35 u36 u37 u38 u39 u40 u41 u42 u43 u44 u45 u46 u47 u48 u49 u50 u51 u52 u53 u54 u55 u56 u57 u58 u59 u60 u61 u62 u63 u64 u65 u66 u67 u68 u69 u70 u71 u72 u73 u74 u75 u76 u77 u78 u79 u80 u81 u82 u83 u84 u85 u86 u87 u88 u89 u90 u91 u92 u93 u94 u95 u96 u97 u98 u99 u100 u101 u102 u103 u104 u105 u106 u107 u108 u109 u110 u111 u112 u113 u114 u115 u116 u117 u118 u119 u120 u121 u122 u123 u124 u125 u126 u127 u128 u129 u130 u131 u132 u133 u134 u135 u136 u137 u138 u139 u140 u141 u142 u143 u144 u145 u146 u147 u148 u149 u150 u151 u152 u153 u154 u155 u156 u157 u158 u159 u160 u161 u162 u163 u164 u165 u166 u167 u168 u169 u170 u171 u172 u173 u174 u175 u176 u177 u178 u179 u180 u181 u182 u183 u184 u185 u186 u187 u188 u189 u190 u191 u192 u193 u194 u195 u196 u197 u198 u199 u200 u201 u202 u203 u204 u205 u206 u207 u208 u209 u210 u211 u212 u213 u214 u215 u216 u217 u218 u219 u220 u221 u222 u223 u224 u225 u226 u227 u228 u229 u230 u231 u232 u233 u234 u235 : Value} {Q : Exit → Act → World → Prop} (hP : PanicOk Q)
    (hQ : ∀ (s90 s91 s92 s93 s94 s95 s96 s97 s98 s99 s100 s101 : Value) (d' : Dsk) (x : Bool) (wx : World), KMem w wx q p8 p9 p10 a V A s t d' → Got d (d.sync (nm k)) d' x → Q .normal ⟨#[u0, u1, u2, u3, u4, .slice (some ⟨q, 0, none⟩) 3 3, .pointer (some ⟨a, 0, none⟩), u7, u8, u9, u10, u11, .int .i64 m, .int .i64 k, u14, u15, u16, u17, u18, u19, u20, u21, u22, u23, u24, u25, u26, u27, u28, u29, u30, u31, u32, u33, u34, u35, u36, u37, u38, u39, u40, u41, u42, u43, u44, u45, u46, u47, u48, u49, u50, u51, u52, u53, u54, u55, u56, u57, u58, u59, u60, u61, u62, u63, u64, u65, u66, u67, u68, u69, u70, u71, u72, u73, u74, u75, u76, u77, u78, u79, u80, u81, u82, u83, u84, u85, u86, u87, u88, u89, s90, s91, s92, s93, s94, s95, s96, s97, s98, s99, s100, s101, .bool x, u103, u104, u105, u106, u107, u108, u109, u110, u111, u112, u113, u114, u115, u116, u117, u118, u119, u120, u121, u122, u123, u124, u125, u126, u127, u128, u129, u130, u131, u132, u133, u134, u135, u136, u137, u138, u139, u140, u141, u142, u143, u144, u145, u146, u147, u148, u149, u150, u151, u152, u153, u154, u155, u156, u157, u158, u159, u160, u161, u162, u163, u164, u165, u166, u167, u168, u169, u170, u171, u172, u173, u174, u175, u176, u177, u178, u179, u180, u181, u182, u183, u184, u185, u186, u187, u188, u189, u190, u191, u192, u193, u194, u195, u196, u197, u198, u199, u200, u201, u202, u203, u204, u205, u206, u207, u208, u209, u210, u211, u212, u213, u214, u215, u216, u217, u218, u219, u220, u221, u222, u223, u224, u225, u226, u227, u228, u229, u230, u231, u232, u233, u234, u235], []⟩ wx) :
    Code.wp Tryd.prog ((Tryd.f3.body.bind (regionOf 19)).getD .skip) Q ⟨#[u0, u1, u2, u3, u4, .slice (some ⟨q, 0, none⟩) 3 3, .pointer (some ⟨a, 0, none⟩), u7, u8, u9, u10, u11, .int .i64 m, .int .i64 k, u14, u15, u16, u17, u18, u19, u20, u21, u22, u23, u24, u25, u26, u27, u28, u29, u30, u31, u32, u33, u34, u35, u36, u37, u38, u39, u40, u41, u42, u43, u44, u45, u46, u47, u48, u49, u50, u51, u52, u53, u54, u55, u56, u57, u58, u59, u60, u61, u62, u63, u64, u65, u66, u67, u68, u69, u70, u71, u72, u73, u74, u75, u76, u77, u78, u79, u80, u81, u82, u83, u84, u85, u86, u87, u88, u89, u90, u91, u92, u93, u94, u95, u96, u97, u98, u99, u100, u101, u102, u103, u104, u105, u106, u107, u108, u109, u110, u111, u112, u113, u114, u115, u116, u117, u118, u119, u120, u121, u122, u123, u124, u125, u126, u127, u128, u129, u130, u131, u132, u133, u134, u135, u136, u137, u138, u139, u140, u141, u142, u143, u144, u145, u146, u147, u148, u149, u150, u151, u152, u153, u154, u155, u156, u157, u158, u159, u160, u161, u162, u163, u164, u165, u166, u167, u168, u169, u170, u171, u172, u173, u174, u175, u176, u177, u178, u179, u180, u181, u182, u183, u184, u185, u186, u187, u188, u189, u190, u191, u192, u193, u194, u195, u196, u197, u198, u199, u200, u201, u202, u203, u204, u205, u206, u207, u208, u209, u210, u211, u212, u213, u214, u215, u216, u217, u218, u219, u220, u221, u222, u223, u224, u225, u226, u227, u228, u229, u230, u231, u232, u233, u234, u235], []⟩ wc := by
  dsimp only at hQ ⊢
  conv => arg 2; whnf
  have HQ := Lib.hid hQ
  clear hQ
  have hk0 : (0 : Int) ≤ (k : Int) := by omega
  have hk1 : (k : Int) < 3 := by omega
  have ck := HMM.out.name hk3
  by_cases hA : (m : Int) / 9 % 3 = 0
  · have hA' : ((m : Int) / 9 % 3 == 0) = true := by simpa using hA
    clear hA
    go_wp2_with fail
    obtain ⟨d', x, hr⟩ : ∃ d' x, d.sync (nm k) = (d', x) := ⟨_, _, rfl⟩
    have HR := Lib.hid hr
    refine (HMM.out.has.sync (nm k) hr).mono ?_
    clear hr
    rintro e w3 ⟨rfl, H3, K3⟩
    have M3 := Lib.hid (HMM.out.did H3 K3)
    clear H3 K3
    go_wp2_with fail
    exact HQ.out _ _ _ _ _ _ _ _ _ _ _ _ d' _ _ M3.out (Got.op HR.out)
  · have hA' : ((m : Int) / 9 % 3 == 0) = false := by simpa using hA
    clear hA
    go_wp2_with fail
    exact HQ.out _ _ _ _ _ _ _ _ _ _ _ _ d false _ HMM.out (Got.no rfl)

theorem p102 {w wc : World} {q p8 p9 p10 a : Nat} {V : Nat → Value} {A : Nat → List UInt8} {s : Nat → Nat} {t : Nat → Bool} {d d2 : Dsk} {x2 : Bool} {B : Nat} (HM2 : Hid (KMem w wc q p8 p9 p10 a V A s t d2)) (HIV : Hid (Inv d A s t B)) {k : Nat} (hk3 : k < 3) (HR2 : Hid (Got d (d.sync (nm k)) d2 x2))  {u0 u1 u2 u3 u4 u5 u6 u7 u10 u11 u12 u14 u15 u16 u17 u18 u19 u20 u21 u22 u23 u24 u25 u26 u27 u28 u29 u30 u31 u32 u33 u34 u35 u36 u37 u38 u39 u40 u41 u42 u43 u44 u45 u46 u47 u48 u49 u50 u51 u52 u53 u54 u55 u56 u57 u58 u59 u60 u61 u62 u63 u64 u65 u66 u67 u68 u69 u70 u71 u72 u73 u74 u75 u76 u77 u78 u79 u80 u81 u82 u83 u84 u85 u86 u87 u88 u89 u90 u91 u92 u93 u94 u95 u96 u97 u98 u99 u100 u101 u103 u104 u105 u106 u107 u108 u109 u110 u111 u112 u113 u114 u115 u116 u117 u118 u119 u120 u121 u122 u123 u124 u125 u126 u127 u128 u129 u130 u131 u132 u133 u134 u135 u136 u137 u138 u139 u140 u141 u142 u143 u144 u145 u146 u147 u148 u149 u150 u151 u152 u153 u154 u155 u156 u157 u158 u159 u160 u161 u162 u163 u164 u165 u166 u167 u168 u169 u170 u171 u172 u173 u174 u175 u176 u177 u178 u179 u180 u181 u182 u183 u184 u185 u186 u187 u188 u189 u190 u191 u192 u193 u194 u195 u196 u197 u198 u199 u200 u201 u202 u203 u204 u205 u206 u207 u208 u209 u210 u211 u212 u213 u214 u215 u216 u217 u218 u219 u220 u221 u222 u223 u224 u225 u226 u227 u228 u229 u230 u231 u232 u233 u234 u235 : Value} {Q : Exit → Act → World → Prop} (hP : PanicOk Q)
    (hQ : ∀ (s103 s104 s105 s106 s107 s108 : Value)  (wx : World), St w q p8 p9 p10 a B wx → Q .normal ⟨#[u0, u1, u2, u3, u4, u5, u6, u7, .pointer (some ⟨p8, 0, none⟩), .pointer (some ⟨p9, 0, none⟩), u10, u11, u12, .int .i64 k, u14, u15, u16, u17, u18, u19, u20, u21, u22, u23, u24, u25, u26, u27, u28, u29, u30, u31, u32, u33, u34, u35, u36, u37, u38, u39, u40, u41, u42, u43, u44, u45, u46, u47, u48, u49, u50, u51, u52, u53, u54, u55, u56, u57, u58, u59, u60, u61, u62, u63, u64, u65, u66, u67, u68, u69, u70, u71, u72, u73, u74, u75, u76, u77, u78, u79, u80, u81, u82, u83, u84, u85, u86, u87, u88, u89, u90, u91, u92, u93, u94, u95, u96, u97, u98, u99, u100, u101, .bool x2, s103, s104, s105, s106, s107, s108, u109, u110, u111, u112, u113, u114, u115, u116, u117, u118, u119, u120, u121, u122, u123, u124, u125, u126, u127, u128, u129, u130, u131, u132, u133, u134, u135, u136, u137, u138, u139, u140, u141, u142, u143, u144, u145, u146, u147, u148, u149, u150, u151, u152, u153, u154, u155, u156, u157, u158, u159, u160, u161, u162, u163, u164, u165, u166, u167, u168, u169, u170, u171, u172, u173, u174, u175, u176, u177, u178, u179, u180, u181, u182, u183, u184, u185, u186, u187, u188, u189, u190, u191, u192, u193, u194, u195, u196, u197, u198, u199, u200, u201, u202, u203, u204, u205, u206, u207, u208, u209, u210, u211, u212, u213, u214, u215, u216, u217, u218, u219, u220, u221, u222, u223, u224, u225, u226, u227, u228, u229, u230, u231, u232, u233, u234, u235], []⟩ wx) :
    Code.wp Tryd.prog ((Tryd.f3.body.bind (condOf 102)).getD .skip) Q ⟨#[u0, u1, u2, u3, u4, u5, u6, u7, .pointer (some ⟨p8, 0, none⟩), .pointer (some ⟨p9, 0, none⟩), u10, u11, u12, .int .i64 k, u14, u15, u16, u17, u18, u19, u20, u21, u22, u23, u24, u25, u26, u27, u28, u29, u30, u31, u32, u33, u34, u35, u36, u37, u38, u39, u40, u41, u42, u43, u44, u45, u46, u47, u48, u49, u50, u51, u52, u53, u54, u55, u56, u57, u58, u59, u60, u61, u62, u63, u64, u65, u66, u67, u68, u69, u70, u71, u72, u73, u74, u75, u76, u77, u78, u79, u80, u81, u82, u83, u84, u85, u86, u87, u88, u89, u90, u91, u92, u93, u94, u95, u96, u97, u98, u99, u100, u101, .bool x2, u103, u104, u105, u106, u107, u108, u109, u110, u111, u112, u113, u114, u115, u116, u117, u118, u119, u120, u121, u122, u123, u124, u125, u126, u127, u128, u129, u130, u131, u132, u133, u134, u135, u136, u137, u138, u139, u140, u141, u142, u143, u144, u145, u146, u147, u148, u149, u150, u151, u152, u153, u154, u155, u156, u157, u158, u159, u160, u161, u162, u163, u164, u165, u166, u167, u168, u169, u170, u171, u172, u173, u174, u175, u176, u177, u178, u179, u180, u181, u182, u183, u184, u185, u186, u187, u188, u189, u190, u191, u192, u193, u194, u195, u196, u197, u198, u199, u200, u201, u202, u203, u204, u205, u206, u207, u208, u209, u210, u211, u212, u213, u214, u215, u216, u217, u218, u219, u220, u221, u222, u223, u224, u225, u226, u227, u228, u229, u230, u231, u232, u233, u234, u235], []⟩ wc := by
  dsimp only at hQ ⊢
  conv => arg 2; whnf
  have HQ := Lib.hid hQ
  clear hQ
  have hk0 : (0 : Int) ≤ (k : Int) := by omega
  have hk1 : (k : Int) < 3 := by omega
  cases x2
  · go_wp2_with fail
    exact HQ.out _ _ _ _ _ _ _ ⟨_, _, _, _, _, HM2.out, HIV.out.same (HR2.out.files rfl)⟩
  · have MK := HM2.out
    have ck := MK.all hk3
    have cs := MK.sure hk3
    obtain ⟨ka, kc, hvk, -⟩ := (MK.bs k hk3).len
    rw [hvk] at ck
    clear hvk
    obtain ⟨-, fz, -⟩ := MK.free k
    clear MK
    go_wp2_with fail
    exact HQ.out _ _ _ _ _ _ _ ⟨_, _, _, _, _, HM2.out.setSure hk3 (A k).length, HIV.out.sync hk3 (HR2.out.yes rfl)⟩

theorem p21a {w wc : World} {q p8 p9 p10 a : Nat} {V : Nat → Value} {A : Nat → List UInt8} {s : Nat → Nat} {t : Nat → Bool} {d : Dsk} {B : Nat} (HMM : Hid (KMem w wc q p8 p9 p10 a V A s t d)) (HIV : Hid (Inv d A s t B)) {k : Nat} (hk3 : k < 3) {o' : Nat} (ho3 : o' < 3) {m : Nat} (hmlt : m < 1000003) (hA' : ((m : Int) / 27 % 4 == 0) = false)  {u0 u1 u2 u3 u4 u7 u8 u9 u10 u11 u15 u16 u17 u18 u19 u20 u21 u22 u23 u24 u25 u26 u27 u28 u29 u30 u31 u32 u33 u34 u35 u36 u37 u38 u39 u40 u41 u42 u43 u44 u45 u46 u47 u48 u49 u50 u51 u52 u53 u54 u55 u56 u57 u58 u59 u60 u61 u62 u63 u64 u65 u66 u67 u68 u69 u70 u71 u72 u73 u74 u75 u76 u77 u78 u79 u80 u81 u82 u83 u84 u85 u86 u87 u88 u89 u90 u91 u92 u93 u94 u95 u96 u97 u98 u99 u100 u101 u102 u103 u104 u105 u106 u107 u108 u109 u110 u111 u112 u113 u114 u115 u116 u117 u118 u119 u120 u121 u122 u123 u124 u125 u126 u127 u128 u129 u130 u131 u132 u133 u134 u135 u136 u137 u138 u139 u140 u141 u142 u143 u144 u145 u146 u147 u148 u149 u150 u151 u152 u153 u154 u155 u156 u157 u158 u159 u160 u161 u162 u163 u164 u165 u166 u167 u168 u169 u170 u171 u172 u173 u174 u175 u176 u177 u178 u179 u180 u181 u182 u183 u184 u185 u186 u187 u188 u189 u190 u191 u192 u193 u194 u195 u196 u197 u198 u199 u200 u201 u202 u203 u204 u205 u206 u207 u208 u209 u210 u211 u212 u213 u214 u215 u216 u217 u218 u219 u220 u221 u222 u223 u224 u225 u226 u227 u228 u229 u230 u231 u232 u233 u234 u235 : Value} {Q : Exit → Act → World → Prop} (hP : PanicOk Q)
    (hQ : ∀ (s109 s110 s111 s112 s113 s114 s115 s116 s117 s118 s119 s120 s121 s122 s123 s124 s125 s126 s127 s128 s129 : Value) (d' : Dsk) (x : Bool) (wx : World), KMem w wx q p8 p9 p10 a V A s t d' → Got d (d.rename (nm k) (nm o')) d' x → (x = true → o' ≠ k) → Q .normal ⟨#[u0, u1, u2, u3, u4, .slice (some ⟨q, 0, none⟩) 3 3, .pointer (some ⟨a, 0, none⟩), u7, u8, u9, u10, u11, .int .i64 m, .int .i64 k, .int .i64 o', u15, u16, u17, u18, u19, u20, u21, u22, u23, u24, u25, u26, u27, u28, u29, u30, u31, u32, u33, u34, u35, u36, u37, u38, u39, u40, u41, u42, u43, u44, u45, u46, u47, u48, u49, u50, u51, u52, u53, u54, u55, u56, u57, u58, u59, u60, u61, u62, u63, u64, u65, u66, u67, u68, u69, u70, u71, u72, u73, u74, u75, u76, u77, u78, u79, u80, u81, u82, u83, u84, u85, u86, u87, u88, u89, u90, u91, u92, u93, u94, u95, u96, u97, u98, u99, u100, u101, u102, u103, u104, u105, u106, u107, u108, s109, s110, s111, s112, s113, s114, s115, s116, s117, s118, s119, s120, s121, s122, s123, s124, s125, s126, s127, s128, s129, .bool x, u131, u132, u133, u134, u135, u136, u137, u138, u139, u140, u141, u142, u143, u144, u145, u146, u147, u148, u149, u150, u151, u152, u153, u154, u155, u156, u157, u158, u159, u160, u161, u162, u163, u164, u165, u166, u167, u168, u169, u170, u171, u172, u173, u174, u175, u176, u177, u178, u179, u180, u181, u182, u183, u184, u185, u186, u187, u188, u189, u190, u191, u192, u193, u194, u195, u196, u197, u198, u199, u200, u201, u202, u203, u204, u205, u206, u207, u208, u209, u210, u211, u212, u213, u214, u215, u216, u217, u218, u219, u220, u221, u222, u223, u224, u225, u226, u227, u228, u229, u230, u231, u232, u233, u234, u235], []⟩ wx) :
    Code.wp Tryd.prog ((Tryd.f3.body.bind (regionOf 21)).getD .skip) Q ⟨#[u0, u1, u2, u3, u4, .slice (some ⟨q, 0, none⟩) 3 3, .pointer (some ⟨a, 0, none⟩), u7, u8, u9, u10, u11, .int .i64 m, .int .i64 k, .int .i64 o', u15, u16, u17, u18, u19, u20, u21, u22, u23, u24, u25, u26, u27, u28, u29, u30, u31, u32, u33, u34, u35, u36, u37, u38, u39, u40, u41, u42, u43, u44, u45, u46, u47, u48, u49, u50, u51, u52, u53, u54, u55, u56, u57, u58, u59, u60, u61, u62, u63, u64, u65, u66, u67, u68, u69, u70, u71, u72, u73, u74, u75, u76, u77, u78, u79, u80, u81, u82, u83, u84, u85, u86, u87, u88, u89, u90, u91, u92, u93, u94, u95, u96, u97, u98, u99, u100, u101, u102, u103, u104, u105, u106, u107, u108, u109, u110, u111, u112, u113, u114, u115, u116, u117, u118, u119, u120, u121, u122, u123, u124, u125, u126, u127, u128, u129, u130, u131, u132, u133, u134, u135, u136, u137, u138, u139, u140, u141, u142, u143, u144, u145, u146, u147, u148, u149, u150, u151, u152, u153, u154, u155, u156, u157, u158, u159, u160, u161, u162, u163, u164, u165, u166, u167, u168, u169, u170, u171, u172, u173, u174, u175, u176, u177, u178, u179, u180, u181, u182, u183, u184, u185, u186, u187, u188, u189, u190, u191, u192, u193, u194, u195, u196, u197, u198, u199, u200, u201, u202, u203, u204, u205, u206, u207, u208, u209, u210, u211, u212, u213, u214, u215, u216, u217, u218, u219, u220, u221, u222, u223, u224, u225, u226, u227, u228, u229, u230, u231, u232, u233, u234, u235], []⟩ wc := by
  dsimp only at hQ ⊢
  conv => arg 2; whnf
  have HQ := Lib.hid hQ
  clear hQ
  have hk0 : (0 : Int) ≤ (k : Int) := by omega
  have hk1 : (k : Int) < 3 := by omega
  have ho0 : (0 : Int) ≤ (o' : Int) := by omega
  have ho1 : (o' : Int) < 3 := by omega
  have ck := HMM.out.name hk3
  have co := HMM.out.name ho3
  refine wp_region_quiet_below (by kernel_rfl) (by kernel_rfl) ?_
  repeat (first | go_big_quiet_step (fail) | quiet_step (fail))
  refine wpQuiet_nil ?_
  intro w2 hw2
  exact HQ.out _ _ _ _ _ _ _ _ _ _ _ _ _ _ _ _ _ _ _ _ _ d false _ (HMM.out.nw (Nw.of_regrown hw2)) (Got.no rfl) (by simp)

theorem p21b {w wc : World} {q p8 p9 p10 a : Nat} {V : Nat → Value} {A : Nat → List UInt8} {s : Nat → Nat} {t : Nat → Bool} {d : Dsk} {B : Nat} (HMM : Hid (KMem w wc q p8 p9 p10 a V A s t d)) (HIV : Hid (Inv d A s t B)) {k : Nat} (hk3 : k < 3) {o' : Nat} (ho3 : o' < 3) {m : Nat} (hmlt : m < 1000003) (hA' : ((m : Int) / 27 % 4 == 0) = true) (hB' : ((o' : Int) != (k : Int)) = false)  {u0 u1 u2 u3 u4 u7 u8 u9 u10 u11 u15 u16 u17 u18 u19 u20 u21 u22 u23 u24 u25 u26 u27 u28 u29 u30 u31 u32 u33 u34 u35 u36 u37 u38 u39 u40 u41 u42 u43 u44 u45 u46 u47 u48 u49 u50 u51 u52 u53 u54 u55 u56 u57 u58 u59 u60 u61 u62 u63 u64 u65 u66 u67 u68 u69 u70 u71 u72 u73 u74 u75 u76 u77 u78 u79 u80 u81 u82 u83 u84 u85 u86 u87 u88 u89 u90 u91 u92 u93 u94 u95 u96 u97 u98 u99 u100 u101 u102 u103 u104 u105 u106 u107 u108 u109 u110 u111 u112 u113 u114 u115 u116 u117 u118 u119 u120 u121 u122 u123 u124 u125 u126 u127 u128 u129 u130 u131 u132 u133 u134 u135 u136 u137 u138 u139 u140 u141 u142 u143 u144 u145 u146 u147 u148 u149 u150 u151 u152 u153 u154 u155 u156 u157 u158 u159 u160 u161 u162 u163 u164 u165 u166 u167 u168 u169 u170 u171 u172 u173 u174 u175 u176 u177 u178 u179 u180 u181 u182 u183 u184 u185 u186 u187 u188 u189 u190 u191 u192 u193 u194 u195 u196 u197 u198 u199 u200 u201 u202 u203 u204 u205 u206 u207 u208 u209 u210 u211 u212 u213 u214 u215 u216 u217 u218 u219 u220 u221 u222 u223 u224 u225 u226 u227 u228 u229 u230 u231 u232 u233 u234 u235 : Value} {Q : Exit → Act → World → Prop} (hP : PanicOk Q)
    (hQ : ∀ (s109 s110 s111 s112 s113 s114 s115 s116 s117 s118 s119 s120 s121 s122 s123 s124 s125 s126 s127 s128 s129 : Value) (d' : Dsk) (x : Bool) (wx : World), KMem w wx q p8 p9 p10 a V A s t d' → Got d (d.rename (nm k) (nm o')) d' x → (x = true → o' ≠ k) → Q .normal ⟨#[u0, u1, u2, u3, u4, .slice (some ⟨q, 0, none⟩) 3 3, .pointer (some ⟨a, 0, none⟩), u7, u8, u9, u10, u11, .int .i64 m, .int .i64 k, .int .i64 o', u15, u16, u17, u18, u19, u20, u21, u22, u23, u24, u25, u26, u27, u28, u29, u30, u31, u32, u33, u34, u35, u36, u37, u38, u39, u40, u41, u42, u43, u44, u45, u46, u47, u48, u49, u50, u51, u52, u53, u54, u55, u56, u57, u58, u59, u60, u61, u62, u63, u64, u65, u66, u67, u68, u69, u70, u71, u72, u73, u74, u75, u76, u77, u78, u79, u80, u81, u82, u83, u84, u85, u86, u87, u88, u89, u90, u91, u92, u93, u94, u95, u96, u97, u98, u99, u100, u101, u102, u103, u104, u105, u106, u107, u108, s109, s110, s111, s112, s113, s114, s115, s116, s117, s118, s119, s120, s121, s122, s123, s124, s125, s126, s127, s128, s129, .bool x, u131, u132, u133, u134, u135, u136, u137, u138, u139, u140, u141, u142, u143, u144, u145, u146, u147, u148, u149, u150, u151, u152, u153, u154, u155, u156, u157, u158, u159, u160, u161, u162, u163, u164, u165, u166, u167, u168, u169, u170, u171, u172, u173, u174, u175, u176, u177, u178, u179, u180, u181, u182, u183, u184, u185, u186, u187, u188, u189, u190, u191, u192, u193, u194, u195, u196, u197, u198, u199, u200, u201, u202, u203, u204, u205, u206, u207, u208, u209, u210, u211, u212, u213, u214, u215, u216, u217, u218, u219, u220, u221, u222, u223, u224, u225, u226, u227, u228, u229, u230, u231, u232, u233, u234, u235], []⟩ wx) :
    Code.wp Tryd.prog ((Tryd.f3.body.bind (regionOf 21)).getD .skip) Q ⟨#[u0, u1, u2, u3, u4, .slice (some ⟨q, 0, none⟩) 3 3, .pointer (some ⟨a, 0, none⟩), u7, u8, u9, u10, u11, .int .i64 m, .int .i64 k, .int .i64 o', u15, u16, u17, u18, u19, u20, u21, u22, u23, u24, u25, u26, u27, u28, u29, u30, u31, u32, u33, u34, u35, u36, u37, u38, u39, u40, u41, u42, u43, u44, u45, u46, u47, u48, u49, u50, u51, u52, u53, u54, u55, u56, u57, u58, u59, u60, u61, u62, u63, u64, u65, u66, u67, u68, u69, u70, u71, u72, u73, u74, u75, u76, u77, u78, u79, u80, u81, u82, u83, u84, u85, u86, u87, u88, u89, u90, u91, u92, u93, u94, u95, u96, u97, u98, u99, u100, u101, u102, u103, u104, u105, u106, u107, u108, u109, u110, u111, u112, u113, u114, u115, u116, u117, u118, u119, u120, u121, u122, u123, u124, u125, u126, u127, u128, u129, u130, u131, u132, u133, u134, u135, u136, u137, u138, u139, u140, u141, u142, u143, u144, u145, u146, u147, u148, u149, u150, u151, u152, u153, u154, u155, u156, u157, u158, u159, u160, u161, u162, u163, u164, u165, u166, u167, u168, u169, u170, u171, u172, u173, u174, u175, u176, u177, u178, u179, u180, u181, u182, u183, u184, u185, u186, u187, u188, u189, u190, u191, u192, u193, u194, u195, u196, u197, u198, u199, u200, u201, u202, u203, u204, u205, u206, u207, u208, u209, u210, u211, u212, u213, u214, u215, u216, u217, u218, u219, u220, u221, u222, u223, u224, u225, u226, u227, u228, u229, u230, u231, u232, u233, u234, u235], []⟩ wc := by
  dsimp only at hQ ⊢
  conv => arg 2; whnf
  have HQ := Lib.hid hQ
  clear hQ
  have hk0 : (0 : Int) ≤ (k : Int) := by omega
  have hk1 : (k : Int) < 3 := by omega
  have ho0 : (0 : Int) ≤ (o' : Int) := by omega
  have ho1 : (o' : Int) < 3 := by omega
  have ck := HMM.out.name hk3
  have co := HMM.out.name ho3
  refine wp_region_quiet_below (by kernel_rfl) (by kernel_rfl) ?_
  repeat (first | go_big_quiet_step (fail) | quiet_step (fail))
  refine wpQuiet_nil ?_
  intro w2 hw2
  exact HQ.out _ _ _ _ _ _ _ _ _ _ _ _ _ _ _ _ _ _ _ _ _ d false _ (HMM.out.nw (Nw.of_regrown hw2)) (Got.no rfl) (by simp)

theorem p21c {w wc : World} {q p8 p9 p10 a : Nat} {V : Nat → Value} {A : Nat → List UInt8} {s : Nat → Nat} {t : Nat → Bool} {d : Dsk} {B : Nat} (HMM : Hid (KMem w wc q p8 p9 p10 a V A s t d)) (HIV : Hid (Inv d A s t B)) {k : Nat} (hk3 : k < 3) {o' : Nat} (ho3 : o' < 3) {m : Nat} (hmlt : m < 1000003) (hA' : ((m : Int) / 27 % 4 == 0) = true) (hB' : ((o' : Int) != (k : Int)) = true) (hne : o' ≠ k)  {u0 u1 u2 u3 u4 u7 u8 u9 u10 u11 u15 u16 u17 u18 u19 u20 u21 u22 u23 u24 u25 u26 u27 u28 u29 u30 u31 u32 u33 u34 u35 u36 u37 u38 u39 u40 u41 u42 u43 u44 u45 u46 u47 u48 u49 u50 u51 u52 u53 u54 u55 u56 u57 u58 u59 u60 u61 u62 u63 u64 u65 u66 u67 u68 u69 u70 u71 u72 u73 u74 u75 u76 u77 u78 u79 u80 u81 u82 u83 u84 u85 u86 u87 u88 u89 u90 u91 u92 u93 u94 u95 u96 u97 u98 u99 u100 u101 u102 u103 u104 u105 u106 u107 u108 u109 u110 u111 u112 u113 u114 u115 u116 u117 u118 u119 u120 u121 u122 u123 u124 u125 u126 u127 u128 u129 u130 u131 u132 u133 u134 u135 u136 u137 u138 u139 u140 u141 u142 u143 u144 u145 u146 u147 u148 u149 u150 u151 u152 u153 u154 u155 u156 u157 u158 u159 u160 u161 u162 u163 u164 u165 u166 u167 u168 u169 u170 u171 u172 u173 u174 u175 u176 u177 u178 u179 u180 u181 u182 u183 u184 u185 u186 u187 u188 u189 u190 u191 u192 u193 u194 u195 u196 u197 u198 u199 u200 u201 u202 u203 u204 u205 u206 u207 u208 u209 u210 u211 u212 u213 u214 u215 u216 u217 u218 u219 u220 u221 u222 u223 u224 u225 u226 u227 u228 u229 u230 u231 u232 u233 u234 u235 : Value} {Q : Exit → Act → World → Prop} (hP : PanicOk Q)
    (hQ : ∀ (s109 s110 s111 s112 s113 s114 s115 s116 s117 s118 s119 s120 s121 s122 s123 s124 s125 s126 s127 s128 s129 : Value) (d' : Dsk) (x : Bool) (wx : World), KMem w wx q p8 p9 p10 a V A s t d' → Got d (d.rename (nm k) (nm o')) d' x → (x = true → o' ≠ k) → Q .normal ⟨#[u0, u1, u2, u3, u4, .slice (some ⟨q, 0, none⟩) 3 3, .pointer (some ⟨a, 0, none⟩), u7, u8, u9, u10, u11, .int .i64 m, .int .i64 k, .int .i64 o', u15, u16, u17, u18, u19, u20, u21, u22, u23, u24, u25, u26, u27, u28, u29, u30, u31, u32, u33, u34, u35, u36, u37, u38, u39, u40, u41, u42, u43, u44, u45, u46, u47, u48, u49, u50, u51, u52, u53, u54, u55, u56, u57, u58, u59, u60, u61, u62, u63, u64, u65, u66, u67, u68, u69, u70, u71, u72, u73, u74, u75, u76, u77, u78, u79, u80, u81, u82, u83, u84, u85, u86, u87, u88, u89, u90, u91, u92, u93, u94, u95, u96, u97, u98, u99, u100, u101, u102, u103, u104, u105, u106, u107, u108, s109, s110, s111, s112, s113, s114, s115, s116, s117, s118, s119, s120, s121, s122, s123, s124, s125, s126, s127, s128, s129, .bool x, u131, u132, u133, u134, u135, u136, u137, u138, u139, u140, u141, u142, u143, u144, u145, u146, u147, u148, u149, u150, u151, u152, u153, u154, u155, u156, u157, u158, u159, u160, u161, u162, u163, u164, u165, u166, u167, u168, u169, u170, u171, u172, u173, u174, u175, u176, u177, u178, u179, u180, u181, u182, u183, u184, u185, u186, u187, u188, u189, u190, u191, u192, u193, u194, u195, u196, u197, u198, u199, u200, u201, u202, u203, u204, u205, u206, u207, u208, u209, u210, u211, u212, u213, u214, u215, u216, u217, u218, u219, u220, u221, u222, u223, u224, u225, u226, u227, u228, u229, u230, u231, u232, u233, u234, u235], []⟩ wx) :
    Code.wp Tryd.prog ((Tryd.f3.body.bind (regionOf 21)).getD .skip) Q ⟨#[u0, u1, u2, u3, u4, .slice (some ⟨q, 0, none⟩) 3 3, .pointer (some ⟨a, 0, none⟩), u7, u8, u9, u10, u11, .int .i64 m, .int .i64 k, .int .i64 o', u15, u16, u17, u18, u19, u20, u21, u22, u23, u24, u25, u26, u27, u28, u29, u30, u31, u32, u33, u34, u35, u36, u37, u38, u39, u40, u41, u42, u43, u44, u45, u46, u47, u48, u49, u50, u51, u52, u53, u54, u55, u56, u57, u58, u59, u60, u61, u62, u63, u64, u65, u66, u67, u68, u69, u70, u71, u72, u73, u74, u75, u76, u77, u78, u79, u80, u81, u82, u83, u84, u85, u86, u87, u88, u89, u90, u91, u92, u93, u94, u95, u96, u97, u98, u99, u100, u101, u102, u103, u104, u105, u106, u107, u108, u109, u110, u111, u112, u113, u114, u115, u116, u117, u118, u119, u120, u121, u122, u123, u124, u125, u126, u127, u128, u129, u130, u131, u132, u133, u134, u135, u136, u137, u138, u139, u140, u141, u142, u143, u144, u145, u146, u147, u148, u149, u150, u151, u152, u153, u154, u155, u156, u157, u158, u159, u160, u161, u162, u163, u164, u165, u166, u167, u168, u169, u170, u171, u172, u173, u174, u175, u176, u177, u178, u179, u180, u181, u182, u183, u184, u185, u186, u187, u188, u189, u190, u191, u192, u193, u194, u195, u196, u197, u198, u199, u200, u201, u202, u203, u204, u205, u206, u207, u208, u209, u210, u211, u212, u213, u214, u215, u216, u217, u218, u219, u220, u221, u222, u223, u224, u225, u226, u227, u228, u229, u230, u231, u232, u233, u234, u235], []⟩ wc := by
  dsimp only at hQ ⊢
  conv => arg 2; whnf
  have HQ := Lib.hid hQ
  clear hQ
  have hk0 : (0 : Int) ≤ (k : Int) := by omega
  have hk1 : (k : Int) < 3 := by omega
  have ho0 : (0 : Int) ≤ (o' : Int) := by omega
  have ho1 : (o' : Int) < 3 := by omega
  have HNE := Lib.hid hne
  clear hne
  have ck := HMM.out.name hk3
  have co := HMM.out.name ho3
  refine wp_region_steps 20 [.rd 0, .rd 1, .rd 2, .rd 3, .rd 4, .rd 5, .rd 6, .rd 7, .rd 8, .rd 9, .rd 10, .rd 11, .rd 12, .rd 13, .rd 14, .rd 15, .rd 16, .rd 17, .rd 18, .dn 19] [20, 21] (fun x => x.cell? ⟨q, k, none⟩ = some (.string ⟨(nm k).toArray⟩) ∧ x.cell? ⟨q, o', none⟩ = some (.string ⟨(nm o').toArray⟩)) (by kernel_rfl) (by kernel_rfl) hP ⟨ck, co⟩ ?_
  refine stp_to (.int .i64 m) rfl rfl rfl (fun x hx => by go_simp) (fun K hK => ?_); go_simp; refine hK _ ?_; clear hK K
  refine stp_to (.int .i64 ((m : Int) / 27)) rfl rfl rfl (fun x hx => by go_simp; rw [IntKind.wrap_i64]; omega) (fun K hK => ?_); go_simp; refine hK _ ?_; clear hK K
  refine stp_to (.int .i64 ((m : Int) / 27 % 4)) rfl rfl rfl (fun x hx => by go_simp; rw [Int.tmod_eq_emod_of_nonneg (by omega)]) (fun K hK => ?_); go_simp; refine hK _ ?_; clear hK K
  refine stp_to (.bool true) rfl rfl rfl (fun x hx => by go_simp) (fun K hK => ?_); go_simp; refine hK _ ?_; clear hK K
  refine stp_to (.bool true) rfl rfl rfl (fun x hx => by go_simp) (fun K hK => ?_); go_simp; refine hK _ ?_; clear hK K
  refine stp_to (.int .i64 o') rfl rfl rfl (fun x hx => by go_simp) (fun K hK => ?_); go_simp; refine hK _ ?_; clear hK K
  refine stp_to (.int .i64 k) rfl rfl rfl (fun x hx => by go_simp) (fun K hK => ?_); go_simp; refine hK _ ?_; clear hK K
  refine stp_to (.bool true) rfl rfl rfl (fun x hx => by go_simp) (fun K hK => ?_); go_simp; refine hK _ ?_; clear hK K
  refine stp_to (.bool true) rfl rfl rfl (fun x hx => by go_simp) (fun K hK => ?_); go_simp; refine hK _ ?_; clear hK K
  refine stp_to (.bool true) rfl rfl rfl (fun x hx => by go_simp) (fun K hK => ?_); go_simp; refine hK _ ?_; clear hK K
  refine stp_to (.pointer (some ⟨a, 0, none⟩)) rfl rfl rfl (fun x hx => by go_simp) (fun K hK => ?_); go_simp; refine hK _ ?_; clear hK K
  refine stp_to (.slice (some ⟨q, 0, none⟩) 3 3) rfl rfl rfl (fun x hx => by go_simp) (fun K hK => ?_); go_simp; refine hK _ ?_; clear hK K
  refine stp_to (.int .i64 k) rfl rfl rfl (fun x hx => by go_simp) (fun K hK => ?_); go_simp; refine hK _ ?_; clear hK K
  refine stp_to (.pointer (some ⟨q, k, none⟩)) rfl rfl rfl (fun x hx => by go_simp) (fun K hK => ?_); go_simp; refine hK _ ?_; clear hK K
  refine stp_to (.string ⟨(nm k).toArray⟩) rfl rfl rfl (fun x hx => by obtain ⟨e1, e2⟩ := hx; go_simp) (fun K hK => ?_); go_simp; refine hK _ ?_; clear hK K
  refine stp_to (.slice (some ⟨q, 0, none⟩) 3 3) rfl rfl rfl (fun x hx => by go_simp) (fun K hK => ?_); go_simp; refine hK _ ?_; clear hK K
  refine stp_to (.int .i64 o') rfl rfl rfl (fun x hx => by go_simp) (fun K hK => ?_); go_simp; refine hK _ ?_; clear hK K
  refine stp_to (.pointer (some ⟨q, o', none⟩)) rfl rfl rfl (fun x hx => by go_simp) (fun K hK => ?_); go_simp; refine hK _ ?_; clear hK K
  refine stp_to (.string ⟨(nm o').toArray⟩) rfl rfl rfl (fun x hx => by obtain ⟨e1, e2⟩ := hx; go_simp) (fun K hK => ?_); go_simp; refine hK _ ?_; clear hK K
  clear ck co
  refine stp_dn rfl (fun K hK => ?_)
  go_wp2_with fail
  obtain ⟨d', x, hr⟩ : ∃ d' x, d.rename (nm k) (nm o') = (d', x) := ⟨_, _, rfl⟩
  have M2 := Lib.hid (HMM.out.nw ((Nw.refl wc).drew))
  refine (M2.out.has.rename (nm k) (nm o') (nm_len o') hr).mono ?_
  have HR := Lib.hid hr
  clear hr
  rintro e w3 ⟨rfl, H3, K3⟩
  have M3 := Lib.hid (M2.out.did H3 K3)
  clear H3 K3
  go_wp2
  refine hK _ _ ⟨M3.out.name hk3, M3.out.name ho3⟩ ?_; clear hK K
  refine wpSteps_nil ?_
  refine stp_do rfl (by decide) (fun K hK => ?_)
  go_wp2
  (try (refine hK _ _ ?_; clear hK K))
  refine stp_do rfl (by decide) (fun K hK => ?_)
  go_wp2
  (try (refine hK _ _ ?_; clear hK K))
  refine wpNums_nil ?_
  exact HQ.out _ _ _ _ _ _ _ _ _ _ _ _ _ _ _ _ _ _ _ _ _ d' _ _ M3.out (Got.op HR.out) (fun _ => HNE.out)

theorem p21 {w wc : World} {q p8 p9 p10 a : Nat} {V : Nat → Value} {A : Nat → List UInt8} {s : Nat → Nat} {t : Nat → Bool} {d : Dsk} {B : Nat} (HMM : Hid (KMem w wc q p8 p9 p10 a V A s t d)) (HIV : Hid (Inv d A s t B)) {k : Nat} (hk3 : k < 3) {o' : Nat} (ho3 : o' < 3) {m : Nat} (hmlt : m < 1000003)  {u0 u1 u2 u3 u4 u7 u8 u9 u10 u11 u15 u16 u17 u18 u19 u20 u21 u22 u23 u24 u25 u26 u27 u28 u29 u30 u31 u32 u33 u34 u35 u36 u37 u38 u39 u40 u41 u42 u43 u44 u45 u46 u47 u48 u49 u50 u51 u52 u53 u54 u55 u56 u57 u58 u59 u60 u61 u62 u63 u64 u65 u66 u67 u68 u69 u70 u71 u72 u73 u74 u75 u76 u77 u78 u79 u80 u81 u82 u83 u84 u85 u86 u87 u88 u89 u90 u91 u92 u93 u94 u95 u96 u97 u98 u99 u100 u101 u102 u103 u104 u105 u106 u107 u108 u109 u110 u111 u112 u113 u114 u115 u116 u117 u118 u119 u120 u121 u122 u123 u124 u125 u126 u127 u128 u129 u130 u131 u132 u133 u134 u135 u136 u137 u138 u139 u140 u141 u142 u143 u144 u145 u146 u147 u148 u149 u150 u151 u152 u153 u154 u155 u156 u157 u158 u159 u160 u161 u162 u163 u164 u165 u166 u167 u168 u169 u170 u171 u172 u173 u174 u175 u176 u177 u178 u179 u180 u181 u182 u183 u184 u185 u186 u187 u188 u189 u190 u191 u192 u193 u194 u195 u196 u197 u198 u199 u200 u201 u202 u203 u204 u205 u206 u207 u208 u209 u210 u211 u212 u213 u214 u215 u216 u217 u218 u219 u220 u221 u222 u223 u224 u225 u226 u227 u228 u229 u230 u231 u232 u233 u234 u235 : Value} {Q : Exit → Act → World → Prop} (hP : PanicOk Q)
    (hQ : ∀ (s109 s110 s111 s112 s113 s114 s115 s116 s117 s118 s119 s120 s121 s122 s123 s124 s125 s126 s127 s128 s129 : Value) (d' : Dsk) (x : Bool) (wx : World), KMem w wx q p8 p9 p10 a V A s t d' → Got d (d.rename (nm k) (nm o')) d' x → (x = true → o' ≠ k) → Q .normal ⟨#[u0, u1, u2, u3, u4, .slice (some ⟨q, 0, none⟩) 3 3, .pointer (some ⟨a, 0, none⟩), u7, u8, u9, u10, u11, .int .i64 m, .int .i64 k, .int .i64 o', u15, u16, u17, u18, u19, u20, u21, u22, u23, u24, u25, u26, u27, u28, u29, u30, u31, u32, u33, u34, u35, u36, u37, u38, u39, u40, u41, u42, u43, u44, u45, u46, u47, u48, u49, u50, u51, u52, u53, u54, u55, u56, u57, u58, u59, u60, u61, u62, u63, u64, u65, u66, u67, u68, u69, u70, u71, u72, u73, u74, u75, u76, u77, u78, u79, u80, u81, u82, u83, u84, u85, u86, u87, u88, u89, u90, u91, u92, u93, u94, u95, u96, u97, u98, u99, u100, u101, u102, u103, u104, u105, u106, u107, u108, s109, s110, s111, s112, s113, s114, s115, s116, s117, s118, s119, s120, s121, s122, s123, s124, s125, s126, s127, s128, s129, .bool x, u131, u132, u133, u134, u135, u136, u137, u138, u139, u140, u141, u142, u143, u144, u145, u146, u147, u148, u149, u150, u151, u152, u153, u154, u155, u156, u157, u158, u159, u160, u161, u162, u163, u164, u165, u166, u167, u168, u169, u170, u171, u172, u173, u174, u175, u176, u177, u178, u179, u180, u181, u182, u183, u184, u185, u186, u187, u188, u189, u190, u191, u192, u193, u194, u195, u196, u197, u198, u199, u200, u201, u202, u203, u204, u205, u206, u207, u208, u209, u210, u211, u212, u213, u214, u215, u216, u217, u218, u219, u220, u221, u222, u223, u224, u225, u226, u227, u228, u229, u230, u231, u232, u233, u234, u235], []⟩ wx) :
    Code.wp Tryd.prog ((Tryd.f3.body.bind (regionOf 21)).getD .skip) Q ⟨#[u0, u1, u2, u3, u4, .slice (some ⟨q, 0, none⟩) 3 3, .pointer (some ⟨a, 0, none⟩), u7, u8, u9, u10, u11, .int .i64 m, .int .i64 k, .int .i64 o', u15, u16, u17, u18, u19, u20, u21, u22, u23, u24, u25, u26, u27, u28, u29, u30, u31, u32, u33, u34, u35, u36, u37, u38, u39, u40, u41, u42, u43, u44, u45, u46, u47, u48, u49, u50, u51, u52, u53, u54, u55, u56, u57, u58, u59, u60, u61, u62, u63, u64, u65, u66, u67, u68, u69, u70, u71, u72, u73, u74, u75, u76, u77, u78, u79, u80, u81, u82, u83, u84, u85, u86, u87, u88, u89, u90, u91, u92, u93, u94, u95, u96, u97, u98, u99, u100, u101, u102, u103, u104, u105, u106, u107, u108, u109, u110, u111, u112, u113, u114, u115, u116, u117, u118, u119, u120, u121, u122, u123, u124, u125, u126, u127, u128, u129, u130, u131, u132, u133, u134, u135, u136, u137, u138, u139, u140, u141, u142, u143, u144, u145, u146, u147, u148, u149, u150, u151, u152, u153, u154, u155, u156, u157, u158, u159, u160, u161, u162, u163, u164, u165, u166, u167, u168, u169, u170, u171, u172, u173, u174, u175, u176, u177, u178, u179, u180, u181, u182, u183, u184, u185, u186, u187, u188, u189, u190, u191, u192, u193, u194, u195, u196, u197, u198, u199, u200, u201, u202, u203, u204, u205, u206, u207, u208, u209, u210, u211, u212, u213, u214, u215, u216, u217, u218, u219, u220, u221, u222, u223, u224, u225, u226, u227, u228, u229, u230, u231, u232, u233, u234, u235], []⟩ wc := by
  dsimp only at hQ ⊢
  by_cases hA : (m : Int) / 27 % 4 = 0
  · by_cases hB : o' = k
    · exact p21b HMM HIV hk3 ho3 hmlt (by simpa using hA) (by simp; omega) hP hQ
    · exact p21c HMM HIV hk3 ho3 hmlt (by simpa using hA) (by rw [bne_iff_ne]; omega) hB hP hQ
  · exact p21a HMM HIV hk3 ho3 hmlt (by simpa using hA) hP hQ

theorem p130 {w wc : World} {q p8 p9 p10 a : Nat} {V : Nat → Value} {A : Nat → List UInt8} {s : Nat → Nat} {t : Nat → Bool} {d d2 : Dsk} {x2 : Bool} {B : Nat} (HM2 : Hid (KMem w wc q p8 p9 p10 a V A s t d2)) (HIV : Hid (Inv d A s t B)) {k : Nat} (hk3 : k < 3) {o' : Nat} (ho3 : o' < 3) (HOK : Hid d.Ok) (HR2 : Hid (Got d (d.rename (nm k) (nm o')) d2 x2)) (HNE : Hid (x2 = true → o' ≠ k))  {u0 u1 u2 u3 u4 u5 u6 u7 u11 u12 u15 u16 u17 u18 u19 u20 u21 u22 u23 u24 u25 u26 u27 u28 u29 u30 u31 u32 u33 u34 u35 u36 u37 u38 u39 u40 u41 u42 u43 u44 u45 u46 u47 u48 u49 u50 u51 u52 u53 u54 u55 u56 u57 u58 u59 u60 u61 u62 u63 u64 u65 u66 u67 u68 u69 u70 u71 u72 u73 u74 u75 u76 u77 u78 u79 u80 u81 u82 u83 u84 u85 u86 u87 u88 u89 u90 u91 u92 u93 u94 u95 u96 u97 u98 u99 u100 u101 u102 u103 u104 u105 u106 u107 u108 u109 u110 u111 u112 u113 u114 u115 u116 u117 u118 u119 u120 u121 u122 u123 u124 u125 u126 u127 u128 u129 u131 u132 u133 u134 u135 u136 u137 u138 u139 u140 u141 u142 u143 u144 u145 u146 u147 u148 u149 u150 u151 u152 u153 u154 u155 u156 u157 u158 u159 u160 u161 u162 u163 u164 u165 u166 u167 u168 u169 u170 u171 u172 u173 u174 u175 u176 u177 u178 u179 u180 u181 u182 u183 u184 u185 u186 u187 u188 u189 u190 u191 u192 u193 u194 u195 u196 u197 u198 u199 u200 u201 u202 u203 u204 u205 u206 u207 u208 u209 u210 u211 u212 u213 u214 u215 u216 u217 u218 u219 u220 u221 u222 u223 u224 u225 u226 u227 u228 u229 u230 u231 u232 u233 u234 u235 : Value} {Q : Exit → Act → World → Prop} (hP : PanicOk Q)
    (hQ : ∀ (s131 s132 s133 s134 s135 s136 s137 s138 s139 s140 s141 s142 s143 s144 s145 s146 s147 s148 : Value)  (wx : World), St w q p8 p9 p10 a B wx → Q .normal ⟨#[u0, u1, u2, u3, u4, u5, u6, u7, .pointer (some ⟨p8, 0, none⟩), .pointer (some ⟨p9, 0, none⟩), .pointer (some ⟨p10, 0, none⟩), u11, u12, .int .i64 k, .int .i64 o', u15, u16, u17, u18, u19, u20, u21, u22, u23, u24, u25, u26, u27, u28, u29, u30, u31, u32, u33, u34, u35, u36, u37, u38, u39, u40, u41, u42, u43, u44, u45, u46, u47, u48, u49, u50, u51, u52, u53, u54, u55, u56, u57, u58, u59, u60, u61, u62, u63, u64, u65, u66, u67, u68, u69, u70, u71, u72, u73, u74, u75, u76, u77, u78, u79, u80, u81, u82, u83, u84, u85, u86, u87, u88, u89, u90, u91, u92, u93, u94, u95, u96, u97, u98, u99, u100, u101, u102, u103, u104, u105, u106, u107, u108, u109, u110, u111, u112, u113, u114, u115, u116, u117, u118, u119, u120, u121, u122, u123, u124, u125, u126, u127, u128, u129, .bool x2, s131, s132, s133, s134, s135, s136, s137, s138, s139, s140, s141, s142, s143, s144, s145, s146, s147, s148, u149, u150, u151, u152, u153, u154, u155, u156, u157, u158, u159, u160, u161, u162, u163, u164, u165, u166, u167, u168, u169, u170, u171, u172, u173, u174, u175, u176, u177, u178, u179, u180, u181, u182, u183, u184, u185, u186, u187, u188, u189, u190, u191, u192, u193, u194, u195, u196, u197, u198, u199, u200, u201, u202, u203, u204, u205, u206, u207, u208, u209, u210, u211, u212, u213, u214, u215, u216, u217, u218, u219, u220, u221, u222, u223, u224, u225, u226, u227, u228, u229, u230, u231, u232, u233, u234, u235], []⟩ wx) :
    Code.wp Tryd.prog ((Tryd.f3.body.bind (condOf 130)).getD .skip) Q ⟨#[u0, u1, u2, u3, u4, u5, u6, u7, .pointer (some ⟨p8, 0, none⟩), .pointer (some ⟨p9, 0, none⟩), .pointer (some ⟨p10, 0, none⟩), u11, u12, .int .i64 k, .int .i64 o', u15, u16, u17, u18, u19, u20, u21, u22, u23, u24, u25, u26, u27, u28, u29, u30, u31, u32, u33, u34, u35, u36, u37, u38, u39, u40, u41, u42, u43, u44, u45, u46, u47, u48, u49, u50, u51, u52, u53, u54, u55, u56, u57, u58, u59, u60, u61, u62, u63, u64, u65, u66, u67, u68, u69, u70, u71, u72, u73, u74, u75, u76, u77, u78, u79, u80, u81, u82, u83, u84, u85, u86, u87, u88, u89, u90, u91, u92, u93, u94, u95, u96, u97, u98, u99, u100, u101, u102, u103, u104, u105, u106, u107, u108, u109, u110, u111, u112, u113, u114, u115, u116, u117, u118, u119, u120, u121, u122, u123, u124, u125, u126, u127, u128, u129, .bool x2, u131, u132, u133, u134, u135, u136, u137, u138, u139, u140, u141, u142, u143, u144, u145, u146, u147, u148, u149, u150, u151, u152, u153, u154, u155, u156, u157, u158, u159, u160, u161, u162, u163, u164, u165, u166, u167, u168, u169, u170, u171, u172, u173, u174, u175, u176, u177, u178, u179, u180, u181, u182, u183, u184, u185, u186, u187, u188, u189, u190, u191, u192, u193, u194, u195, u196, u197, u198, u199, u200, u201, u202, u203, u204, u205, u206, u207, u208, u209, u210, u211, u212, u213, u214, u215, u216, u217, u218, u219, u220, u221, u222, u223, u224, u225, u226, u227, u228, u229, u230, u231, u232, u233, u234, u235], []⟩ wc := by
  dsimp only at hQ ⊢
  conv => arg 2; whnf
  have HQ := Lib.hid hQ
  clear hQ
  have hk0 : (0 : Int) ≤ (k : Int) := by omega
  have hk1 : (k : Int) < 3 := by omega
  have ho0 : (0 : Int) ≤ (o' : Int) := by omega
  have ho1 : (o' : Int) < 3 := by omega
  cases x2
  · go_wp2_with fail
    exact HQ.out _ _ _ _ _ _ _ _ _ _ _ _ _ _ _ _ _ _ _ ⟨_, _, _, _, _, HM2.out, HIV.out.same (HR2.out.files rfl)⟩
  · have HNK := Lib.hid (HNE.out rfl)
    have MK := HM2.out
    have ck := MK.all hk3
    have cs := MK.sure hk3
    have co := MK.all ho3
    have cso := MK.sure ho3
    have cto := MK.there ho3
    obtain ⟨ka, kc, hvk, -⟩ := (MK.bs k hk3).len
    have BK := Lib.hid (MK.bs k hk3)
    have HVK := Lib.hid hvk
    rw [hvk] at ck BK
    go_upto_region 22 with fail
    refine wp_region_steps 13 [.rd 0, .rd 1, .rd 2, .rd 3, .rd 4, .rd 5, .rd 6, .rd 7, .rd 8, .dn 9, .dn 10, .dn 11, .dn 12] [13, 14] (fun x => x.cell? ⟨p8, k, none⟩ = some (.slice ka (A k).length kc) ∧ x.cell? ⟨p9, k, none⟩ = some (.int .i64 (s k))) (by kernel_rfl) (by kernel_rfl) hP ⟨ck, cs⟩ ?_
    refine stp_to (.int .i64 o') rfl rfl rfl (fun x hx => by go_simp) (fun K hK => ?_); go_simp; refine hK _ ?_; clear hK K
    refine stp_to (.int .i64 o') rfl rfl rfl (fun x hx => by go_simp) (fun K hK => ?_); go_simp; refine hK _ ?_; clear hK K
    refine stp_to (.int .i64 o') rfl rfl rfl (fun x hx => by go_simp) (fun K hK => ?_); go_simp; refine hK _ ?_; clear hK K
    refine stp_to (.int .i64 k) rfl rfl rfl (fun x hx => by go_simp) (fun K hK => ?_); go_simp; refine hK _ ?_; clear hK K
    refine stp_to (.pointer (some ⟨p8, k, none⟩)) rfl rfl rfl (fun x hx => by go_simp) (fun K hK => ?_); go_simp; refine hK _ ?_; clear hK K
    refine stp_to (.slice ka (A k).length kc) rfl rfl rfl (fun x hx => by obtain ⟨e1, e2⟩ := hx; go_simp) (fun K hK => ?_); go_simp; refine hK _ ?_; clear hK K
    refine stp_to (.int .i64 k) rfl rfl rfl (fun x hx => by go_simp) (fun K hK => ?_); go_simp; refine hK _ ?_; clear hK K
    refine stp_to (.pointer (some ⟨p9, k, none⟩)) rfl rfl rfl (fun x hx => by go_simp) (fun K hK => ?_); go_simp; refine hK _ ?_; clear hK K
    refine stp_to (.int .i64 (s k)) rfl rfl rfl (fun x hx => by obtain ⟨e1, e2⟩ := hx; go_simp) (fun K hK => ?_); go_simp; refine hK _ ?_; clear hK K
    have M3 := Lib.hid (MK.nw ((Nw.refl wc).drew))
    have BK3 := Lib.hid (BK.out.nw ((Nw.refl wc).drew))
    clear MK hvk ck cs cso cto co
    generalize wc.drew = wd at M3 BK3 ⊢
    obtain ⟨fz, -, -⟩ := M3.out.free o'
    have co := M3.out.all ho3
    have ck := M3.out.all hk3
    rw [HVK.out] at ck
    have cs := M3.out.sure hk3
    refine stp_dn rfl (fun K hK => ?_)
    go_wp2
    refine hK _ _ ⟨ck, cs⟩ ?_; clear hK K
    refine stp_dn rfl (fun K hK => ?_)
    go_wp2
    have M4 := Lib.hid (M3.out.setAll ho3 (Nw.refl _) BK3.out (fun hne g hg => ⟨M3.out.top k hk3 hne g (by rw [HVK.out]; exact hg), .inl (.inr (.inr (.inr (.inr ⟨k, hk3, hne, by rw [HVK.out]; exact hg⟩))))⟩))
    clear co fz ck cs
    generalize wd.setCell ⟨p8, o', none⟩ (.slice ka (A k).length kc) = w4 at M4 ⊢
    have ck := M4.out.all hk3
    rw [upd_other _ _ (Ne.symm HNK.out), HVK.out] at ck
    have cs := M4.out.sure hk3
    refine hK _ _ ⟨ck, cs⟩ ?_; clear hK K
    obtain ⟨-, fz, -⟩ := M4.out.free o'
    have co := M4.out.sure ho3
    refine stp_dn rfl (fun K hK => ?_)
    go_wp2
    refine hK _ _ ⟨ck, cs⟩ ?_; clear hK K
    refine stp_dn rfl (fun K hK => ?_)
    go_wp2
    have M5 := Lib.hid (M4.out.setSure ho3 (s k))
    clear co fz ck cs
    generalize w4.setCell ⟨p9, o', none⟩ (.int .i64 (s k)) = w5 at M5 ⊢
    have ck := M5.out.all hk3
    rw [upd_other _ _ (Ne.symm HNK.out), HVK.out] at ck
    have cs := M5.out.sure hk3
    rw [upd_other _ _ (Ne.symm HNK.out)] at cs
    refine hK _ _ ⟨ck, cs⟩ ?_; clear hK K
    refine wpSteps_nil ?_
    obtain ⟨-, -, fz⟩ := M5.out.free o'
    have co := M5.out.there ho3
    refine stp_do rfl (by decide) (fun K hK => ?_)
    go_wp2
    (try (refine hK _ _ ?_; clear hK K))
    refine stp_do rfl (by decide) (fun K hK => ?_)
    go_wp2
    (try (refine hK _ _ ?_; clear hK K))
    refine wpNums_nil ?_
    have M6 := Lib.hid (M5.out.setThere ho3 true)
    clear co fz ck cs
    generalize w5.setCell ⟨p10, o', none⟩ (.bool true) = w6 at M6 ⊢
    have M7 := Lib.hid (((M6.out.setAll hk3 (v := .slice none 0 0) (L := []) (Nw.refl _) (.inl ⟨_, rfl, rfl⟩) (fun hne => absurd rfl hne)).setSure hk3 0).setThere hk3 false)
    have M8 := Lib.hid (M6.out.setAll hk3 (v := .slice none 0 0) (L := []) (Nw.refl _) (.inl ⟨_, rfl, rfl⟩) (fun hne => absurd rfl hne))
    have M9 := Lib.hid (M8.out.setSure hk3 0)
    have c1 := M6.out.all hk3
    have c2 := M8.out.sure hk3
    have c3 := M9.out.there hk3
    obtain ⟨f1, -, -⟩ := M6.out.free k
    obtain ⟨-, f2, -⟩ := M8.out.free k
    obtain ⟨-, -, f3⟩ := M9.out.free k
    rw [show ((0 : Nat) : Int) = 0 from rfl] at c3 f3
    go_wp2_with fail
    exact HQ.out _ _ _ _ _ _ _ _ _ _ _ _ _ _ _ _ _ _ _ ⟨_, _, _, _, _, M7.out, HIV.out.rename HOK.out hk3 ho3 HNK.out (HR2.out.yes rfl)⟩

theorem p30 {w wc : World} {q p8 p9 p10 a : Nat} {V : Nat → Value} {A : Nat → List UInt8} {s : Nat → Nat} {t : Nat → Bool} {d : Dsk} (HMM : Hid (KMem w wc q p8 p9 p10 a V A s t d)) {j : Nat} (hj3 : j < 3) {L : List UInt8} {lb : Option Addr} {cb : Nat} (HBL : Hid (Bs wc (.slice lb L.length cb) L)) {x : Int} (hx : x = if t j then 0 else 13) (h1 : s j ≤ L.length) (h2 : L.length ≤ (A j).length) (hL : Hid ((A j).take L.length = L)) (hlen : (A j).length ≤ 4000) (hsy : (fileOf d.files (nm j)).synced = L.length)  {u0 u1 u2 u3 u4 u7 u11 u12 u13 u14 u18 u19 u20 u21 u22 u23 u24 u25 u26 u27 u28 u29 u30 u31 u32 u33 u34 u35 u36 u37 u38 u39 u40 u41 u42 u43 u44 u45 u46 u47 u48 u49 u50 u51 u52 u53 u54 u55 u56 u57 u58 u59 u60 u61 u62 u63 u64 u65 u66 u67 u68 u69 u70 u71 u72 u73 u74 u75 u76 u77 u78 u79 u80 u81 u82 u83 u84 u85 u86 u87 u88 u89 u90 u91 u92 u93 u94 u95 u96 u97 u98 u99 u100 u101 u102 u103 u104 u105 u106 u107 u108 u109 u110 u111 u112 u113 u114 u115 u116 u117 u118 u119 u120 u121 u122 u123 u124 u125 u126 u127 u128 u129 u130 u131 u132 u133 u134 u135 u136 u137 u138 u139 u140 u141 u142 u143 u144 u145 u146 u147 u148 u149 u150 u151 u152 u153 u154 u155 u156 u157 u158 u159 u160 u161 u162 u163 u164 u165 u166 u167 u168 u169 u170 u171 u172 u173 u174 u175 u176 u177 u178 u179 u180 u181 u182 u183 u184 u185 u186 u187 u188 u189 u190 u191 u192 u193 u194 u195 u196 u197 u198 u199 u200 u201 u202 u203 u204 u205 u206 u207 u208 u209 u210 u211 u212 u213 u214 u215 u216 u217 u218 u219 u220 u221 u222 u223 u224 u225 u226 u227 u228 u229 u230 u231 u232 u233 u234 u235 : Value} {Q : Exit → Act → World → Prop} (hP : PanicOk Q)
    (hQ : ∀ (s183 s184 s185 s186 s187 s188 s189 s190 s191 s192 s193 s194 s195 s196 s197 s198 s199 s200 s201 s202 s203 s204 s205 s206 s207 s208 s209 s210 s211 s212 s213 s214 s215 s216 s217 s218 s219 s220 s221 s222 s223 s224 s225 s226 : Value)  (wx : World), Nw wc wx → Q .normal ⟨#[u0, u1, u2, u3, u4, .slice (some ⟨q, 0, none⟩) 3 3, .pointer (some ⟨a, 0, none⟩), u7, .pointer (some ⟨p8, 0, none⟩), .pointer (some ⟨p9, 0, none⟩), .pointer (some ⟨p10, 0, none⟩), u11, u12, u13, u14, .int .i64 j, .slice lb L.length cb, .int .i64 x, u18, u19, u20, u21, u22, u23, u24, u25, u26, u27, u28, u29, u30, u31, u32, u33, u34, u35, u36, u37, u38, u39, u40, u41, u42, u43, u44, u45, u46, u47, u48, u49, u50, u51, u52, u53, u54, u55, u56, u57, u58, u59, u60, u61, u62, u63, u64, u65, u66, u67, u68, u69, u70, u71, u72, u73, u74, u75, u76, u77, u78, u79, u80, u81, u82, u83, u84, u85, u86, u87, u88, u89, u90, u91, u92, u93, u94, u95, u96, u97, u98, u99, u100, u101, u102, u103, u104, u105, u106, u107, u108, u109, u110, u111, u112, u113, u114, u115, u116, u117, u118, u119, u120, u121, u122, u123, u124, u125, u126, u127, u128, u129, u130, u131, u132, u133, u134, u135, u136, u137, u138, u139, u140, u141, u142, u143, u144, u145, u146, u147, u148, u149, u150, u151, u152, u153, u154, u155, u156, u157, u158, u159, u160, u161, u162, u163, u164, u165, u166, u167, u168, u169, u170, u171, u172, u173, u174, u175, u176, u177, u178, u179, u180, u181, u182, s183, s184, s185, s186, s187, s188, s189, s190, s191, s192, s193, s194, s195, s196, s197, s198, s199, s200, s201, s202, s203, s204, s205, s206, s207, s208, s209, s210, s211, s212, s213, s214, s215, s216, s217, s218, s219, s220, s221, s222, s223, s224, s225, s226, .bool false, u228, u229, u230, u231, u232, u233, u234, u235], []⟩ wx) :
    Code.wp Tryd.prog ((Tryd.f3.body.bind (regionOf 30)).getD .skip) Q ⟨#[u0, u1, u2, u3, u4, .slice (some ⟨q, 0, none⟩) 3 3, .pointer (some ⟨a, 0, none⟩), u7, .pointer (some ⟨p8, 0, none⟩), .pointer (some ⟨p9, 0, none⟩), .pointer (some ⟨p10, 0, none⟩), u11, u12, u13, u14, .int .i64 j, .slice lb L.length cb, .int .i64 x, u18, u19, u20, u21, u22, u23, u24, u25, u26, u27, u28, u29, u30, u31, u32, u33, u34, u35, u36, u37, u38, u39, u40, u41, u42, u43, u44, u45, u46, u47, u48, u49, u50, u51, u52, u53, u54, u55, u56, u57, u58, u59, u60, u61, u62, u63, u64, u65, u66, u67, u68, u69, u70, u71, u72, u73, u74, u75, u76, u77, u78, u79, u80, u81, u82, u83, u84, u85, u86, u87, u88, u89, u90, u91, u92, u93, u94, u95, u96, u97, u98, u99, u100, u101, u102, u103, u104, u105, u106, u107, u108, u109, u110, u111, u112, u113, u114, u115, u116, u117, u118, u119, u120, u121, u122, u123, u124, u125, u126, u127, u128, u129, u130, u131, u132, u133, u134, u135, u136, u137, u138, u139, u140, u141, u142, u143, u144, u145, u146, u147, u148, u149, u150, u151, u152, u153, u154, u155, u156, u157, u158, u159, u160, u161, u162, u163, u164, u165, u166, u167, u168, u169, u170, u171, u172, u173, u174, u175, u176, u177, u178, u179, u180, u181, u182, u183, u184, u185, u186, u187, u188, u189, u190, u191, u192, u193, u194, u195, u196, u197, u198, u199, u200, u201, u202, u203, u204, u205, u206, u207, u208, u209, u210, u211, u212, u213, u214, u215, u216, u217, u218, u219, u220, u221, u222, u223, u224, u225, u226, u227, u228, u229, u230, u231, u232, u233, u234, u235], []⟩ wc := by
  dsimp only at hQ ⊢
  conv => arg 2; whnf
  have HQ := Lib.hid hQ
  clear hQ
  have hj0 : (0 : Int) ≤ (j : Int) := by omega
  have hj1 : (j : Int) < 3 := by omega
  have HSY := Lib.hid hsy
  clear hsy
  have ct := HMM.out.there hj3
  have cs := HMM.out.sure hj3
  have ca := HMM.out.all hj3
  have cn := HMM.out.name hj3
  obtain ⟨ka, kc, hvk, hkc⟩ := (HMM.out.bs j hj3).elems
  have BK := Lib.hid (HMM.out.bs j hj3)
  rw [hvk] at ca BK
  obtain ⟨hkc1, hkc2, -⟩ := hkc
  unfold maxLen at hkc2
  have T2 := BK.out.take h2
  have hsl : ∀ w, (Instr.slice 29 (.slice ka (A j).length kc) none (some (.int .i64 L.length)) none).run Tryd.prog w = .ok (sliced ka 0 L.length kc 1) w := fun w => by
    have h1 : (L.length : Int) ≤ (kc : Int) := by omega
    have h2 : (0 : Int) ≤ (L.length : Int) := by omega
    go_simp
  generalize sliced ka 0 L.length kc 1 = s2 at T2 hsl
  have T2 := Lib.hid T2
  clear hvk
  have f1 : decide ((L.length : Int) < (s j : Int)) = false := by simp; omega
  have f1' : decide (L.length < s j) = false := by simp; omega
  have f2 : decide ((L.length : Int) > ((A j).length : Int)) = false := by simp; omega
  have f2' : decide ((A j).length < L.length) = false := by simp; omega
  have HX := Lib.hid hx
  clear hx
  cases htj : t j
  all_goals
    rw [htj] at ct
    have hx := HX.out
    rw [htj] at hx
    simp only [Bool.false_eq_true, if_false, if_true] at hx
    subst hx
    clear htj
    go_wp2_with fail
    refine (SameBytes_ok HBL.out T2.out).mono ?_
    rintro e w2 ⟨rfl, rfl⟩
    have heq : (L == (A j).take L.length) = true := by rw [hL.out]; simp
    rw [heq]
    clear heq
    go_wp2_with fail
    refine (HMM.out.has.synced (nm j) HSY.out).mono ?_
    rintro e w3 ⟨rfl, n3⟩
    have N3 := Lib.hid n3
    clear n3
    go_wp2_with fail
    exact HQ.out _ _ _ _ _ _ _ _ _ _ _ _ _ _ _ _ _ _ _ _ _ _ _ _ _ _ _ _ _ _ _ _ _ _ _ _ _ _ _ _ _ _ _ _ _ N3.out

theorem p32 {w w0 wc : World} {q p8 p9 p10 a : Nat} {V : Nat → Value} {A : Nat → List UInt8} {s : Nat → Nat} {t : Nat → Bool} {d : Dsk} (HMM : Hid (KMem w w0 q p8 p9 p10 a V A s t d)) {j : Nat} (hj3 : j < 3) {L : List UInt8} {lb : Option Addr} {cb : Nat} (N0 : Hid (Nw w0 wc)) (HBL : Hid (Bs wc (.slice lb L.length cb) L)) (HF : Hid (∀ g, (Value.slice lb L.length cb).ownBlock = some g → w0.heap.size ≤ g))  {u0 u1 u2 u3 u4 u5 u6 u7 u10 u11 u12 u13 u14 u17 u18 u19 u20 u21 u22 u23 u24 u25 u26 u27 u28 u29 u30 u31 u32 u33 u34 u35 u36 u37 u38 u39 u40 u41 u42 u43 u44 u45 u46 u47 u48 u49 u50 u51 u52 u53 u54 u55 u56 u57 u58 u59 u60 u61 u62 u63 u64 u65 u66 u67 u68 u69 u70 u71 u72 u73 u74 u75 u76 u77 u78 u79 u80 u81 u82 u83 u84 u85 u86 u87 u88 u89 u90 u91 u92 u93 u94 u95 u96 u97 u98 u99 u100 u101 u102 u103 u104 u105 u106 u107 u108 u109 u110 u111 u112 u113 u114 u115 u116 u117 u118 u119 u120 u121 u122 u123 u124 u125 u126 u127 u128 u129 u130 u131 u132 u133 u134 u135 u136 u137 u138 u139 u140 u141 u142 u143 u144 u145 u146 u147 u148 u149 u150 u151 u152 u153 u154 u155 u156 u157 u158 u159 u160 u161 u162 u163 u164 u165 u166 u167 u168 u169 u170 u171 u172 u173 u174 u175 u176 u177 u178 u179 u180 u181 u182 u183 u184 u185 u186 u187 u188 u189 u190 u191 u192 u193 u194 u195 u196 u197 u198 u199 u200 u201 u202 u203 u204 u205 u206 u207 u208 u209 u210 u211 u212 u213 u214 u215 u216 u217 u218 u219 u220 u221 u222 u223 u224 u225 u226 u227 u228 u229 u230 u231 u232 u233 u234 u235 : Value} {Q : Exit → Act → World → Prop} (hP : PanicOk Q)
    (hQ : ∀ (s228 s229 s230 s231 s232 s233 s234 : Value)  (wx : World), KMem w wx q p8 p9 p10 a (upd V j (.slice lb L.length cb)) (upd A j L) (upd s j L.length) t d → Q .normal ⟨#[u0, u1, u2, u3, u4, u5, u6, u7, .pointer (some ⟨p8, 0, none⟩), .pointer (some ⟨p9, 0, none⟩), u10, u11, u12, u13, u14, .int .i64 j, .slice lb L.length cb, u17, u18, u19, u20, u21, u22, u23, u24, u25, u26, u27, u28, u29, u30, u31, u32, u33, u34, u35, u36, u37, u38, u39, u40, u41, u42, u43, u44, u45, u46, u47, u48, u49, u50, u51, u52, u53, u54, u55, u56, u57, u58, u59, u60, u61, u62, u63, u64, u65, u66, u67, u68, u69, u70, u71, u72, u73, u74, u75, u76, u77, u78, u79, u80, u81, u82, u83, u84, u85, u86, u87, u88, u89, u90, u91, u92, u93, u94, u95, u96, u97, u98, u99, u100, u101, u102, u103, u104, u105, u106, u107, u108, u109, u110, u111, u112, u113, u114, u115, u116, u117, u118, u119, u120, u121, u122, u123, u124, u125, u126, u127, u128, u129, u130, u131, u132, u133, u134, u135, u136, u137, u138, u139, u140, u141, u142, u143, u144, u145, u146, u147, u148, u149, u150, u151, u152, u153, u154, u155, u156, u157, u158, u159, u160, u161, u162, u163, u164, u165, u166, u167, u168, u169, u170, u171, u172, u173, u174, u175, u176, u177, u178, u179, u180, u181, u182, u183, u184, u185, u186, u187, u188, u189, u190, u191, u192, u193, u194, u195, u196, u197, u198, u199, u200, u201, u202, u203, u204, u205, u206, u207, u208, u209, u210, u211, u212, u213, u214, u215, u216, u217, u218, u219, u220, u221, u222, u223, u224, u225, u226, u227, s228, s229, s230, s231, s232, s233, s234, u235], []⟩ wx) :
    Code.wp Tryd.prog ((Tryd.f3.body.bind (regionOf 32)).getD .skip) Q ⟨#[u0, u1, u2, u3, u4, u5, u6, u7, .pointer (some ⟨p8, 0, none⟩), .pointer (some ⟨p9, 0, none⟩), u10, u11, u12, u13, u14, .int .i64 j, .slice lb L.length cb, u17, u18, u19, u20, u21, u22, u23, u24, u25, u26, u27, u28, u29, u30, u31, u32, u33, u34, u35, u36, u37, u38, u39, u40, u41, u42, u43, u44, u45, u46, u47, u48, u49, u50, u51, u52, u53, u54, u55, u56, u57, u58, u59, u60, u61, u62, u63, u64, u65, u66, u67, u68, u69, u70, u71, u72, u73, u74, u75, u76, u77, u78, u79, u80, u81, u82, u83, u84, u85, u86, u87, u88, u89, u90, u91, u92, u93, u94, u95, u96, u97, u98, u99, u100, u101, u102, u103, u104, u105, u106, u107, u108, u109, u110, u111, u112, u113, u114, u115, u116, u117, u118, u119, u120, u121, u122, u123, u124, u125, u126, u127, u128, u129, u130, u131, u132, u133, u134, u135, u136, u137, u138, u139, u140, u141, u142, u143, u144, u145, u146, u147, u148, u149, u150, u151, u152, u153, u154, u155, u156, u157, u158, u159, u160, u161, u162, u163, u164, u165, u166, u167, u168, u169, u170, u171, u172, u173, u174, u175, u176, u177, u178, u179, u180, u181, u182, u183, u184, u185, u186, u187, u188, u189, u190, u191, u192, u193, u194, u195, u196, u197, u198, u199, u200, u201, u202, u203, u204, u205, u206, u207, u208, u209, u210, u211, u212, u213, u214, u215, u216, u217, u218, u219, u220, u221, u222, u223, u224, u225, u226, u227, u228, u229, u230, u231, u232, u233, u234, u235], []⟩ wc := by
  dsimp only at hQ ⊢
  conv => arg 2; whnf
  have HQ := Lib.hid hQ
  clear hQ
  have hj0 : (0 : Int) ≤ (j : Int) := by omega
  have hj1 : (j : Int) < 3 := by omega
  have M1 := Lib.hid (HMM.out.nw N0.out)
  have ca := M1.out.all hj3
  have M2 := Lib.hid (HMM.out.setAll hj3 N0.out HBL.out (fun hne g hg => ⟨by have := HF.out g hg; have := lt_of_block HMM.out.h10; omega, .inr (HF.out g hg)⟩))
  have cs := M2.out.sure hj3
  obtain ⟨fa, -, -⟩ := M1.out.free j
  obtain ⟨-, fs, -⟩ := M2.out.free j
  have M3 := Lib.hid (M2.out.setSure hj3 L.length)
  go_wp2_with fail
  exact HQ.out _ _ _ _ _ _ _ _ M3.out

theorem p9 {wc : World} {nps cap na capb n : Nat} {sa sb : Option Addr}  {u2 u3 u4 u5 u6 u7 u8 u9 u10 u12 u13 u14 u15 u16 u17 u18 u19 u20 u21 u22 u23 u24 u25 u26 u27 u28 u29 u30 u31 u32 u33 u34 u35 u36 u37 u38 u39 u40 u41 u42 u43 u44 u45 u46 u47 u48 u49 u50 u51 u52 u53 u54 u55 u56 u57 u58 u59 u60 u61 u62 u63 u64 u65 u66 u67 u68 u69 u70 u71 u72 u73 u74 u75 u76 u77 u78 u79 u80 u81 u82 u83 u84 u85 u86 u87 u88 u89 u90 u91 u92 u93 u94 u95 u96 u97 u98 u99 u100 u101 u102 u103 u104 u105 u106 u107 u108 u109 u110 u111 u112 u113 u114 u115 u116 u117 u118 u119 u120 u121 u122 u123 u124 u125 u126 u127 u128 u129 u130 u131 u132 u133 u134 u135 u136 u137 u138 u139 u140 u141 u142 u143 u144 u145 u146 u147 u148 u149 u150 u151 u152 u153 u154 u155 u156 u157 u158 u159 u160 u161 u162 u163 u164 u165 u166 u167 u168 u169 u170 u171 u172 u173 u174 u175 u176 u177 u178 u179 u180 u181 u182 u183 u184 u185 u186 u187 u188 u189 u190 u191 u192 u193 u194 u195 u196 u197 u198 u199 u200 u201 u202 u203 u204 u205 u206 u207 u208 u209 u210 u211 u212 u213 u214 u215 u216 u217 u218 u219 u220 u221 u222 u223 u224 u225 u226 u227 u228 u229 u230 u231 u232 u233 u234 u235 : Value} {Q : Exit → Act → World → Prop} (hP : PanicOk Q)
    (hQ : ∀ (s25 s26 s27 s28 s29 s30 s31 s32 s33 s34 s35 s36 s37 : Value) (b : Bool) (wx : World), (b = true → n < nps ∧ n < 40 ∧ n < na) → wx = wc → Q .normal ⟨#[.slice sa nps cap, .slice (sb) na capb, u2, u3, u4, u5, u6, u7, u8, u9, u10, .int .i64 n, u12, u13, u14, u15, u16, u17, u18, u19, u20, u21, u22, u23, u24, s25, s26, s27, s28, s29, s30, s31, s32, s33, s34, s35, s36, s37, .bool b, u39, u40, u41, u42, u43, u44, u45, u46, u47, u48, u49, u50, u51, u52, u53, u54, u55, u56, u57, u58, u59, u60, u61, u62, u63, u64, u65, u66, u67, u68, u69, u70, u71, u72, u73, u74, u75, u76, u77, u78, u79, u80, u81, u82, u83, u84, u85, u86, u87, u88, u89, u90, u91, u92, u93, u94, u95, u96, u97, u98, u99, u100, u101, u102, u103, u104, u105, u106, u107, u108, u109, u110, u111, u112, u113, u114, u115, u116, u117, u118, u119, u120, u121, u122, u123, u124, u125, u126, u127, u128, u129, u130, u131, u132, u133, u134, u135, u136, u137, u138, u139, u140, u141, u142, u143, u144, u145, u146, u147, u148, u149, u150, u151, u152, u153, u154, u155, u156, u157, u158, u159, u160, u161, u162, u163, u164, u165, u166, u167, u168, u169, u170, u171, u172, u173, u174, u175, u176, u177, u178, u179, u180, u181, u182, u183, u184, u185, u186, u187, u188, u189, u190, u191, u192, u193, u194, u195, u196, u197, u198, u199, u200, u201, u202, u203, u204, u205, u206, u207, u208, u209, u210, u211, u212, u213, u214, u215, u216, u217, u218, u219, u220, u221, u222, u223, u224, u225, u226, u227, u228, u229, u230, u231, u232, u233, u234, u235], []⟩ wx) :
    Code.wp Tryd.prog ((Tryd.f3.body.bind (regionOf 9)).getD .skip) Q ⟨#[.slice sa nps cap, .slice (sb) na capb, u2, u3, u4, u5, u6, u7, u8, u9, u10, .int .i64 n, u12, u13, u14, u15, u16, u17, u18, u19, u20, u21, u22, u23, u24, u25, u26, u27, u28, u29, u30, u31, u32, u33, u34, u35, u36, u37, u38, u39, u40, u41, u42, u43, u44, u45, u46, u47, u48, u49, u50, u51, u52, u53, u54, u55, u56, u57, u58, u59, u60, u61, u62, u63, u64, u65, u66, u67, u68, u69, u70, u71, u72, u73, u74, u75, u76, u77, u78, u79, u80, u81, u82, u83, u84, u85, u86, u87, u88, u89, u90, u91, u92, u93, u94, u95, u96, u97, u98, u99, u100, u101, u102, u103, u104, u105, u106, u107, u108, u109, u110, u111, u112, u113, u114, u115, u116, u117, u118, u119, u120, u121, u122, u123, u124, u125, u126, u127, u128, u129, u130, u131, u132, u133, u134, u135, u136, u137, u138, u139, u140, u141, u142, u143, u144, u145, u146, u147, u148, u149, u150, u151, u152, u153, u154, u155, u156, u157, u158, u159, u160, u161, u162, u163, u164, u165, u166, u167, u168, u169, u170, u171, u172, u173, u174, u175, u176, u177, u178, u179, u180, u181, u182, u183, u184, u185, u186, u187, u188, u189, u190, u191, u192, u193, u194, u195, u196, u197, u198, u199, u200, u201, u202, u203, u204, u205, u206, u207, u208, u209, u210, u211, u212, u213, u214, u215, u216, u217, u218, u219, u220, u221, u222, u223, u224, u225, u226, u227, u228, u229, u230, u231, u232, u233, u234, u235], []⟩ wc := by
  dsimp only at hQ ⊢
  conv => arg 2; whnf
  have HQ := Lib.hid hQ
  clear hQ
  by_cases h1 : n < nps
  · by_cases h2 : n < 40
    · by_cases h3 : n < na
      · go_wp2_with fail
        exact HQ.out _ _ _ _ _ _ _ _ _ _ _ _ _ true _ (fun _ => ⟨h1, h2, h3⟩) rfl
      · go_wp2_with fail
        exact HQ.out _ _ _ _ _ _ _ _ _ _ _ _ _ false _ (fun h => absurd h (by decide)) rfl
    · have f1 : decide ((n : Int) < 40) = false := by simp; omega
      go_wp2_with fail
      exact HQ.out _ _ _ _ _ _ _ _ _ _ _ _ _ false _ (fun h => absurd h (by decide)) rfl
  · go_wp2_with fail
    exact HQ.out _ _ _ _ _ _ _ _ _ _ _ _ _ false _ (fun h => absurd h (by decide)) rfl

theorem p11 {wc : World} {p : List UInt8} {g o nps cap n : Nat} {ba : Option Addr} {bc : Nat} (hn4 : n < nps) (hcap : nps ≤ cap) (hc : wc.cell? ⟨g, o + n, none⟩ = some (.slice ba p.length bc))  {u1 u2 u3 u4 u5 u6 u7 u8 u9 u10 u12 u13 u14 u15 u16 u17 u18 u19 u20 u21 u22 u23 u24 u25 u26 u27 u28 u29 u30 u31 u32 u33 u34 u35 u36 u37 u38 u39 u40 u41 u42 u43 u44 u45 u46 u47 u48 u49 u50 u51 u52 u53 u54 u55 u56 u57 u58 u59 u60 u61 u62 u63 u64 u65 u66 u67 u68 u69 u70 u71 u72 u73 u74 u75 u76 u77 u78 u79 u80 u81 u82 u83 u84 u85 u86 u87 u88 u89 u90 u91 u92 u93 u94 u95 u96 u97 u98 u99 u100 u101 u102 u103 u104 u105 u106 u107 u108 u109 u110 u111 u112 u113 u114 u115 u116 u117 u118 u119 u120 u121 u122 u123 u124 u125 u126 u127 u128 u129 u130 u131 u132 u133 u134 u135 u136 u137 u138 u139 u140 u141 u142 u143 u144 u145 u146 u147 u148 u149 u150 u151 u152 u153 u154 u155 u156 u157 u158 u159 u160 u161 u162 u163 u164 u165 u166 u167 u168 u169 u170 u171 u172 u173 u174 u175 u176 u177 u178 u179 u180 u181 u182 u183 u184 u185 u186 u187 u188 u189 u190 u191 u192 u193 u194 u195 u196 u197 u198 u199 u200 u201 u202 u203 u204 u205 u206 u207 u208 u209 u210 u211 u212 u213 u214 u215 u216 u217 u218 u219 u220 u221 u222 u223 u224 u225 u226 u227 u228 u229 u230 u231 u232 u233 u234 u235 : Value} {Q : Exit → Act → World → Prop} (hP : PanicOk Q)
    (hQ : ∀ (s41 s42 s43 s44 s45 : Value) (b : Bool) (wx : World), (b = false → p.length ≤ 100) → wx = wc → Q .normal ⟨#[.slice (some ⟨g, o, none⟩) nps cap, u1, u2, u3, u4, u5, u6, u7, u8, u9, u10, .int .i64 n, u12, u13, u14, u15, u16, u17, u18, u19, u20, u21, u22, u23, u24, u25, u26, u27, u28, u29, u30, u31, u32, u33, u34, u35, u36, u37, u38, u39, u40, s41, s42, s43, s44, s45, .bool b, u47, u48, u49, u50, u51, u52, u53, u54, u55, u56, u57, u58, u59, u60, u61, u62, u63, u64, u65, u66, u67, u68, u69, u70, u71, u72, u73, u74, u75, u76, u77, u78, u79, u80, u81, u82, u83, u84, u85, u86, u87, u88, u89, u90, u91, u92, u93, u94, u95, u96, u97, u98, u99, u100, u101, u102, u103, u104, u105, u106, u107, u108, u109, u110, u111, u112, u113, u114, u115, u116, u117, u118, u119, u120, u121, u122, u123, u124, u125, u126, u127, u128, u129, u130, u131, u132, u133, u134, u135, u136, u137, u138, u139, u140, u141, u142, u143, u144, u145, u146, u147, u148, u149, u150, u151, u152, u153, u154, u155, u156, u157, u158, u159, u160, u161, u162, u163, u164, u165, u166, u167, u168, u169, u170, u171, u172, u173, u174, u175, u176, u177, u178, u179, u180, u181, u182, u183, u184, u185, u186, u187, u188, u189, u190, u191, u192, u193, u194, u195, u196, u197, u198, u199, u200, u201, u202, u203, u204, u205, u206, u207, u208, u209, u210, u211, u212, u213, u214, u215, u216, u217, u218, u219, u220, u221, u222, u223, u224, u225, u226, u227, u228, u229, u230, u231, u232, u233, u234, u235], []⟩ wx) :
    Code.wp Tryd.prog ((Tryd.f3.body.bind (regionOf 11)).getD .skip) Q ⟨#[.slice (some ⟨g, o, none⟩) nps cap, u1, u2, u3, u4, u5, u6, u7, u8, u9, u10, .int .i64 n, u12, u13, u14, u15, u16, u17, u18, u19, u20, u21, u22, u23, u24, u25, u26, u27, u28, u29, u30, u31, u32, u33, u34, u35, u36, u37, u38, u39, u40, u41, u42, u43, u44, u45, u46, u47, u48, u49, u50, u51, u52, u53, u54, u55, u56, u57, u58, u59, u60, u61, u62, u63, u64, u65, u66, u67, u68, u69, u70, u71, u72, u73, u74, u75, u76, u77, u78, u79, u80, u81, u82, u83, u84, u85, u86, u87, u88, u89, u90, u91, u92, u93, u94, u95, u96, u97, u98, u99, u100, u101, u102, u103, u104, u105, u106, u107, u108, u109, u110, u111, u112, u113, u114, u115, u116, u117, u118, u119, u120, u121, u122, u123, u124, u125, u126, u127, u128, u129, u130, u131, u132, u133, u134, u135, u136, u137, u138, u139, u140, u141, u142, u143, u144, u145, u146, u147, u148, u149, u150, u151, u152, u153, u154, u155, u156, u157, u158, u159, u160, u161, u162, u163, u164, u165, u166, u167, u168, u169, u170, u171, u172, u173, u174, u175, u176, u177, u178, u179, u180, u181, u182, u183, u184, u185, u186, u187, u188, u189, u190, u191, u192, u193, u194, u195, u196, u197, u198, u199, u200, u201, u202, u203, u204, u205, u206, u207, u208, u209, u210, u211, u212, u213, u214, u215, u216, u217, u218, u219, u220, u221, u222, u223, u224, u225, u226, u227, u228, u229, u230, u231, u232, u233, u234, u235], []⟩ wc := by
  dsimp only at hQ ⊢
  conv => arg 2; whnf
  have HQ := Lib.hid hQ
  clear hQ
  by_cases hb : 100 < p.length
  · have f1 : decide ((p.length : Int) > 100) = true := by simp; omega
    go_wp2_with fail
    exact HQ.out _ _ _ _ _ true _ (fun h => absurd h (by decide)) rfl
  · have f1 : decide ((p.length : Int) > 100) = false := by simp; omega
    go_wp2_with fail
    exact HQ.out _ _ _ _ _ false _ (fun _ => by omega) rfl

theorem p12 {wc : World} {g2 o2 na capb n : Nat} {z : Int} (hn4 : n < na) (hcap : na ≤ capb) (hc : wc.cell? ⟨g2, o2 + n, none⟩ = some (.int .i64 z))  {u0 u2 u3 u4 u5 u6 u7 u8 u9 u10 u12 u13 u14 u15 u16 u17 u18 u19 u20 u21 u22 u23 u24 u25 u26 u27 u28 u29 u30 u31 u32 u33 u34 u35 u36 u37 u38 u39 u40 u41 u42 u43 u44 u45 u46 u47 u48 u49 u50 u51 u52 u53 u54 u55 u56 u57 u58 u59 u60 u61 u62 u63 u64 u65 u66 u67 u68 u69 u70 u71 u72 u73 u74 u75 u76 u77 u78 u79 u80 u81 u82 u83 u84 u85 u86 u87 u88 u89 u90 u91 u92 u93 u94 u95 u96 u97 u98 u99 u100 u101 u102 u103 u104 u105 u106 u107 u108 u109 u110 u111 u112 u113 u114 u115 u116 u117 u118 u119 u120 u121 u122 u123 u124 u125 u126 u127 u128 u129 u130 u131 u132 u133 u134 u135 u136 u137 u138 u139 u140 u141 u142 u143 u144 u145 u146 u147 u148 u149 u150 u151 u152 u153 u154 u155 u156 u157 u158 u159 u160 u161 u162 u163 u164 u165 u166 u167 u168 u169 u170 u171 u172 u173 u174 u175 u176 u177 u178 u179 u180 u181 u182 u183 u184 u185 u186 u187 u188 u189 u190 u191 u192 u193 u194 u195 u196 u197 u198 u199 u200 u201 u202 u203 u204 u205 u206 u207 u208 u209 u210 u211 u212 u213 u214 u215 u216 u217 u218 u219 u220 u221 u222 u223 u224 u225 u226 u227 u228 u229 u230 u231 u232 u233 u234 u235 : Value} {Q : Exit → Act → World → Prop} (hP : PanicOk Q)
    (hQ : ∀ (s47 s48 s49 s50 s51 : Value) (m : Nat) (wx : World), m < 1000003 → wx = wc → Q .normal ⟨#[u0, .slice (some ⟨g2, o2, none⟩) na capb, u2, u3, u4, u5, u6, u7, u8, u9, u10, .int .i64 n, .int .i64 m, u13, u14, u15, u16, u17, u18, u19, u20, u21, u22, u23, u24, u25, u26, u27, u28, u29, u30, u31, u32, u33, u34, u35, u36, u37, u38, u39, u40, u41, u42, u43, u44, u45, u46, s47, s48, s49, s50, s51, u52, u53, u54, u55, u56, u57, u58, u59, u60, u61, u62, u63, u64, u65, u66, u67, u68, u69, u70, u71, u72, u73, u74, u75, u76, u77, u78, u79, u80, u81, u82, u83, u84, u85, u86, u87, u88, u89, u90, u91, u92, u93, u94, u95, u96, u97, u98, u99, u100, u101, u102, u103, u104, u105, u106, u107, u108, u109, u110, u111, u112, u113, u114, u115, u116, u117, u118, u119, u120, u121, u122, u123, u124, u125, u126, u127, u128, u129, u130, u131, u132, u133, u134, u135, u136, u137, u138, u139, u140, u141, u142, u143, u144, u145, u146, u147, u148, u149, u150, u151, u152, u153, u154, u155, u156, u157, u158, u159, u160, u161, u162, u163, u164, u165, u166, u167, u168, u169, u170, u171, u172, u173, u174, u175, u176, u177, u178, u179, u180, u181, u182, u183, u184, u185, u186, u187, u188, u189, u190, u191, u192, u193, u194, u195, u196, u197, u198, u199, u200, u201, u202, u203, u204, u205, u206, u207, u208, u209, u210, u211, u212, u213, u214, u215, u216, u217, u218, u219, u220, u221, u222, u223, u224, u225, u226, u227, u228, u229, u230, u231, u232, u233, u234, u235], []⟩ wx) :
    Code.wp Tryd.prog ((Tryd.f3.body.bind (regionOf 12)).getD .skip) Q ⟨#[u0, .slice (some ⟨g2, o2, none⟩) na capb, u2, u3, u4, u5, u6, u7, u8, u9, u10, .int .i64 n, u12, u13, u14, u15, u16, u17, u18, u19, u20, u21, u22, u23, u24, u25, u26, u27, u28, u29, u30, u31, u32, u33, u34, u35, u36, u37, u38, u39, u40, u41, u42, u43, u44, u45, u46, u47, u48, u49, u50, u51, u52, u53, u54, u55, u56, u57, u58, u59, u60, u61, u62, u63, u64, u65, u66, u67, u68, u69, u70, u71, u72, u73, u74, u75, u76, u77, u78, u79, u80, u81, u82, u83, u84, u85, u86, u87, u88, u89, u90, u91, u92, u93, u94, u95, u96, u97, u98, u99, u100, u101, u102, u103, u104, u105, u106, u107, u108, u109, u110, u111, u112, u113, u114, u115, u116, u117, u118, u119, u120, u121, u122, u123, u124, u125, u126, u127, u128, u129, u130, u131, u132, u133, u134, u135, u136, u137, u138, u139, u140, u141, u142, u143, u144, u145, u146, u147, u148, u149, u150, u151, u152, u153, u154, u155, u156, u157, u158, u159, u160, u161, u162, u163, u164, u165, u166, u167, u168, u169, u170, u171, u172, u173, u174, u175, u176, u177, u178, u179, u180, u181, u182, u183, u184, u185, u186, u187, u188, u189, u190, u191, u192, u193, u194, u195, u196, u197, u198, u199, u200, u201, u202, u203, u204, u205, u206, u207, u208, u209, u210, u211, u212, u213, u214, u215, u216, u217, u218, u219, u220, u221, u222, u223, u224, u225, u226, u227, u228, u229, u230, u231, u232, u233, u234, u235], []⟩ wc := by
  dsimp only at hQ ⊢
  conv => arg 2; whnf
  have HQ := Lib.hid hQ
  clear hQ
  obtain ⟨m, hm, hmlt⟩ : ∃ m : Nat, z % 1000003 = (m : Int) ∧ m < 1000003 := ⟨(z % 1000003).toNat, by omega, by omega⟩
  have HM := Lib.hid hm
  clear hm
  go_wp2_with fail
  refine (Pick_ok z 1000003 _ (by omega) (by omega)).mono ?_
  rintro e w2 ⟨rfl, rfl⟩
  rw [HM.out]
  go_wp2_with fail
  exact HQ.out _ _ _ _ _ m _ hmlt rfl

theorem p13 {wc : World} {m : Nat} (hmlt : m < 1000003)  {u0 u1 u2 u3 u4 u5 u6 u7 u8 u9 u10 u11 u13 u14 u15 u16 u17 u18 u19 u20 u21 u22 u23 u24 u25 u26 u27 u28 u29 u30 u31 u32 u33 u34 u35 u36 u37 u38 u39 u40 u41 u42 u43 u44 u45 u46 u47 u48 u49 u50 u51 u52 u53 u54 u55 u56 u57 u58 u59 u60 u61 u62 u63 u64 u65 u66 u67 u68 u69 u70 u71 u72 u73 u74 u75 u76 u77 u78 u79 u80 u81 u82 u83 u84 u85 u86 u87 u88 u89 u90 u91 u92 u93 u94 u95 u96 u97 u98 u99 u100 u101 u102 u103 u104 u105 u106 u107 u108 u109 u110 u111 u112 u113 u114 u115 u116 u117 u118 u119 u120 u121 u122 u123 u124 u125 u126 u127 u128 u129 u130 u131 u132 u133 u134 u135 u136 u137 u138 u139 u140 u141 u142 u143 u144 u145 u146 u147 u148 u149 u150 u151 u152 u153 u154 u155 u156 u157 u158 u159 u160 u161 u162 u163 u164 u165 u166 u167 u168 u169 u170 u171 u172 u173 u174 u175 u176 u177 u178 u179 u180 u181 u182 u183 u184 u185 u186 u187 u188 u189 u190 u191 u192 u193 u194 u195 u196 u197 u198 u199 u200 u201 u202 u203 u204 u205 u206 u207 u208 u209 u210 u211 u212 u213 u214 u215 u216 u217 u218 u219 u220 u221 u222 u223 u224 u225 u226 u227 u228 u229 u230 u231 u232 u233 u234 u235 : Value} {Q : Exit → Act → World → Prop} (hP : PanicOk Q)
    (hQ : ∀ (s52 s53 s54 s55 s56 : Value) (k o' : Nat) (wx : World), k < 3 → o' < 3 → wx = wc → Q .normal ⟨#[u0, u1, u2, u3, u4, u5, u6, u7, u8, u9, u10, u11, .int .i64 m, .int .i64 k, .int .i64 o', u15, u16, u17, u18, u19, u20, u21, u22, u23, u24, u25, u26, u27, u28, u29, u30, u31, u32, u33, u34, u35, u36, u37, u38, u39, u40, u41, u42, u43, u44, u45, u46, u47, u48, u49, u50, u51, s52, s53, s54, s55, s56, u57, u58, u59, u60, u61, u62, u63, u64, u65, u66, u67, u68, u69, u70, u71, u72, u73, u74, u75, u76, u77, u78, u79, u80, u81, u82, u83, u84, u85, u86, u87, u88, u89, u90, u91, u92, u93, u94, u95, u96, u97, u98, u99, u100, u101, u102, u103, u104, u105, u106, u107, u108, u109, u110, u111, u112, u113, u114, u115, u116, u117, u118, u119, u120, u121, u122, u123, u124, u125, u126, u127, u128, u129, u130, u131, u132, u133, u134, u135, u136, u137, u138, u139, u140, u141, u142, u143, u144, u145, u146, u147, u148, u149, u150, u151, u152, u153, u154, u155, u156, u157, u158, u159, u160, u161, u162, u163, u164, u165, u166, u167, u168, u169, u170, u171, u172, u173, u174, u175, u176, u177, u178, u179, u180, u181, u182, u183, u184, u185, u186, u187, u188, u189, u190, u191, u192, u193, u194, u195, u196, u197, u198, u199, u200, u201, u202, u203, u204, u205, u206, u207, u208, u209, u210, u211, u212, u213, u214, u215, u216, u217, u218, u219, u220, u221, u222, u223, u224, u225, u226, u227, u228, u229, u230, u231, u232, u233, u234, u235], []⟩ wx) :
    Code.wp Tryd.prog ((Tryd.f3.body.bind (regionOf 13)).getD .skip) Q ⟨#[u0, u1, u2, u3, u4, u5, u6, u7, u8, u9, u10, u11, .int .i64 m, u13, u14, u15, u16, u17, u18, u19, u20, u21, u22, u23, u24, u25, u26, u27, u28, u29, u30, u31, u32, u33, u34, u35, u36, u37, u38, u39, u40, u41, u42, u43, u44, u45, u46, u47, u48, u49, u50, u51, u52, u53, u54, u55, u56, u57, u58, u59, u60, u61, u62, u63, u64, u65, u66, u67, u68, u69, u70, u71, u72, u73, u74, u75, u76, u77, u78, u79, u80, u81, u82, u83, u84, u85, u86, u87, u88, u89, u90, u91, u92, u93, u94, u95, u96, u97, u98, u99, u100, u101, u102, u103, u104, u105, u106, u107, u108, u109, u110, u111, u112, u113, u114, u115, u116, u117, u118, u119, u120, u121, u122, u123, u124, u125, u126, u127, u128, u129, u130, u131, u132, u133, u134, u135, u136, u137, u138, u139, u140, u141, u142, u143, u144, u145, u146, u147, u148, u149, u150, u151, u152, u153, u154, u155, u156, u157, u158, u159, u160, u161, u162, u163, u164, u165, u166, u167, u168, u169, u170, u171, u172, u173, u174, u175, u176, u177, u178, u179, u180, u181, u182, u183, u184, u185, u186, u187, u188, u189, u190, u191, u192, u193, u194, u195, u196, u197, u198, u199, u200, u201, u202, u203, u204, u205, u206, u207, u208, u209, u210, u211, u212, u213, u214, u215, u216, u217, u218, u219, u220, u221, u222, u223, u224, u225, u226, u227, u228, u229, u230, u231, u232, u233, u234, u235], []⟩ wc := by
  dsimp only at hQ ⊢
  conv => arg 2; whnf
  have HQ := Lib.hid hQ
  clear hQ
  go_wp2_with fail
  obtain ⟨k, hk, hk3⟩ : ∃ k : Nat, (m : Int) % 3 = (k : Int) ∧ k < 3 := ⟨m % 3, by omega, by omega⟩
  obtain ⟨o', ho, ho3⟩ : ∃ o : Nat, (m : Int) / 3 % 3 = (o : Int) ∧ o < 3 := ⟨m / 3 % 3, by omega, by omega⟩
  simp only [hk, ho]
  exact HQ.out _ _ _ _ _ k o' _ hk3 ho3 rfl

theorem p14 {wc : World} {m : Nat} (hmlt : m < 1000003)  {u0 u1 u2 u3 u4 u5 u6 u7 u8 u9 u10 u11 u13 u14 u15 u16 u17 u18 u19 u20 u21 u22 u23 u24 u25 u26 u27 u28 u29 u30 u31 u32 u33 u34 u35 u36 u37 u38 u39 u40 u41 u42 u43 u44 u45 u46 u47 u48 u49 u50 u51 u52 u53 u54 u55 u56 u57 u58 u59 u60 u61 u62 u63 u64 u65 u66 u67 u68 u69 u70 u71 u72 u73 u74 u75 u76 u77 u78 u79 u80 u81 u82 u83 u84 u85 u86 u87 u88 u89 u90 u91 u92 u93 u94 u95 u96 u97 u98 u99 u100 u101 u102 u103 u104 u105 u106 u107 u108 u109 u110 u111 u112 u113 u114 u115 u116 u117 u118 u119 u120 u121 u122 u123 u124 u125 u126 u127 u128 u129 u130 u131 u132 u133 u134 u135 u136 u137 u138 u139 u140 u141 u142 u143 u144 u145 u146 u147 u148 u149 u150 u151 u152 u153 u154 u155 u156 u157 u158 u159 u160 u161 u162 u163 u164 u165 u166 u167 u168 u169 u170 u171 u172 u173 u174 u175 u176 u177 u178 u179 u180 u181 u182 u183 u184 u185 u186 u187 u188 u189 u190 u191 u192 u193 u194 u195 u196 u197 u198 u199 u200 u201 u202 u203 u204 u205 u206 u207 u208 u209 u210 u211 u212 u213 u214 u215 u216 u217 u218 u219 u220 u221 u222 u223 u224 u225 u226 u227 u228 u229 u230 u231 u232 u233 u234 u235 : Value} {Q : Exit → Act → World → Prop} (hP : PanicOk Q)
    (hQ : ∀ (s57 s58 s59 : Value) (b : Bool) (wx : World), wx = wc → Q .normal ⟨#[u0, u1, u2, u3, u4, u5, u6, u7, u8, u9, u10, u11, .int .i64 m, u13, u14, u15, u16, u17, u18, u19, u20, u21, u22, u23, u24, u25, u26, u27, u28, u29, u30, u31, u32, u33, u34, u35, u36, u37, u38, u39, u40, u41, u42, u43, u44, u45, u46, u47, u48, u49, u50, u51, u52, u53, u54, u55, u56, s57, s58, s59, .bool b, u61, u62, u63, u64, u65, u66, u67, u68, u69, u70, u71, u72, u73, u74, u75, u76, u77, u78, u79, u80, u81, u82, u83, u84, u85, u86, u87, u88, u89, u90, u91, u92, u93, u94, u95, u96, u97, u98, u99, u100, u101, u102, u103, u104, u105, u106, u107, u108, u109, u110, u111, u112, u113, u114, u115, u116, u117, u118, u119, u120, u121, u122, u123, u124, u125, u126, u127, u128, u129, u130, u131, u132, u133, u134, u135, u136, u137, u138, u139, u140, u141, u142, u143, u144, u145, u146, u147, u148, u149, u150, u151, u152, u153, u154, u155, u156, u157, u158, u159, u160, u161, u162, u163, u164, u165, u166, u167, u168, u169, u170, u171, u172, u173, u174, u175, u176, u177, u178, u179, u180, u181, u182, u183, u184, u185, u186, u187, u188, u189, u190, u191, u192, u193, u194, u195, u196, u197, u198, u199, u200, u201, u202, u203, u204, u205, u206, u207, u208, u209, u210, u211, u212, u213, u214, u215, u216, u217, u218, u219, u220, u221, u222, u223, u224, u225, u226, u227, u228, u229, u230, u231, u232, u233, u234, u235], []⟩ wx) :
    Code.wp Tryd.prog ((Tryd.f3.body.bind (regionOf 14)).getD .skip) Q ⟨#[u0, u1, u2, u3, u4, u5, u6, u7, u8, u9, u10, u11, .int .i64 m, u13, u14, u15, u16, u17, u18, u19, u20, u21, u22, u23, u24, u25, u26, u27, u28, u29, u30, u31, u32, u33, u34, u35, u36, u37, u38, u39, u40, u41, u42, u43, u44, u45, u46, u47, u48, u49, u50, u51, u52, u53, u54, u55, u56, u57, u58, u59, u60, u61, u62, u63, u64, u65, u66, u67, u68, u69, u70, u71, u72, u73, u74, u75, u76, u77, u78, u79, u80, u81, u82, u83, u84, u85, u86, u87, u88, u89, u90, u91, u92, u93, u94, u95, u96, u97, u98, u99, u100, u101, u102, u103, u104, u105, u106, u107, u108, u109, u110, u111, u112, u113, u114, u115, u116, u117, u118, u119, u120, u121, u122, u123, u124, u125, u126, u127, u128, u129, u130, u131, u132, u133, u134, u135, u136, u137, u138, u139, u140, u141, u142, u143, u144, u145, u146, u147, u148, u149, u150, u151, u152, u153, u154, u155, u156, u157, u158, u159, u160, u161, u162, u163, u164, u165, u166, u167, u168, u169, u170, u171, u172, u173, u174, u175, u176, u177, u178, u179, u180, u181, u182, u183, u184, u185, u186, u187, u188, u189, u190, u191, u192, u193, u194, u195, u196, u197, u198, u199, u200, u201, u202, u203, u204, u205, u206, u207, u208, u209, u210, u211, u212, u213, u214, u215, u216, u217, u218, u219, u220, u221, u222, u223, u224, u225, u226, u227, u228, u229, u230, u231, u232, u233, u234, u235], []⟩ wc := by
  dsimp only at hQ ⊢
  conv => arg 2; whnf
  have HQ := Lib.hid hQ
  clear hQ
  go_wp2_with fail
  exact HQ.out _ _ _ _ _ rfl

theorem p60 {w wc : World} {q p8 p9 p10 a : Nat} {V : Nat → Value} {A : Nat → List UInt8} {s : Nat → Nat} {t : Nat → Bool} {d : Dsk} {B : Nat} (HMM : Hid (KMem w wc q p8 p9 p10 a V A s t d)) (HIV : Hid (Inv d A s t B)) {m : Nat} (hmlt : m < 1000003) {b : Bool}  {u0 u1 u2 u3 u4 u5 u7 u8 u9 u10 u11 u13 u14 u15 u16 u17 u18 u19 u20 u21 u22 u23 u24 u25 u26 u27 u28 u29 u30 u31 u32 u33 u34 u35 u36 u37 u38 u39 u40 u41 u42 u43 u44 u45 u46 u47 u48 u49 u50 u51 u52 u53 u54 u55 u56 u57 u58 u59 u61 u62 u63 u64 u65 u66 u67 u68 u69 u70 u71 u72 u73 u74 u75 u76 u77 u78 u79 u80 u81 u82 u83 u84 u85 u86 u87 u88 u89 u90 u91 u92 u93 u94 u95 u96 u97 u98 u99 u100 u101 u102 u103 u104 u105 u106 u107 u108 u109 u110 u111 u112 u113 u114 u115 u116 u117 u118 u119 u120 u121 u122 u123 u124 u125 u126 u127 u128 u129 u130 u131 u132 u133 u134 u135 u136 u137 u138 u139 u140 u141 u142 u143 u144 u145 u146 u147 u148 u149 u150 u151 u152 u153 u154 u155 u156 u157 u158 u159 u160 u161 u162 u163 u164 u165 u166 u167 u168 u169 u170 u171 u172 u173 u174 u175 u176 u177 u178 u179 u180 u181 u182 u183 u184 u185 u186 u187 u188 u189 u190 u191 u192 u193 u194 u195 u196 u197 u198 u199 u200 u201 u202 u203 u204 u205 u206 u207 u208 u209 u210 u211 u212 u213 u214 u215 u216 u217 u218 u219 u220 u221 u222 u223 u224 u225 u226 u227 u228 u229 u230 u231 u232 u233 u234 u235 : Value} {Q : Exit → Act → World → Prop} (hP : PanicOk Q)
    (hQ : ∀ (s61 s62 s63 s64 s65 : Value)  (wx : World), St w q p8 p9 p10 a B wx → Q .normal ⟨#[u0, u1, u2, u3, u4, u5, .pointer (some ⟨a, 0, none⟩), u7, u8, u9, u10, u11, .int .i64 m, u13, u14, u15, u16, u17, u18, u19, u20, u21, u22, u23, u24, u25, u26, u27, u28, u29, u30, u31, u32, u33, u34, u35, u36, u37, u38, u39, u40, u41, u42, u43, u44, u45, u46, u47, u48, u49, u50, u51, u52, u53, u54, u55, u56, u57, u58, u59, .bool b, s61, s62, s63, s64, s65, u66, u67, u68, u69, u70, u71, u72, u73, u74, u75, u76, u77, u78, u79, u80, u81, u82, u83, u84, u85, u86, u87, u88, u89, u90, u91, u92, u93, u94, u95, u96, u97, u98, u99, u100, u101, u102, u103, u104, u105, u106, u107, u108, u109, u110, u111, u112, u113, u114, u115, u116, u117, u118, u119, u120, u121, u122, u123, u124, u125, u126, u127, u128, u129, u130, u131, u132, u133, u134, u135, u136, u137, u138, u139, u140, u141, u142, u143, u144, u145, u146, u147, u148, u149, u150, u151, u152, u153, u154, u155, u156, u157, u158, u159, u160, u161, u162, u163, u164, u165, u166, u167, u168, u169, u170, u171, u172, u173, u174, u175, u176, u177, u178, u179, u180, u181, u182, u183, u184, u185, u186, u187, u188, u189, u190, u191, u192, u193, u194, u195, u196, u197, u198, u199, u200, u201, u202, u203, u204, u205, u206, u207, u208, u209, u210, u211, u212, u213, u214, u215, u216, u217, u218, u219, u220, u221, u222, u223, u224, u225, u226, u227, u228, u229, u230, u231, u232, u233, u234, u235], []⟩ wx) :
    Code.wp Tryd.prog ((Tryd.f3.body.bind (condOf 60)).getD .skip) Q ⟨#[u0, u1, u2, u3, u4, u5, .pointer (some ⟨a, 0, none⟩), u7, u8, u9, u10, u11, .int .i64 m, u13, u14, u15, u16, u17, u18, u19, u20, u21, u22, u23, u24, u25, u26, u27, u28, u29, u30, u31, u32, u33, u34, u35, u36, u37, u38, u39, u40, u41, u42, u43, u44, u45, u46, u47, u48, u49, u50, u51, u52, u53, u54, u55, u56, u57, u58, u59, .bool b, u61, u62, u63, u64, u65, u66, u67, u68, u69, u70, u71, u72, u73, u74, u75, u76, u77, u78, u79, u80, u81, u82, u83, u84, u85, u86, u87, u88, u89, u90, u91, u92, u93, u94, u95, u96, u97, u98, u99, u100, u101, u102, u103, u104, u105, u106, u107, u108, u109, u110, u111, u112, u113, u114, u115, u116, u117, u118, u119, u120, u121, u122, u123, u124, u125, u126, u127, u128, u129, u130, u131, u132, u133, u134, u135, u136, u137, u138, u139, u140, u141, u142, u143, u144, u145, u146, u147, u148, u149, u150, u151, u152, u153, u154, u155, u156, u157, u158, u159, u160, u161, u162, u163, u164, u165, u166, u167, u168, u169, u170, u171, u172, u173, u174, u175, u176, u177, u178, u179, u180, u181, u182, u183, u184, u185, u186, u187, u188, u189, u190, u191, u192, u193, u194, u195, u196, u197, u198, u199, u200, u201, u202, u203, u204, u205, u206, u207, u208, u209, u210, u211, u212, u213, u214, u215, u216, u217, u218, u219, u220, u221, u222, u223, u224, u225, u226, u227, u228, u229, u230, u231, u232, u233, u234, u235], []⟩ wc := by
  dsimp only at hQ ⊢
  conv => arg 2; whnf
  have HQ := Lib.hid hQ
  clear hQ
  cases b
  · go_wp2_with fail
    exact HQ.out _ _ _ _ _ _ ⟨_, _, _, _, _, HMM.out, HIV.out⟩
  · go_wp2_with fail
    have hr : 0 ≤ (m : Int) / 63 % 4 ∧ (m : Int) / 63 % 4 < 4 := by omega
    refine (HMM.out.has.arm ((m : Int) / 63 % 4) (by omega) rfl).mono ?_
    rintro e w3 ⟨rfl, H3, K3⟩
    have M3 := Lib.hid (HMM.out.did H3 K3)
    clear H3 K3
    go_wp2_with fail
    exact HQ.out _ _ _ _ _ _ ⟨_, _, _, _, _, M3.out, HIV.out.same (by unfold Dsk.armed; split <;> rfl)⟩

theorem p24 {w wc : World} {q p8 p9 p10 a : Nat} {V : Nat → Value} {A : Nat → List UInt8} {s : Nat → Nat} {t : Nat → Bool} {d : Dsk} {B : Nat} (HMM : Hid (KMem w wc q p8 p9 p10 a V A s t d)) (HIV : Hid (Inv d A s t B)) {m : Nat} (hmlt : m < 1000003)  {u0 u1 u2 u3 u4 u5 u7 u8 u9 u10 u11 u13 u14 u15 u16 u17 u18 u19 u20 u21 u22 u23 u24 u25 u26 u27 u28 u29 u30 u31 u32 u33 u34 u35 u36 u37 u38 u39 u40 u41 u42 u43 u44 u45 u46 u47 u48 u49 u50 u51 u52 u53 u54 u55 u56 u57 u58 u59 u60 u61 u62 u63 u64 u65 u66 u67 u68 u69 u70 u71 u72 u73 u74 u75 u76 u77 u78 u79 u80 u81 u82 u83 u84 u85 u86 u87 u88 u89 u90 u91 u92 u93 u94 u95 u96 u97 u98 u99 u100 u101 u102 u103 u104 u105 u106 u107 u108 u109 u110 u111 u112 u113 u114 u115 u116 u117 u118 u119 u120 u121 u122 u123 u124 u125 u126 u127 u128 u129 u130 u131 u132 u133 u134 u135 u136 u137 u138 u139 u140 u141 u142 u143 u144 u145 u146 u147 u148 u149 u150 u151 u152 u153 u154 u155 u156 u157 u158 u159 u160 u161 u162 u163 u164 u165 u166 u167 u168 u169 u170 u171 u172 u173 u174 u175 u176 u177 u178 u179 u180 u181 u182 u183 u184 u185 u186 u187 u188 u189 u190 u191 u192 u193 u194 u195 u196 u197 u198 u199 u200 u201 u202 u203 u204 u205 u206 u207 u208 u209 u210 u211 u212 u213 u214 u215 u216 u217 u218 u219 u220 u221 u222 u223 u224 u225 u226 u227 u228 u229 u230 u231 u232 u233 u234 u235 : Value} {Q : Exit → Act → World → Prop} (hP : PanicOk Q)
    (hQ : ∀ (s149 s150 s151 s152 s153 s154 s155 s156 : Value) (b : Bool) (wx : World), wx = wc → Q .normal ⟨#[u0, u1, u2, u3, u4, u5, .pointer (some ⟨a, 0, none⟩), u7, u8, u9, u10, u11, .int .i64 m, u13, u14, u15, u16, u17, u18, u19, u20, u21, u22, u23, u24, u25, u26, u27, u28, u29, u30, u31, u32, u33, u34, u35, u36, u37, u38, u39, u40, u41, u42, u43, u44, u45, u46, u47, u48, u49, u50, u51, u52, u53, u54, u55, u56, u57, u58, u59, u60, u61, u62, u63, u64, u65, u66, u67, u68, u69, u70, u71, u72, u73, u74, u75, u76, u77, u78, u79, u80, u81, u82, u83, u84, u85, u86, u87, u88, u89, u90, u91, u92, u93, u94, u95, u96, u97, u98, u99, u100, u101, u102, u103, u104, u105, u106, u107, u108, u109, u110, u111, u112, u113, u114, u115, u116, u117, u118, u119, u120, u121, u122, u123, u124, u125, u126, u127, u128, u129, u130, u131, u132, u133, u134, u135, u136, u137, u138, u139, u140, u141, u142, u143, u144, u145, u146, u147, u148, s149, s150, s151, s152, s153, s154, s155, s156, .bool b, u158, u159, u160, u161, u162, u163, u164, u165, u166, u167, u168, u169, u170, u171, u172, u173, u174, u175, u176, u177, u178, u179, u180, u181, u182, u183, u184, u185, u186, u187, u188, u189, u190, u191, u192, u193, u194, u195, u196, u197, u198, u199, u200, u201, u202, u203, u204, u205, u206, u207, u208, u209, u210, u211, u212, u213, u214, u215, u216, u217, u218, u219, u220, u221, u222, u223, u224, u225, u226, u227, u228, u229, u230, u231, u232, u233, u234, u235], []⟩ wx) :
    Code.wp Tryd.prog ((Tryd.f3.body.bind (regionOf 24)).getD .skip) Q ⟨#[u0, u1, u2, u3, u4, u5, .pointer (some ⟨a, 0, none⟩), u7, u8, u9, u10, u11, .int .i64 m, u13, u14, u15, u16, u17, u18, u19, u20, u21, u22, u23, u24, u25, u26, u27, u28, u29, u30, u31, u32, u33, u34, u35, u36, u37, u38, u39, u40, u41, u42, u43, u44, u45, u46, u47, u48, u49, u50, u51, u52, u53, u54, u55, u56, u57, u58, u59, u60, u61, u62, u63, u64, u65, u66, u67, u68, u69, u70, u71, u72, u73, u74, u75, u76, u77, u78, u79, u80, u81, u82, u83, u84, u85, u86, u87, u88, u89, u90, u91, u92, u93, u94, u95, u96, u97, u98, u99, u100, u101, u102, u103, u104, u105, u106, u107, u108, u109, u110, u111, u112, u113, u114, u115, u116, u117, u118, u119, u120, u121, u122, u123, u124, u125, u126, u127, u128, u129, u130, u131, u132, u133, u134, u135, u136, u137, u138, u139, u140, u141, u142, u143, u144, u145, u146, u147, u148, u149, u150, u151, u152, u153, u154, u155, u156, u157, u158, u159, u160, u161, u162, u163, u164, u165, u166, u167, u168, u169, u170, u171, u172, u173, u174, u175, u176, u177, u178, u179, u180, u181, u182, u183, u184, u185, u186, u187, u188, u189, u190, u191, u192, u193, u194, u195, u196, u197, u198, u199, u200, u201, u202, u203, u204, u205, u206, u207, u208, u209, u210, u211, u212, u213, u214, u215, u216, u217, u218, u219, u220, u221, u222, u223, u224, u225, u226, u227, u228, u229, u230, u231, u232, u233, u234, u235], []⟩ wc := by
  dsimp only at hQ ⊢
  conv => arg 2; whnf
  have HQ := Lib.hid hQ
  clear hQ
  go_wp2_with fail
  obtain ⟨dn, hdn⟩ : ∃ dn, d.down = dn := ⟨_, rfl⟩
  refine (HMM.out.has.down hdn).mono ?_
  clear hdn
  rintro e w8 ⟨rfl, rfl⟩
  cases dn
  all_goals
    go_wp2_with fail
    exact HQ.out _ _ _ _ _ _ _ _ _ _ rfl

theorem p25 {w wc : World} {q p8 p9 p10 a : Nat} {V : Nat → Value} {A : Nat → List UInt8} {s : Nat → Nat} {t : Nat → Bool} {d : Dsk} {B : Nat} (HMM : Hid (KMem w wc q p8 p9 p10 a V A s t d)) (HIV : Hid (Inv d A s t B)) {m : Nat} (hmlt : m < 1000003)  {u0 u1 u2 u3 u4 u5 u7 u8 u9 u10 u11 u13 u14 u15 u16 u17 u18 u19 u20 u21 u22 u23 u24 u25 u26 u27 u28 u29 u30 u31 u32 u33 u34 u35 u36 u37 u38 u39 u40 u41 u42 u43 u44 u45 u46 u47 u48 u49 u50 u51 u52 u53 u54 u55 u56 u57 u58 u59 u60 u61 u62 u63 u64 u65 u66 u67 u68 u69 u70 u71 u72 u73 u74 u75 u76 u77 u78 u79 u80 u81 u82 u83 u84 u85 u86 u87 u88 u89 u90 u91 u92 u93 u94 u95 u96 u97 u98 u99 u100 u101 u102 u103 u104 u105 u106 u107 u108 u109 u110 u111 u112 u113 u114 u115 u116 u117 u118 u119 u120 u121 u122 u123 u124 u125 u126 u127 u128 u129 u130 u131 u132 u133 u134 u135 u136 u137 u138 u139 u140 u141 u142 u143 u144 u145 u146 u147 u148 u149 u150 u151 u152 u153 u154 u155 u156 u157 u158 u159 u160 u161 u162 u163 u164 u165 u166 u167 u168 u169 u170 u171 u172 u173 u174 u175 u176 u177 u178 u179 u180 u181 u182 u183 u184 u185 u186 u187 u188 u189 u190 u191 u192 u193 u194 u195 u196 u197 u198 u199 u200 u201 u202 u203 u204 u205 u206 u207 u208 u209 u210 u211 u212 u213 u214 u215 u216 u217 u218 u219 u220 u221 u222 u223 u224 u225 u226 u227 u228 u229 u230 u231 u232 u233 u234 u235 : Value} {Q : Exit → Act → World → Prop} (hP : PanicOk Q)
    (hQ : ∀ (s158 s159 s160 s161 s162 s163 s164 s165 s166 s167 s168 s169 : Value) (d' : Dsk) (mm : Nat → Nat) (wx : World), KMem w wx q p8 p9 p10 a V A s t d' → (∀ j, j < 3 → s j ≤ mm j ∧ mm j ≤ (A j).length ∧ (t j = false → mm j = 0 ∧ s j = 0)) → Inv d' (fun j => (A j).take (mm j)) mm t B → d'.down = false → Q .normal ⟨#[u0, u1, u2, u3, u4, u5, .pointer (some ⟨a, 0, none⟩), u7, u8, u9, u10, u11, .int .i64 m, u13, u14, u15, u16, u17, u18, u19, u20, u21, u22, u23, u24, u25, u26, u27, u28, u29, u30, u31, u32, u33, u34, u35, u36, u37, u38, u39, u40, u41, u42, u43, u44, u45, u46, u47, u48, u49, u50, u51, u52, u53, u54, u55, u56, u57, u58, u59, u60, u61, u62, u63, u64, u65, u66, u67, u68, u69, u70, u71, u72, u73, u74, u75, u76, u77, u78, u79, u80, u81, u82, u83, u84, u85, u86, u87, u88, u89, u90, u91, u92, u93, u94, u95, u96, u97, u98, u99, u100, u101, u102, u103, u104, u105, u106, u107, u108, u109, u110, u111, u112, u113, u114, u115, u116, u117, u118, u119, u120, u121, u122, u123, u124, u125, u126, u127, u128, u129, u130, u131, u132, u133, u134, u135, u136, u137, u138, u139, u140, u141, u142, u143, u144, u145, u146, u147, u148, u149, u150, u151, u152, u153, u154, u155, u156, u157, s158, s159, s160, s161, s162, s163, s164, s165, s166, s167, s168, s169, u170, u171, u172, u173, u174, u175, u176, u177, u178, u179, u180, u181, u182, u183, u184, u185, u186, u187, u188, u189, u190, u191, u192, u193, u194, u195, u196, u197, u198, u199, u200, u201, u202, u203, u204, u205, u206, u207, u208, u209, u210, u211, u212, u213, u214, u215, u216, u217, u218, u219, u220, u221, u222, u223, u224, u225, u226, u227, u228, u229, u230, u231, u232, u233, u234, u235], []⟩ wx) :
    Code.wp Tryd.prog ((Tryd.f3.body.bind (regionOf 25)).getD .skip) Q ⟨#[u0, u1, u2, u3, u4, u5, .pointer (some ⟨a, 0, none⟩), u7, u8, u9, u10, u11, .int .i64 m, u13, u14, u15, u16, u17, u18, u19, u20, u21, u22, u23, u24, u25, u26, u27, u28, u29, u30, u31, u32, u33, u34, u35, u36, u37, u38, u39, u40, u41, u42, u43, u44, u45, u46, u47, u48, u49, u50, u51, u52, u53, u54, u55, u56, u57, u58, u59, u60, u61, u62, u63, u64, u65, u66, u67, u68, u69, u70, u71, u72, u73, u74, u75, u76, u77, u78, u79, u80, u81, u82, u83, u84, u85, u86, u87, u88, u89, u90, u91, u92, u93, u94, u95, u96, u97, u98, u99, u100, u101, u102, u103, u104, u105, u106, u107, u108, u109, u110, u111, u112, u113, u114, u115, u116, u117, u118, u119, u120, u121, u122, u123, u124, u125, u126, u127, u128, u129, u130, u131, u132, u133, u134, u135, u136, u137, u138, u139, u140, u141, u142, u143, u144, u145, u146, u147, u148, u149, u150, u151, u152, u153, u154, u155, u156, u157, u158, u159, u160, u161, u162, u163, u164, u165, u166, u167, u168, u169, u170, u171, u172, u173, u174, u175, u176, u177, u178, u179, u180, u181, u182, u183, u184, u185, u186, u187, u188, u189, u190, u191, u192, u193, u194, u195, u196, u197, u198, u199, u200, u201, u202, u203, u204, u205, u206, u207, u208, u209, u210, u211, u212, u213, u214, u215, u216, u217, u218, u219, u220, u221, u222, u223, u224, u225, u226, u227, u228, u229, u230, u231, u232, u233, u234, u235], []⟩ wc := by
  dsimp only at hQ ⊢
  conv => arg 2; whnf
  have HQ := Lib.hid hQ
  clear hQ
  go_wp2_with fail
  have HA9 := Lib.hid (HMM.out.has.alloc (.cells #[.int .i64 ((m : Int) / 35 % 50), .int .i64 ((m : Int) / 99 % 50), .int .i64 ((m : Int) / 7 % 50)] 3))
  have MA9 := Lib.hid (HMM.out.nw ((Nw.refl wc).alloc (.cells #[.int .i64 ((m : Int) / 35 % 50), .int .i64 ((m : Int) / 99 % 50), .int .i64 ((m : Int) / 7 % 50)] 3)))
  refine (HA9.out.crash _ [(m : Int) / 35 % 50, (m : Int) / 99 % 50, (m : Int) / 7 % 50] (rd_lit wc _ _ _ _ 3 rfl (Nat.le_refl 3) (by decide)) (fun _ g hg => .inl (.inr (by cases hg; rfl))) rfl).mono ?_
  rintro e w9 ⟨rfl, H9, K9⟩
  have M9 := Lib.hid (MA9.out.did (H9.weak (fun k hk => .inl hk)) (K9.weak (fun k hk => .inl hk)))
  clear H9 K9
  obtain ⟨mm, hmm, hi9⟩ := HIV.out.crash HMM.out.has.ok [(m : Int) / 35 % 50, (m : Int) / 99 % 50, (m : Int) / 7 % 50]
  have HMM9 := Lib.hid hmm
  have HI9 := Lib.hid hi9
  clear hmm hi9
  go_wp2_with fail
  exact HQ.out _ _ _ _ _ _ _ _ _ _ _ _ _ mm _ M9.out HMM9.out HI9.out rfl

theorem p29 {w wc : World} {q p8 p9 p10 a : Nat} {V : Nat → Value} {A : Nat → List UInt8} {s : Nat → Nat} {t : Nat → Bool} {d : Dsk} (HMM : Hid (KMem w wc q p8 p9 p10 a V A s t d)) {j : Nat} (hj3 : j < 3) {L : List UInt8} {x : Int} (hrd : Hid (d.read (nm j) = (L, x)))  {u0 u1 u2 u3 u4 u7 u8 u9 u10 u11 u12 u13 u14 u16 u17 u18 u19 u20 u21 u22 u23 u24 u25 u26 u27 u28 u29 u30 u31 u32 u33 u34 u35 u36 u37 u38 u39 u40 u41 u42 u43 u44 u45 u46 u47 u48 u49 u50 u51 u52 u53 u54 u55 u56 u57 u58 u59 u60 u61 u62 u63 u64 u65 u66 u67 u68 u69 u70 u71 u72 u73 u74 u75 u76 u77 u78 u79 u80 u81 u82 u83 u84 u85 u86 u87 u88 u89 u90 u91 u92 u93 u94 u95 u96 u97 u98 u99 u100 u101 u102 u103 u104 u105 u106 u107 u108 u109 u110 u111 u112 u113 u114 u115 u116 u117 u118 u119 u120 u121 u122 u123 u124 u125 u126 u127 u128 u129 u130 u131 u132 u133 u134 u135 u136 u137 u138 u139 u140 u141 u142 u143 u144 u145 u146 u147 u148 u149 u150 u151 u152 u153 u154 u155 u156 u157 u158 u159 u160 u161 u162 u163 u164 u165 u166 u167 u168 u169 u170 u171 u172 u173 u174 u175 u176 u177 u178 u179 u180 u181 u182 u183 u184 u185 u186 u187 u188 u189 u190 u191 u192 u193 u194 u195 u196 u197 u198 u199 u200 u201 u202 u203 u204 u205 u206 u207 u208 u209 u210 u211 u212 u213 u214 u215 u216 u217 u218 u219 u220 u221 u222 u223 u224 u225 u226 u227 u228 u229 u230 u231 u232 u233 u234 u235 : Value} {Q : Exit → Act → World → Prop} (hP : PanicOk Q)
    (hQ : ∀ (s174 s175 s176 s177 s178 s179 s180 s181 s182 : Value) (lb : Option Addr) (cb : Nat) (wx : World), Nw wc wx → Bs wx (.slice lb L.length cb) L → (∀ g, (Value.slice lb L.length cb).ownBlock = some g → wc.heap.size ≤ g) → Q .normal ⟨#[u0, u1, u2, u3, u4, .slice (some ⟨q, 0, none⟩) 3 3, .pointer (some ⟨a, 0, none⟩), u7, u8, u9, u10, u11, u12, u13, u14, .int .i64 j, .slice lb L.length cb, .int .i64 x, u18, u19, u20, u21, u22, u23, u24, u25, u26, u27, u28, u29, u30, u31, u32, u33, u34, u35, u36, u37, u38, u39, u40, u41, u42, u43, u44, u45, u46, u47, u48, u49, u50, u51, u52, u53, u54, u55, u56, u57, u58, u59, u60, u61, u62, u63, u64, u65, u66, u67, u68, u69, u70, u71, u72, u73, u74, u75, u76, u77, u78, u79, u80, u81, u82, u83, u84, u85, u86, u87, u88, u89, u90, u91, u92, u93, u94, u95, u96, u97, u98, u99, u100, u101, u102, u103, u104, u105, u106, u107, u108, u109, u110, u111, u112, u113, u114, u115, u116, u117, u118, u119, u120, u121, u122, u123, u124, u125, u126, u127, u128, u129, u130, u131, u132, u133, u134, u135, u136, u137, u138, u139, u140, u141, u142, u143, u144, u145, u146, u147, u148, u149, u150, u151, u152, u153, u154, u155, u156, u157, u158, u159, u160, u161, u162, u163, u164, u165, u166, u167, u168, u169, u170, u171, u172, u173, s174, s175, s176, s177, s178, s179, s180, s181, s182, u183, u184, u185, u186, u187, u188, u189, u190, u191, u192, u193, u194, u195, u196, u197, u198, u199, u200, u201, u202, u203, u204, u205, u206, u207, u208, u209, u210, u211, u212, u213, u214, u215, u216, u217, u218, u219, u220, u221, u222, u223, u224, u225, u226, u227, u228, u229, u230, u231, u232, u233, u234, u235], []⟩ wx) :
    Code.wp Tryd.prog ((Tryd.f3.body.bind (regionOf 29)).getD .skip) Q ⟨#[u0, u1, u2, u3, u4, .slice (some ⟨q, 0, none⟩) 3 3, .pointer (some ⟨a, 0, none⟩), u7, u8, u9, u10, u11, u12, u13, u14, .int .i64 j, u16, u17, u18, u19, u20, u21, u22, u23, u24, u25, u26, u27, u28, u29, u30, u31, u32, u33, u34, u35, u36, u37, u38, u39, u40, u41, u42, u43, u44, u45, u46, u47, u48, u49, u50, u51, u52, u53, u54, u55, u56, u57, u58, u59, u60, u61, u62, u63, u64, u65, u66, u67, u68, u69, u70, u71, u72, u73, u74, u75, u76, u77, u78, u79, u80, u81, u82, u83, u84, u85, u86, u87, u88, u89, u90, u91, u92, u93, u94, u95, u96, u97, u98, u99, u100, u101, u102, u103, u104, u105, u106, u107, u108, u109, u110, u111, u112, u113, u114, u115, u116, u117, u118, u119, u120, u121, u122, u123, u124, u125, u126, u127, u128, u129, u130, u131, u132, u133, u134, u135, u136, u137, u138, u139, u140, u141, u142, u143, u144, u145, u146, u147, u148, u149, u150, u151, u152, u153, u154, u155, u156, u157, u158, u159, u160, u161, u162, u163, u164, u165, u166, u167, u168, u169, u170, u171, u172, u173, u174, u175, u176, u177, u178, u179, u180, u181, u182, u183, u184, u185, u186, u187, u188, u189, u190, u191, u192, u193, u194, u195, u196, u197, u198, u199, u200, u201, u202, u203, u204, u205, u206, u207, u208, u209, u210, u211, u212, u213, u214, u215, u216, u217, u218, u219, u220, u221, u222, u223, u224, u225, u226, u227, u228, u229, u230, u231, u232, u233, u234, u235], []⟩ wc := by
  dsimp only at hQ ⊢
  conv => arg 2; whnf
  have HQ := Lib.hid hQ
  clear hQ
  have hj0 : (0 : Int) ≤ (j : Int) := by omega
  have hj1 : (j : Int) < 3 := by omega
  have cn := HMM.out.name hj3
  go_wp2_with fail
  refine (HMM.out.has.read (nm j) hrd.out).mono ?_
  clear cn
  rintro e w10 ⟨v10, rfl, hown, n10, f10⟩
  obtain ⟨lb, cb, rfl, -⟩ := hown.rd.len
  have BL := Lib.hid hown.rd
  have N10 := Lib.hid n10
  have F10 := Lib.hid f10
  clear hown n10 f10
  go_wp2_with fail
  exact HQ.out _ _ _ _ _ _ _ _ _ lb cb _ N10.out BL.out F10.out
end Go.Proofs.YtihagdadbeoeoaaDoor.DiskKeeps
