/-
  Texts merged by a program of this claim's: LPlaysQ, LPlaysB.
-/
import Derived.Test.YtkbenkldfehhlaaGreatDoorM26
import Derived.Test.YtkbenkldfehhlaaGreatDoorM29
import Derived.Deep.DeepCutAuto
namespace Go.Proofs.YtkbenkldfehhlaaGreatDoor.SeglogPlays
open Go Go.RowKit Go.Sort
set_option maxRecDepth 100000
set_option maxHeartbeats 1600000

theorem c190_9 {W wc : World} {b p pw pv po k : Nat} {size : Int} {d d2 : Dsk} {L L2 : Lg} {o : LOp} {ve vp : Value} {m la : Int} {a pa : Option Addr} {n c pc : Nat} {dn : Bool} {x : Int} (HM : Hid (QM W wc b p pw pv po d L d L o ve vp m a n c la dn pa pc)) (HKD : Hid (o.kind = 9)) (HR : Hid (resumeD d size o.ps o.n = (d2, x))) (hsz : 64 ≤ size ∧ size ≤ 16777216)  {u0 u2 u3 u4 u5 u6 u8 u10 u12 u14 u15 u17 u18 u19 u20 u21 u22 u23 u24 u25 u26 u27 u28 u29 u30 u31 u32 u33 u34 u35 u36 u37 u38 u39 u40 u41 u42 u43 u44 u45 u46 u47 u48 u49 u50 u51 u52 u53 u54 u55 u56 u57 u58 u59 u60 u61 u62 u63 u64 u65 u66 u67 u68 u69 u70 u71 u72 u73 u74 u75 u76 u77 u78 u79 u80 u81 u82 u83 u84 u85 u86 u87 u88 u89 u90 u91 u92 u93 u94 u95 u96 u97 u98 u99 u100 u101 u102 u103 u104 u105 u106 u107 u108 u109 u110 u111 u112 u113 u114 u115 u116 u117 u118 u119 u120 u121 u122 u123 u124 u125 u126 u127 u128 u129 u130 u131 u132 u133 u134 u135 u136 u137 u138 u139 u140 u141 u142 u143 u144 u145 u146 u147 u148 u149 u150 u151 u152 u153 u154 u155 u156 u157 u158 u159 u160 u161 u162 u163 u164 u165 u166 u167 u168 u169 u170 u171 u172 u173 u174 u175 u176 u177 u178 u179 u180 u181 u182 u183 u184 u185 u186 u187 u188 u189 u191 u192 u193 u194 u195 u196 u197 u198 u199 u200 u201 u202 u203 u204 u205 u206 u207 u208 u209 u210 u211 u212 u213 u214 u215 u216 u217 u218 u219 u220 u221 u222 u223 u224 u225 u226 u227 u228 u229 u230 u231 u232 u233 u234 u235 u236 u237 u238 u239 u240 u241 u242 u243 u244 u245 u246 u247 u248 u249 u250 u251 u252 u253 u254 u255 u256 u257 u258 u259 u260 u261 u262 u263 u264 u265 u266 u267 u268 u269 : Value} {Q : Exit → Act → World → Prop} (hP : PanicOk Q)
    (hQ : ∀ (s20 s21 s22 s23 s24 s25 s26 s193 s194 s195 s196 s197 s198 s199 s200 s201 s202 s203 s204 s205 s206 s207 s208 s209 s210 s211 s212 s213 s214 s215 s216 s217 s218 s219 s220 s221 s222 s223 s224 s225 s226 s227 s228 s229 s230 s231 s232 s233 s234 s235 s236 : Value) (p2 : Nat) (L9 : Lg) (m' : Int) (a' : Option Addr) (n' c' : Nat) (la' : Int) (dn' : Bool) (pa' : Option Addr) (pc' : Nat)  (wx : World), QM W wx b p2 pw pv po d2 L9 d2 L9 o ve vp m' a' n' c' la' dn' pa' pc' → L9 = (if x = 0 then onLg d size o.ps (Int.toNat o.n) else L) → Q .normal ⟨#[u0, .int .i64 size, u2, u3, u4, u5, u6, .pointer (some ⟨b, 0, none⟩), u8, .pointer (some ⟨pw, 0, none⟩), u10, .pointer (some ⟨p2, 0, none⟩), u12, .pointer (some ⟨pv, 0, none⟩), u14, u15, .pointer (some ⟨po, 0, none⟩), .int .i64 x, .int .i64 x, u19, s20, s21, s22, s23, s24, s25, s26, u27, u28, u29, u30, u31, u32, u33, u34, u35, u36, u37, u38, u39, u40, u41, u42, u43, u44, u45, u46, u47, u48, u49, u50, u51, u52, u53, u54, u55, u56, u57, u58, u59, u60, u61, u62, u63, u64, u65, u66, u67, u68, u69, u70, u71, u72, u73, u74, u75, u76, u77, u78, u79, u80, u81, u82, u83, u84, u85, u86, u87, u88, u89, u90, u91, u92, u93, u94, u95, u96, u97, u98, u99, u100, u101, u102, u103, u104, u105, u106, u107, u108, u109, u110, u111, u112, u113, u114, u115, u116, u117, u118, u119, u120, u121, u122, u123, u124, u125, u126, u127, u128, u129, u130, u131, u132, u133, u134, u135, u136, u137, u138, u139, u140, u141, u142, u143, u144, u145, u146, u147, u148, u149, u150, u151, u152, u153, u154, u155, u156, u157, u158, u159, u160, u161, u162, u163, u164, u165, u166, u167, u168, u169, u170, u171, u172, u173, u174, u175, u176, u177, u178, u179, u180, u181, u182, u183, u184, u185, u186, u187, u188, u189, .bool true, u191, u192, s193, s194, s195, s196, s197, s198, s199, s200, s201, s202, s203, s204, s205, s206, s207, s208, s209, s210, s211, s212, s213, s214, s215, s216, s217, s218, s219, s220, s221, s222, s223, s224, s225, s226, s227, s228, s229, s230, s231, s232, s233, s234, s235, s236, u237, u238, u239, u240, u241, u242, u243, u244, u245, u246, u247, u248, u249, u250, u251, u252, u253, u254, u255, u256, u257, u258, u259, u260, u261, u262, u263, u264, u265, u266, u267, u268, u269], []⟩ wx) :
    Code.wp Tryz.prog ((Tryz.f4.body.bind (condLast 190)).getD .skip) Q ⟨#[u0, .int .i64 size, u2, u3, u4, u5, u6, .pointer (some ⟨b, 0, none⟩), u8, .pointer (some ⟨pw, 0, none⟩), u10, .pointer (some ⟨p, 0, none⟩), u12, .pointer (some ⟨pv, 0, none⟩), u14, u15, .pointer (some ⟨po, 0, none⟩), u17, u18, u19, u20, u21, u22, u23, u24, u25, u26, u27, u28, u29, u30, u31, u32, u33, u34, u35, u36, u37, u38, u39, u40, u41, u42, u43, u44, u45, u46, u47, u48, u49, u50, u51, u52, u53, u54, u55, u56, u57, u58, u59, u60, u61, u62, u63, u64, u65, u66, u67, u68, u69, u70, u71, u72, u73, u74, u75, u76, u77, u78, u79, u80, u81, u82, u83, u84, u85, u86, u87, u88, u89, u90, u91, u92, u93, u94, u95, u96, u97, u98, u99, u100, u101, u102, u103, u104, u105, u106, u107, u108, u109, u110, u111, u112, u113, u114, u115, u116, u117, u118, u119, u120, u121, u122, u123, u124, u125, u126, u127, u128, u129, u130, u131, u132, u133, u134, u135, u136, u137, u138, u139, u140, u141, u142, u143, u144, u145, u146, u147, u148, u149, u150, u151, u152, u153, u154, u155, u156, u157, u158, u159, u160, u161, u162, u163, u164, u165, u166, u167, u168, u169, u170, u171, u172, u173, u174, u175, u176, u177, u178, u179, u180, u181, u182, u183, u184, u185, u186, u187, u188, u189, .bool true, u191, u192, u193, u194, u195, u196, u197, u198, u199, u200, u201, u202, u203, u204, u205, u206, u207, u208, u209, u210, u211, u212, u213, u214, u215, u216, u217, u218, u219, u220, u221, u222, u223, u224, u225, u226, u227, u228, u229, u230, u231, u232, u233, u234, u235, u236, u237, u238, u239, u240, u241, u242, u243, u244, u245, u246, u247, u248, u249, u250, u251, u252, u253, u254, u255, u256, u257, u258, u259, u260, u261, u262, u263, u264, u265, u266, u267, u268, u269], []⟩ wc := by
  have _hP := hP
  dsimp only at hQ ⊢
  conv => arg 2; whnf
  have HQ := Lib.hid hQ
  clear hQ
  obtain ⟨c0, c1, c2, c3, c4⟩ := HM.out.opc
  obtain ⟨⟨v0, v1, v2, v3, v4, v5⟩, -⟩ := lb_cells HM.out.bv
  rw [HKD.out] at c0
  have hkq : ((9 : Int) == 10) = false := by decide
  have hkt : ((10 : Int) == 10) = true := by decide
  have g1 := cellG c1
  have g4 := cellG c4
  go_upto_region 41 with fail
  refine wp_region_quiet_below (by kernel_rfl) (by kernel_rfl) ?_
  repeat (first | go_big_quiet_step (fail) | quiet_step (fail))
  refine wpQuiet_nil ?_
  intro w6 hw6
  have n6 := Nw.of_regrown hw6
  have N6 := Lib.hid n6
  have M6 := Lib.hid (HM.out.nw n6)
  have c0 := n6.cell c0
  have v1 := n6.cell v1
  have v2 := n6.cell v2
  clear hw6 n6 g1 g4 c1 c2 c3 c4 v0 v3 v4 v5
  have C := Lib.hid (M6.out.resume M6.out.given9 hsz HR.out)
  go_upto_region 44 with fail
  clear c0 v1 v2 hkq hkt
  go_wp2_with fail
  refine C.out.mono ?_
  clear C
  rintro e w1 h
  by_cases hx : x = 0
  case neg =>
    have h2 := h.resolve_left (fun h => hx h.1)
    obtain ⟨-, rfl, m1⟩ := h2
    have HX := Lib.hid hx
    have y1 : (x != 0) = true := by simpa using hx
    have y2 : (x == 0) = false := by simpa using hx
    have M1 := Lib.hid m1
    clear h m1 hx
    obtain ⟨b0, b1, b2, b3, -⟩ := box_cells M1.out.bw
    have C := Lib.hid (M1.out.made M1.out.given9 hsz HR.out)
    obtain ⟨U, hU⟩ : ∃ y, onU d size o.ps o.n x = y := ⟨_, rfl⟩
    rw [hU] at C
    have HU := Lib.hid hU
    clear hU
    unfold dvV lvV at C
    go_upto_region 45 with fail
    go_wp2_with fail
    refine C.out.mono ?_
    rintro e w2 ⟨m', a', n', c', la', dn', pa', pc', rfl, ⟨X', hq, hlv⟩, hbw, hbv, hn2⟩
    obtain ⟨nb, b24, b25, -⟩ := boxes_in w2 (DB (.int .i64 m') (.slice a' n' c') (.int .i64 la') (.bool dn')) (logB U pa' pc')
    have hlt := hq.tl.lt
    have Q := Lib.hid (hq.turn (hq.tl.nw nb) nb.kept)
    have HLV := Lib.hid (hlv.nw nb)
    have BW := Lib.hid (nb.at_ hbw)
    have BV := Lib.hid (nb.at_ hbv)
    have B24 := Lib.hid b24
    have B25 := Lib.hid b25
    have H25 : Hid (w2.heap.size + 1 ≠ pw ∧ w2.heap.size + 1 ≠ pv) := Lib.hid ⟨fun e => by have := hlt pw (.inr (.inl rfl)); omega, fun e => by have := hlt pv (.inr (.inr (.inl rfl))); omega⟩
    clear hq hlv hbw hbv C b0 b1 b2 b3 hn2 nb b24 b25 hlt
    go_upto_region 46 with fail
    rw [show (Obj.cells #[.int .i64 m', .slice a' n' c', .int .i64 la', .bool dn'] 28) = DB (.int .i64 m') (.slice a' n' c') (.int .i64 la') (.bool dn') from rfl, show (Obj.cells #[.int .i64 U.size, .slice pa' U.l.length pc', .int .i64 U.n, .int .i64 U.acked, .int .i64 U.bytes, .bool U.over] 49) = logB U pa' pc' from rfl]
    generalize w2.heap.size = q4 at B24 B25 H25 ⊢
    generalize (w2.alloc (DB (.int .i64 m') (.slice a' n' c') (.int .i64 la') (.bool dn'))).alloc (logB U pa' pc') = w3 at Q HLV BW BV B24 B25 ⊢
    obtain ⟨b0, b1, b2, b3, f0, f1, f2, f3⟩ := box_cells BW.out
    obtain ⟨d0, d1, d2_, d3, -⟩ := box_cells B24.out
    go_wp2
    have QQ : QN W w3 b p pw pv po d2 L d2 L o ve vp m' a' n' c' la' dn' pa pc := ⟨_, Q.out⟩
    exact HQ.out _ _ _ _ _ _ _ _ _ _ _ _ _ _ _ _ _ _ _ _ _ _ _ _ _ _ _ _ _ _ _ _ _ _ _ _ _ _ _ _ _ _ _ _ _ _ _ _ _ _ _  p L m' a' n' c' la' dn' pa pc _ (QQ.store1 BV.out) (by rw [if_neg HX.out])
  case pos =>
    subst hx
    have h2 := h.resolve_right (fun h => h.1 rfl)
    obtain ⟨-, p2, rfl, m1⟩ := h2
    have M1 := Lib.hid m1
    clear h m1
    obtain ⟨b0, b1, b2, b3, -⟩ := box_cells M1.out.bw
    have ep := eqPtrL
    have HUN : Hid (onU d size o.ps o.n 0 = onLg d size o.ps (Int.toNat o.n)) := Lib.hid (if_pos rfl)
    have HGD := Lib.hid (resumeD_good (by rw [HR.out]))
    have C := Lib.hid (M1.out.made M1.out.given9 hsz HR.out)
    obtain ⟨U, hU⟩ : ∃ y, onU d size o.ps o.n 0 = y := ⟨_, rfl⟩
    rw [hU] at C
    have HU := Lib.hid hU
    clear hU
    unfold dvV lvV at C
    go_upto_region 45 with fail
    go_wp2_with fail
    refine C.out.mono ?_
    rintro e w2 ⟨m', a', n', c', la', dn', pa', pc', rfl, ⟨X', hq, hlv⟩, hbw, hbv, hn2⟩
    obtain ⟨nb, b24, b25, -⟩ := boxes_in w2 (DB (.int .i64 m') (.slice a' n' c') (.int .i64 la') (.bool dn')) (logB U pa' pc')
    have hlt := hq.tl.lt
    have Q := Lib.hid (hq.turn (hq.tl.nw nb) nb.kept)
    have HLV := Lib.hid (hlv.nw nb)
    have BW := Lib.hid (nb.at_ hbw)
    have BV := Lib.hid (nb.at_ hbv)
    have B24 := Lib.hid b24
    have B25 := Lib.hid b25
    have H25 : Hid (w2.heap.size + 1 ≠ pw ∧ w2.heap.size + 1 ≠ pv) := Lib.hid ⟨fun e => by have := hlt pw (.inr (.inl rfl)); omega, fun e => by have := hlt pv (.inr (.inr (.inl rfl))); omega⟩
    clear hq hlv hbw hbv C b0 b1 b2 b3 hn2 nb b24 b25 hlt
    go_upto_region 46 with fail
    rw [show (Obj.cells #[.int .i64 m', .slice a' n' c', .int .i64 la', .bool dn'] 28) = DB (.int .i64 m') (.slice a' n' c') (.int .i64 la') (.bool dn') from rfl, show (Obj.cells #[.int .i64 U.size, .slice pa' U.l.length pc', .int .i64 U.n, .int .i64 U.acked, .int .i64 U.bytes, .bool U.over] 49) = logB U pa' pc' from rfl]
    generalize w2.heap.size = q4 at B24 B25 H25 ⊢
    generalize (w2.alloc (DB (.int .i64 m') (.slice a' n' c') (.int .i64 la') (.bool dn'))).alloc (logB U pa' pc') = w3 at Q HLV BW BV B24 B25 ⊢
    obtain ⟨b0, b1, b2, b3, f0, f1, f2, f3⟩ := box_cells BW.out
    obtain ⟨d0, d1, d2_, d3, -⟩ := box_cells B24.out
    have HUL : Hid (onLg d size o.ps (Int.toNat o.n) = U) := Lib.hid (by rw [← HUN.out]; exact HU.out)
    have HF9 : Hid (U = if (0 : Int) = 0 then onLg d size o.ps (Int.toNat o.n) else L) := Lib.hid (by rw [if_pos (rfl : (0 : Int) = 0)]; exact HUL.out.symm)
    have Q2 : Hid (QB X' W w3 b p2 pw pv po d2 U (dvV m' a' n' c' la' dn') d2 (lvV U pa' pc') U o ve vp) := Lib.hid (by
      have q := Q.out
      have t := q.tl
      rw [HUL.out] at q t
      exact ⟨⟨t.log, t.doc, HLV.out, t.off, by rw [← HUL.out]; exact HGD.out.2.2⟩, q.op, q.hop, q.w0, q.ne, q.bw, q.bv⟩)
    obtain ⟨⟨e0, e1, e2, e3, e4, e5⟩, -⟩ := lb_cells B25.out
    obtain ⟨⟨z0, z1, z2, z3, z4, z5⟩, g0, g1, g2, g3, g4, g5⟩ := lb_cells BV.out
    have k1 : ¬ q4 + 1 = pw := H25.out.1
    have k2 : ¬ q4 + 1 = pv := H25.out.2
    have k3 : ¬ pw = pv := Q.out.ne.1
    have k4 : ¬ pv = pw := Ne.symm Q.out.ne.1
    have k5 : ¬ pw = q4 + 1 := Ne.symm k1
    have k6 : ¬ pv = q4 + 1 := Ne.symm k2
    go_upto_region 51 with fail
    obtain ⟨w4, hw4⟩ : ∃ y, (((w3.setCell ⟨pw, 0, none⟩ (.int .i64 m')).setCell ⟨pw, 1, none⟩ (.slice a' n' c')).setCell ⟨pw, 2, none⟩ (.int .i64 la')).setCell ⟨pw, 3, none⟩ (.bool dn') = y := ⟨_, rfl⟩
    have o4 : Only (fun k => k = pw) w3 w4 := by rw [← hw4]; exact only_set4 w3 pw _ _ _ _
    have b25 := o4.at_ B25.out k1
    have bv4 := o4.at_ BV.out k4
    rw [hw4]
    clear e0 e1 e2 e3 e4 e5 z0 z1 z2 z3 z4 z5 g0 g1 g2 g3 g4 g5 b0 b1 b2 b3 f0 f1 f2 f3 d0 d1 d2_ d3
    obtain ⟨⟨e0, e1, e2, e3, e4, e5⟩, -⟩ := lb_cells b25
    obtain ⟨⟨z0, z1, z2, z3, z4, z5⟩, g0, g1, g2, g3, g4, g5⟩ := lb_cells bv4
    have QQ : QN W w3 b p2 pw pv po d2 U d2 U o ve vp m' a' n' c' la' dn' pa' pc' := ⟨_, Q2.out⟩
    have QS1 := QQ.store
    rw [hw4] at QS1
    have QS2 := Lib.hid (QS1.nw (Nw.refl _).drew)
    clear QS1
    have BV4 := Lib.hid bv4
    clear hw4 o4 b25 bv4 QQ
    have ND := (Nw.refl w4).drew
    have HC : Hid (w4.drew.cell? ⟨q4 + 1, 0, none⟩ = some (.int .i64 U.size) ∧ w4.drew.cell? ⟨q4 + 1, 1, none⟩ = some (.slice pa' U.l.length pc') ∧ w4.drew.cell? ⟨q4 + 1, 2, none⟩ = some (.int .i64 U.n) ∧ w4.drew.cell? ⟨q4 + 1, 3, none⟩ = some (.int .i64 U.acked) ∧ w4.drew.cell? ⟨q4 + 1, 4, none⟩ = some (.int .i64 U.bytes) ∧ w4.drew.cell? ⟨q4 + 1, 5, none⟩ = some (.bool U.over)) := Lib.hid ⟨ND.cell e0, ND.cell e1, ND.cell e2, ND.cell e3, ND.cell e4, ND.cell e5⟩
    clear e0 e1 e2 e3 e4 e5 ND
    refine wp_region_steps 3 [.rd 0, .rd 1, .dn 2] [3] (fun x => x.cell? ⟨q4 + 1, 0, none⟩ = some (.int .i64 U.size) ∧ x.cell? ⟨q4 + 1, 1, none⟩ = some (.slice pa' U.l.length pc') ∧ x.cell? ⟨q4 + 1, 2, none⟩ = some (.int .i64 U.n) ∧ x.cell? ⟨q4 + 1, 3, none⟩ = some (.int .i64 U.acked) ∧ x.cell? ⟨q4 + 1, 4, none⟩ = some (.int .i64 U.bytes) ∧ x.cell? ⟨q4 + 1, 5, none⟩ = some (.bool U.over)) (by kernel_rfl) (by kernel_rfl) hP HC.out ?_
    refine stp_to (.pointer (some ⟨p2, 0, none⟩)) rfl rfl (by kernel_rfl) (fun x hx => by go_simp) (fun K' hK => ?_); go_simp; refine hK _ ?_; clear hK K'
    refine stp_to (.agg #[.int .i64 U.size, .slice pa' U.l.length pc', .int .i64 U.n, .int .i64 U.acked, .int .i64 U.bytes, .bool U.over]) rfl rfl (by kernel_rfl) (fun x hx => by obtain ⟨e1, e2, e3, e4, e5, e6⟩ := hx; go_simp) (fun K' hK => ?_); go_simp; refine hK _ ?_; clear hK K'
    refine stp_dn rfl (fun K' hK => ?_)
    go_wp2
    refine hK _ _ HC.out ?_; clear hK K'
    refine wpSteps_nil ?_
    refine stp_do rfl (by decide) (fun K' hK => ?_)
    go_wp2
    (try (refine hK _ _ ?_; clear hK K'))
    refine wpNums_nil ?_
    go_wp2
    exact HQ.out _ _ _ _ _ _ _ _ _ _ _ _ _ _ _ _ _ _ _ _ _ _ _ _ _ _ _ _ _ _ _ _ _ _ _ _ _ _ _ _ _ _ _ _ _ _ _ _ _ _ _  p2 U m' a' n' c' la' dn' pa' pc' _ QS2.out HF9.out

theorem c190_10 {W wc : World} {b p pw pv po k : Nat} {size : Int} {d d2 : Dsk} {L L2 : Lg} {o : LOp} {ve vp : Value} {m la : Int} {a pa : Option Addr} {n c pc : Nat} {dn : Bool} {x : Int} (HM : Hid (QM W wc b p pw pv po d L d L o ve vp m a n c la dn pa pc)) (HKD : Hid (o.kind = 10)) (HR : Hid (resumeD d size L.l (L.n : Int) = (d2, x))) (hsz : 64 ≤ size ∧ size ≤ 16777216)  {u0 u2 u3 u4 u5 u6 u8 u10 u12 u14 u15 u17 u18 u19 u20 u21 u22 u23 u24 u25 u26 u27 u28 u29 u30 u31 u32 u33 u34 u35 u36 u37 u38 u39 u40 u41 u42 u43 u44 u45 u46 u47 u48 u49 u50 u51 u52 u53 u54 u55 u56 u57 u58 u59 u60 u61 u62 u63 u64 u65 u66 u67 u68 u69 u70 u71 u72 u73 u74 u75 u76 u77 u78 u79 u80 u81 u82 u83 u84 u85 u86 u87 u88 u89 u90 u91 u92 u93 u94 u95 u96 u97 u98 u99 u100 u101 u102 u103 u104 u105 u106 u107 u108 u109 u110 u111 u112 u113 u114 u115 u116 u117 u118 u119 u120 u121 u122 u123 u124 u125 u126 u127 u128 u129 u130 u131 u132 u133 u134 u135 u136 u137 u138 u139 u140 u141 u142 u143 u144 u145 u146 u147 u148 u149 u150 u151 u152 u153 u154 u155 u156 u157 u158 u159 u160 u161 u162 u163 u164 u165 u166 u167 u168 u169 u170 u171 u172 u173 u174 u175 u176 u177 u178 u179 u180 u181 u182 u183 u184 u185 u186 u187 u188 u189 u191 u192 u193 u194 u195 u196 u197 u198 u199 u200 u201 u202 u203 u204 u205 u206 u207 u208 u209 u210 u211 u212 u213 u214 u215 u216 u217 u218 u219 u220 u221 u222 u223 u224 u225 u226 u227 u228 u229 u230 u231 u232 u233 u234 u235 u236 u237 u238 u239 u240 u241 u242 u243 u244 u245 u246 u247 u248 u249 u250 u251 u252 u253 u254 u255 u256 u257 u258 u259 u260 u261 u262 u263 u264 u265 u266 u267 u268 u269 : Value} {Q : Exit → Act → World → Prop} (hP : PanicOk Q)
    (hQ : ∀ (s20 s21 s22 s23 s24 s25 s26 s193 s194 s195 s196 s197 s198 s199 s200 s201 s202 s203 s204 s205 s206 s207 s208 s209 s210 s211 s212 s213 s214 s215 s216 s217 s218 s219 s220 s221 s222 s223 s224 s225 s226 s227 s228 s229 s230 s231 s232 s233 s234 s235 s236 : Value) (p2 : Nat) (L9 : Lg) (m' : Int) (a' : Option Addr) (n' c' : Nat) (la' : Int) (dn' : Bool) (pa' : Option Addr) (pc' : Nat)  (wx : World), QM W wx b p2 pw pv po d2 L9 d2 L9 o ve vp m' a' n' c' la' dn' pa' pc' → L9 = (if x = 0 then onLg d size L.l (Int.toNat (L.n : Int)) else L) → Q .normal ⟨#[u0, .int .i64 size, u2, u3, u4, u5, u6, .pointer (some ⟨b, 0, none⟩), u8, .pointer (some ⟨pw, 0, none⟩), u10, .pointer (some ⟨p2, 0, none⟩), u12, .pointer (some ⟨pv, 0, none⟩), u14, u15, .pointer (some ⟨po, 0, none⟩), .int .i64 x, .int .i64 x, u19, s20, s21, s22, s23, s24, s25, s26, u27, u28, u29, u30, u31, u32, u33, u34, u35, u36, u37, u38, u39, u40, u41, u42, u43, u44, u45, u46, u47, u48, u49, u50, u51, u52, u53, u54, u55, u56, u57, u58, u59, u60, u61, u62, u63, u64, u65, u66, u67, u68, u69, u70, u71, u72, u73, u74, u75, u76, u77, u78, u79, u80, u81, u82, u83, u84, u85, u86, u87, u88, u89, u90, u91, u92, u93, u94, u95, u96, u97, u98, u99, u100, u101, u102, u103, u104, u105, u106, u107, u108, u109, u110, u111, u112, u113, u114, u115, u116, u117, u118, u119, u120, u121, u122, u123, u124, u125, u126, u127, u128, u129, u130, u131, u132, u133, u134, u135, u136, u137, u138, u139, u140, u141, u142, u143, u144, u145, u146, u147, u148, u149, u150, u151, u152, u153, u154, u155, u156, u157, u158, u159, u160, u161, u162, u163, u164, u165, u166, u167, u168, u169, u170, u171, u172, u173, u174, u175, u176, u177, u178, u179, u180, u181, u182, u183, u184, u185, u186, u187, u188, u189, .bool true, u191, u192, s193, s194, s195, s196, s197, s198, s199, s200, s201, s202, s203, s204, s205, s206, s207, s208, s209, s210, s211, s212, s213, s214, s215, s216, s217, s218, s219, s220, s221, s222, s223, s224, s225, s226, s227, s228, s229, s230, s231, s232, s233, s234, s235, s236, u237, u238, u239, u240, u241, u242, u243, u244, u245, u246, u247, u248, u249, u250, u251, u252, u253, u254, u255, u256, u257, u258, u259, u260, u261, u262, u263, u264, u265, u266, u267, u268, u269], []⟩ wx) :
    Code.wp Tryz.prog ((Tryz.f4.body.bind (condLast 190)).getD .skip) Q ⟨#[u0, .int .i64 size, u2, u3, u4, u5, u6, .pointer (some ⟨b, 0, none⟩), u8, .pointer (some ⟨pw, 0, none⟩), u10, .pointer (some ⟨p, 0, none⟩), u12, .pointer (some ⟨pv, 0, none⟩), u14, u15, .pointer (some ⟨po, 0, none⟩), u17, u18, u19, u20, u21, u22, u23, u24, u25, u26, u27, u28, u29, u30, u31, u32, u33, u34, u35, u36, u37, u38, u39, u40, u41, u42, u43, u44, u45, u46, u47, u48, u49, u50, u51, u52, u53, u54, u55, u56, u57, u58, u59, u60, u61, u62, u63, u64, u65, u66, u67, u68, u69, u70, u71, u72, u73, u74, u75, u76, u77, u78, u79, u80, u81, u82, u83, u84, u85, u86, u87, u88, u89, u90, u91, u92, u93, u94, u95, u96, u97, u98, u99, u100, u101, u102, u103, u104, u105, u106, u107, u108, u109, u110, u111, u112, u113, u114, u115, u116, u117, u118, u119, u120, u121, u122, u123, u124, u125, u126, u127, u128, u129, u130, u131, u132, u133, u134, u135, u136, u137, u138, u139, u140, u141, u142, u143, u144, u145, u146, u147, u148, u149, u150, u151, u152, u153, u154, u155, u156, u157, u158, u159, u160, u161, u162, u163, u164, u165, u166, u167, u168, u169, u170, u171, u172, u173, u174, u175, u176, u177, u178, u179, u180, u181, u182, u183, u184, u185, u186, u187, u188, u189, .bool true, u191, u192, u193, u194, u195, u196, u197, u198, u199, u200, u201, u202, u203, u204, u205, u206, u207, u208, u209, u210, u211, u212, u213, u214, u215, u216, u217, u218, u219, u220, u221, u222, u223, u224, u225, u226, u227, u228, u229, u230, u231, u232, u233, u234, u235, u236, u237, u238, u239, u240, u241, u242, u243, u244, u245, u246, u247, u248, u249, u250, u251, u252, u253, u254, u255, u256, u257, u258, u259, u260, u261, u262, u263, u264, u265, u266, u267, u268, u269], []⟩ wc := by
  have _hP := hP
  dsimp only at hQ ⊢
  conv => arg 2; whnf
  have HQ := Lib.hid hQ
  clear hQ
  obtain ⟨c0, c1, c2, c3, c4⟩ := HM.out.opc
  obtain ⟨⟨v0, v1, v2, v3, v4, v5⟩, -⟩ := lb_cells HM.out.bv
  rw [HKD.out] at c0
  have hkq : ((9 : Int) == 10) = false := by decide
  have hkt : ((10 : Int) == 10) = true := by decide
  have g1 := cellG c1
  have g4 := cellG c4
  go_upto_region 41 with fail
  refine wp_region_quiet_below (by kernel_rfl) (by kernel_rfl) ?_
  repeat (first | go_big_quiet_step (fail) | quiet_step (fail))
  refine wpQuiet_nil ?_
  intro w6 hw6
  have n6 := Nw.of_regrown hw6
  have N6 := Lib.hid n6
  have M6 := Lib.hid (HM.out.nw n6)
  have c0 := n6.cell c0
  have v1 := n6.cell v1
  have v2 := n6.cell v2
  clear hw6 n6 g1 g4 c1 c2 c3 c4 v0 v3 v4 v5
  go_upto_region 43 with fail
  have g1 := cellG v1
  have g2 := cellG v2
  refine wp_region_quiet_below (by kernel_rfl) (by kernel_rfl) ?_
  repeat (first | go_big_quiet_step (fail) | quiet_step (fail))
  refine wpQuiet_nil ?_
  intro w7 hw7
  have n7 := Nw.of_regrown hw7
  have M6 := Lib.hid (M6.out.nw n7)
  clear hw7 n7 g1 g2
  have C := Lib.hid (M6.out.resume M6.out.given10 hsz HR.out)
  go_upto_region 44 with fail
  clear c0 v1 v2 hkq hkt
  go_wp2_with fail
  refine C.out.mono ?_
  clear C
  rintro e w1 h
  by_cases hx : x = 0
  case neg =>
    have h2 := h.resolve_left (fun h => hx h.1)
    obtain ⟨-, rfl, m1⟩ := h2
    have HX := Lib.hid hx
    have y1 : (x != 0) = true := by simpa using hx
    have y2 : (x == 0) = false := by simpa using hx
    have M1 := Lib.hid m1
    clear h m1 hx
    obtain ⟨b0, b1, b2, b3, -⟩ := box_cells M1.out.bw
    have C := Lib.hid (M1.out.made M1.out.given10 hsz HR.out)
    obtain ⟨U, hU⟩ : ∃ y, onU d size L.l (L.n : Int) x = y := ⟨_, rfl⟩
    rw [hU] at C
    have HU := Lib.hid hU
    clear hU
    unfold dvV lvV at C
    go_upto_region 45 with fail
    go_wp2_with fail
    refine C.out.mono ?_
    rintro e w2 ⟨m', a', n', c', la', dn', pa', pc', rfl, ⟨X', hq, hlv⟩, hbw, hbv, hn2⟩
    obtain ⟨nb, b24, b25, -⟩ := boxes_in w2 (DB (.int .i64 m') (.slice a' n' c') (.int .i64 la') (.bool dn')) (logB U pa' pc')
    have hlt := hq.tl.lt
    have Q := Lib.hid (hq.turn (hq.tl.nw nb) nb.kept)
    have HLV := Lib.hid (hlv.nw nb)
    have BW := Lib.hid (nb.at_ hbw)
    have BV := Lib.hid (nb.at_ hbv)
    have B24 := Lib.hid b24
    have B25 := Lib.hid b25
    have H25 : Hid (w2.heap.size + 1 ≠ pw ∧ w2.heap.size + 1 ≠ pv) := Lib.hid ⟨fun e => by have := hlt pw (.inr (.inl rfl)); omega, fun e => by have := hlt pv (.inr (.inr (.inl rfl))); omega⟩
    clear hq hlv hbw hbv C b0 b1 b2 b3 hn2 nb b24 b25 hlt
    go_upto_region 46 with fail
    rw [show (Obj.cells #[.int .i64 m', .slice a' n' c', .int .i64 la', .bool dn'] 28) = DB (.int .i64 m') (.slice a' n' c') (.int .i64 la') (.bool dn') from rfl, show (Obj.cells #[.int .i64 U.size, .slice pa' U.l.length pc', .int .i64 U.n, .int .i64 U.acked, .int .i64 U.bytes, .bool U.over] 49) = logB U pa' pc' from rfl]
    generalize w2.heap.size = q4 at B24 B25 H25 ⊢
    generalize (w2.alloc (DB (.int .i64 m') (.slice a' n' c') (.int .i64 la') (.bool dn'))).alloc (logB U pa' pc') = w3 at Q HLV BW BV B24 B25 ⊢
    obtain ⟨b0, b1, b2, b3, f0, f1, f2, f3⟩ := box_cells BW.out
    obtain ⟨d0, d1, d2_, d3, -⟩ := box_cells B24.out
    go_wp2
    have QQ : QN W w3 b p pw pv po d2 L d2 L o ve vp m' a' n' c' la' dn' pa pc := ⟨_, Q.out⟩
    exact HQ.out _ _ _ _ _ _ _ _ _ _ _ _ _ _ _ _ _ _ _ _ _ _ _ _ _ _ _ _ _ _ _ _ _ _ _ _ _ _ _ _ _ _ _ _ _ _ _ _ _ _ _  p L m' a' n' c' la' dn' pa pc _ (QQ.store1 BV.out) (by rw [if_neg HX.out])
  case pos =>
    subst hx
    have h2 := h.resolve_right (fun h => h.1 rfl)
    obtain ⟨-, p2, rfl, m1⟩ := h2
    have M1 := Lib.hid m1
    clear h m1
    obtain ⟨b0, b1, b2, b3, -⟩ := box_cells M1.out.bw
    have ep := eqPtrL
    have HUN : Hid (onU d size L.l (L.n : Int) 0 = onLg d size L.l (Int.toNat (L.n : Int))) := Lib.hid (if_pos rfl)
    have HGD := Lib.hid (resumeD_good (by rw [HR.out]))
    have C := Lib.hid (M1.out.made M1.out.given10 hsz HR.out)
    obtain ⟨U, hU⟩ : ∃ y, onU d size L.l (L.n : Int) 0 = y := ⟨_, rfl⟩
    rw [hU] at C
    have HU := Lib.hid hU
    clear hU
    unfold dvV lvV at C
    go_upto_region 45 with fail
    go_wp2_with fail
    refine C.out.mono ?_
    rintro e w2 ⟨m', a', n', c', la', dn', pa', pc', rfl, ⟨X', hq, hlv⟩, hbw, hbv, hn2⟩
    obtain ⟨nb, b24, b25, -⟩ := boxes_in w2 (DB (.int .i64 m') (.slice a' n' c') (.int .i64 la') (.bool dn')) (logB U pa' pc')
    have hlt := hq.tl.lt
    have Q := Lib.hid (hq.turn (hq.tl.nw nb) nb.kept)
    have HLV := Lib.hid (hlv.nw nb)
    have BW := Lib.hid (nb.at_ hbw)
    have BV := Lib.hid (nb.at_ hbv)
    have B24 := Lib.hid b24
    have B25 := Lib.hid b25
    have H25 : Hid (w2.heap.size + 1 ≠ pw ∧ w2.heap.size + 1 ≠ pv) := Lib.hid ⟨fun e => by have := hlt pw (.inr (.inl rfl)); omega, fun e => by have := hlt pv (.inr (.inr (.inl rfl))); omega⟩
    clear hq hlv hbw hbv C b0 b1 b2 b3 hn2 nb b24 b25 hlt
    go_upto_region 46 with fail
    rw [show (Obj.cells #[.int .i64 m', .slice a' n' c', .int .i64 la', .bool dn'] 28) = DB (.int .i64 m') (.slice a' n' c') (.int .i64 la') (.bool dn') from rfl, show (Obj.cells #[.int .i64 U.size, .slice pa' U.l.length pc', .int .i64 U.n, .int .i64 U.acked, .int .i64 U.bytes, .bool U.over] 49) = logB U pa' pc' from rfl]
    generalize w2.heap.size = q4 at B24 B25 H25 ⊢
    generalize (w2.alloc (DB (.int .i64 m') (.slice a' n' c') (.int .i64 la') (.bool dn'))).alloc (logB U pa' pc') = w3 at Q HLV BW BV B24 B25 ⊢
    obtain ⟨b0, b1, b2, b3, f0, f1, f2, f3⟩ := box_cells BW.out
    obtain ⟨d0, d1, d2_, d3, -⟩ := box_cells B24.out
    have HUL : Hid (onLg d size L.l (Int.toNat (L.n : Int)) = U) := Lib.hid (by rw [← HUN.out]; exact HU.out)
    have HF9 : Hid (U = if (0 : Int) = 0 then onLg d size L.l (Int.toNat (L.n : Int)) else L) := Lib.hid (by rw [if_pos (rfl : (0 : Int) = 0)]; exact HUL.out.symm)
    have Q2 : Hid (QB X' W w3 b p2 pw pv po d2 U (dvV m' a' n' c' la' dn') d2 (lvV U pa' pc') U o ve vp) := Lib.hid (by
      have q := Q.out
      have t := q.tl
      rw [HUL.out] at q t
      exact ⟨⟨t.log, t.doc, HLV.out, t.off, by rw [← HUL.out]; exact HGD.out.2.2⟩, q.op, q.hop, q.w0, q.ne, q.bw, q.bv⟩)
    obtain ⟨⟨e0, e1, e2, e3, e4, e5⟩, -⟩ := lb_cells B25.out
    obtain ⟨⟨z0, z1, z2, z3, z4, z5⟩, g0, g1, g2, g3, g4, g5⟩ := lb_cells BV.out
    have k1 : ¬ q4 + 1 = pw := H25.out.1
    have k2 : ¬ q4 + 1 = pv := H25.out.2
    have k3 : ¬ pw = pv := Q.out.ne.1
    have k4 : ¬ pv = pw := Ne.symm Q.out.ne.1
    have k5 : ¬ pw = q4 + 1 := Ne.symm k1
    have k6 : ¬ pv = q4 + 1 := Ne.symm k2
    go_upto_region 51 with fail
    obtain ⟨w4, hw4⟩ : ∃ y, (((w3.setCell ⟨pw, 0, none⟩ (.int .i64 m')).setCell ⟨pw, 1, none⟩ (.slice a' n' c')).setCell ⟨pw, 2, none⟩ (.int .i64 la')).setCell ⟨pw, 3, none⟩ (.bool dn') = y := ⟨_, rfl⟩
    have o4 : Only (fun k => k = pw) w3 w4 := by rw [← hw4]; exact only_set4 w3 pw _ _ _ _
    have b25 := o4.at_ B25.out k1
    have bv4 := o4.at_ BV.out k4
    rw [hw4]
    clear e0 e1 e2 e3 e4 e5 z0 z1 z2 z3 z4 z5 g0 g1 g2 g3 g4 g5 b0 b1 b2 b3 f0 f1 f2 f3 d0 d1 d2_ d3
    obtain ⟨⟨e0, e1, e2, e3, e4, e5⟩, -⟩ := lb_cells b25
    obtain ⟨⟨z0, z1, z2, z3, z4, z5⟩, g0, g1, g2, g3, g4, g5⟩ := lb_cells bv4
    have QQ : QN W w3 b p2 pw pv po d2 U d2 U o ve vp m' a' n' c' la' dn' pa' pc' := ⟨_, Q2.out⟩
    have QS1 := QQ.store
    rw [hw4] at QS1
    have QS2 := Lib.hid (QS1.nw (Nw.refl _).drew)
    clear QS1
    have BV4 := Lib.hid bv4
    clear hw4 o4 b25 bv4 QQ
    have ND := (Nw.refl w4).drew
    have HC : Hid (w4.drew.cell? ⟨q4 + 1, 0, none⟩ = some (.int .i64 U.size) ∧ w4.drew.cell? ⟨q4 + 1, 1, none⟩ = some (.slice pa' U.l.length pc') ∧ w4.drew.cell? ⟨q4 + 1, 2, none⟩ = some (.int .i64 U.n) ∧ w4.drew.cell? ⟨q4 + 1, 3, none⟩ = some (.int .i64 U.acked) ∧ w4.drew.cell? ⟨q4 + 1, 4, none⟩ = some (.int .i64 U.bytes) ∧ w4.drew.cell? ⟨q4 + 1, 5, none⟩ = some (.bool U.over)) := Lib.hid ⟨ND.cell e0, ND.cell e1, ND.cell e2, ND.cell e3, ND.cell e4, ND.cell e5⟩
    clear e0 e1 e2 e3 e4 e5 ND
    refine wp_region_steps 3 [.rd 0, .rd 1, .dn 2] [3] (fun x => x.cell? ⟨q4 + 1, 0, none⟩ = some (.int .i64 U.size) ∧ x.cell? ⟨q4 + 1, 1, none⟩ = some (.slice pa' U.l.length pc') ∧ x.cell? ⟨q4 + 1, 2, none⟩ = some (.int .i64 U.n) ∧ x.cell? ⟨q4 + 1, 3, none⟩ = some (.int .i64 U.acked) ∧ x.cell? ⟨q4 + 1, 4, none⟩ = some (.int .i64 U.bytes) ∧ x.cell? ⟨q4 + 1, 5, none⟩ = some (.bool U.over)) (by kernel_rfl) (by kernel_rfl) hP HC.out ?_
    refine stp_to (.pointer (some ⟨p2, 0, none⟩)) rfl rfl (by kernel_rfl) (fun x hx => by go_simp) (fun K' hK => ?_); go_simp; refine hK _ ?_; clear hK K'
    refine stp_to (.agg #[.int .i64 U.size, .slice pa' U.l.length pc', .int .i64 U.n, .int .i64 U.acked, .int .i64 U.bytes, .bool U.over]) rfl rfl (by kernel_rfl) (fun x hx => by obtain ⟨e1, e2, e3, e4, e5, e6⟩ := hx; go_simp) (fun K' hK => ?_); go_simp; refine hK _ ?_; clear hK K'
    refine stp_dn rfl (fun K' hK => ?_)
    go_wp2
    refine hK _ _ HC.out ?_; clear hK K'
    refine wpSteps_nil ?_
    refine stp_do rfl (by decide) (fun K' hK => ?_)
    go_wp2
    (try (refine hK _ _ ?_; clear hK K'))
    refine wpNums_nil ?_
    go_wp2
    exact HQ.out _ _ _ _ _ _ _ _ _ _ _ _ _ _ _ _ _ _ _ _ _ _ _ _ _ _ _ _ _ _ _ _ _ _ _ _ _ _ _ _ _ _ _ _ _ _ _ _ _ _ _  p2 U m' a' n' c' la' dn' pa' pc' _ QS2.out HF9.out
end Go.Proofs.YtkbenkldfehhlaaGreatDoor.SeglogPlays

namespace Go.Proofs.YtkbenkldfehhlaaGreatDoor.SeglogPlays
open Go Go.RowKit Go.Sort
set_option maxRecDepth 100000
set_option maxHeartbeats 3200000

theorem p55 {W wc : World} {b p pw pv po k : Nat} {size x : Int} {d : Dsk} {L : Lg} {o : LOp} {ve vp : Value} {m la : Int} {a pa : Option Addr} {n c pc : Nat} {dn : Bool} (HM : Hid (QM W wc b p pw pv po d L d L o ve vp m a n c la dn pa pc)) (HPI : Hid (PI k size L))  {u0 u2 u3 u4 u5 u6 u8 u10 u12 u14 u15 u19 u20 u21 u22 u23 u24 u25 u26 u27 u28 u29 u30 u31 u32 u33 u34 u35 u36 u37 u38 u39 u40 u41 u42 u43 u44 u45 u46 u47 u48 u49 u50 u51 u52 u53 u54 u55 u56 u57 u58 u59 u60 u61 u62 u63 u64 u65 u66 u67 u68 u69 u70 u71 u72 u73 u74 u75 u76 u77 u78 u79 u80 u81 u82 u83 u84 u85 u86 u87 u88 u89 u90 u91 u92 u93 u94 u95 u96 u97 u98 u99 u100 u101 u102 u103 u104 u105 u106 u107 u108 u109 u110 u111 u112 u113 u114 u115 u116 u117 u118 u119 u120 u121 u122 u123 u124 u125 u126 u127 u128 u129 u130 u131 u132 u133 u134 u135 u136 u137 u138 u139 u140 u141 u142 u143 u144 u145 u146 u147 u148 u149 u150 u151 u152 u153 u154 u155 u156 u157 u158 u159 u160 u161 u162 u163 u164 u165 u166 u167 u168 u169 u170 u171 u172 u173 u174 u175 u176 u177 u178 u179 u180 u181 u182 u183 u184 u185 u186 u187 u188 u189 u190 u191 u192 u193 u194 u195 u196 u197 u198 u199 u200 u201 u202 u203 u204 u205 u206 u207 u208 u209 u210 u211 u212 u213 u214 u215 u216 u217 u218 u219 u220 u221 u222 u223 u224 u225 u226 u227 u228 u229 u230 u231 u232 u233 u234 u235 u236 u237 u238 u239 u240 u241 u242 u243 u244 u245 u246 u247 u248 u249 u250 u251 u252 u253 u254 u255 u256 u257 u258 u259 u260 u261 u262 u263 u264 u265 u266 u267 u268 u269 : Value} {Q : Exit → Act → World → Prop} (hP : PanicOk Q)
    (hQ : ∀ (s254 s255 s256 s257 s258 s259 s260 s261 s262 s263 s264 s265 s266 s267 : Value)  (wx : World), QM W wx b p pw pv po d L d L o ve vp m a n c la dn pa pc → Q .normal ⟨#[u0, .int .i64 size, u2, u3, u4, u5, u6, .pointer (some ⟨b, 0, none⟩), u8, .pointer (some ⟨pw, 0, none⟩), u10, .pointer (some ⟨p, 0, none⟩), u12, .pointer (some ⟨pv, 0, none⟩), u14, u15, .pointer (some ⟨po, 0, none⟩), .int .i64 x, .int .i64 x, u19, u20, u21, u22, u23, u24, u25, u26, u27, u28, u29, u30, u31, u32, u33, u34, u35, u36, u37, u38, u39, u40, u41, u42, u43, u44, u45, u46, u47, u48, u49, u50, u51, u52, u53, u54, u55, u56, u57, u58, u59, u60, u61, u62, u63, u64, u65, u66, u67, u68, u69, u70, u71, u72, u73, u74, u75, u76, u77, u78, u79, u80, u81, u82, u83, u84, u85, u86, u87, u88, u89, u90, u91, u92, u93, u94, u95, u96, u97, u98, u99, u100, u101, u102, u103, u104, u105, u106, u107, u108, u109, u110, u111, u112, u113, u114, u115, u116, u117, u118, u119, u120, u121, u122, u123, u124, u125, u126, u127, u128, u129, u130, u131, u132, u133, u134, u135, u136, u137, u138, u139, u140, u141, u142, u143, u144, u145, u146, u147, u148, u149, u150, u151, u152, u153, u154, u155, u156, u157, u158, u159, u160, u161, u162, u163, u164, u165, u166, u167, u168, u169, u170, u171, u172, u173, u174, u175, u176, u177, u178, u179, u180, u181, u182, u183, u184, u185, u186, u187, u188, u189, u190, u191, u192, u193, u194, u195, u196, u197, u198, u199, u200, u201, u202, u203, u204, u205, u206, u207, u208, u209, u210, u211, u212, u213, u214, u215, u216, u217, u218, u219, u220, u221, u222, u223, u224, u225, u226, u227, u228, u229, u230, u231, u232, u233, u234, u235, u236, u237, u238, u239, u240, u241, u242, u243, u244, u245, u246, u247, u248, u249, u250, u251, u252, u253, s254, s255, s256, s257, s258, s259, s260, s261, s262, s263, s264, s265, s266, s267, .bool false, u269], []⟩ wx) :
    Code.wp Tryz.prog ((Tryz.f4.body.bind (regionOf 55)).getD .skip) Q ⟨#[u0, .int .i64 size, u2, u3, u4, u5, u6, .pointer (some ⟨b, 0, none⟩), u8, .pointer (some ⟨pw, 0, none⟩), u10, .pointer (some ⟨p, 0, none⟩), u12, .pointer (some ⟨pv, 0, none⟩), u14, u15, .pointer (some ⟨po, 0, none⟩), .int .i64 x, .int .i64 x, u19, u20, u21, u22, u23, u24, u25, u26, u27, u28, u29, u30, u31, u32, u33, u34, u35, u36, u37, u38, u39, u40, u41, u42, u43, u44, u45, u46, u47, u48, u49, u50, u51, u52, u53, u54, u55, u56, u57, u58, u59, u60, u61, u62, u63, u64, u65, u66, u67, u68, u69, u70, u71, u72, u73, u74, u75, u76, u77, u78, u79, u80, u81, u82, u83, u84, u85, u86, u87, u88, u89, u90, u91, u92, u93, u94, u95, u96, u97, u98, u99, u100, u101, u102, u103, u104, u105, u106, u107, u108, u109, u110, u111, u112, u113, u114, u115, u116, u117, u118, u119, u120, u121, u122, u123, u124, u125, u126, u127, u128, u129, u130, u131, u132, u133, u134, u135, u136, u137, u138, u139, u140, u141, u142, u143, u144, u145, u146, u147, u148, u149, u150, u151, u152, u153, u154, u155, u156, u157, u158, u159, u160, u161, u162, u163, u164, u165, u166, u167, u168, u169, u170, u171, u172, u173, u174, u175, u176, u177, u178, u179, u180, u181, u182, u183, u184, u185, u186, u187, u188, u189, u190, u191, u192, u193, u194, u195, u196, u197, u198, u199, u200, u201, u202, u203, u204, u205, u206, u207, u208, u209, u210, u211, u212, u213, u214, u215, u216, u217, u218, u219, u220, u221, u222, u223, u224, u225, u226, u227, u228, u229, u230, u231, u232, u233, u234, u235, u236, u237, u238, u239, u240, u241, u242, u243, u244, u245, u246, u247, u248, u249, u250, u251, u252, u253, u254, u255, u256, u257, u258, u259, u260, u261, u262, u263, u264, u265, u266, u267, u268, u269], []⟩ wc := by
  have _hP := hP
  dsimp only at hQ ⊢
  conv => arg 2; whnf
  have HQ := Lib.hid hQ
  clear hQ
  have qx : (x != x) = false := by simp
  have C1 : Hid (∀ w1, QM W w1 b p pw pv po d L d L o ve vp m a n c la dn pa pc → Calls Tryz.prog 40 #[.pointer (some ⟨p, 0, none⟩), .agg #[.int .i64 L.size, .slice pa L.l.length pc, .int .i64 L.n, .int .i64 L.acked, .int .i64 L.bytes, .bool L.over]] w1 fun e w' => e = .returned (.bool true) ∧ Nw w1 w') := Lib.hid (fun w1 hm => by
    obtain ⟨X, hx⟩ := hm.ex
    exact sameLog_ok hx.tl.log (by have := HPI.out.few.2.1; omega) (LogV.at_ hx.tl.dlog).1)
  have C2 : Hid (∀ w1, QM W w1 b p pw pv po d L d L o ve vp m a n c la dn pa pc → Calls Tryz.prog 12 #[.pointer (some ⟨b, 0, none⟩), .agg #[.int .i64 m, .slice a n c, .int .i64 la, .bool dn]] w1 fun e w' => e = .returned (.bool true) ∧ Nw w1 w') := Lib.hid (fun w1 hm => by
    obtain ⟨X, hx⟩ := hm.ex
    obtain ⟨S, hS, -⟩ := hx.tl.log.has
    obtain ⟨-, r, hr, ho⟩ := hx.tl.doc
    exact SameDisk_ok hS hr ho)
  obtain ⟨⟨v0, v1, v2, v3, v4, v5⟩, -⟩ := lb_cells HM.out.bv
  go_wp2_with fail
  refine (C1.out _ HM.out).mono ?_
  rintro e w1 ⟨rfl, n1⟩
  have M1 := Lib.hid (HM.out.nw n1)
  clear n1 v0 v1 v2 v3 v4 v5
  obtain ⟨b0, b1, b2, b3, -⟩ := box_cells M1.out.bw
  go_wp2_with fail
  refine (C2.out _ M1.out).mono ?_
  rintro e w2 ⟨rfl, n2⟩
  have M2 := Lib.hid (M1.out.nw n2)
  clear n2 b0 b1 b2 b3
  go_wp2
  exact HQ.out _ _ _ _ _ _ _ _ _ _ _ _ _ _  _ M2.out

theorem b2 {W wc : World} {b p pw pv po k : Nat} {size kk : Int} {d : Dsk} {L : Lg} {o : LOp} {ve vp : Value} {m la : Int} {a pa : Option Addr} {n c pc : Nat} {dn : Bool} (HM : Hid (QM W wc b p pw pv po d L d L o ve vp m a n c la dn pa pc)) (HT : Hid (Tab W)) (HPI : Hid (PI k size L)) (hk : k ≤ 60) (hsz : 64 ≤ size ∧ size ≤ 16777216) (HKD : Hid (o.kind = kk)) (hes : o.es.length ≤ 100) (hps : o.ps.length ≤ 120) (hnl : o.name.length ≤ 60)  {u0 u2 u3 u4 u5 u6 u8 u10 u12 u14 u15 u19 u20 u21 u22 u23 u24 u25 u26 u27 u28 u29 u30 u31 u32 u33 u34 u35 u36 u37 u38 u39 u40 u41 u42 u43 u44 u45 u46 u47 u48 u49 u50 u51 u52 u53 u54 u55 u56 u57 u58 u59 u60 u61 u62 u63 u64 u65 u66 u67 u68 u69 u70 u71 u72 u73 u74 u75 u76 u77 u78 u79 u80 u81 u82 u83 u84 u85 u86 u87 u88 u89 u90 u91 u92 u93 u94 u95 u96 u97 u98 u99 u100 u101 u102 u103 u104 u105 u106 u107 u108 u109 u110 u111 u112 u113 u115 u116 u117 u118 u119 u120 u121 u122 u123 u124 u125 u126 u127 u128 u129 u130 u131 u132 u133 u134 u135 u136 u137 u138 u139 u140 u141 u142 u143 u144 u145 u146 u147 u148 u149 u150 u151 u152 u153 u154 u155 u156 u157 u158 u159 u160 u161 u162 u163 u164 u165 u166 u167 u168 u169 u170 u171 u172 u173 u174 u175 u176 u177 u178 u179 u180 u181 u182 u183 u184 u185 u186 u187 u188 u189 u190 u191 u192 u193 u194 u195 u196 u197 u198 u199 u200 u201 u202 u203 u204 u205 u206 u207 u208 u209 u210 u211 u212 u213 u214 u215 u216 u217 u218 u219 u220 u221 u222 u223 u224 u225 u226 u227 u228 u229 u230 u231 u232 u233 u234 u235 u236 u237 u238 u239 u240 u241 u242 u243 u244 u245 u246 u247 u248 u249 u250 u251 u252 u253 u254 u255 u256 u257 u258 u259 u260 u261 u262 u263 u264 u265 u266 u267 u268 u269 : Value} {Q : Exit → Act → World → Prop} (hP : PanicOk Q)
    (hQ : ∀ (s19 s20 s21 s22 s23 s24 s25 s26 s115 s116 s117 s118 s119 s120 s121 s122 s123 s124 s125 s126 s127 s128 s129 s130 s131 s132 s133 s134 s135 s136 s137 s138 s139 s140 s141 s142 s143 s144 s145 s146 s147 s148 s149 s150 s151 s152 s153 s154 s155 s156 s157 s158 s159 s160 s161 s162 s163 s164 s165 s166 s167 s168 s169 s170 s171 s172 s173 s174 s175 s176 s177 s178 s179 s180 s181 s182 s183 s184 s185 s186 s187 s188 s189 s190 s191 s192 s193 s194 s195 s196 s197 s198 s199 s200 s201 s202 s203 s204 s205 s206 s207 s208 s209 s210 s211 s212 s213 s214 s215 s216 s217 s218 s219 s220 s221 s222 s223 s224 s225 s226 s227 s228 s229 s230 s231 s232 s233 s234 s235 s236 s237 s238 s239 s240 s241 s242 s243 s244 s245 s246 s247 s248 s249 s250 s251 s252 s253 : Value) (p2 : Nat) (d2 : Dsk) (L2 : Lg) (x : Int) (m' : Int) (a' : Option Addr) (n' c' : Nat) (la' : Int) (dn' : Bool) (pa' : Option Addr) (pc' : Nat)  (wx : World), QM W wx b p2 pw pv po d2 L2 d2 L2 o ve vp m' a' n' c' la' dn' pa' pc' → PI (k + 1) size L2 → Q .normal ⟨#[u0, .int .i64 size, u2, u3, u4, u5, u6, .pointer (some ⟨b, 0, none⟩), u8, .pointer (some ⟨pw, 0, none⟩), u10, .pointer (some ⟨p2, 0, none⟩), u12, .pointer (some ⟨pv, 0, none⟩), u14, u15, .pointer (some ⟨po, 0, none⟩), .int .i64 x, .int .i64 x, s19, s20, s21, s22, s23, s24, s25, s26, u27, u28, u29, u30, u31, u32, u33, u34, u35, u36, u37, u38, u39, u40, u41, u42, u43, u44, u45, u46, u47, u48, u49, u50, u51, u52, u53, u54, u55, u56, u57, u58, u59, u60, u61, u62, u63, u64, u65, u66, u67, u68, u69, u70, u71, u72, u73, u74, u75, u76, u77, u78, u79, u80, u81, u82, u83, u84, u85, u86, u87, u88, u89, u90, u91, u92, u93, u94, u95, u96, u97, u98, u99, u100, u101, u102, u103, u104, u105, u106, u107, u108, u109, u110, u111, u112, u113, .int .i64 kk, s115, s116, s117, s118, s119, s120, s121, s122, s123, s124, s125, s126, s127, s128, s129, s130, s131, s132, s133, s134, s135, s136, s137, s138, s139, s140, s141, s142, s143, s144, s145, s146, s147, s148, s149, s150, s151, s152, s153, s154, s155, s156, s157, s158, s159, s160, s161, s162, s163, s164, s165, s166, s167, s168, s169, s170, s171, s172, s173, s174, s175, s176, s177, s178, s179, s180, s181, s182, s183, s184, s185, s186, s187, s188, s189, s190, s191, s192, s193, s194, s195, s196, s197, s198, s199, s200, s201, s202, s203, s204, s205, s206, s207, s208, s209, s210, s211, s212, s213, s214, s215, s216, s217, s218, s219, s220, s221, s222, s223, s224, s225, s226, s227, s228, s229, s230, s231, s232, s233, s234, s235, s236, s237, s238, s239, s240, s241, s242, s243, s244, s245, s246, s247, s248, s249, s250, s251, s252, s253, u254, u255, u256, u257, u258, u259, u260, u261, u262, u263, u264, u265, u266, u267, u268, u269], []⟩ wx) :
    Code.wp Tryz.prog ((Tryz.f4.body.bind (blockOf 2)).getD .skip) Q ⟨#[u0, .int .i64 size, u2, u3, u4, u5, u6, .pointer (some ⟨b, 0, none⟩), u8, .pointer (some ⟨pw, 0, none⟩), u10, .pointer (some ⟨p, 0, none⟩), u12, .pointer (some ⟨pv, 0, none⟩), u14, u15, .pointer (some ⟨po, 0, none⟩), .int .i64 0, .int .i64 0, u19, u20, u21, u22, u23, u24, u25, u26, u27, u28, u29, u30, u31, u32, u33, u34, u35, u36, u37, u38, u39, u40, u41, u42, u43, u44, u45, u46, u47, u48, u49, u50, u51, u52, u53, u54, u55, u56, u57, u58, u59, u60, u61, u62, u63, u64, u65, u66, u67, u68, u69, u70, u71, u72, u73, u74, u75, u76, u77, u78, u79, u80, u81, u82, u83, u84, u85, u86, u87, u88, u89, u90, u91, u92, u93, u94, u95, u96, u97, u98, u99, u100, u101, u102, u103, u104, u105, u106, u107, u108, u109, u110, u111, u112, u113, .int .i64 kk, u115, u116, u117, u118, u119, u120, u121, u122, u123, u124, u125, u126, u127, u128, u129, u130, u131, u132, u133, u134, u135, u136, u137, u138, u139, u140, u141, u142, u143, u144, u145, u146, u147, u148, u149, u150, u151, u152, u153, u154, u155, u156, u157, u158, u159, u160, u161, u162, u163, u164, u165, u166, u167, u168, u169, u170, u171, u172, u173, u174, u175, u176, u177, u178, u179, u180, u181, u182, u183, u184, u185, u186, u187, u188, u189, u190, u191, u192, u193, u194, u195, u196, u197, u198, u199, u200, u201, u202, u203, u204, u205, u206, u207, u208, u209, u210, u211, u212, u213, u214, u215, u216, u217, u218, u219, u220, u221, u222, u223, u224, u225, u226, u227, u228, u229, u230, u231, u232, u233, u234, u235, u236, u237, u238, u239, u240, u241, u242, u243, u244, u245, u246, u247, u248, u249, u250, u251, u252, u253, u254, u255, u256, u257, u258, u259, u260, u261, u262, u263, u264, u265, u266, u267, u268, u269], []⟩ wc := by
  have _hP := hP
  dsimp only at hQ ⊢
  conv => arg 2; whnf
  have HQ := Lib.hid hQ
  clear hQ
  have hk9 : kk = 1 ∨ kk = 2 ∨ kk = 3 ∨ kk = 4 ∨ kk = 5 ∨ kk = 6 ∨ kk = 7 ∨ kk = 8 ∨ kk = 9 ∨ kk = 10 ∨ kk = 11 ∨ (kk ≠ 1 ∧ kk ≠ 2 ∧ kk ≠ 3 ∧ kk ≠ 4 ∧ kk ≠ 5 ∧ kk ≠ 6 ∧ kk ≠ 7 ∧ kk ≠ 8 ∧ kk ≠ 9 ∧ kk ≠ 10 ∧ kk ≠ 11) := by omega
  rcases hk9 with rfl | rfl | rfl | rfl | rfl | rfl | rfl | rfl | rfl | rfl | rfl | ⟨n1, n2, n3, n4, n5, n6, n7, n8, n9, n10, n11⟩
  · obtain ⟨d2, L2, x, hr⟩ : ∃ d2 L2 x, L.add d o.es = (⟨d2, L2, x⟩ : LgR) := ⟨_, _, _, rfl⟩
    have HR := Lib.hid hr
    have HPN : Hid (PI (k + 1) size L2) := Lib.hid (by have h9 := HPI.out.add (d := d) hk hes; rw [hr] at h9; exact h9)
    have HNE := Lib.hid HPN.out.few.1
    clear hr
    go_upto_region 24 with fail
    refine p24 (k := k) HM HT HPI hk hsz HR (fun _ _ _ _ _ h => _hP _ _ _ _ _ h) ?_
    intro s120 s121 s122 s123 w1 hw1
    have M1 := Lib.hid hw1
    clear hw1
    go_upto_region 25 with fail
    refine p25 (k := k) M1 HT HPI hk hsz HR HNE (fun _ _ _ _ _ h => _hP _ _ _ _ _ h) ?_
    intro s124 s125 s126 s127 s128 s129 s130 s131 s132 m' a' n' c' la' dn' pa' pc' w2 hw2
    have MW := Lib.hid hw2
    clear hw2
    go_wp2
    exact HQ.out _ _ _ _ _ _ _ _ _ _ _ _ _ _ _ _ _ _ _ _ _ _ _ _ _ _ _ _ _ _ _ _ _ _ _ _ _ _ _ _ _ _ _ _ _ _ _ _ _ _ _ _ _ _ _ _ _ _ _ _ _ _ _ _ _ _ _ _ _ _ _ _ _ _ _ _ _ _ _ _ _ _ _ _ _ _ _ _ _ _ _ _ _ _ _ _ _ _ _ _ _ _ _ _ _ _ _ _ _ _ _ _ _ _ _ _ _ _ _ _ _ _ _ _ _ _ _ _ _ _ _ _ _ _ _ _ _ _ _ _ _ _ _ _ _ _ _ p d2 L2 x m' a' n' c' la' dn' pa' pc' _ MW.out HPN.out
  · obtain ⟨d2, L2, x, hr⟩ : ∃ d2 L2 x, L.add d o.es = (⟨d2, L2, x⟩ : LgR) := ⟨_, _, _, rfl⟩
    have HR := Lib.hid hr
    have HPN : Hid (PI (k + 1) size L2) := Lib.hid (by have h9 := HPI.out.add (d := d) hk hes; rw [hr] at h9; exact h9)
    have HNE := Lib.hid HPN.out.few.1
    clear hr
    go_upto_region 24 with fail
    refine p24 (k := k) HM HT HPI hk hsz HR (fun _ _ _ _ _ h => _hP _ _ _ _ _ h) ?_
    intro s120 s121 s122 s123 w1 hw1
    have M1 := Lib.hid hw1
    clear hw1
    go_upto_region 25 with fail
    refine p25 (k := k) M1 HT HPI hk hsz HR HNE (fun _ _ _ _ _ h => _hP _ _ _ _ _ h) ?_
    intro s124 s125 s126 s127 s128 s129 s130 s131 s132 m' a' n' c' la' dn' pa' pc' w2 hw2
    have MW := Lib.hid hw2
    clear hw2
    go_wp2
    exact HQ.out _ _ _ _ _ _ _ _ _ _ _ _ _ _ _ _ _ _ _ _ _ _ _ _ _ _ _ _ _ _ _ _ _ _ _ _ _ _ _ _ _ _ _ _ _ _ _ _ _ _ _ _ _ _ _ _ _ _ _ _ _ _ _ _ _ _ _ _ _ _ _ _ _ _ _ _ _ _ _ _ _ _ _ _ _ _ _ _ _ _ _ _ _ _ _ _ _ _ _ _ _ _ _ _ _ _ _ _ _ _ _ _ _ _ _ _ _ _ _ _ _ _ _ _ _ _ _ _ _ _ _ _ _ _ _ _ _ _ _ _ _ _ _ _ _ _ _ p d2 L2 x m' a' n' c' la' dn' pa' pc' _ MW.out HPN.out
  · obtain ⟨d2, L2, x, hr⟩ : ∃ d2 L2 x, L.add d o.es = (⟨d2, L2, x⟩ : LgR) := ⟨_, _, _, rfl⟩
    have HR := Lib.hid hr
    have HPN : Hid (PI (k + 1) size L2) := Lib.hid (by have h9 := HPI.out.add (d := d) hk hes; rw [hr] at h9; exact h9)
    have HNE := Lib.hid HPN.out.few.1
    clear hr
    go_upto_region 24 with fail
    refine p24 (k := k) HM HT HPI hk hsz HR (fun _ _ _ _ _ h => _hP _ _ _ _ _ h) ?_
    intro s120 s121 s122 s123 w1 hw1
    have M1 := Lib.hid hw1
    clear hw1
    go_upto_region 25 with fail
    refine p25 (k := k) M1 HT HPI hk hsz HR HNE (fun _ _ _ _ _ h => _hP _ _ _ _ _ h) ?_
    intro s124 s125 s126 s127 s128 s129 s130 s131 s132 m' a' n' c' la' dn' pa' pc' w2 hw2
    have MW := Lib.hid hw2
    clear hw2
    go_wp2
    exact HQ.out _ _ _ _ _ _ _ _ _ _ _ _ _ _ _ _ _ _ _ _ _ _ _ _ _ _ _ _ _ _ _ _ _ _ _ _ _ _ _ _ _ _ _ _ _ _ _ _ _ _ _ _ _ _ _ _ _ _ _ _ _ _ _ _ _ _ _ _ _ _ _ _ _ _ _ _ _ _ _ _ _ _ _ _ _ _ _ _ _ _ _ _ _ _ _ _ _ _ _ _ _ _ _ _ _ _ _ _ _ _ _ _ _ _ _ _ _ _ _ _ _ _ _ _ _ _ _ _ _ _ _ _ _ _ _ _ _ _ _ _ _ _ _ _ _ _ _ p d2 L2 x m' a' n' c' la' dn' pa' pc' _ MW.out HPN.out
  · obtain ⟨d2, L2, x, hr⟩ : ∃ d2 L2 x, L.add d o.es = (⟨d2, L2, x⟩ : LgR) := ⟨_, _, _, rfl⟩
    have HR := Lib.hid hr
    have HPN : Hid (PI (k + 1) size L2) := Lib.hid (by have h9 := HPI.out.add (d := d) hk hes; rw [hr] at h9; exact h9)
    have HNE := Lib.hid HPN.out.few.1
    clear hr
    go_upto_region 24 with fail
    refine p24 (k := k) HM HT HPI hk hsz HR (fun _ _ _ _ _ h => _hP _ _ _ _ _ h) ?_
    intro s120 s121 s122 s123 w1 hw1
    have M1 := Lib.hid hw1
    clear hw1
    go_upto_region 25 with fail
    refine p25 (k := k) M1 HT HPI hk hsz HR HNE (fun _ _ _ _ _ h => _hP _ _ _ _ _ h) ?_
    intro s124 s125 s126 s127 s128 s129 s130 s131 s132 m' a' n' c' la' dn' pa' pc' w2 hw2
    have MW := Lib.hid hw2
    clear hw2
    go_wp2
    exact HQ.out _ _ _ _ _ _ _ _ _ _ _ _ _ _ _ _ _ _ _ _ _ _ _ _ _ _ _ _ _ _ _ _ _ _ _ _ _ _ _ _ _ _ _ _ _ _ _ _ _ _ _ _ _ _ _ _ _ _ _ _ _ _ _ _ _ _ _ _ _ _ _ _ _ _ _ _ _ _ _ _ _ _ _ _ _ _ _ _ _ _ _ _ _ _ _ _ _ _ _ _ _ _ _ _ _ _ _ _ _ _ _ _ _ _ _ _ _ _ _ _ _ _ _ _ _ _ _ _ _ _ _ _ _ _ _ _ _ _ _ _ _ _ _ _ _ _ _ p d2 L2 x m' a' n' c' la' dn' pa' pc' _ MW.out HPN.out
  · obtain ⟨d2, L2, x, hr⟩ : ∃ d2 L2 x, L.sync d = (⟨d2, L2, x⟩ : LgR) := ⟨_, _, _, rfl⟩
    have HR := Lib.hid hr
    have HPN : Hid (PI (k + 1) size L2) := Lib.hid (by have h9 := HPI.out.sync (d := d); rw [hr] at h9; exact h9)
    have HNE := Lib.hid HPN.out.few.1
    clear hr
    go_upto_region 27 with fail
    refine p27 (k := k) HM HR (fun _ _ _ _ _ h => _hP _ _ _ _ _ h) ?_
    intro s135 s136 w1 hw1
    have M1 := Lib.hid hw1
    clear hw1
    go_upto_region 28 with fail
    refine p28 (k := k) M1 HT HPI hk hsz HR HNE (fun _ _ _ _ _ h => _hP _ _ _ _ _ h) ?_
    intro s137 s138 s139 s140 s141 s142 s143 m' a' n' c' la' dn' pa' pc' w2 hw2
    have MW := Lib.hid hw2
    clear hw2
    go_wp2
    exact HQ.out _ _ _ _ _ _ _ _ _ _ _ _ _ _ _ _ _ _ _ _ _ _ _ _ _ _ _ _ _ _ _ _ _ _ _ _ _ _ _ _ _ _ _ _ _ _ _ _ _ _ _ _ _ _ _ _ _ _ _ _ _ _ _ _ _ _ _ _ _ _ _ _ _ _ _ _ _ _ _ _ _ _ _ _ _ _ _ _ _ _ _ _ _ _ _ _ _ _ _ _ _ _ _ _ _ _ _ _ _ _ _ _ _ _ _ _ _ _ _ _ _ _ _ _ _ _ _ _ _ _ _ _ _ _ _ _ _ _ _ _ _ _ _ _ _ _ _ p d2 L2 x m' a' n' c' la' dn' pa' pc' _ MW.out HPN.out
  · obtain ⟨d2, L2, x, hr⟩ : ∃ d2 L2 x, L.swap d o.ps = (⟨d2, L2, x⟩ : LgR) := ⟨_, _, _, rfl⟩
    have HR := Lib.hid hr
    have HPN : Hid (PI (k + 1) size L2) := Lib.hid (by have h9 := HPI.out.swap (d := d) (ps := o.ps); rw [hr] at h9; exact h9)
    have HNE := Lib.hid HPN.out.few.1
    clear hr
    go_upto_region 30 with fail
    refine p30 (k := k) HM hps HR (fun _ _ _ _ _ h => _hP _ _ _ _ _ h) ?_
    intro s146 s147 s148 s149 w1 hw1
    have M1 := Lib.hid hw1
    clear hw1
    go_upto_region 31 with fail
    refine p31 (k := k) M1 HT HPI hk hsz hps HR HNE (fun _ _ _ _ _ h => _hP _ _ _ _ _ h) ?_
    intro s150 s151 s152 s153 s154 s155 s156 s157 s158 m' a' n' c' la' dn' pa' pc' w2 hw2
    have MW := Lib.hid hw2
    clear hw2
    go_wp2
    exact HQ.out _ _ _ _ _ _ _ _ _ _ _ _ _ _ _ _ _ _ _ _ _ _ _ _ _ _ _ _ _ _ _ _ _ _ _ _ _ _ _ _ _ _ _ _ _ _ _ _ _ _ _ _ _ _ _ _ _ _ _ _ _ _ _ _ _ _ _ _ _ _ _ _ _ _ _ _ _ _ _ _ _ _ _ _ _ _ _ _ _ _ _ _ _ _ _ _ _ _ _ _ _ _ _ _ _ _ _ _ _ _ _ _ _ _ _ _ _ _ _ _ _ _ _ _ _ _ _ _ _ _ _ _ _ _ _ _ _ _ _ _ _ _ _ _ _ _ _ p d2 L2 x m' a' n' c' la' dn' pa' pc' _ MW.out HPN.out
  · obtain ⟨d2, hr⟩ : ∃ d2, d.armed o.n = d2 := ⟨_, rfl⟩
    have HR := Lib.hid hr
    clear hr
    go_upto_if 159 with fail
    refine c159 (k := k) (x := 0) (L2 := L) HM HR (fun _ _ _ _ _ h => _hP _ _ _ _ _ h) ?_
    intro s161 s162 s163 s164 s165 s166 s167 s168 m' a' n' c' la' dn' pa' pc' w2 hw2
    have MW := Lib.hid hw2
    clear hw2
    go_wp2
    exact HQ.out _ _ _ _ _ _ _ _ _ _ _ _ _ _ _ _ _ _ _ _ _ _ _ _ _ _ _ _ _ _ _ _ _ _ _ _ _ _ _ _ _ _ _ _ _ _ _ _ _ _ _ _ _ _ _ _ _ _ _ _ _ _ _ _ _ _ _ _ _ _ _ _ _ _ _ _ _ _ _ _ _ _ _ _ _ _ _ _ _ _ _ _ _ _ _ _ _ _ _ _ _ _ _ _ _ _ _ _ _ _ _ _ _ _ _ _ _ _ _ _ _ _ _ _ _ _ _ _ _ _ _ _ _ _ _ _ _ _ _ _ _ _ _ _ _ _ _ p d2 L 0 m' a' n' c' la' dn' pa' pc' _ MW.out HPI.out.more
  · obtain ⟨d2, hr⟩ : ∃ d2, d.crash [o.n, o.n, o.n, o.n, o.n, o.n] = d2 := ⟨_, rfl⟩
    have HR := Lib.hid hr
    clear hr
    go_upto_if 169 with fail
    refine c169 (k := k) (x := 0) (L2 := L) HM HR (fun _ _ _ _ _ h => _hP _ _ _ _ _ h) ?_
    intro s19 s171 s172 s173 s174 s175 s176 s177 s178 s179 s180 s181 s182 s183 s184 s185 s186 s187 s188 s189 m' a' n' c' la' dn' pa' pc' w2 hw2
    have MW := Lib.hid hw2
    clear hw2
    go_wp2
    exact HQ.out _ _ _ _ _ _ _ _ _ _ _ _ _ _ _ _ _ _ _ _ _ _ _ _ _ _ _ _ _ _ _ _ _ _ _ _ _ _ _ _ _ _ _ _ _ _ _ _ _ _ _ _ _ _ _ _ _ _ _ _ _ _ _ _ _ _ _ _ _ _ _ _ _ _ _ _ _ _ _ _ _ _ _ _ _ _ _ _ _ _ _ _ _ _ _ _ _ _ _ _ _ _ _ _ _ _ _ _ _ _ _ _ _ _ _ _ _ _ _ _ _ _ _ _ _ _ _ _ _ _ _ _ _ _ _ _ _ _ _ _ _ _ _ _ _ _ _ p d2 L 0 m' a' n' c' la' dn' pa' pc' _ MW.out HPI.out.more
  · obtain ⟨d2, x, hr⟩ : ∃ d2 x, resumeD d size o.ps o.n = (d2, x) := ⟨_, _, rfl⟩
    have HR := Lib.hid hr
    have HOK := Lib.hid (HM.out.ex.elim fun _ hx => hx.tl.log.ok)
    clear hr
    go_upto_if 190 with fail
    go_cut [190] from 192 to 192 (fun t wx => t = .bool true ∧ wx = wc)
    case first =>
      go_wp2
      go_meet
      case rel => exact ⟨rfl, rfl⟩
    case rest =>
      obtain ⟨rfl, rfl⟩ := hcut
      go_upto_if 190 with fail
      refine c190_9 (k := k) (L2 := L) HM HKD HR hsz (fun _ _ _ _ _ h => _hP _ _ _ _ _ h) ?_
      intro s20 s21 s22 s23 s24 s25 s26 s193 s194 s195 s196 s197 s198 s199 s200 s201 s202 s203 s204 s205 s206 s207 s208 s209 s210 s211 s212 s213 s214 s215 s216 s217 s218 s219 s220 s221 s222 s223 s224 s225 s226 s227 s228 s229 s230 s231 s232 s233 s234 s235 s236 p2 L9 m' a' n' c' la' dn' pa' pc' w2 hw2 hl9
      have MW := Lib.hid hw2
      have HPN : Hid (PI (k + 1) size L9) := Lib.hid (by
        rw [hl9]
        split
        · rename_i h0
          have h9 := resumeD_good (d := d) (size := size) (l := o.ps) (k := o.n) (by rw [HR.out]; exact h0)
          exact PI.on h9.1 (by have := h9.2.1; omega) HOK.out
        · exact HPI.out.more)
      clear hw2 hl9
      go_wp2
      exact HQ.out _ _ _ _ _ _ _ _ _ _ _ _ _ _ _ _ _ _ _ _ _ _ _ _ _ _ _ _ _ _ _ _ _ _ _ _ _ _ _ _ _ _ _ _ _ _ _ _ _ _ _ _ _ _ _ _ _ _ _ _ _ _ _ _ _ _ _ _ _ _ _ _ _ _ _ _ _ _ _ _ _ _ _ _ _ _ _ _ _ _ _ _ _ _ _ _ _ _ _ _ _ _ _ _ _ _ _ _ _ _ _ _ _ _ _ _ _ _ _ _ _ _ _ _ _ _ _ _ _ _ _ _ _ _ _ _ _ _ _ _ _ _ _ _ _ _ _ p2 d2 L9 x m' a' n' c' la' dn' pa' pc' _ MW.out HPN.out
  · obtain ⟨d2, x, hr⟩ : ∃ d2 x, resumeD d size L.l (L.n : Int) = (d2, x) := ⟨_, _, rfl⟩
    have HR := Lib.hid hr
    have HOK := Lib.hid (HM.out.ex.elim fun _ hx => hx.tl.log.ok)
    clear hr
    go_upto_if 190 with fail
    go_cut [190] from 192 to 192 (fun t wx => t = .bool true ∧ wx = wc)
    case first =>
      go_wp2
      go_meet
      case rel => exact ⟨rfl, rfl⟩
    case rest =>
      obtain ⟨rfl, rfl⟩ := hcut
      go_upto_if 190 with fail
      refine c190_10 (k := k) (L2 := L) HM HKD HR hsz (fun _ _ _ _ _ h => _hP _ _ _ _ _ h) ?_
      intro s20 s21 s22 s23 s24 s25 s26 s193 s194 s195 s196 s197 s198 s199 s200 s201 s202 s203 s204 s205 s206 s207 s208 s209 s210 s211 s212 s213 s214 s215 s216 s217 s218 s219 s220 s221 s222 s223 s224 s225 s226 s227 s228 s229 s230 s231 s232 s233 s234 s235 s236 p2 L9 m' a' n' c' la' dn' pa' pc' w2 hw2 hl9
      have MW := Lib.hid hw2
      have HPN : Hid (PI (k + 1) size L9) := Lib.hid (by
        rw [hl9]
        split
        · rename_i h0
          have h9 := resumeD_good (d := d) (size := size) (l := L.l) (k := (L.n : Int)) (by rw [HR.out]; exact h0)
          exact PI.on h9.1 (by have := h9.2.1; omega) HOK.out
        · exact HPI.out.more)
      clear hw2 hl9
      go_wp2
      exact HQ.out _ _ _ _ _ _ _ _ _ _ _ _ _ _ _ _ _ _ _ _ _ _ _ _ _ _ _ _ _ _ _ _ _ _ _ _ _ _ _ _ _ _ _ _ _ _ _ _ _ _ _ _ _ _ _ _ _ _ _ _ _ _ _ _ _ _ _ _ _ _ _ _ _ _ _ _ _ _ _ _ _ _ _ _ _ _ _ _ _ _ _ _ _ _ _ _ _ _ _ _ _ _ _ _ _ _ _ _ _ _ _ _ _ _ _ _ _ _ _ _ _ _ _ _ _ _ _ _ _ _ _ _ _ _ _ _ _ _ _ _ _ _ _ _ _ _ _ p2 d2 L9 x m' a' n' c' la' dn' pa' pc' _ MW.out HPN.out
  · obtain ⟨d2, x, hr⟩ : ∃ d2 x, d.append o.name [120, 121, 122] = (d2, x) := ⟨_, _, rfl⟩
    have HR := Lib.hid hr
    clear hr
    go_upto_if 237 with fail
    refine c237 (k := k) (L2 := L) HM hnl HR (fun _ _ _ _ _ h => _hP _ _ _ _ _ h) ?_
    intro s239 s240 s241 s242 s243 s244 s245 s246 s247 s248 s249 s250 s251 s252 s253 m' a' n' c' la' dn' pa' pc' w2 hw2
    have MW := Lib.hid hw2
    clear hw2
    go_wp2
    exact HQ.out _ _ _ _ _ _ _ _ _ _ _ _ _ _ _ _ _ _ _ _ _ _ _ _ _ _ _ _ _ _ _ _ _ _ _ _ _ _ _ _ _ _ _ _ _ _ _ _ _ _ _ _ _ _ _ _ _ _ _ _ _ _ _ _ _ _ _ _ _ _ _ _ _ _ _ _ _ _ _ _ _ _ _ _ _ _ _ _ _ _ _ _ _ _ _ _ _ _ _ _ _ _ _ _ _ _ _ _ _ _ _ _ _ _ _ _ _ _ _ _ _ _ _ _ _ _ _ _ _ _ _ _ _ _ _ _ _ _ _ _ _ _ _ _ _ _ _ p d2 L x m' a' n' c' la' dn' pa' pc' _ MW.out HPI.out.more
  · have q1 : (kk == 1) = false := by simpa using n1
    have q2 : (kk == 2) = false := by simpa using n2
    have q3 : (kk == 3) = false := by simpa using n3
    have q4 : (kk == 4) = false := by simpa using n4
    have q5 : (kk == 5) = false := by simpa using n5
    have q6 : (kk == 6) = false := by simpa using n6
    have q7 : (kk == 7) = false := by simpa using n7
    have q8 : (kk == 8) = false := by simpa using n8
    have q9 : (kk == 9) = false := by simpa using n9
    have q10 : (kk == 10) = false := by simpa using n10
    have q11 : (kk == 11) = false := by simpa using n11
    clear n1 n2 n3 n4 n5 n6 n7 n8 n9 n10 n11
    go_wp2
    exact HQ.out _ _ _ _ _ _ _ _ _ _ _ _ _ _ _ _ _ _ _ _ _ _ _ _ _ _ _ _ _ _ _ _ _ _ _ _ _ _ _ _ _ _ _ _ _ _ _ _ _ _ _ _ _ _ _ _ _ _ _ _ _ _ _ _ _ _ _ _ _ _ _ _ _ _ _ _ _ _ _ _ _ _ _ _ _ _ _ _ _ _ _ _ _ _ _ _ _ _ _ _ _ _ _ _ _ _ _ _ _ _ _ _ _ _ _ _ _ _ _ _ _ _ _ _ _ _ _ _ _ _ _ _ _ _ _ _ _ _ _ _ _ _ _ _ _ _ _ p d L 0 m a n c la dn pa pc _ HM.out HPI.out.more

end Go.Proofs.YtkbenkldfehhlaaGreatDoor.SeglogPlays
