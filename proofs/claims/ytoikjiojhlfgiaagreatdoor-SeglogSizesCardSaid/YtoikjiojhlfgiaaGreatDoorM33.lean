/-
  Texts merged by a program of this claim's: SizesR.
-/
import Derived.Test.YtoikjiojhlfgiaaGreatDoorM32
import Derived.Test.YtoikjiojhlfgiaaGreatDoorM14
import Derived.Test.YtoikjiojhlfgiaaGreatDoorM21
/-
  amanuensislaw05.SeglogSizes: its test of the pieces (a drawn region of seventy operations, most of them guarded), one theorem for each way. Printed by wip/gen_sz.py.
-/
namespace Go.Proofs.YtoikjiojhlfgiaaGreatDoor.SeglogSizes
open Go Go.RowKit Go.Sort
set_option maxRecDepth 100000
set_option maxHeartbeats 3200000
theorem forall_nil {p : Nat × Value → Prop} : ∀ x ∈ ([] : List (Nat × Value)), p x := fun _ h => by cases h
theorem forall_cons {p : Nat × Value → Prop} {a : Nat × Value} {l : List (Nat × Value)} (h : p a) (h' : ∀ x ∈ l, p x) : ∀ x ∈ a :: l, p x := fun x hx => by
  rcases List.mem_cons.1 hx with rfl | hx
  · exact h
  · exact h' x hx
section
variable {L : List Oper}
theorem at_op {M : List Oper} {i : Nat} {o : Oper} (h : L = M) (h2 : M[i]? = some o) : L[i]? = some o := h ▸ h2
theorem cast_frame {Q : Exit → Act → World → Prop} {a b : Act} {w : World} (h : a = b) (h' : Q .normal b w) : Q .normal a w := h ▸ h'
theorem rgn_open {P : Program} {id : Nat} {ops : List Oper} {Q : Exit → Act → World → Prop} {a : Act} {w : World} (h : ∀ L, L = ops → (Code.region id L.toArray true).wp P Q a w) : (Code.region id ops.toArray true).wp P Q a w := h _ rfl
theorem wanted_un {o oj : Oper} {tmps : Array Value} {j dj : Nat} {b : Bool} (hg : o.guard = some (j, b)) (hj : L[j]? = some oj) (hjd : oj.dst = some dj) (hy : tmps[dj]? = some undef) : Region.wanted o (yielded L.toArray tmps) = false := by
  unfold Region.wanted
  rw [hg]
  have : yielded L.toArray tmps j = none := by
    unfold yielded
    rw [at_list hj]
    simp only [Option.bind_some, hjd, hy]
    rfl
  simp only [this]
  cases b <;> rfl
end
theorem r18_stay {w6 : World} {b p g o nf c0 pg po nq pc k bl a n ec s N ln y : Nat} {ea : Option Addr} {sz fi : Int} {nm : Str}
    (H82 : Hid (∀ w1, Nw w6 w1 → Calls Tryz.prog 20 #[.pointer (some ⟨p, 0, none⟩)] w1 fun e w' => ∃ ax cx, e = .returned (.slice ax N cx) ∧ Nw w1 w'))
    (H101 : Hid (∀ w1, Nw w6 w1 → Calls Tryz.prog 22 #[.pointer (some ⟨b, 0, none⟩), .string ⟨nm.toArray⟩] w1 fun e w' => e = .returned (.int .i64 s) ∧ Nw w1 w'))
    (H108 : Hid (∀ w1, Nw w6 w1 → Calls Tryz.prog 23 #[.pointer (some ⟨b, 0, none⟩), .string ⟨nm.toArray⟩] w1 fun e w' => e = .returned (.int .i64 y) ∧ Nw w1 w'))
    (H126 : Hid (∀ w1, Nw w6 w1 → Calls Tryz.prog 19 #[.pointer (some ⟨p, 0, none⟩)] w1 fun e w' => e = .returned (.int .i64 ln) ∧ w1 = w'))
    (HCg : Hid (w6.cell? ⟨g, o + k, none⟩ = some (.slice ea n ec))) (HCp : Hid (w6.cell? ⟨pg, po + nq * 4 + 1, none⟩ = some (.int .i64 fi)))
    {u2 u3 u4 u6 u8 u14 u15 u16 u17 u18 u19 u20 u21 u22 u23 u24 u25 u26 u27 u28 u29 u30 u31 u32 u33 u34 u35 u36 u37 u38 u39 u40 u41 u42 u43 u44 u45 u46 u47 u48 u49 u50 u51 u52 u53 u54 u55 u56 u57 u58 u59 u60 u61 u62 u63 u64 u65 u66 u67 u68 u69 u70 u71 u72 u73 u74 u75 u76 u77 u78 u79 u80 u81 u82 u83 u84 u85 u86 u87 u88 u89 u90 u91 u92 u93 u94 u95 u96 u97 u98 u99 u100 u101 u102 u103 u104 u105 u106 u107 u108 u109 u110 u111 u112 u113 u114 u115 u116 u117 u118 u119 u120 u121 u122 u123 u124 u125 u126 u127 u128 u129 u130 u131 u132 u133 u134 u135 u136 u137 u138 u139 u140 u141 u142 u143 u144 u145 u146 u147 u148 u149 u150 u151 u152 u153 u154 u155 u156 u157 u158 u159 u160 u161 u162 u163 u164 u165 u166 u167 u168 u169 u170 u171 u172 u173 u174 u175 u176 u177 u178 u179 u180 u181 u182 u183 u184 u185 u186 u187 u188 u189 u190 u191 u192 u193 u194 u195 u196 : Value} {Q : Exit → Act → World → Prop} (hP : PanicOk Q)
    (hN : N = nq + 1) (h1 : (bl : Int) < sz) (h2 : bl < s) (hk : k < nf) (hnq : nq ≤ 1000) (hbl : bl ≤ 100000000) (hab : a ≤ bl) (hln : ln ≤ 100000000) (hn : n ≤ 30)
    (hQ : ∀ (s81 s82 s83 s84 s85 s86 s87 s88 s89 s90 s91 s92 s93 s94 s95 s96 s97 s98 s99 s100 s101 s102 s103 s104 s105 s106 s107 s108 s109 s110 s111 s112 s113 s114 s115 s116 s117 s118 s119 s120 s121 s122 s123 s124 s125 s126 s127 s128 s129 s130 s131 s132 s133 s134 s135 s136 s137 s138 s139 s140 s141 s142 s143 s144 s145 s146 s147 s148 s149 : Value) (wx : World), Nw w6 wx → Q .normal ⟨#[.slice (some ⟨g, o, none⟩) nf c0, .int .i64 sz, u2, u3, u4, .pointer (some ⟨b, 0, none⟩), u6, .pointer (some ⟨p, 0, none⟩), u8, .int .i64 a, .int .i64 k, .slice (some ⟨pg, po, none⟩) (nq + 1) pc, .string ⟨nm.toArray⟩, .int .i64 bl, u14, u15, u16, u17, u18, u19, u20, u21, u22, u23, u24, u25, u26, u27, u28, u29, u30, u31, u32, u33, u34, u35, u36, u37, u38, u39, u40, u41, u42, u43, u44, u45, u46, u47, u48, u49, u50, u51, u52, u53, u54, u55, u56, u57, u58, u59, u60, u61, u62, u63, u64, u65, u66, u67, u68, u69, u70, u71, u72, u73, u74, u75, u76, u77, u78, u79, u80, s81, s82, s83, s84, s85, s86, s87, s88, s89, s90, s91, s92, s93, s94, s95, s96, s97, s98, s99, s100, s101, s102, s103, s104, s105, s106, s107, s108, s109, s110, s111, s112, s113, s114, s115, s116, s117, s118, s119, s120, s121, s122, s123, s124, s125, s126, s127, s128, s129, s130, s131, s132, s133, s134, s135, s136, s137, s138, s139, s140, s141, s142, s143, s144, s145, s146, s147, s148, s149, .bool false, u151, u152, u153, u154, u155, u156, u157, u158, u159, u160, u161, u162, u163, u164, u165, u166, u167, u168, u169, u170, u171, u172, u173, u174, u175, u176, u177, u178, u179, u180, u181, u182, u183, u184, u185, u186, u187, u188, u189, u190, u191, u192, u193, u194, u195, u196], []⟩ wx) :
    Code.wp Tryz.prog ((Tryz.f4.body.bind (regionOf 18)).getD .skip) Q ⟨#[.slice (some ⟨g, o, none⟩) nf c0, .int .i64 sz, u2, u3, u4, .pointer (some ⟨b, 0, none⟩), u6, .pointer (some ⟨p, 0, none⟩), u8, .int .i64 a, .int .i64 k, .slice (some ⟨pg, po, none⟩) (nq + 1) pc, .string ⟨nm.toArray⟩, .int .i64 bl, u14, u15, u16, u17, u18, u19, u20, u21, u22, u23, u24, u25, u26, u27, u28, u29, u30, u31, u32, u33, u34, u35, u36, u37, u38, u39, u40, u41, u42, u43, u44, u45, u46, u47, u48, u49, u50, u51, u52, u53, u54, u55, u56, u57, u58, u59, u60, u61, u62, u63, u64, u65, u66, u67, u68, u69, u70, u71, u72, u73, u74, u75, u76, u77, u78, u79, u80, u81, u82, u83, u84, u85, u86, u87, u88, u89, u90, u91, u92, u93, u94, u95, u96, u97, u98, u99, u100, u101, u102, u103, u104, u105, u106, u107, u108, u109, u110, u111, u112, u113, u114, u115, u116, u117, u118, u119, u120, u121, u122, u123, u124, u125, u126, u127, u128, u129, u130, u131, u132, u133, u134, u135, u136, u137, u138, u139, u140, u141, u142, u143, u144, u145, u146, u147, u148, u149, u150, u151, u152, u153, u154, u155, u156, u157, u158, u159, u160, u161, u162, u163, u164, u165, u166, u167, u168, u169, u170, u171, u172, u173, u174, u175, u176, u177, u178, u179, u180, u181, u182, u183, u184, u185, u186, u187, u188, u189, u190, u191, u192, u193, u194, u195, u196], []⟩ w6 := by
  dsimp only at hQ ⊢
  conv => arg 2; whnf
  have HQ := Lib.hid hQ
  clear hQ
  have hk1 : (k : Int) < (nf : Int) := by omega
  have hi2 : Hid (IntKind.i64.wrap (nq : Int) = (nq : Int)) := Lib.hid <| IntWalk.i64_in _ (by omega)
  have hi3 : Hid (IntKind.i64.wrap ((bl : Int) - a) = (bl : Int) - a) := Lib.hid <| IntWalk.i64_in _ (by omega)
  have hi4 : Hid (IntKind.i64.wrap ((ln : Int) - n) = (ln : Int) - n) := Lib.hid <| IntWalk.i64_in _ (by omega)
  refine name_frame fun A hA => ?_
  have hlt : ∀ t, t < 197 → t < A.tmps.size := fun t h => by rw [hA]; exact h
  have hA0 : A.tmps[0]? = some (.slice (some ⟨g, o, none⟩) nf c0) := by rw [hA]; rfl
  have hA1 : A.tmps[1]? = some (.int .i64 sz) := by rw [hA]; rfl
  have hA5 : A.tmps[5]? = some (.pointer (some ⟨b, 0, none⟩)) := by rw [hA]; rfl
  have hA7 : A.tmps[7]? = some (.pointer (some ⟨p, 0, none⟩)) := by rw [hA]; rfl
  have hA9 : A.tmps[9]? = some (.int .i64 a) := by rw [hA]; rfl
  have hA10 : A.tmps[10]? = some (.int .i64 k) := by rw [hA]; rfl
  have hA11 : A.tmps[11]? = some (.slice (some ⟨pg, po, none⟩) (nq + 1) pc) := by rw [hA]; rfl
  have hA12 : A.tmps[12]? = some (.string ⟨nm.toArray⟩) := by rw [hA]; rfl
  have hA13 : A.tmps[13]? = some (.int .i64 bl) := by rw [hA]; rfl
  have HA := Lib.hid hA
  clear hA
  refine rgn_open fun L hL => ?_
  have f0 := at_op (i := 0) hL rfl
  have f1 := at_op (i := 1) hL rfl
  have f2 := at_op (i := 2) hL rfl
  have f3 := at_op (i := 3) hL rfl
  have f4 := at_op (i := 4) hL rfl
  have f5 := at_op (i := 5) hL rfl
  have f6 := at_op (i := 6) hL rfl
  have f7 := at_op (i := 7) hL rfl
  have f8 := at_op (i := 8) hL rfl
  have f9 := at_op (i := 9) hL rfl
  have f10 := at_op (i := 10) hL rfl
  have f11 := at_op (i := 11) hL rfl
  have f12 := at_op (i := 12) hL rfl
  have f13 := at_op (i := 13) hL rfl
  have f14 := at_op (i := 14) hL rfl
  have f15 := at_op (i := 15) hL rfl
  have f16 := at_op (i := 16) hL rfl
  have f17 := at_op (i := 17) hL rfl
  have f18 := at_op (i := 18) hL rfl
  have f19 := at_op (i := 19) hL rfl
  have f20 := at_op (i := 20) hL rfl
  have f21 := at_op (i := 21) hL rfl
  have f22 := at_op (i := 22) hL rfl
  have f23 := at_op (i := 23) hL rfl
  have f24 := at_op (i := 24) hL rfl
  have f25 := at_op (i := 25) hL rfl
  have f26 := at_op (i := 26) hL rfl
  have f27 := at_op (i := 27) hL rfl
  have f28 := at_op (i := 28) hL rfl
  have f29 := at_op (i := 29) hL rfl
  have f30 := at_op (i := 30) hL rfl
  have f31 := at_op (i := 31) hL rfl
  have f32 := at_op (i := 32) hL rfl
  have f33 := at_op (i := 33) hL rfl
  have f34 := at_op (i := 34) hL rfl
  have f35 := at_op (i := 35) hL rfl
  have f36 := at_op (i := 36) hL rfl
  have f37 := at_op (i := 37) hL rfl
  have f38 := at_op (i := 38) hL rfl
  have f39 := at_op (i := 39) hL rfl
  have f40 := at_op (i := 40) hL rfl
  have f41 := at_op (i := 41) hL rfl
  have f42 := at_op (i := 42) hL rfl
  have f43 := at_op (i := 43) hL rfl
  have f44 := at_op (i := 44) hL rfl
  have f45 := at_op (i := 45) hL rfl
  have f46 := at_op (i := 46) hL rfl
  have f47 := at_op (i := 47) hL rfl
  have f48 := at_op (i := 48) hL rfl
  have f49 := at_op (i := 49) hL rfl
  have f50 := at_op (i := 50) hL rfl
  have f51 := at_op (i := 51) hL rfl
  have f52 := at_op (i := 52) hL rfl
  have f53 := at_op (i := 53) hL rfl
  have f54 := at_op (i := 54) hL rfl
  have f55 := at_op (i := 55) hL rfl
  have f56 := at_op (i := 56) hL rfl
  have f57 := at_op (i := 57) hL rfl
  have f58 := at_op (i := 58) hL rfl
  have f59 := at_op (i := 59) hL rfl
  have f60 := at_op (i := 60) hL rfl
  have f61 := at_op (i := 61) hL rfl
  have f62 := at_op (i := 62) hL rfl
  have f63 := at_op (i := 63) hL rfl
  have f64 := at_op (i := 64) hL rfl
  have f65 := at_op (i := 65) hL rfl
  have f66 := at_op (i := 66) hL rfl
  have f67 := at_op (i := 67) hL rfl
  have f68 := at_op (i := 68) hL rfl
  have f69 := at_op (i := 69) hL rfl
  have HL := Lib.hid hL
  refine wp_region_steps 69 (.rd 0 :: .rd 3 :: .rd 4 :: .dn 1 :: .rd 2 :: .rd 5 :: .rd 6 :: .rd 7 :: .rd 8 :: .rd 9 :: .rd 10 :: .rd 11 :: .rd 12 :: .rd 13 :: .rd 14 :: .rd 15 :: .rd 16 :: .rd 17 :: .rd 18 :: .rd 19 :: .rd 21 :: .dn 20 :: .rd 22 :: .rd 23 :: .rd 24 :: .rd 25 :: .rd 26 :: .rd 28 :: .dn 27 :: .rd 29 :: .rd 30 :: .rd 31 :: .rd 32 :: .rd 33 :: .rd 36 :: .rd 37 :: .dn 34 :: .rd 35 :: .rd 38 :: .rd 39 :: .rd 40 :: .rd 41 :: .rd 42 :: .rd 43 :: .rd 44 :: .rd 46 :: .rd 47 :: .rd 48 :: .rd 49 :: .rd 50 :: .rd 52 :: .rd 53 :: .rd 54 :: .rd 55 :: .rd 56 :: .rd 57 :: .rd 58 :: .dn 45 :: .rd 51 :: .rd 59 :: .rd 60 :: .rd 61 :: .rd 62 :: .rd 63 :: .rd 65 :: .dn 64 :: .rd 66 :: .rd 67 :: .rd 68 :: []) [69] (fun x => Nw w6 x) (by kernel_rfl) (by rw [hL]; kernel_rfl) hP (Nw.refl _).drew ?_
  have hC : Nw w6 w6.drew := (Nw.refl _).drew
  clear HL hL
  refine rgn_rd1 (.pointer (some ⟨p, 0, none⟩)) f0 rfl (w_none rfl) (get_old (t := 7) rfl hA7) (fun ρ e0 ⟨c1, c2⟩ w hw => by go_simp) ?_
  refine rgn_rd1 (.slice (some ⟨pg, po, none⟩) (nq + 1) pc) f3 rfl (w_none rfl) (get_old (t := 11) rfl hA11) (fun ρ e0 ⟨c1, c2⟩ w hw => by go_simp) ?_
  refine rgn_rd1 (.int .i64 ((nq + 1 : Nat) : Int)) f4 rfl (w_none rfl) (get_hit (t := 84) rfl (hlt 84 (by decide))) (fun ρ e0 ⟨c1, c2⟩ w hw => by go_simp) ?_
  refine rgn_call [(81, .pointer (some ⟨p, 0, none⟩))] f1 rfl (w_none rfl) (forall_cons (get_hit (t := 81) rfl (hlt 81 (by decide))) <| forall_nil) (fun ρ e ⟨c1, c2⟩ => by simp only [List.forall_mem_cons] at e; go_simp) (H82.out _ hC) ?_
  rintro e wa ⟨ax, cx, rfl, n1⟩
  replace hC := hC.trans n1
  clear n1
  refine ⟨_, rfl, hC, ?_⟩
  refine rgn_rd1 (.int .i64 N) f2 rfl (w_none rfl) (get_hit (t := 82) rfl (hlt 82 (by decide))) (fun ρ e0 ⟨c1, c2⟩ w hw => by go_simp) ?_
  refine rgn_rd2 (.bool false) f5 rfl (w_none rfl) (get_hit (t := 83) rfl (hlt 83 (by decide))) (get_hit (t := 85) rfl (hlt 85 (by decide))) (fun ρ e0 e1 ⟨c1, c2⟩ w hw => by (first | (go_simp; done) | (go_simp; omega))) ?_
  refine rgn_rd1 (.bool false) f6 rfl (w_none rfl) (get_hit (t := 86) rfl (hlt 86 (by decide))) (fun ρ e0 ⟨c1, c2⟩ w hw => by go_simp) ?_
  refine rgn_no f7 rfl (wanted_no rfl f6 rfl (get_hit (t := 87) rfl (hlt 87 (by decide)))) ?_
  refine rgn_no f8 rfl (wanted_no rfl f6 rfl (get_hit (t := 87) rfl (hlt 87 (by decide)))) ?_
  refine rgn_no f9 rfl (wanted_no rfl f6 rfl (get_hit (t := 87) rfl (hlt 87 (by decide)))) ?_
  refine rgn_no f10 rfl (wanted_no rfl f6 rfl (get_hit (t := 87) rfl (hlt 87 (by decide)))) ?_
  refine rgn_no f11 rfl (wanted_un rfl f10 rfl (get_hit (t := 91) rfl (hlt 91 (by decide)))) ?_
  refine rgn_no f12 rfl (wanted_un rfl f10 rfl (get_hit (t := 91) rfl (hlt 91 (by decide)))) ?_
  refine rgn_no f13 rfl (wanted_un rfl f10 rfl (get_hit (t := 91) rfl (hlt 91 (by decide)))) ?_
  refine rgn_no f14 rfl (wanted_un rfl f10 rfl (get_hit (t := 91) rfl (hlt 91 (by decide)))) ?_
  refine rgn_no f15 rfl (wanted_un rfl f10 rfl (get_hit (t := 91) rfl (hlt 91 (by decide)))) ?_
  refine rgn_no f16 rfl (wanted_no rfl f6 rfl (get_hit (t := 87) rfl (hlt 87 (by decide)))) ?_
  refine rgn_no f17 rfl (wanted_no rfl f6 rfl (get_hit (t := 87) rfl (hlt 87 (by decide)))) ?_
  refine rgn_no f18 rfl (wanted_un rfl f17 rfl (get_hit (t := 98) rfl (hlt 98 (by decide)))) ?_
  refine rgn_no f19 rfl (wanted_un rfl f17 rfl (get_hit (t := 98) rfl (hlt 98 (by decide)))) ?_
  refine rgn_no f21 rfl (wanted_un rfl f17 rfl (get_hit (t := 98) rfl (hlt 98 (by decide)))) ?_
  refine rgn_dn_no f20 rfl (wanted_un rfl f17 rfl (get_hit (t := 98) rfl (hlt 98 (by decide)))) hC ?_
  refine rgn_no f22 rfl (wanted_un rfl f17 rfl (get_hit (t := 98) rfl (hlt 98 (by decide)))) ?_
  refine rgn_no f23 rfl (wanted_no rfl f6 rfl (get_hit (t := 87) rfl (hlt 87 (by decide)))) ?_
  refine rgn_no f24 rfl (wanted_no rfl f6 rfl (get_hit (t := 87) rfl (hlt 87 (by decide)))) ?_
  refine rgn_no f25 rfl (wanted_un rfl f24 rfl (get_hit (t := 105) rfl (hlt 105 (by decide)))) ?_
  refine rgn_no f26 rfl (wanted_un rfl f24 rfl (get_hit (t := 105) rfl (hlt 105 (by decide)))) ?_
  refine rgn_no f28 rfl (wanted_un rfl f24 rfl (get_hit (t := 105) rfl (hlt 105 (by decide)))) ?_
  refine rgn_dn_no f27 rfl (wanted_un rfl f24 rfl (get_hit (t := 105) rfl (hlt 105 (by decide)))) hC ?_
  refine rgn_no f29 rfl (wanted_un rfl f24 rfl (get_hit (t := 105) rfl (hlt 105 (by decide)))) ?_
  refine rgn_no f30 rfl (wanted_no rfl f6 rfl (get_hit (t := 87) rfl (hlt 87 (by decide)))) ?_
  refine rgn_rd1 (.bool false) f31 rfl (w_none rfl) (get_hit (t := 87) rfl (hlt 87 (by decide))) (fun ρ e0 ⟨c1, c2⟩ w hw => by go_simp) ?_
  refine rgn_rd1 (.bool false) f32 rfl (w_none rfl) (get_hit (t := 112) rfl (hlt 112 (by decide))) (fun ρ e0 ⟨c1, c2⟩ w hw => by go_simp) ?_
  refine rgn_rd1 (.pointer (some ⟨p, 0, none⟩)) f33 rfl (wanted_yes rfl f32 rfl (get_hit (t := 113) rfl (hlt 113 (by decide)))) (get_old (t := 7) rfl hA7) (fun ρ e0 ⟨c1, c2⟩ w hw => by go_simp) ?_
  refine rgn_rd1 (.slice (some ⟨pg, po, none⟩) (nq + 1) pc) f36 rfl (wanted_yes rfl f32 rfl (get_hit (t := 113) rfl (hlt 113 (by decide)))) (get_old (t := 11) rfl hA11) (fun ρ e0 ⟨c1, c2⟩ w hw => by go_simp) ?_
  refine rgn_rd1 (.int .i64 ((nq + 1 : Nat) : Int)) f37 rfl (wanted_yes rfl f32 rfl (get_hit (t := 113) rfl (hlt 113 (by decide)))) (get_hit (t := 117) rfl (hlt 117 (by decide))) (fun ρ e0 ⟨c1, c2⟩ w hw => by go_simp) ?_
  refine rgn_call [(114, .pointer (some ⟨p, 0, none⟩))] f34 rfl (wanted_yes rfl f32 rfl (get_hit (t := 113) rfl (hlt 113 (by decide)))) (forall_cons (get_hit (t := 114) rfl (hlt 114 (by decide))) <| forall_nil) (fun ρ e ⟨c1, c2⟩ => by simp only [List.forall_mem_cons] at e; go_simp) (H82.out _ hC) ?_
  rintro e wd ⟨ay, cy, rfl, n1⟩
  replace hC := hC.trans n1
  clear n1
  refine ⟨_, rfl, hC, ?_⟩
  refine rgn_rd1 (.int .i64 N) f35 rfl (wanted_yes rfl f32 rfl (get_hit (t := 113) rfl (hlt 113 (by decide)))) (get_hit (t := 115) rfl (hlt 115 (by decide))) (fun ρ e0 ⟨c1, c2⟩ w hw => by go_simp) ?_
  refine rgn_rd2 (.bool true) f38 rfl (wanted_yes rfl f32 rfl (get_hit (t := 113) rfl (hlt 113 (by decide)))) (get_hit (t := 116) rfl (hlt 116 (by decide))) (get_hit (t := 118) rfl (hlt 118 (by decide))) (fun ρ e0 e1 ⟨c1, c2⟩ w hw => by (first | (go_simp; done) | (go_simp; omega))) ?_
  refine rgn_rd1 (.bool true) f39 rfl (wanted_yes rfl f32 rfl (get_hit (t := 113) rfl (hlt 113 (by decide)))) (get_hit (t := 119) rfl (hlt 119 (by decide))) (fun ρ e0 ⟨c1, c2⟩ w hw => by go_simp) ?_
  refine rgn_rd1 (.int .i64 bl) f40 rfl (wanted_yes rfl f39 rfl (get_hit (t := 120) rfl (hlt 120 (by decide)))) (get_old (t := 13) rfl hA13) (fun ρ e0 ⟨c1, c2⟩ w hw => by go_simp) ?_
  refine rgn_rd1 (.int .i64 sz) f41 rfl (wanted_yes rfl f39 rfl (get_hit (t := 120) rfl (hlt 120 (by decide)))) (get_old (t := 1) rfl hA1) (fun ρ e0 ⟨c1, c2⟩ w hw => by go_simp) ?_
  refine rgn_rd2 (.bool false) f42 rfl (wanted_yes rfl f39 rfl (get_hit (t := 120) rfl (hlt 120 (by decide)))) (get_hit (t := 121) rfl (hlt 121 (by decide))) (get_hit (t := 122) rfl (hlt 122 (by decide))) (fun ρ e0 e1 ⟨c1, c2⟩ w hw => by (first | (go_simp; done) | (go_simp; omega))) ?_
  refine rgn_rd1 (.bool false) f43 rfl (wanted_yes rfl f39 rfl (get_hit (t := 120) rfl (hlt 120 (by decide)))) (get_hit (t := 123) rfl (hlt 123 (by decide))) (fun ρ e0 ⟨c1, c2⟩ w hw => by go_simp) ?_
  refine rgn_no f44 rfl (wanted_no rfl f43 rfl (get_hit (t := 124) rfl (hlt 124 (by decide)))) ?_
  refine rgn_no f46 rfl (wanted_no rfl f43 rfl (get_hit (t := 124) rfl (hlt 124 (by decide)))) ?_
  refine rgn_no f47 rfl (wanted_no rfl f43 rfl (get_hit (t := 124) rfl (hlt 124 (by decide)))) ?_
  refine rgn_no f48 rfl (wanted_no rfl f43 rfl (get_hit (t := 124) rfl (hlt 124 (by decide)))) ?_
  refine rgn_no f49 rfl (wanted_no rfl f43 rfl (get_hit (t := 124) rfl (hlt 124 (by decide)))) ?_
  refine rgn_no f50 rfl (wanted_no rfl f43 rfl (get_hit (t := 124) rfl (hlt 124 (by decide)))) ?_
  refine rgn_no f52 rfl (wanted_no rfl f43 rfl (get_hit (t := 124) rfl (hlt 124 (by decide)))) ?_
  refine rgn_no f53 rfl (wanted_no rfl f43 rfl (get_hit (t := 124) rfl (hlt 124 (by decide)))) ?_
  refine rgn_no f54 rfl (wanted_no rfl f43 rfl (get_hit (t := 124) rfl (hlt 124 (by decide)))) ?_
  refine rgn_no f55 rfl (wanted_no rfl f43 rfl (get_hit (t := 124) rfl (hlt 124 (by decide)))) ?_
  refine rgn_no f56 rfl (wanted_no rfl f43 rfl (get_hit (t := 124) rfl (hlt 124 (by decide)))) ?_
  refine rgn_no f57 rfl (wanted_no rfl f43 rfl (get_hit (t := 124) rfl (hlt 124 (by decide)))) ?_
  refine rgn_no f58 rfl (wanted_no rfl f43 rfl (get_hit (t := 124) rfl (hlt 124 (by decide)))) ?_
  refine rgn_dn_no f45 rfl (wanted_no rfl f43 rfl (get_hit (t := 124) rfl (hlt 124 (by decide)))) hC ?_
  refine rgn_no f51 rfl (wanted_no rfl f43 rfl (get_hit (t := 124) rfl (hlt 124 (by decide)))) ?_
  refine rgn_no f59 rfl (wanted_no rfl f43 rfl (get_hit (t := 124) rfl (hlt 124 (by decide)))) ?_
  refine rgn_rd1 (.bool false) f60 rfl (wanted_yes rfl f39 rfl (get_hit (t := 120) rfl (hlt 120 (by decide)))) (get_hit (t := 124) rfl (hlt 124 (by decide))) (fun ρ e0 ⟨c1, c2⟩ w hw => by go_simp) ?_
  refine rgn_rd1 (.bool false) f61 rfl (wanted_yes rfl f39 rfl (get_hit (t := 120) rfl (hlt 120 (by decide)))) (get_hit (t := 141) rfl (hlt 141 (by decide))) (fun ρ e0 ⟨c1, c2⟩ w hw => by go_simp) ?_
  refine rgn_rd1 (.pointer (some ⟨b, 0, none⟩)) f62 rfl (wanted_yes rfl f61 rfl (get_hit (t := 142) rfl (hlt 142 (by decide)))) (get_old (t := 5) rfl hA5) (fun ρ e0 ⟨c1, c2⟩ w hw => by go_simp) ?_
  refine rgn_rd1 (.string ⟨nm.toArray⟩) f63 rfl (wanted_yes rfl f61 rfl (get_hit (t := 142) rfl (hlt 142 (by decide)))) (get_old (t := 12) rfl hA12) (fun ρ e0 ⟨c1, c2⟩ w hw => by go_simp) ?_
  refine rgn_rd1 (.int .i64 bl) f65 rfl (wanted_yes rfl f61 rfl (get_hit (t := 142) rfl (hlt 142 (by decide)))) (get_old (t := 13) rfl hA13) (fun ρ e0 ⟨c1, c2⟩ w hw => by go_simp) ?_
  refine rgn_call [(143, .pointer (some ⟨b, 0, none⟩)), (144, .string ⟨nm.toArray⟩)] f64 rfl (wanted_yes rfl f61 rfl (get_hit (t := 142) rfl (hlt 142 (by decide)))) (forall_cons (get_hit (t := 143) rfl (hlt 143 (by decide))) <| forall_cons (get_hit (t := 144) rfl (hlt 144 (by decide))) <| forall_nil) (fun ρ e ⟨c1, c2⟩ => by simp only [List.forall_mem_cons] at e; go_simp) (H101.out _ hC) ?_
  rintro e wf ⟨rfl, n1⟩
  replace hC := hC.trans n1
  clear n1
  refine ⟨_, rfl, hC, ?_⟩
  refine rgn_rd2 (.bool false) f66 rfl (wanted_yes rfl f61 rfl (get_hit (t := 142) rfl (hlt 142 (by decide)))) (get_hit (t := 145) rfl (hlt 145 (by decide))) (get_hit (t := 146) rfl (hlt 146 (by decide))) (fun ρ e0 e1 ⟨c1, c2⟩ w hw => by (first | (go_simp; done) | (go_simp; omega))) ?_
  refine rgn_rd2 (.bool false) f67 rfl (wanted_yes rfl f39 rfl (get_hit (t := 120) rfl (hlt 120 (by decide)))) (get_hit (t := 142) rfl (hlt 142 (by decide))) (get_hit (t := 147) rfl (hlt 147 (by decide))) (fun ρ e0 e1 ⟨c1, c2⟩ w hw => by go_simp) ?_
  refine rgn_rd2 (.bool false) f68 rfl (wanted_yes rfl f32 rfl (get_hit (t := 113) rfl (hlt 113 (by decide)))) (get_hit (t := 120) rfl (hlt 120 (by decide))) (get_hit (t := 148) rfl (hlt 148 (by decide))) (fun ρ e0 e1 ⟨c1, c2⟩ w hw => by go_simp) ?_
  refine rgn_end (.bool false) [(113, .bool false), (149, .bool false)] f69 rfl (w_none rfl) (by decide) (forall_cons (get_hit (t := 113) rfl (hlt 113 (by decide))) <| forall_cons (get_hit (t := 149) rfl (hlt 149 (by decide))) <| forall_nil) (fun ρ e ⟨c1, c2⟩ => by simp only [List.forall_mem_cons] at e; go_simp) ?_
  exact cast_frame (by rw [HA.out]; kernel_rfl) (HQ.out (.pointer (some ⟨p, 0, none⟩)) (.slice ax N cx) (.int .i64 N) (.slice (some ⟨pg, po, none⟩) (nq + 1) pc) (.int .i64 ((nq + 1 : Nat) : Int)) (.bool false) (.bool false) (undef) (undef) (undef) (undef) (undef) (undef) (undef) (undef) (undef) (undef) (undef) (undef) (undef) (undef) (undef) (undef) (undef) (undef) (undef) (undef) (undef) (undef) (undef) (undef) (.bool false) (.bool false) (.pointer (some ⟨p, 0, none⟩)) (.slice ay N cy) (.int .i64 N) (.slice (some ⟨pg, po, none⟩) (nq + 1) pc) (.int .i64 ((nq + 1 : Nat) : Int)) (.bool true) (.bool true) (.int .i64 bl) (.int .i64 sz) (.bool false) (.bool false) (undef) (undef) (undef) (undef) (undef) (undef) (undef) (undef) (undef) (undef) (undef) (undef) (undef) (undef) (undef) (undef) (.bool false) (.bool false) (.pointer (some ⟨b, 0, none⟩)) (.string ⟨nm.toArray⟩) (.int .i64 s) (.int .i64 bl) (.bool false) (.bool false) (.bool false) _ hC)

theorem r18_full {w6 : World} {b p g o nf c0 pg po nq pc k bl a n ec s N ln y : Nat} {ea : Option Addr} {sz fi : Int} {nm : Str}
    (H82 : Hid (∀ w1, Nw w6 w1 → Calls Tryz.prog 20 #[.pointer (some ⟨p, 0, none⟩)] w1 fun e w' => ∃ ax cx, e = .returned (.slice ax N cx) ∧ Nw w1 w'))
    (H101 : Hid (∀ w1, Nw w6 w1 → Calls Tryz.prog 22 #[.pointer (some ⟨b, 0, none⟩), .string ⟨nm.toArray⟩] w1 fun e w' => e = .returned (.int .i64 s) ∧ Nw w1 w'))
    (H108 : Hid (∀ w1, Nw w6 w1 → Calls Tryz.prog 23 #[.pointer (some ⟨b, 0, none⟩), .string ⟨nm.toArray⟩] w1 fun e w' => e = .returned (.int .i64 y) ∧ Nw w1 w'))
    (H126 : Hid (∀ w1, Nw w6 w1 → Calls Tryz.prog 19 #[.pointer (some ⟨p, 0, none⟩)] w1 fun e w' => e = .returned (.int .i64 ln) ∧ w1 = w'))
    (HCg : Hid (w6.cell? ⟨g, o + k, none⟩ = some (.slice ea n ec))) (HCp : Hid (w6.cell? ⟨pg, po + nq * 4 + 1, none⟩ = some (.int .i64 fi)))
    {u2 u3 u4 u6 u8 u14 u15 u16 u17 u18 u19 u20 u21 u22 u23 u24 u25 u26 u27 u28 u29 u30 u31 u32 u33 u34 u35 u36 u37 u38 u39 u40 u41 u42 u43 u44 u45 u46 u47 u48 u49 u50 u51 u52 u53 u54 u55 u56 u57 u58 u59 u60 u61 u62 u63 u64 u65 u66 u67 u68 u69 u70 u71 u72 u73 u74 u75 u76 u77 u78 u79 u80 u81 u82 u83 u84 u85 u86 u87 u88 u89 u90 u91 u92 u93 u94 u95 u96 u97 u98 u99 u100 u101 u102 u103 u104 u105 u106 u107 u108 u109 u110 u111 u112 u113 u114 u115 u116 u117 u118 u119 u120 u121 u122 u123 u124 u125 u126 u127 u128 u129 u130 u131 u132 u133 u134 u135 u136 u137 u138 u139 u140 u141 u142 u143 u144 u145 u146 u147 u148 u149 u150 u151 u152 u153 u154 u155 u156 u157 u158 u159 u160 u161 u162 u163 u164 u165 u166 u167 u168 u169 u170 u171 u172 u173 u174 u175 u176 u177 u178 u179 u180 u181 u182 u183 u184 u185 u186 u187 u188 u189 u190 u191 u192 u193 u194 u195 u196 : Value} {Q : Exit → Act → World → Prop} (hP : PanicOk Q)
    (hN : N = nq + 1) (h1 : sz ≤ (bl : Int)) (h2 : bl < s) (h3 : (ln : Int) - n ≤ fi) (hk : k < nf) (hnq : nq ≤ 1000) (hbl : bl ≤ 100000000) (hab : a ≤ bl) (hln : ln ≤ 100000000) (hn : n ≤ 30)
    (hQ : ∀ (s81 s82 s83 s84 s85 s86 s87 s88 s89 s90 s91 s92 s93 s94 s95 s96 s97 s98 s99 s100 s101 s102 s103 s104 s105 s106 s107 s108 s109 s110 s111 s112 s113 s114 s115 s116 s117 s118 s119 s120 s121 s122 s123 s124 s125 s126 s127 s128 s129 s130 s131 s132 s133 s134 s135 s136 s137 s138 s139 s140 s141 s142 s143 s144 s145 s146 s147 s148 s149 : Value) (wx : World), Nw w6 wx → Q .normal ⟨#[.slice (some ⟨g, o, none⟩) nf c0, .int .i64 sz, u2, u3, u4, .pointer (some ⟨b, 0, none⟩), u6, .pointer (some ⟨p, 0, none⟩), u8, .int .i64 a, .int .i64 k, .slice (some ⟨pg, po, none⟩) (nq + 1) pc, .string ⟨nm.toArray⟩, .int .i64 bl, u14, u15, u16, u17, u18, u19, u20, u21, u22, u23, u24, u25, u26, u27, u28, u29, u30, u31, u32, u33, u34, u35, u36, u37, u38, u39, u40, u41, u42, u43, u44, u45, u46, u47, u48, u49, u50, u51, u52, u53, u54, u55, u56, u57, u58, u59, u60, u61, u62, u63, u64, u65, u66, u67, u68, u69, u70, u71, u72, u73, u74, u75, u76, u77, u78, u79, u80, s81, s82, s83, s84, s85, s86, s87, s88, s89, s90, s91, s92, s93, s94, s95, s96, s97, s98, s99, s100, s101, s102, s103, s104, s105, s106, s107, s108, s109, s110, s111, s112, s113, s114, s115, s116, s117, s118, s119, s120, s121, s122, s123, s124, s125, s126, s127, s128, s129, s130, s131, s132, s133, s134, s135, s136, s137, s138, s139, s140, s141, s142, s143, s144, s145, s146, s147, s148, s149, .bool false, u151, u152, u153, u154, u155, u156, u157, u158, u159, u160, u161, u162, u163, u164, u165, u166, u167, u168, u169, u170, u171, u172, u173, u174, u175, u176, u177, u178, u179, u180, u181, u182, u183, u184, u185, u186, u187, u188, u189, u190, u191, u192, u193, u194, u195, u196], []⟩ wx) :
    Code.wp Tryz.prog ((Tryz.f4.body.bind (regionOf 18)).getD .skip) Q ⟨#[.slice (some ⟨g, o, none⟩) nf c0, .int .i64 sz, u2, u3, u4, .pointer (some ⟨b, 0, none⟩), u6, .pointer (some ⟨p, 0, none⟩), u8, .int .i64 a, .int .i64 k, .slice (some ⟨pg, po, none⟩) (nq + 1) pc, .string ⟨nm.toArray⟩, .int .i64 bl, u14, u15, u16, u17, u18, u19, u20, u21, u22, u23, u24, u25, u26, u27, u28, u29, u30, u31, u32, u33, u34, u35, u36, u37, u38, u39, u40, u41, u42, u43, u44, u45, u46, u47, u48, u49, u50, u51, u52, u53, u54, u55, u56, u57, u58, u59, u60, u61, u62, u63, u64, u65, u66, u67, u68, u69, u70, u71, u72, u73, u74, u75, u76, u77, u78, u79, u80, u81, u82, u83, u84, u85, u86, u87, u88, u89, u90, u91, u92, u93, u94, u95, u96, u97, u98, u99, u100, u101, u102, u103, u104, u105, u106, u107, u108, u109, u110, u111, u112, u113, u114, u115, u116, u117, u118, u119, u120, u121, u122, u123, u124, u125, u126, u127, u128, u129, u130, u131, u132, u133, u134, u135, u136, u137, u138, u139, u140, u141, u142, u143, u144, u145, u146, u147, u148, u149, u150, u151, u152, u153, u154, u155, u156, u157, u158, u159, u160, u161, u162, u163, u164, u165, u166, u167, u168, u169, u170, u171, u172, u173, u174, u175, u176, u177, u178, u179, u180, u181, u182, u183, u184, u185, u186, u187, u188, u189, u190, u191, u192, u193, u194, u195, u196], []⟩ w6 := by
  dsimp only at hQ ⊢
  conv => arg 2; whnf
  have HQ := Lib.hid hQ
  clear hQ
  have hk1 : (k : Int) < (nf : Int) := by omega
  have hi2 : Hid (IntKind.i64.wrap (nq : Int) = (nq : Int)) := Lib.hid <| IntWalk.i64_in _ (by omega)
  have hi3 : Hid (IntKind.i64.wrap ((bl : Int) - a) = (bl : Int) - a) := Lib.hid <| IntWalk.i64_in _ (by omega)
  have hi4 : Hid (IntKind.i64.wrap ((ln : Int) - n) = (ln : Int) - n) := Lib.hid <| IntWalk.i64_in _ (by omega)
  refine name_frame fun A hA => ?_
  have hlt : ∀ t, t < 197 → t < A.tmps.size := fun t h => by rw [hA]; exact h
  have hA0 : A.tmps[0]? = some (.slice (some ⟨g, o, none⟩) nf c0) := by rw [hA]; rfl
  have hA1 : A.tmps[1]? = some (.int .i64 sz) := by rw [hA]; rfl
  have hA5 : A.tmps[5]? = some (.pointer (some ⟨b, 0, none⟩)) := by rw [hA]; rfl
  have hA7 : A.tmps[7]? = some (.pointer (some ⟨p, 0, none⟩)) := by rw [hA]; rfl
  have hA9 : A.tmps[9]? = some (.int .i64 a) := by rw [hA]; rfl
  have hA10 : A.tmps[10]? = some (.int .i64 k) := by rw [hA]; rfl
  have hA11 : A.tmps[11]? = some (.slice (some ⟨pg, po, none⟩) (nq + 1) pc) := by rw [hA]; rfl
  have hA12 : A.tmps[12]? = some (.string ⟨nm.toArray⟩) := by rw [hA]; rfl
  have hA13 : A.tmps[13]? = some (.int .i64 bl) := by rw [hA]; rfl
  have HA := Lib.hid hA
  clear hA
  refine rgn_open fun L hL => ?_
  have f0 := at_op (i := 0) hL rfl
  have f1 := at_op (i := 1) hL rfl
  have f2 := at_op (i := 2) hL rfl
  have f3 := at_op (i := 3) hL rfl
  have f4 := at_op (i := 4) hL rfl
  have f5 := at_op (i := 5) hL rfl
  have f6 := at_op (i := 6) hL rfl
  have f7 := at_op (i := 7) hL rfl
  have f8 := at_op (i := 8) hL rfl
  have f9 := at_op (i := 9) hL rfl
  have f10 := at_op (i := 10) hL rfl
  have f11 := at_op (i := 11) hL rfl
  have f12 := at_op (i := 12) hL rfl
  have f13 := at_op (i := 13) hL rfl
  have f14 := at_op (i := 14) hL rfl
  have f15 := at_op (i := 15) hL rfl
  have f16 := at_op (i := 16) hL rfl
  have f17 := at_op (i := 17) hL rfl
  have f18 := at_op (i := 18) hL rfl
  have f19 := at_op (i := 19) hL rfl
  have f20 := at_op (i := 20) hL rfl
  have f21 := at_op (i := 21) hL rfl
  have f22 := at_op (i := 22) hL rfl
  have f23 := at_op (i := 23) hL rfl
  have f24 := at_op (i := 24) hL rfl
  have f25 := at_op (i := 25) hL rfl
  have f26 := at_op (i := 26) hL rfl
  have f27 := at_op (i := 27) hL rfl
  have f28 := at_op (i := 28) hL rfl
  have f29 := at_op (i := 29) hL rfl
  have f30 := at_op (i := 30) hL rfl
  have f31 := at_op (i := 31) hL rfl
  have f32 := at_op (i := 32) hL rfl
  have f33 := at_op (i := 33) hL rfl
  have f34 := at_op (i := 34) hL rfl
  have f35 := at_op (i := 35) hL rfl
  have f36 := at_op (i := 36) hL rfl
  have f37 := at_op (i := 37) hL rfl
  have f38 := at_op (i := 38) hL rfl
  have f39 := at_op (i := 39) hL rfl
  have f40 := at_op (i := 40) hL rfl
  have f41 := at_op (i := 41) hL rfl
  have f42 := at_op (i := 42) hL rfl
  have f43 := at_op (i := 43) hL rfl
  have f44 := at_op (i := 44) hL rfl
  have f45 := at_op (i := 45) hL rfl
  have f46 := at_op (i := 46) hL rfl
  have f47 := at_op (i := 47) hL rfl
  have f48 := at_op (i := 48) hL rfl
  have f49 := at_op (i := 49) hL rfl
  have f50 := at_op (i := 50) hL rfl
  have f51 := at_op (i := 51) hL rfl
  have f52 := at_op (i := 52) hL rfl
  have f53 := at_op (i := 53) hL rfl
  have f54 := at_op (i := 54) hL rfl
  have f55 := at_op (i := 55) hL rfl
  have f56 := at_op (i := 56) hL rfl
  have f57 := at_op (i := 57) hL rfl
  have f58 := at_op (i := 58) hL rfl
  have f59 := at_op (i := 59) hL rfl
  have f60 := at_op (i := 60) hL rfl
  have f61 := at_op (i := 61) hL rfl
  have f62 := at_op (i := 62) hL rfl
  have f63 := at_op (i := 63) hL rfl
  have f64 := at_op (i := 64) hL rfl
  have f65 := at_op (i := 65) hL rfl
  have f66 := at_op (i := 66) hL rfl
  have f67 := at_op (i := 67) hL rfl
  have f68 := at_op (i := 68) hL rfl
  have f69 := at_op (i := 69) hL rfl
  have HL := Lib.hid hL
  refine wp_region_steps 69 (.rd 0 :: .rd 3 :: .rd 4 :: .dn 1 :: .rd 2 :: .rd 5 :: .rd 6 :: .rd 7 :: .rd 8 :: .rd 9 :: .rd 10 :: .rd 11 :: .rd 12 :: .rd 13 :: .rd 14 :: .rd 15 :: .rd 16 :: .rd 17 :: .rd 18 :: .rd 19 :: .rd 21 :: .dn 20 :: .rd 22 :: .rd 23 :: .rd 24 :: .rd 25 :: .rd 26 :: .rd 28 :: .dn 27 :: .rd 29 :: .rd 30 :: .rd 31 :: .rd 32 :: .rd 33 :: .rd 36 :: .rd 37 :: .dn 34 :: .rd 35 :: .rd 38 :: .rd 39 :: .rd 40 :: .rd 41 :: .rd 42 :: .rd 43 :: .rd 44 :: .rd 46 :: .rd 47 :: .rd 48 :: .rd 49 :: .rd 50 :: .rd 52 :: .rd 53 :: .rd 54 :: .rd 55 :: .rd 56 :: .rd 57 :: .rd 58 :: .dn 45 :: .rd 51 :: .rd 59 :: .rd 60 :: .rd 61 :: .rd 62 :: .rd 63 :: .rd 65 :: .dn 64 :: .rd 66 :: .rd 67 :: .rd 68 :: []) [69] (fun x => Nw w6 x) (by kernel_rfl) (by rw [hL]; kernel_rfl) hP (Nw.refl _).drew ?_
  have hC : Nw w6 w6.drew := (Nw.refl _).drew
  clear HL hL
  refine rgn_rd1 (.pointer (some ⟨p, 0, none⟩)) f0 rfl (w_none rfl) (get_old (t := 7) rfl hA7) (fun ρ e0 ⟨c1, c2⟩ w hw => by go_simp) ?_
  refine rgn_rd1 (.slice (some ⟨pg, po, none⟩) (nq + 1) pc) f3 rfl (w_none rfl) (get_old (t := 11) rfl hA11) (fun ρ e0 ⟨c1, c2⟩ w hw => by go_simp) ?_
  refine rgn_rd1 (.int .i64 ((nq + 1 : Nat) : Int)) f4 rfl (w_none rfl) (get_hit (t := 84) rfl (hlt 84 (by decide))) (fun ρ e0 ⟨c1, c2⟩ w hw => by go_simp) ?_
  refine rgn_call [(81, .pointer (some ⟨p, 0, none⟩))] f1 rfl (w_none rfl) (forall_cons (get_hit (t := 81) rfl (hlt 81 (by decide))) <| forall_nil) (fun ρ e ⟨c1, c2⟩ => by simp only [List.forall_mem_cons] at e; go_simp) (H82.out _ hC) ?_
  rintro e wa ⟨ax, cx, rfl, n1⟩
  replace hC := hC.trans n1
  clear n1
  refine ⟨_, rfl, hC, ?_⟩
  refine rgn_rd1 (.int .i64 N) f2 rfl (w_none rfl) (get_hit (t := 82) rfl (hlt 82 (by decide))) (fun ρ e0 ⟨c1, c2⟩ w hw => by go_simp) ?_
  refine rgn_rd2 (.bool false) f5 rfl (w_none rfl) (get_hit (t := 83) rfl (hlt 83 (by decide))) (get_hit (t := 85) rfl (hlt 85 (by decide))) (fun ρ e0 e1 ⟨c1, c2⟩ w hw => by (first | (go_simp; done) | (go_simp; omega))) ?_
  refine rgn_rd1 (.bool false) f6 rfl (w_none rfl) (get_hit (t := 86) rfl (hlt 86 (by decide))) (fun ρ e0 ⟨c1, c2⟩ w hw => by go_simp) ?_
  refine rgn_no f7 rfl (wanted_no rfl f6 rfl (get_hit (t := 87) rfl (hlt 87 (by decide)))) ?_
  refine rgn_no f8 rfl (wanted_no rfl f6 rfl (get_hit (t := 87) rfl (hlt 87 (by decide)))) ?_
  refine rgn_no f9 rfl (wanted_no rfl f6 rfl (get_hit (t := 87) rfl (hlt 87 (by decide)))) ?_
  refine rgn_no f10 rfl (wanted_no rfl f6 rfl (get_hit (t := 87) rfl (hlt 87 (by decide)))) ?_
  refine rgn_no f11 rfl (wanted_un rfl f10 rfl (get_hit (t := 91) rfl (hlt 91 (by decide)))) ?_
  refine rgn_no f12 rfl (wanted_un rfl f10 rfl (get_hit (t := 91) rfl (hlt 91 (by decide)))) ?_
  refine rgn_no f13 rfl (wanted_un rfl f10 rfl (get_hit (t := 91) rfl (hlt 91 (by decide)))) ?_
  refine rgn_no f14 rfl (wanted_un rfl f10 rfl (get_hit (t := 91) rfl (hlt 91 (by decide)))) ?_
  refine rgn_no f15 rfl (wanted_un rfl f10 rfl (get_hit (t := 91) rfl (hlt 91 (by decide)))) ?_
  refine rgn_no f16 rfl (wanted_no rfl f6 rfl (get_hit (t := 87) rfl (hlt 87 (by decide)))) ?_
  refine rgn_no f17 rfl (wanted_no rfl f6 rfl (get_hit (t := 87) rfl (hlt 87 (by decide)))) ?_
  refine rgn_no f18 rfl (wanted_un rfl f17 rfl (get_hit (t := 98) rfl (hlt 98 (by decide)))) ?_
  refine rgn_no f19 rfl (wanted_un rfl f17 rfl (get_hit (t := 98) rfl (hlt 98 (by decide)))) ?_
  refine rgn_no f21 rfl (wanted_un rfl f17 rfl (get_hit (t := 98) rfl (hlt 98 (by decide)))) ?_
  refine rgn_dn_no f20 rfl (wanted_un rfl f17 rfl (get_hit (t := 98) rfl (hlt 98 (by decide)))) hC ?_
  refine rgn_no f22 rfl (wanted_un rfl f17 rfl (get_hit (t := 98) rfl (hlt 98 (by decide)))) ?_
  refine rgn_no f23 rfl (wanted_no rfl f6 rfl (get_hit (t := 87) rfl (hlt 87 (by decide)))) ?_
  refine rgn_no f24 rfl (wanted_no rfl f6 rfl (get_hit (t := 87) rfl (hlt 87 (by decide)))) ?_
  refine rgn_no f25 rfl (wanted_un rfl f24 rfl (get_hit (t := 105) rfl (hlt 105 (by decide)))) ?_
  refine rgn_no f26 rfl (wanted_un rfl f24 rfl (get_hit (t := 105) rfl (hlt 105 (by decide)))) ?_
  refine rgn_no f28 rfl (wanted_un rfl f24 rfl (get_hit (t := 105) rfl (hlt 105 (by decide)))) ?_
  refine rgn_dn_no f27 rfl (wanted_un rfl f24 rfl (get_hit (t := 105) rfl (hlt 105 (by decide)))) hC ?_
  refine rgn_no f29 rfl (wanted_un rfl f24 rfl (get_hit (t := 105) rfl (hlt 105 (by decide)))) ?_
  refine rgn_no f30 rfl (wanted_no rfl f6 rfl (get_hit (t := 87) rfl (hlt 87 (by decide)))) ?_
  refine rgn_rd1 (.bool false) f31 rfl (w_none rfl) (get_hit (t := 87) rfl (hlt 87 (by decide))) (fun ρ e0 ⟨c1, c2⟩ w hw => by go_simp) ?_
  refine rgn_rd1 (.bool false) f32 rfl (w_none rfl) (get_hit (t := 112) rfl (hlt 112 (by decide))) (fun ρ e0 ⟨c1, c2⟩ w hw => by go_simp) ?_
  refine rgn_rd1 (.pointer (some ⟨p, 0, none⟩)) f33 rfl (wanted_yes rfl f32 rfl (get_hit (t := 113) rfl (hlt 113 (by decide)))) (get_old (t := 7) rfl hA7) (fun ρ e0 ⟨c1, c2⟩ w hw => by go_simp) ?_
  refine rgn_rd1 (.slice (some ⟨pg, po, none⟩) (nq + 1) pc) f36 rfl (wanted_yes rfl f32 rfl (get_hit (t := 113) rfl (hlt 113 (by decide)))) (get_old (t := 11) rfl hA11) (fun ρ e0 ⟨c1, c2⟩ w hw => by go_simp) ?_
  refine rgn_rd1 (.int .i64 ((nq + 1 : Nat) : Int)) f37 rfl (wanted_yes rfl f32 rfl (get_hit (t := 113) rfl (hlt 113 (by decide)))) (get_hit (t := 117) rfl (hlt 117 (by decide))) (fun ρ e0 ⟨c1, c2⟩ w hw => by go_simp) ?_
  refine rgn_call [(114, .pointer (some ⟨p, 0, none⟩))] f34 rfl (wanted_yes rfl f32 rfl (get_hit (t := 113) rfl (hlt 113 (by decide)))) (forall_cons (get_hit (t := 114) rfl (hlt 114 (by decide))) <| forall_nil) (fun ρ e ⟨c1, c2⟩ => by simp only [List.forall_mem_cons] at e; go_simp) (H82.out _ hC) ?_
  rintro e wd ⟨ay, cy, rfl, n1⟩
  replace hC := hC.trans n1
  clear n1
  refine ⟨_, rfl, hC, ?_⟩
  refine rgn_rd1 (.int .i64 N) f35 rfl (wanted_yes rfl f32 rfl (get_hit (t := 113) rfl (hlt 113 (by decide)))) (get_hit (t := 115) rfl (hlt 115 (by decide))) (fun ρ e0 ⟨c1, c2⟩ w hw => by go_simp) ?_
  refine rgn_rd2 (.bool true) f38 rfl (wanted_yes rfl f32 rfl (get_hit (t := 113) rfl (hlt 113 (by decide)))) (get_hit (t := 116) rfl (hlt 116 (by decide))) (get_hit (t := 118) rfl (hlt 118 (by decide))) (fun ρ e0 e1 ⟨c1, c2⟩ w hw => by (first | (go_simp; done) | (go_simp; omega))) ?_
  refine rgn_rd1 (.bool true) f39 rfl (wanted_yes rfl f32 rfl (get_hit (t := 113) rfl (hlt 113 (by decide)))) (get_hit (t := 119) rfl (hlt 119 (by decide))) (fun ρ e0 ⟨c1, c2⟩ w hw => by go_simp) ?_
  refine rgn_rd1 (.int .i64 bl) f40 rfl (wanted_yes rfl f39 rfl (get_hit (t := 120) rfl (hlt 120 (by decide)))) (get_old (t := 13) rfl hA13) (fun ρ e0 ⟨c1, c2⟩ w hw => by go_simp) ?_
  refine rgn_rd1 (.int .i64 sz) f41 rfl (wanted_yes rfl f39 rfl (get_hit (t := 120) rfl (hlt 120 (by decide)))) (get_old (t := 1) rfl hA1) (fun ρ e0 ⟨c1, c2⟩ w hw => by go_simp) ?_
  refine rgn_rd2 (.bool true) f42 rfl (wanted_yes rfl f39 rfl (get_hit (t := 120) rfl (hlt 120 (by decide)))) (get_hit (t := 121) rfl (hlt 121 (by decide))) (get_hit (t := 122) rfl (hlt 122 (by decide))) (fun ρ e0 e1 ⟨c1, c2⟩ w hw => by (first | (go_simp; done) | (go_simp; omega))) ?_
  refine rgn_rd1 (.bool true) f43 rfl (wanted_yes rfl f39 rfl (get_hit (t := 120) rfl (hlt 120 (by decide)))) (get_hit (t := 123) rfl (hlt 123 (by decide))) (fun ρ e0 ⟨c1, c2⟩ w hw => by go_simp) ?_
  refine rgn_rd1 (.pointer (some ⟨p, 0, none⟩)) f44 rfl (wanted_yes rfl f43 rfl (get_hit (t := 124) rfl (hlt 124 (by decide)))) (get_old (t := 7) rfl hA7) (fun ρ e0 ⟨c1, c2⟩ w hw => by go_simp) ?_
  refine rgn_rd1 (.slice (some ⟨g, o, none⟩) nf c0) f46 rfl (wanted_yes rfl f43 rfl (get_hit (t := 124) rfl (hlt 124 (by decide)))) (get_old (t := 0) rfl hA0) (fun ρ e0 ⟨c1, c2⟩ w hw => by go_simp) ?_
  refine rgn_rd1 (.int .i64 k) f47 rfl (wanted_yes rfl f43 rfl (get_hit (t := 124) rfl (hlt 124 (by decide)))) (get_old (t := 10) rfl hA10) (fun ρ e0 ⟨c1, c2⟩ w hw => by go_simp) ?_
  refine rgn_rd2 (.pointer (some ⟨g, o + k, none⟩)) f48 rfl (wanted_yes rfl f43 rfl (get_hit (t := 124) rfl (hlt 124 (by decide)))) (get_hit (t := 127) rfl (hlt 127 (by decide))) (get_hit (t := 128) rfl (hlt 128 (by decide))) (fun ρ e0 e1 ⟨c1, c2⟩ w hw => by go_simp) ?_
  refine rgn_rd1 (.slice ea n ec) f49 rfl (wanted_yes rfl f43 rfl (get_hit (t := 124) rfl (hlt 124 (by decide)))) (get_hit (t := 129) rfl (hlt 129 (by decide))) (fun ρ e0 ⟨c1, c2⟩ w hw => by have hc := Nw.cell hw HCg.out; go_simp) ?_
  refine rgn_rd1 (.int .i64 n) f50 rfl (wanted_yes rfl f43 rfl (get_hit (t := 124) rfl (hlt 124 (by decide)))) (get_hit (t := 130) rfl (hlt 130 (by decide))) (fun ρ e0 ⟨c1, c2⟩ w hw => by go_simp) ?_
  refine rgn_rd1 (.slice (some ⟨pg, po, none⟩) (nq + 1) pc) f52 rfl (wanted_yes rfl f43 rfl (get_hit (t := 124) rfl (hlt 124 (by decide)))) (get_old (t := 11) rfl hA11) (fun ρ e0 ⟨c1, c2⟩ w hw => by go_simp) ?_
  refine rgn_rd1 (.slice (some ⟨pg, po, none⟩) (nq + 1) pc) f53 rfl (wanted_yes rfl f43 rfl (get_hit (t := 124) rfl (hlt 124 (by decide)))) (get_old (t := 11) rfl hA11) (fun ρ e0 ⟨c1, c2⟩ w hw => by go_simp) ?_
  refine rgn_rd1 (.int .i64 ((nq + 1 : Nat) : Int)) f54 rfl (wanted_yes rfl f43 rfl (get_hit (t := 124) rfl (hlt 124 (by decide)))) (get_hit (t := 134) rfl (hlt 134 (by decide))) (fun ρ e0 ⟨c1, c2⟩ w hw => by go_simp) ?_
  refine rgn_rd1 (.int .i64 nq) f55 rfl (wanted_yes rfl f43 rfl (get_hit (t := 124) rfl (hlt 124 (by decide)))) (get_hit (t := 135) rfl (hlt 135 (by decide))) (fun ρ e0 ⟨c1, c2⟩ w hw => by have hi := hi2.out; go_simp) ?_
  refine rgn_rd2 (.pointer (some ⟨pg, po + nq * 4, none⟩)) f56 rfl (wanted_yes rfl f43 rfl (get_hit (t := 124) rfl (hlt 124 (by decide)))) (get_hit (t := 133) rfl (hlt 133 (by decide))) (get_hit (t := 136) rfl (hlt 136 (by decide))) (fun ρ e0 e1 ⟨c1, c2⟩ w hw => by have hq1 : ¬ ((nq : Int) + 1 ≤ (nq : Int)) := (by omega); go_simp) ?_
  refine rgn_rd1 (.pointer (some ⟨pg, po + nq * 4 + 1, none⟩)) f57 rfl (wanted_yes rfl f43 rfl (get_hit (t := 124) rfl (hlt 124 (by decide)))) (get_hit (t := 137) rfl (hlt 137 (by decide))) (fun ρ e0 ⟨c1, c2⟩ w hw => by go_simp) ?_
  refine rgn_rd1 (.int .i64 fi) f58 rfl (wanted_yes rfl f43 rfl (get_hit (t := 124) rfl (hlt 124 (by decide)))) (get_hit (t := 138) rfl (hlt 138 (by decide))) (fun ρ e0 ⟨c1, c2⟩ w hw => by have hc := Nw.cell hw HCp.out; go_simp) ?_
  refine rgn_call [(125, .pointer (some ⟨p, 0, none⟩))] f45 rfl (wanted_yes rfl f43 rfl (get_hit (t := 124) rfl (hlt 124 (by decide)))) (forall_cons (get_hit (t := 125) rfl (hlt 125 (by decide))) <| forall_nil) (fun ρ e ⟨c1, c2⟩ => by simp only [List.forall_mem_cons] at e; go_simp) (H126.out _ hC) ?_
  rintro e we ⟨rfl, rfl⟩
  refine ⟨_, rfl, hC, ?_⟩
  refine rgn_rd2 (.int .i64 ((ln : Int) - n)) f51 rfl (wanted_yes rfl f43 rfl (get_hit (t := 124) rfl (hlt 124 (by decide)))) (get_hit (t := 126) rfl (hlt 126 (by decide))) (get_hit (t := 131) rfl (hlt 131 (by decide))) (fun ρ e0 e1 ⟨c1, c2⟩ w hw => by have hi := hi4.out; go_simp) ?_
  refine rgn_rd2 (.bool false) f59 rfl (wanted_yes rfl f43 rfl (get_hit (t := 124) rfl (hlt 124 (by decide)))) (get_hit (t := 132) rfl (hlt 132 (by decide))) (get_hit (t := 139) rfl (hlt 139 (by decide))) (fun ρ e0 e1 ⟨c1, c2⟩ w hw => by (first | (go_simp; done) | (go_simp; omega))) ?_
  refine rgn_rd2 (.bool false) f60 rfl (wanted_yes rfl f39 rfl (get_hit (t := 120) rfl (hlt 120 (by decide)))) (get_hit (t := 124) rfl (hlt 124 (by decide))) (get_hit (t := 140) rfl (hlt 140 (by decide))) (fun ρ e0 e1 ⟨c1, c2⟩ w hw => by go_simp) ?_
  refine rgn_rd1 (.bool false) f61 rfl (wanted_yes rfl f39 rfl (get_hit (t := 120) rfl (hlt 120 (by decide)))) (get_hit (t := 141) rfl (hlt 141 (by decide))) (fun ρ e0 ⟨c1, c2⟩ w hw => by go_simp) ?_
  refine rgn_rd1 (.pointer (some ⟨b, 0, none⟩)) f62 rfl (wanted_yes rfl f61 rfl (get_hit (t := 142) rfl (hlt 142 (by decide)))) (get_old (t := 5) rfl hA5) (fun ρ e0 ⟨c1, c2⟩ w hw => by go_simp) ?_
  refine rgn_rd1 (.string ⟨nm.toArray⟩) f63 rfl (wanted_yes rfl f61 rfl (get_hit (t := 142) rfl (hlt 142 (by decide)))) (get_old (t := 12) rfl hA12) (fun ρ e0 ⟨c1, c2⟩ w hw => by go_simp) ?_
  refine rgn_rd1 (.int .i64 bl) f65 rfl (wanted_yes rfl f61 rfl (get_hit (t := 142) rfl (hlt 142 (by decide)))) (get_old (t := 13) rfl hA13) (fun ρ e0 ⟨c1, c2⟩ w hw => by go_simp) ?_
  refine rgn_call [(143, .pointer (some ⟨b, 0, none⟩)), (144, .string ⟨nm.toArray⟩)] f64 rfl (wanted_yes rfl f61 rfl (get_hit (t := 142) rfl (hlt 142 (by decide)))) (forall_cons (get_hit (t := 143) rfl (hlt 143 (by decide))) <| forall_cons (get_hit (t := 144) rfl (hlt 144 (by decide))) <| forall_nil) (fun ρ e ⟨c1, c2⟩ => by simp only [List.forall_mem_cons] at e; go_simp) (H101.out _ hC) ?_
  rintro e wf ⟨rfl, n1⟩
  replace hC := hC.trans n1
  clear n1
  refine ⟨_, rfl, hC, ?_⟩
  refine rgn_rd2 (.bool false) f66 rfl (wanted_yes rfl f61 rfl (get_hit (t := 142) rfl (hlt 142 (by decide)))) (get_hit (t := 145) rfl (hlt 145 (by decide))) (get_hit (t := 146) rfl (hlt 146 (by decide))) (fun ρ e0 e1 ⟨c1, c2⟩ w hw => by (first | (go_simp; done) | (go_simp; omega))) ?_
  refine rgn_rd2 (.bool false) f67 rfl (wanted_yes rfl f39 rfl (get_hit (t := 120) rfl (hlt 120 (by decide)))) (get_hit (t := 142) rfl (hlt 142 (by decide))) (get_hit (t := 147) rfl (hlt 147 (by decide))) (fun ρ e0 e1 ⟨c1, c2⟩ w hw => by go_simp) ?_
  refine rgn_rd2 (.bool false) f68 rfl (wanted_yes rfl f32 rfl (get_hit (t := 113) rfl (hlt 113 (by decide)))) (get_hit (t := 120) rfl (hlt 120 (by decide))) (get_hit (t := 148) rfl (hlt 148 (by decide))) (fun ρ e0 e1 ⟨c1, c2⟩ w hw => by go_simp) ?_
  refine rgn_end (.bool false) [(113, .bool false), (149, .bool false)] f69 rfl (w_none rfl) (by decide) (forall_cons (get_hit (t := 113) rfl (hlt 113 (by decide))) <| forall_cons (get_hit (t := 149) rfl (hlt 149 (by decide))) <| forall_nil) (fun ρ e ⟨c1, c2⟩ => by simp only [List.forall_mem_cons] at e; go_simp) ?_
  exact cast_frame (by rw [HA.out]; kernel_rfl) (HQ.out (.pointer (some ⟨p, 0, none⟩)) (.slice ax N cx) (.int .i64 N) (.slice (some ⟨pg, po, none⟩) (nq + 1) pc) (.int .i64 ((nq + 1 : Nat) : Int)) (.bool false) (.bool false) (undef) (undef) (undef) (undef) (undef) (undef) (undef) (undef) (undef) (undef) (undef) (undef) (undef) (undef) (undef) (undef) (undef) (undef) (undef) (undef) (undef) (undef) (undef) (undef) (.bool false) (.bool false) (.pointer (some ⟨p, 0, none⟩)) (.slice ay N cy) (.int .i64 N) (.slice (some ⟨pg, po, none⟩) (nq + 1) pc) (.int .i64 ((nq + 1 : Nat) : Int)) (.bool true) (.bool true) (.int .i64 bl) (.int .i64 sz) (.bool true) (.bool true) (.pointer (some ⟨p, 0, none⟩)) (.int .i64 ln) (.slice (some ⟨g, o, none⟩) nf c0) (.int .i64 k) (.pointer (some ⟨g, o + k, none⟩)) (.slice ea n ec) (.int .i64 n) (.int .i64 ((ln : Int) - n)) (.slice (some ⟨pg, po, none⟩) (nq + 1) pc) (.slice (some ⟨pg, po, none⟩) (nq + 1) pc) (.int .i64 ((nq + 1 : Nat) : Int)) (.int .i64 nq) (.pointer (some ⟨pg, po + nq * 4, none⟩)) (.pointer (some ⟨pg, po + nq * 4 + 1, none⟩)) (.int .i64 fi) (.bool false) (.bool false) (.bool false) (.pointer (some ⟨b, 0, none⟩)) (.string ⟨nm.toArray⟩) (.int .i64 s) (.int .i64 bl) (.bool false) (.bool false) (.bool false) _ hC)

theorem r18_more {w6 : World} {b p g o nf c0 pg po nq pc k bl a n ec s N ln y : Nat} {ea : Option Addr} {sz fi : Int} {nm : Str}
    (H82 : Hid (∀ w1, Nw w6 w1 → Calls Tryz.prog 20 #[.pointer (some ⟨p, 0, none⟩)] w1 fun e w' => ∃ ax cx, e = .returned (.slice ax N cx) ∧ Nw w1 w'))
    (H101 : Hid (∀ w1, Nw w6 w1 → Calls Tryz.prog 22 #[.pointer (some ⟨b, 0, none⟩), .string ⟨nm.toArray⟩] w1 fun e w' => e = .returned (.int .i64 s) ∧ Nw w1 w'))
    (H108 : Hid (∀ w1, Nw w6 w1 → Calls Tryz.prog 23 #[.pointer (some ⟨b, 0, none⟩), .string ⟨nm.toArray⟩] w1 fun e w' => e = .returned (.int .i64 y) ∧ Nw w1 w'))
    (H126 : Hid (∀ w1, Nw w6 w1 → Calls Tryz.prog 19 #[.pointer (some ⟨p, 0, none⟩)] w1 fun e w' => e = .returned (.int .i64 ln) ∧ w1 = w'))
    (HCg : Hid (w6.cell? ⟨g, o + k, none⟩ = some (.slice ea n ec))) (HCp : Hid (w6.cell? ⟨pg, po + nq * 4 + 1, none⟩ = some (.int .i64 fi)))
    {u2 u3 u4 u6 u8 u14 u15 u16 u17 u18 u19 u20 u21 u22 u23 u24 u25 u26 u27 u28 u29 u30 u31 u32 u33 u34 u35 u36 u37 u38 u39 u40 u41 u42 u43 u44 u45 u46 u47 u48 u49 u50 u51 u52 u53 u54 u55 u56 u57 u58 u59 u60 u61 u62 u63 u64 u65 u66 u67 u68 u69 u70 u71 u72 u73 u74 u75 u76 u77 u78 u79 u80 u81 u82 u83 u84 u85 u86 u87 u88 u89 u90 u91 u92 u93 u94 u95 u96 u97 u98 u99 u100 u101 u102 u103 u104 u105 u106 u107 u108 u109 u110 u111 u112 u113 u114 u115 u116 u117 u118 u119 u120 u121 u122 u123 u124 u125 u126 u127 u128 u129 u130 u131 u132 u133 u134 u135 u136 u137 u138 u139 u140 u141 u142 u143 u144 u145 u146 u147 u148 u149 u150 u151 u152 u153 u154 u155 u156 u157 u158 u159 u160 u161 u162 u163 u164 u165 u166 u167 u168 u169 u170 u171 u172 u173 u174 u175 u176 u177 u178 u179 u180 u181 u182 u183 u184 u185 u186 u187 u188 u189 u190 u191 u192 u193 u194 u195 u196 : Value} {Q : Exit → Act → World → Prop} (hP : PanicOk Q)
    (hN : N = nq + 2) (h1 : sz ≤ (bl : Int)) (h2 : s = bl) (h3 : (bl : Int) - a < sz) (h4 : y = bl) (hk : k < nf) (hnq : nq ≤ 1000) (hbl : bl ≤ 100000000) (hab : a ≤ bl) (hln : ln ≤ 100000000) (hn : n ≤ 30)
    (hQ : ∀ (s81 s82 s83 s84 s85 s86 s87 s88 s89 s90 s91 s92 s93 s94 s95 s96 s97 s98 s99 s100 s101 s102 s103 s104 s105 s106 s107 s108 s109 s110 s111 s112 s113 s114 s115 s116 s117 s118 s119 s120 s121 s122 s123 s124 s125 s126 s127 s128 s129 s130 s131 s132 s133 s134 s135 s136 s137 s138 s139 s140 s141 s142 s143 s144 s145 s146 s147 s148 s149 : Value) (wx : World), Nw w6 wx → Q .normal ⟨#[.slice (some ⟨g, o, none⟩) nf c0, .int .i64 sz, u2, u3, u4, .pointer (some ⟨b, 0, none⟩), u6, .pointer (some ⟨p, 0, none⟩), u8, .int .i64 a, .int .i64 k, .slice (some ⟨pg, po, none⟩) (nq + 1) pc, .string ⟨nm.toArray⟩, .int .i64 bl, u14, u15, u16, u17, u18, u19, u20, u21, u22, u23, u24, u25, u26, u27, u28, u29, u30, u31, u32, u33, u34, u35, u36, u37, u38, u39, u40, u41, u42, u43, u44, u45, u46, u47, u48, u49, u50, u51, u52, u53, u54, u55, u56, u57, u58, u59, u60, u61, u62, u63, u64, u65, u66, u67, u68, u69, u70, u71, u72, u73, u74, u75, u76, u77, u78, u79, u80, s81, s82, s83, s84, s85, s86, s87, s88, s89, s90, s91, s92, s93, s94, s95, s96, s97, s98, s99, s100, s101, s102, s103, s104, s105, s106, s107, s108, s109, s110, s111, s112, s113, s114, s115, s116, s117, s118, s119, s120, s121, s122, s123, s124, s125, s126, s127, s128, s129, s130, s131, s132, s133, s134, s135, s136, s137, s138, s139, s140, s141, s142, s143, s144, s145, s146, s147, s148, s149, .bool false, u151, u152, u153, u154, u155, u156, u157, u158, u159, u160, u161, u162, u163, u164, u165, u166, u167, u168, u169, u170, u171, u172, u173, u174, u175, u176, u177, u178, u179, u180, u181, u182, u183, u184, u185, u186, u187, u188, u189, u190, u191, u192, u193, u194, u195, u196], []⟩ wx) :
    Code.wp Tryz.prog ((Tryz.f4.body.bind (regionOf 18)).getD .skip) Q ⟨#[.slice (some ⟨g, o, none⟩) nf c0, .int .i64 sz, u2, u3, u4, .pointer (some ⟨b, 0, none⟩), u6, .pointer (some ⟨p, 0, none⟩), u8, .int .i64 a, .int .i64 k, .slice (some ⟨pg, po, none⟩) (nq + 1) pc, .string ⟨nm.toArray⟩, .int .i64 bl, u14, u15, u16, u17, u18, u19, u20, u21, u22, u23, u24, u25, u26, u27, u28, u29, u30, u31, u32, u33, u34, u35, u36, u37, u38, u39, u40, u41, u42, u43, u44, u45, u46, u47, u48, u49, u50, u51, u52, u53, u54, u55, u56, u57, u58, u59, u60, u61, u62, u63, u64, u65, u66, u67, u68, u69, u70, u71, u72, u73, u74, u75, u76, u77, u78, u79, u80, u81, u82, u83, u84, u85, u86, u87, u88, u89, u90, u91, u92, u93, u94, u95, u96, u97, u98, u99, u100, u101, u102, u103, u104, u105, u106, u107, u108, u109, u110, u111, u112, u113, u114, u115, u116, u117, u118, u119, u120, u121, u122, u123, u124, u125, u126, u127, u128, u129, u130, u131, u132, u133, u134, u135, u136, u137, u138, u139, u140, u141, u142, u143, u144, u145, u146, u147, u148, u149, u150, u151, u152, u153, u154, u155, u156, u157, u158, u159, u160, u161, u162, u163, u164, u165, u166, u167, u168, u169, u170, u171, u172, u173, u174, u175, u176, u177, u178, u179, u180, u181, u182, u183, u184, u185, u186, u187, u188, u189, u190, u191, u192, u193, u194, u195, u196], []⟩ w6 := by
  dsimp only at hQ ⊢
  conv => arg 2; whnf
  have HQ := Lib.hid hQ
  clear hQ
  have hk1 : (k : Int) < (nf : Int) := by omega
  have hi2 : Hid (IntKind.i64.wrap (nq : Int) = (nq : Int)) := Lib.hid <| IntWalk.i64_in _ (by omega)
  have hi3 : Hid (IntKind.i64.wrap ((bl : Int) - a) = (bl : Int) - a) := Lib.hid <| IntWalk.i64_in _ (by omega)
  have hi4 : Hid (IntKind.i64.wrap ((ln : Int) - n) = (ln : Int) - n) := Lib.hid <| IntWalk.i64_in _ (by omega)
  refine name_frame fun A hA => ?_
  have hlt : ∀ t, t < 197 → t < A.tmps.size := fun t h => by rw [hA]; exact h
  have hA0 : A.tmps[0]? = some (.slice (some ⟨g, o, none⟩) nf c0) := by rw [hA]; rfl
  have hA1 : A.tmps[1]? = some (.int .i64 sz) := by rw [hA]; rfl
  have hA5 : A.tmps[5]? = some (.pointer (some ⟨b, 0, none⟩)) := by rw [hA]; rfl
  have hA7 : A.tmps[7]? = some (.pointer (some ⟨p, 0, none⟩)) := by rw [hA]; rfl
  have hA9 : A.tmps[9]? = some (.int .i64 a) := by rw [hA]; rfl
  have hA10 : A.tmps[10]? = some (.int .i64 k) := by rw [hA]; rfl
  have hA11 : A.tmps[11]? = some (.slice (some ⟨pg, po, none⟩) (nq + 1) pc) := by rw [hA]; rfl
  have hA12 : A.tmps[12]? = some (.string ⟨nm.toArray⟩) := by rw [hA]; rfl
  have hA13 : A.tmps[13]? = some (.int .i64 bl) := by rw [hA]; rfl
  have HA := Lib.hid hA
  clear hA
  refine rgn_open fun L hL => ?_
  have f0 := at_op (i := 0) hL rfl
  have f1 := at_op (i := 1) hL rfl
  have f2 := at_op (i := 2) hL rfl
  have f3 := at_op (i := 3) hL rfl
  have f4 := at_op (i := 4) hL rfl
  have f5 := at_op (i := 5) hL rfl
  have f6 := at_op (i := 6) hL rfl
  have f7 := at_op (i := 7) hL rfl
  have f8 := at_op (i := 8) hL rfl
  have f9 := at_op (i := 9) hL rfl
  have f10 := at_op (i := 10) hL rfl
  have f11 := at_op (i := 11) hL rfl
  have f12 := at_op (i := 12) hL rfl
  have f13 := at_op (i := 13) hL rfl
  have f14 := at_op (i := 14) hL rfl
  have f15 := at_op (i := 15) hL rfl
  have f16 := at_op (i := 16) hL rfl
  have f17 := at_op (i := 17) hL rfl
  have f18 := at_op (i := 18) hL rfl
  have f19 := at_op (i := 19) hL rfl
  have f20 := at_op (i := 20) hL rfl
  have f21 := at_op (i := 21) hL rfl
  have f22 := at_op (i := 22) hL rfl
  have f23 := at_op (i := 23) hL rfl
  have f24 := at_op (i := 24) hL rfl
  have f25 := at_op (i := 25) hL rfl
  have f26 := at_op (i := 26) hL rfl
  have f27 := at_op (i := 27) hL rfl
  have f28 := at_op (i := 28) hL rfl
  have f29 := at_op (i := 29) hL rfl
  have f30 := at_op (i := 30) hL rfl
  have f31 := at_op (i := 31) hL rfl
  have f32 := at_op (i := 32) hL rfl
  have f33 := at_op (i := 33) hL rfl
  have f34 := at_op (i := 34) hL rfl
  have f35 := at_op (i := 35) hL rfl
  have f36 := at_op (i := 36) hL rfl
  have f37 := at_op (i := 37) hL rfl
  have f38 := at_op (i := 38) hL rfl
  have f39 := at_op (i := 39) hL rfl
  have f40 := at_op (i := 40) hL rfl
  have f41 := at_op (i := 41) hL rfl
  have f42 := at_op (i := 42) hL rfl
  have f43 := at_op (i := 43) hL rfl
  have f44 := at_op (i := 44) hL rfl
  have f45 := at_op (i := 45) hL rfl
  have f46 := at_op (i := 46) hL rfl
  have f47 := at_op (i := 47) hL rfl
  have f48 := at_op (i := 48) hL rfl
  have f49 := at_op (i := 49) hL rfl
  have f50 := at_op (i := 50) hL rfl
  have f51 := at_op (i := 51) hL rfl
  have f52 := at_op (i := 52) hL rfl
  have f53 := at_op (i := 53) hL rfl
  have f54 := at_op (i := 54) hL rfl
  have f55 := at_op (i := 55) hL rfl
  have f56 := at_op (i := 56) hL rfl
  have f57 := at_op (i := 57) hL rfl
  have f58 := at_op (i := 58) hL rfl
  have f59 := at_op (i := 59) hL rfl
  have f60 := at_op (i := 60) hL rfl
  have f61 := at_op (i := 61) hL rfl
  have f62 := at_op (i := 62) hL rfl
  have f63 := at_op (i := 63) hL rfl
  have f64 := at_op (i := 64) hL rfl
  have f65 := at_op (i := 65) hL rfl
  have f66 := at_op (i := 66) hL rfl
  have f67 := at_op (i := 67) hL rfl
  have f68 := at_op (i := 68) hL rfl
  have f69 := at_op (i := 69) hL rfl
  have HL := Lib.hid hL
  refine wp_region_steps 69 (.rd 0 :: .rd 3 :: .rd 4 :: .dn 1 :: .rd 2 :: .rd 5 :: .rd 6 :: .rd 7 :: .rd 8 :: .rd 9 :: .rd 10 :: .rd 11 :: .rd 12 :: .rd 13 :: .rd 14 :: .rd 15 :: .rd 16 :: .rd 17 :: .rd 18 :: .rd 19 :: .rd 21 :: .dn 20 :: .rd 22 :: .rd 23 :: .rd 24 :: .rd 25 :: .rd 26 :: .rd 28 :: .dn 27 :: .rd 29 :: .rd 30 :: .rd 31 :: .rd 32 :: .rd 33 :: .rd 36 :: .rd 37 :: .dn 34 :: .rd 35 :: .rd 38 :: .rd 39 :: .rd 40 :: .rd 41 :: .rd 42 :: .rd 43 :: .rd 44 :: .rd 46 :: .rd 47 :: .rd 48 :: .rd 49 :: .rd 50 :: .rd 52 :: .rd 53 :: .rd 54 :: .rd 55 :: .rd 56 :: .rd 57 :: .rd 58 :: .dn 45 :: .rd 51 :: .rd 59 :: .rd 60 :: .rd 61 :: .rd 62 :: .rd 63 :: .rd 65 :: .dn 64 :: .rd 66 :: .rd 67 :: .rd 68 :: []) [69] (fun x => Nw w6 x) (by kernel_rfl) (by rw [hL]; kernel_rfl) hP (Nw.refl _).drew ?_
  have hC : Nw w6 w6.drew := (Nw.refl _).drew
  clear HL hL
  refine rgn_rd1 (.pointer (some ⟨p, 0, none⟩)) f0 rfl (w_none rfl) (get_old (t := 7) rfl hA7) (fun ρ e0 ⟨c1, c2⟩ w hw => by go_simp) ?_
  refine rgn_rd1 (.slice (some ⟨pg, po, none⟩) (nq + 1) pc) f3 rfl (w_none rfl) (get_old (t := 11) rfl hA11) (fun ρ e0 ⟨c1, c2⟩ w hw => by go_simp) ?_
  refine rgn_rd1 (.int .i64 ((nq + 1 : Nat) : Int)) f4 rfl (w_none rfl) (get_hit (t := 84) rfl (hlt 84 (by decide))) (fun ρ e0 ⟨c1, c2⟩ w hw => by go_simp) ?_
  refine rgn_call [(81, .pointer (some ⟨p, 0, none⟩))] f1 rfl (w_none rfl) (forall_cons (get_hit (t := 81) rfl (hlt 81 (by decide))) <| forall_nil) (fun ρ e ⟨c1, c2⟩ => by simp only [List.forall_mem_cons] at e; go_simp) (H82.out _ hC) ?_
  rintro e wa ⟨ax, cx, rfl, n1⟩
  replace hC := hC.trans n1
  clear n1
  refine ⟨_, rfl, hC, ?_⟩
  refine rgn_rd1 (.int .i64 N) f2 rfl (w_none rfl) (get_hit (t := 82) rfl (hlt 82 (by decide))) (fun ρ e0 ⟨c1, c2⟩ w hw => by go_simp) ?_
  refine rgn_rd2 (.bool true) f5 rfl (w_none rfl) (get_hit (t := 83) rfl (hlt 83 (by decide))) (get_hit (t := 85) rfl (hlt 85 (by decide))) (fun ρ e0 e1 ⟨c1, c2⟩ w hw => by (first | (go_simp; done) | (go_simp; omega))) ?_
  refine rgn_rd1 (.bool true) f6 rfl (w_none rfl) (get_hit (t := 86) rfl (hlt 86 (by decide))) (fun ρ e0 ⟨c1, c2⟩ w hw => by go_simp) ?_
  refine rgn_rd1 (.int .i64 bl) f7 rfl (wanted_yes rfl f6 rfl (get_hit (t := 87) rfl (hlt 87 (by decide)))) (get_old (t := 13) rfl hA13) (fun ρ e0 ⟨c1, c2⟩ w hw => by go_simp) ?_
  refine rgn_rd1 (.int .i64 sz) f8 rfl (wanted_yes rfl f6 rfl (get_hit (t := 87) rfl (hlt 87 (by decide)))) (get_old (t := 1) rfl hA1) (fun ρ e0 ⟨c1, c2⟩ w hw => by go_simp) ?_
  refine rgn_rd2 (.bool false) f9 rfl (wanted_yes rfl f6 rfl (get_hit (t := 87) rfl (hlt 87 (by decide)))) (get_hit (t := 88) rfl (hlt 88 (by decide))) (get_hit (t := 89) rfl (hlt 89 (by decide))) (fun ρ e0 e1 ⟨c1, c2⟩ w hw => by (first | (go_simp; done) | (go_simp; omega))) ?_
  refine rgn_rd1 (.bool false) f10 rfl (wanted_yes rfl f6 rfl (get_hit (t := 87) rfl (hlt 87 (by decide)))) (get_hit (t := 90) rfl (hlt 90 (by decide))) (fun ρ e0 ⟨c1, c2⟩ w hw => by go_simp) ?_
  refine rgn_rd1 (.int .i64 bl) f11 rfl (wanted_yes rfl f10 rfl (get_hit (t := 91) rfl (hlt 91 (by decide)))) (get_old (t := 13) rfl hA13) (fun ρ e0 ⟨c1, c2⟩ w hw => by go_simp) ?_
  refine rgn_rd1 (.int .i64 a) f12 rfl (wanted_yes rfl f10 rfl (get_hit (t := 91) rfl (hlt 91 (by decide)))) (get_old (t := 9) rfl hA9) (fun ρ e0 ⟨c1, c2⟩ w hw => by go_simp) ?_
  refine rgn_rd2 (.int .i64 ((bl : Int) - a)) f13 rfl (wanted_yes rfl f10 rfl (get_hit (t := 91) rfl (hlt 91 (by decide)))) (get_hit (t := 92) rfl (hlt 92 (by decide))) (get_hit (t := 93) rfl (hlt 93 (by decide))) (fun ρ e0 e1 ⟨c1, c2⟩ w hw => by have hi := hi3.out; go_simp) ?_
  refine rgn_rd1 (.int .i64 sz) f14 rfl (wanted_yes rfl f10 rfl (get_hit (t := 91) rfl (hlt 91 (by decide)))) (get_old (t := 1) rfl hA1) (fun ρ e0 ⟨c1, c2⟩ w hw => by go_simp) ?_
  refine rgn_rd2 (.bool false) f15 rfl (wanted_yes rfl f10 rfl (get_hit (t := 91) rfl (hlt 91 (by decide)))) (get_hit (t := 94) rfl (hlt 94 (by decide))) (get_hit (t := 95) rfl (hlt 95 (by decide))) (fun ρ e0 e1 ⟨c1, c2⟩ w hw => by (first | (go_simp; done) | (go_simp; omega))) ?_
  refine rgn_rd2 (.bool false) f16 rfl (wanted_yes rfl f6 rfl (get_hit (t := 87) rfl (hlt 87 (by decide)))) (get_hit (t := 91) rfl (hlt 91 (by decide))) (get_hit (t := 96) rfl (hlt 96 (by decide))) (fun ρ e0 e1 ⟨c1, c2⟩ w hw => by go_simp) ?_
  refine rgn_rd1 (.bool false) f17 rfl (wanted_yes rfl f6 rfl (get_hit (t := 87) rfl (hlt 87 (by decide)))) (get_hit (t := 97) rfl (hlt 97 (by decide))) (fun ρ e0 ⟨c1, c2⟩ w hw => by go_simp) ?_
  refine rgn_rd1 (.pointer (some ⟨b, 0, none⟩)) f18 rfl (wanted_yes rfl f17 rfl (get_hit (t := 98) rfl (hlt 98 (by decide)))) (get_old (t := 5) rfl hA5) (fun ρ e0 ⟨c1, c2⟩ w hw => by go_simp) ?_
  refine rgn_rd1 (.string ⟨nm.toArray⟩) f19 rfl (wanted_yes rfl f17 rfl (get_hit (t := 98) rfl (hlt 98 (by decide)))) (get_old (t := 12) rfl hA12) (fun ρ e0 ⟨c1, c2⟩ w hw => by go_simp) ?_
  refine rgn_rd1 (.int .i64 bl) f21 rfl (wanted_yes rfl f17 rfl (get_hit (t := 98) rfl (hlt 98 (by decide)))) (get_old (t := 13) rfl hA13) (fun ρ e0 ⟨c1, c2⟩ w hw => by go_simp) ?_
  refine rgn_call [(99, .pointer (some ⟨b, 0, none⟩)), (100, .string ⟨nm.toArray⟩)] f20 rfl (wanted_yes rfl f17 rfl (get_hit (t := 98) rfl (hlt 98 (by decide)))) (forall_cons (get_hit (t := 99) rfl (hlt 99 (by decide))) <| forall_cons (get_hit (t := 100) rfl (hlt 100 (by decide))) <| forall_nil) (fun ρ e ⟨c1, c2⟩ => by simp only [List.forall_mem_cons] at e; go_simp) (H101.out _ hC) ?_
  rintro e wb ⟨rfl, n1⟩
  replace hC := hC.trans n1
  clear n1
  refine ⟨_, rfl, hC, ?_⟩
  refine rgn_rd2 (.bool false) f22 rfl (wanted_yes rfl f17 rfl (get_hit (t := 98) rfl (hlt 98 (by decide)))) (get_hit (t := 101) rfl (hlt 101 (by decide))) (get_hit (t := 102) rfl (hlt 102 (by decide))) (fun ρ e0 e1 ⟨c1, c2⟩ w hw => by (first | (go_simp; done) | (go_simp; omega))) ?_
  refine rgn_rd2 (.bool false) f23 rfl (wanted_yes rfl f6 rfl (get_hit (t := 87) rfl (hlt 87 (by decide)))) (get_hit (t := 98) rfl (hlt 98 (by decide))) (get_hit (t := 103) rfl (hlt 103 (by decide))) (fun ρ e0 e1 ⟨c1, c2⟩ w hw => by go_simp) ?_
  refine rgn_rd1 (.bool false) f24 rfl (wanted_yes rfl f6 rfl (get_hit (t := 87) rfl (hlt 87 (by decide)))) (get_hit (t := 104) rfl (hlt 104 (by decide))) (fun ρ e0 ⟨c1, c2⟩ w hw => by go_simp) ?_
  refine rgn_rd1 (.pointer (some ⟨b, 0, none⟩)) f25 rfl (wanted_yes rfl f24 rfl (get_hit (t := 105) rfl (hlt 105 (by decide)))) (get_old (t := 5) rfl hA5) (fun ρ e0 ⟨c1, c2⟩ w hw => by go_simp) ?_
  refine rgn_rd1 (.string ⟨nm.toArray⟩) f26 rfl (wanted_yes rfl f24 rfl (get_hit (t := 105) rfl (hlt 105 (by decide)))) (get_old (t := 12) rfl hA12) (fun ρ e0 ⟨c1, c2⟩ w hw => by go_simp) ?_
  refine rgn_rd1 (.int .i64 bl) f28 rfl (wanted_yes rfl f24 rfl (get_hit (t := 105) rfl (hlt 105 (by decide)))) (get_old (t := 13) rfl hA13) (fun ρ e0 ⟨c1, c2⟩ w hw => by go_simp) ?_
  refine rgn_call [(106, .pointer (some ⟨b, 0, none⟩)), (107, .string ⟨nm.toArray⟩)] f27 rfl (wanted_yes rfl f24 rfl (get_hit (t := 105) rfl (hlt 105 (by decide)))) (forall_cons (get_hit (t := 106) rfl (hlt 106 (by decide))) <| forall_cons (get_hit (t := 107) rfl (hlt 107 (by decide))) <| forall_nil) (fun ρ e ⟨c1, c2⟩ => by simp only [List.forall_mem_cons] at e; go_simp) (H108.out _ hC) ?_
  rintro e wc ⟨rfl, n1⟩
  replace hC := hC.trans n1
  clear n1
  refine ⟨_, rfl, hC, ?_⟩
  refine rgn_rd2 (.bool false) f29 rfl (wanted_yes rfl f24 rfl (get_hit (t := 105) rfl (hlt 105 (by decide)))) (get_hit (t := 108) rfl (hlt 108 (by decide))) (get_hit (t := 109) rfl (hlt 109 (by decide))) (fun ρ e0 e1 ⟨c1, c2⟩ w hw => by (first | (go_simp; done) | (go_simp; omega))) ?_
  refine rgn_rd2 (.bool false) f30 rfl (wanted_yes rfl f6 rfl (get_hit (t := 87) rfl (hlt 87 (by decide)))) (get_hit (t := 105) rfl (hlt 105 (by decide))) (get_hit (t := 110) rfl (hlt 110 (by decide))) (fun ρ e0 e1 ⟨c1, c2⟩ w hw => by go_simp) ?_
  refine rgn_rd2 (.bool false) f31 rfl (w_none rfl) (get_hit (t := 87) rfl (hlt 87 (by decide))) (get_hit (t := 111) rfl (hlt 111 (by decide))) (fun ρ e0 e1 ⟨c1, c2⟩ w hw => by go_simp) ?_
  refine rgn_rd1 (.bool false) f32 rfl (w_none rfl) (get_hit (t := 112) rfl (hlt 112 (by decide))) (fun ρ e0 ⟨c1, c2⟩ w hw => by go_simp) ?_
  refine rgn_rd1 (.pointer (some ⟨p, 0, none⟩)) f33 rfl (wanted_yes rfl f32 rfl (get_hit (t := 113) rfl (hlt 113 (by decide)))) (get_old (t := 7) rfl hA7) (fun ρ e0 ⟨c1, c2⟩ w hw => by go_simp) ?_
  refine rgn_rd1 (.slice (some ⟨pg, po, none⟩) (nq + 1) pc) f36 rfl (wanted_yes rfl f32 rfl (get_hit (t := 113) rfl (hlt 113 (by decide)))) (get_old (t := 11) rfl hA11) (fun ρ e0 ⟨c1, c2⟩ w hw => by go_simp) ?_
  refine rgn_rd1 (.int .i64 ((nq + 1 : Nat) : Int)) f37 rfl (wanted_yes rfl f32 rfl (get_hit (t := 113) rfl (hlt 113 (by decide)))) (get_hit (t := 117) rfl (hlt 117 (by decide))) (fun ρ e0 ⟨c1, c2⟩ w hw => by go_simp) ?_
  refine rgn_call [(114, .pointer (some ⟨p, 0, none⟩))] f34 rfl (wanted_yes rfl f32 rfl (get_hit (t := 113) rfl (hlt 113 (by decide)))) (forall_cons (get_hit (t := 114) rfl (hlt 114 (by decide))) <| forall_nil) (fun ρ e ⟨c1, c2⟩ => by simp only [List.forall_mem_cons] at e; go_simp) (H82.out _ hC) ?_
  rintro e wd ⟨ay, cy, rfl, n1⟩
  replace hC := hC.trans n1
  clear n1
  refine ⟨_, rfl, hC, ?_⟩
  refine rgn_rd1 (.int .i64 N) f35 rfl (wanted_yes rfl f32 rfl (get_hit (t := 113) rfl (hlt 113 (by decide)))) (get_hit (t := 115) rfl (hlt 115 (by decide))) (fun ρ e0 ⟨c1, c2⟩ w hw => by go_simp) ?_
  refine rgn_rd2 (.bool false) f38 rfl (wanted_yes rfl f32 rfl (get_hit (t := 113) rfl (hlt 113 (by decide)))) (get_hit (t := 116) rfl (hlt 116 (by decide))) (get_hit (t := 118) rfl (hlt 118 (by decide))) (fun ρ e0 e1 ⟨c1, c2⟩ w hw => by (first | (go_simp; done) | (go_simp; omega))) ?_
  refine rgn_rd1 (.bool false) f39 rfl (wanted_yes rfl f32 rfl (get_hit (t := 113) rfl (hlt 113 (by decide)))) (get_hit (t := 119) rfl (hlt 119 (by decide))) (fun ρ e0 ⟨c1, c2⟩ w hw => by go_simp) ?_
  refine rgn_no f40 rfl (wanted_no rfl f39 rfl (get_hit (t := 120) rfl (hlt 120 (by decide)))) ?_
  refine rgn_no f41 rfl (wanted_no rfl f39 rfl (get_hit (t := 120) rfl (hlt 120 (by decide)))) ?_
  refine rgn_no f42 rfl (wanted_no rfl f39 rfl (get_hit (t := 120) rfl (hlt 120 (by decide)))) ?_
  refine rgn_no f43 rfl (wanted_no rfl f39 rfl (get_hit (t := 120) rfl (hlt 120 (by decide)))) ?_
  refine rgn_no f44 rfl (wanted_un rfl f43 rfl (get_hit (t := 124) rfl (hlt 124 (by decide)))) ?_
  refine rgn_no f46 rfl (wanted_un rfl f43 rfl (get_hit (t := 124) rfl (hlt 124 (by decide)))) ?_
  refine rgn_no f47 rfl (wanted_un rfl f43 rfl (get_hit (t := 124) rfl (hlt 124 (by decide)))) ?_
  refine rgn_no f48 rfl (wanted_un rfl f43 rfl (get_hit (t := 124) rfl (hlt 124 (by decide)))) ?_
  refine rgn_no f49 rfl (wanted_un rfl f43 rfl (get_hit (t := 124) rfl (hlt 124 (by decide)))) ?_
  refine rgn_no f50 rfl (wanted_un rfl f43 rfl (get_hit (t := 124) rfl (hlt 124 (by decide)))) ?_
  refine rgn_no f52 rfl (wanted_un rfl f43 rfl (get_hit (t := 124) rfl (hlt 124 (by decide)))) ?_
  refine rgn_no f53 rfl (wanted_un rfl f43 rfl (get_hit (t := 124) rfl (hlt 124 (by decide)))) ?_
  refine rgn_no f54 rfl (wanted_un rfl f43 rfl (get_hit (t := 124) rfl (hlt 124 (by decide)))) ?_
  refine rgn_no f55 rfl (wanted_un rfl f43 rfl (get_hit (t := 124) rfl (hlt 124 (by decide)))) ?_
  refine rgn_no f56 rfl (wanted_un rfl f43 rfl (get_hit (t := 124) rfl (hlt 124 (by decide)))) ?_
  refine rgn_no f57 rfl (wanted_un rfl f43 rfl (get_hit (t := 124) rfl (hlt 124 (by decide)))) ?_
  refine rgn_no f58 rfl (wanted_un rfl f43 rfl (get_hit (t := 124) rfl (hlt 124 (by decide)))) ?_
  refine rgn_dn_no f45 rfl (wanted_un rfl f43 rfl (get_hit (t := 124) rfl (hlt 124 (by decide)))) hC ?_
  refine rgn_no f51 rfl (wanted_un rfl f43 rfl (get_hit (t := 124) rfl (hlt 124 (by decide)))) ?_
  refine rgn_no f59 rfl (wanted_un rfl f43 rfl (get_hit (t := 124) rfl (hlt 124 (by decide)))) ?_
  refine rgn_no f60 rfl (wanted_no rfl f39 rfl (get_hit (t := 120) rfl (hlt 120 (by decide)))) ?_
  refine rgn_no f61 rfl (wanted_no rfl f39 rfl (get_hit (t := 120) rfl (hlt 120 (by decide)))) ?_
  refine rgn_no f62 rfl (wanted_un rfl f61 rfl (get_hit (t := 142) rfl (hlt 142 (by decide)))) ?_
  refine rgn_no f63 rfl (wanted_un rfl f61 rfl (get_hit (t := 142) rfl (hlt 142 (by decide)))) ?_
  refine rgn_no f65 rfl (wanted_un rfl f61 rfl (get_hit (t := 142) rfl (hlt 142 (by decide)))) ?_
  refine rgn_dn_no f64 rfl (wanted_un rfl f61 rfl (get_hit (t := 142) rfl (hlt 142 (by decide)))) hC ?_
  refine rgn_no f66 rfl (wanted_un rfl f61 rfl (get_hit (t := 142) rfl (hlt 142 (by decide)))) ?_
  refine rgn_no f67 rfl (wanted_no rfl f39 rfl (get_hit (t := 120) rfl (hlt 120 (by decide)))) ?_
  refine rgn_rd1 (.bool false) f68 rfl (wanted_yes rfl f32 rfl (get_hit (t := 113) rfl (hlt 113 (by decide)))) (get_hit (t := 120) rfl (hlt 120 (by decide))) (fun ρ e0 ⟨c1, c2⟩ w hw => by go_simp) ?_
  refine rgn_end (.bool false) [(113, .bool false), (149, .bool false)] f69 rfl (w_none rfl) (by decide) (forall_cons (get_hit (t := 113) rfl (hlt 113 (by decide))) <| forall_cons (get_hit (t := 149) rfl (hlt 149 (by decide))) <| forall_nil) (fun ρ e ⟨c1, c2⟩ => by simp only [List.forall_mem_cons] at e; go_simp) ?_
  exact cast_frame (by rw [HA.out]; kernel_rfl) (HQ.out (.pointer (some ⟨p, 0, none⟩)) (.slice ax N cx) (.int .i64 N) (.slice (some ⟨pg, po, none⟩) (nq + 1) pc) (.int .i64 ((nq + 1 : Nat) : Int)) (.bool true) (.bool true) (.int .i64 bl) (.int .i64 sz) (.bool false) (.bool false) (.int .i64 bl) (.int .i64 a) (.int .i64 ((bl : Int) - a)) (.int .i64 sz) (.bool false) (.bool false) (.bool false) (.pointer (some ⟨b, 0, none⟩)) (.string ⟨nm.toArray⟩) (.int .i64 s) (.int .i64 bl) (.bool false) (.bool false) (.bool false) (.pointer (some ⟨b, 0, none⟩)) (.string ⟨nm.toArray⟩) (.int .i64 y) (.int .i64 bl) (.bool false) (.bool false) (.bool false) (.bool false) (.pointer (some ⟨p, 0, none⟩)) (.slice ay N cy) (.int .i64 N) (.slice (some ⟨pg, po, none⟩) (nq + 1) pc) (.int .i64 ((nq + 1 : Nat) : Int)) (.bool false) (.bool false) (undef) (undef) (undef) (undef) (undef) (undef) (undef) (undef) (undef) (undef) (undef) (undef) (undef) (undef) (undef) (undef) (undef) (undef) (undef) (undef) (undef) (undef) (undef) (undef) (undef) (undef) (undef) (undef) (.bool false) _ hC)

theorem r18 {w6 : World} {b p g o nf c0 pg po nq pc k bl a n ec s N ln y : Nat} {ea : Option Addr} {sz fi : Int} {nm : Str}
    (H82 : Hid (∀ w1, Nw w6 w1 → Calls Tryz.prog 20 #[.pointer (some ⟨p, 0, none⟩)] w1 fun e w' => ∃ ax cx, e = .returned (.slice ax N cx) ∧ Nw w1 w'))
    (H101 : Hid (∀ w1, Nw w6 w1 → Calls Tryz.prog 22 #[.pointer (some ⟨b, 0, none⟩), .string ⟨nm.toArray⟩] w1 fun e w' => e = .returned (.int .i64 s) ∧ Nw w1 w'))
    (H108 : Hid (∀ w1, Nw w6 w1 → Calls Tryz.prog 23 #[.pointer (some ⟨b, 0, none⟩), .string ⟨nm.toArray⟩] w1 fun e w' => e = .returned (.int .i64 y) ∧ Nw w1 w'))
    (H126 : Hid (∀ w1, Nw w6 w1 → Calls Tryz.prog 19 #[.pointer (some ⟨p, 0, none⟩)] w1 fun e w' => e = .returned (.int .i64 ln) ∧ w1 = w'))
    (HCg : Hid (w6.cell? ⟨g, o + k, none⟩ = some (.slice ea n ec))) (HCp : Hid (w6.cell? ⟨pg, po + nq * 4 + 1, none⟩ = some (.int .i64 fi)))
    {u2 u3 u4 u6 u8 u14 u15 u16 u17 u18 u19 u20 u21 u22 u23 u24 u25 u26 u27 u28 u29 u30 u31 u32 u33 u34 u35 u36 u37 u38 u39 u40 u41 u42 u43 u44 u45 u46 u47 u48 u49 u50 u51 u52 u53 u54 u55 u56 u57 u58 u59 u60 u61 u62 u63 u64 u65 u66 u67 u68 u69 u70 u71 u72 u73 u74 u75 u76 u77 u78 u79 u80 u81 u82 u83 u84 u85 u86 u87 u88 u89 u90 u91 u92 u93 u94 u95 u96 u97 u98 u99 u100 u101 u102 u103 u104 u105 u106 u107 u108 u109 u110 u111 u112 u113 u114 u115 u116 u117 u118 u119 u120 u121 u122 u123 u124 u125 u126 u127 u128 u129 u130 u131 u132 u133 u134 u135 u136 u137 u138 u139 u140 u141 u142 u143 u144 u145 u146 u147 u148 u149 u150 u151 u152 u153 u154 u155 u156 u157 u158 u159 u160 u161 u162 u163 u164 u165 u166 u167 u168 u169 u170 u171 u172 u173 u174 u175 u176 u177 u178 u179 u180 u181 u182 u183 u184 u185 u186 u187 u188 u189 u190 u191 u192 u193 u194 u195 u196 : Value} {Q : Exit → Act → World → Prop} (hP : PanicOk Q)
    (H : (N = nq + 1 ∧ (bl : Int) < sz ∧ bl < s) ∨ (N = nq + 1 ∧ sz ≤ (bl : Int) ∧ bl < s ∧ (ln : Int) - n ≤ fi) ∨ (N = nq + 2 ∧ sz ≤ (bl : Int) ∧ s = bl ∧ (bl : Int) - a < sz ∧ y = bl)) (hk : k < nf) (hnq : nq ≤ 1000) (hbl : bl ≤ 100000000) (hab : a ≤ bl) (hln : ln ≤ 100000000) (hn : n ≤ 30)
    (hQ : ∀ (s81 s82 s83 s84 s85 s86 s87 s88 s89 s90 s91 s92 s93 s94 s95 s96 s97 s98 s99 s100 s101 s102 s103 s104 s105 s106 s107 s108 s109 s110 s111 s112 s113 s114 s115 s116 s117 s118 s119 s120 s121 s122 s123 s124 s125 s126 s127 s128 s129 s130 s131 s132 s133 s134 s135 s136 s137 s138 s139 s140 s141 s142 s143 s144 s145 s146 s147 s148 s149 : Value) (wx : World), Nw w6 wx → Q .normal ⟨#[.slice (some ⟨g, o, none⟩) nf c0, .int .i64 sz, u2, u3, u4, .pointer (some ⟨b, 0, none⟩), u6, .pointer (some ⟨p, 0, none⟩), u8, .int .i64 a, .int .i64 k, .slice (some ⟨pg, po, none⟩) (nq + 1) pc, .string ⟨nm.toArray⟩, .int .i64 bl, u14, u15, u16, u17, u18, u19, u20, u21, u22, u23, u24, u25, u26, u27, u28, u29, u30, u31, u32, u33, u34, u35, u36, u37, u38, u39, u40, u41, u42, u43, u44, u45, u46, u47, u48, u49, u50, u51, u52, u53, u54, u55, u56, u57, u58, u59, u60, u61, u62, u63, u64, u65, u66, u67, u68, u69, u70, u71, u72, u73, u74, u75, u76, u77, u78, u79, u80, s81, s82, s83, s84, s85, s86, s87, s88, s89, s90, s91, s92, s93, s94, s95, s96, s97, s98, s99, s100, s101, s102, s103, s104, s105, s106, s107, s108, s109, s110, s111, s112, s113, s114, s115, s116, s117, s118, s119, s120, s121, s122, s123, s124, s125, s126, s127, s128, s129, s130, s131, s132, s133, s134, s135, s136, s137, s138, s139, s140, s141, s142, s143, s144, s145, s146, s147, s148, s149, .bool false, u151, u152, u153, u154, u155, u156, u157, u158, u159, u160, u161, u162, u163, u164, u165, u166, u167, u168, u169, u170, u171, u172, u173, u174, u175, u176, u177, u178, u179, u180, u181, u182, u183, u184, u185, u186, u187, u188, u189, u190, u191, u192, u193, u194, u195, u196], []⟩ wx) :
    Code.wp Tryz.prog ((Tryz.f4.body.bind (regionOf 18)).getD .skip) Q ⟨#[.slice (some ⟨g, o, none⟩) nf c0, .int .i64 sz, u2, u3, u4, .pointer (some ⟨b, 0, none⟩), u6, .pointer (some ⟨p, 0, none⟩), u8, .int .i64 a, .int .i64 k, .slice (some ⟨pg, po, none⟩) (nq + 1) pc, .string ⟨nm.toArray⟩, .int .i64 bl, u14, u15, u16, u17, u18, u19, u20, u21, u22, u23, u24, u25, u26, u27, u28, u29, u30, u31, u32, u33, u34, u35, u36, u37, u38, u39, u40, u41, u42, u43, u44, u45, u46, u47, u48, u49, u50, u51, u52, u53, u54, u55, u56, u57, u58, u59, u60, u61, u62, u63, u64, u65, u66, u67, u68, u69, u70, u71, u72, u73, u74, u75, u76, u77, u78, u79, u80, u81, u82, u83, u84, u85, u86, u87, u88, u89, u90, u91, u92, u93, u94, u95, u96, u97, u98, u99, u100, u101, u102, u103, u104, u105, u106, u107, u108, u109, u110, u111, u112, u113, u114, u115, u116, u117, u118, u119, u120, u121, u122, u123, u124, u125, u126, u127, u128, u129, u130, u131, u132, u133, u134, u135, u136, u137, u138, u139, u140, u141, u142, u143, u144, u145, u146, u147, u148, u149, u150, u151, u152, u153, u154, u155, u156, u157, u158, u159, u160, u161, u162, u163, u164, u165, u166, u167, u168, u169, u170, u171, u172, u173, u174, u175, u176, u177, u178, u179, u180, u181, u182, u183, u184, u185, u186, u187, u188, u189, u190, u191, u192, u193, u194, u195, u196], []⟩ w6 := by
  rcases H with ⟨h1, h2, h3⟩ | ⟨h1, h2, h3, h4⟩ | ⟨h1, h2, h3, h4, h5⟩
  · exact r18_stay H82 H101 H108 H126 HCg HCp hP h1 h2 h3 hk hnq hbl hab hln hn hQ
  · exact r18_full H82 H101 H108 H126 HCg HCp hP h1 h2 h3 h4 hk hnq hbl hab hln hn hQ
  · exact r18_more H82 H101 H108 H126 HCg HCp hP h1 h2 h3 h4 h5 hk hnq hbl hab hln hn hQ
end Go.Proofs.YtoikjiojhlfgiaaGreatDoor.SeglogSizes
