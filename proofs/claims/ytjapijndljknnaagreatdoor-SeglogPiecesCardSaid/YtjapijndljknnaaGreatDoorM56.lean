/-
  Texts merged by a program of this claim's: PiecesT.
-/
import Derived.Test.YtjapijndljknnaaGreatDoorM45
import Derived.Test.YtjapijndljknnaaGreatDoorM18
/-
  amanuensislaw05.SeglogPieces: its last region. Printed by wip/gen_pt.py.
-/
namespace Go.Proofs.YtjapijndljknnaaGreatDoor.SeglogPieces
open Go Go.RowKit Go.Sort
set_option maxRecDepth 100000
set_option maxHeartbeats 1600000 in
theorem r18_none {w6 : World} {b p pg po nq pc ln sc lc ak : Nat} {sa la : Option Addr} {fi : Int} (hnq : nq ≤ 1000)
    (H71 : Hid (∀ W, Nw w6 W → Calls Tryz.prog 16 #[.slice (some ⟨pg, po, none⟩) (nq + 1) pc] W fun e w' => e = .returned (.bool true) ∧ Nw W w'))
    (H75 : Hid (∀ W, Nw w6 W → Calls Tryz.prog 13 #[.pointer (some ⟨b, 0, none⟩)] W fun e w' => ∃ ax cx, e = .returned (.slice ax (nq + 2) cx) ∧ Nw W w'))
    (H93 : Hid (∀ W, Nw w6 W → Calls Tryz.prog 17 #[.slice la (nq + 1) lc, .slice (some ⟨pg, po, none⟩) (nq + 1) pc] W fun e w' => e = .returned (.bool true) ∧ Nw W w'))
    (H97 : Hid (∀ W, Nw w6 W → Calls Tryz.prog 18 #[.pointer (some ⟨p, 0, none⟩)] W fun e w' => e = .returned (.int .i64 ak) ∧ W = w'))
    (H109 : Hid (∀ W, Nw w6 W → Calls Tryz.prog 19 #[.pointer (some ⟨p, 0, none⟩)] W fun e w' => e = .returned (.int .i64 ln) ∧ W = w'))
    (H132 : Hid (∀ W, Nw w6 W → Calls Tryz.prog 20 #[] W fun e w' => e = .returned (.bool true) ∧ Nw W w'))
    (HCp : Hid (w6.cell? ⟨pg, po + nq * 4 + 1, none⟩ = some (.int .i64 fi))) (HG : Hid (pg < w6.heap.size)) (h1 : fi ≤ (ak : Int)) (h2 : ln = 0)
    {u0 u1 u2 u3 u4 u8 u10 u11 u12 u13 u14 u18 u19 u20 u21 u22 u23 u24 u25 u26 u27 u28 u29 u30 u31 u32 u33 u34 u35 u36 u37 u38 u39 u40 u41 u42 u43 u44 u45 u46 u47 u48 u49 u50 u51 u52 u53 u54 u55 u56 u57 u58 u59 u60 u61 u62 u63 u64 u65 u66 u67 u68 u69 u70 u71 u72 u73 u74 u75 u76 u77 u78 u79 u80 u81 u82 u83 u84 u85 u86 u87 u88 u89 u90 u91 u92 u93 u94 u95 u96 u97 u98 u99 u100 u101 u102 u103 u104 u105 u106 u107 u108 u109 u110 u111 u112 u113 u114 u115 u116 u117 u118 u119 u120 u121 u122 u123 u124 u125 u126 u127 u128 u129 u130 u131 u132 u133 : Value} {Q : Exit → Act → World → Prop}
    (hQ : ∀ (s4 s66 s67 s68 s69 s70 s71 s72 s73 s74 s75 s76 s77 s78 s79 s80 s81 s82 s83 s84 s85 s86 s87 s88 s89 s90 s91 s92 s93 s94 s95 s96 s97 s98 s99 s100 s101 s102 s103 s104 s105 s106 s107 s108 s109 s110 s111 s112 s113 s114 s115 s116 s117 s118 s119 s120 s121 s122 s123 s124 s125 s126 s127 s128 s129 s130 s131 s132 s133 : Value) (wx : World), Nw w6 wx → s4 = .bool true → Q .normal ⟨#[u0, u1, u2, u3, s4, .pointer (some ⟨b, 0, none⟩), .pointer (some ⟨p, 0, none⟩), .slice sa ln sc, u8, .slice (some ⟨pg, po, none⟩) (nq + 1) pc, u10, u11, u12, u13, u14, .int .i64 0, .slice la (nq + 1) lc, .int .i64 0, u18, u19, u20, u21, u22, u23, u24, u25, u26, u27, u28, u29, u30, u31, u32, u33, u34, u35, u36, u37, u38, u39, u40, u41, u42, u43, u44, u45, u46, u47, u48, u49, u50, u51, u52, u53, u54, u55, u56, u57, u58, u59, u60, u61, u62, u63, u64, u65, s66, s67, s68, s69, s70, s71, s72, s73, s74, s75, s76, s77, s78, s79, s80, s81, s82, s83, s84, s85, s86, s87, s88, s89, s90, s91, s92, s93, s94, s95, s96, s97, s98, s99, s100, s101, s102, s103, s104, s105, s106, s107, s108, s109, s110, s111, s112, s113, s114, s115, s116, s117, s118, s119, s120, s121, s122, s123, s124, s125, s126, s127, s128, s129, s130, s131, s132, s133], []⟩ wx) :
    Code.wp Tryz.prog ((Tryz.f3.body.bind (regionOf 18)).getD .skip) Q ⟨#[u0, u1, u2, u3, u4, .pointer (some ⟨b, 0, none⟩), .pointer (some ⟨p, 0, none⟩), .slice sa ln sc, u8, .slice (some ⟨pg, po, none⟩) (nq + 1) pc, u10, u11, u12, u13, u14, .int .i64 0, .slice la (nq + 1) lc, .int .i64 0, u18, u19, u20, u21, u22, u23, u24, u25, u26, u27, u28, u29, u30, u31, u32, u33, u34, u35, u36, u37, u38, u39, u40, u41, u42, u43, u44, u45, u46, u47, u48, u49, u50, u51, u52, u53, u54, u55, u56, u57, u58, u59, u60, u61, u62, u63, u64, u65, u66, u67, u68, u69, u70, u71, u72, u73, u74, u75, u76, u77, u78, u79, u80, u81, u82, u83, u84, u85, u86, u87, u88, u89, u90, u91, u92, u93, u94, u95, u96, u97, u98, u99, u100, u101, u102, u103, u104, u105, u106, u107, u108, u109, u110, u111, u112, u113, u114, u115, u116, u117, u118, u119, u120, u121, u122, u123, u124, u125, u126, u127, u128, u129, u130, u131, u132, u133], []⟩ w6 := by
  dsimp only at hQ ⊢
  conv => arg 2; whnf
  have HQ := Lib.hid hQ
  clear hQ
  refine name_act fun A hA => ?_
  have hA5 : A.tmps[5]? = some (.pointer (some ⟨b, 0, none⟩)) := by rw [hA]; rfl
  have hA6 : A.tmps[6]? = some (.pointer (some ⟨p, 0, none⟩)) := by rw [hA]; rfl
  have hA7 : A.tmps[7]? = some (.slice sa ln sc) := by rw [hA]; rfl
  have hA9 : A.tmps[9]? = some (.slice (some ⟨pg, po, none⟩) (nq + 1) pc) := by rw [hA]; rfl
  have hA15 : A.tmps[15]? = some (.int .i64 0) := by rw [hA]; rfl
  have hA16 : A.tmps[16]? = some (.slice la (nq + 1) lc) := by rw [hA]; rfl
  have hA17 : A.tmps[17]? = some (.int .i64 0) := by rw [hA]; rfl
  have hlt0 : ∀ d ∈ ([66, 67, 68, 69, 70, 71, 72, 73, 74, 75, 76, 77, 78, 79, 80, 81, 82, 83, 84, 85, 86, 87, 88, 89, 90, 91, 92, 93, 94, 95, 96, 97, 98, 99, 100, 101, 102, 103, 104, 105, 106, 107, 108, 109, 110, 111, 112, 113, 114, 115, 116, 117, 118, 119, 120, 121, 122, 123, 124, 125, 126, 127, 128, 129, 130, 131, 132, 133, 4] : List Nat), d < 134 := by decide
  refine wp_region_tab [66, 67, 68, 69, 70, 71, 72, 73, 74, 75, 76, 77, 78, 79, 80, 81, 82, 83, 84, 85, 86, 87, 88, 89, 90, 91, 92, 93, 94, 95, 96, 97, 98, 99, 100, 101, 102, 103, 104, 105, 106, 107, 108, 109, 110, 111, 112, 113, 114, 115, 116, 117, 118, 119, 120, 121, 122, 123, 124, 125, 126, 127, 128, 129, 130, 131, 132, 133, 4] [isV (.slice (some ⟨pg, po, none⟩) (nq + 1) pc), isV (.int .i64 ((nq + 1 : Nat) : Int)), isV (.bool true), isV (.bool true), isV (.slice (some ⟨pg, po, none⟩) (nq + 1) pc), isV (.bool true), isV (.bool true), isV (.bool true), isV (.pointer (some ⟨b, 0, none⟩)), (⟨fun x w => ∃ a c, x = .slice a (nq + 2) c, fun x w w' h n => h⟩), isV (.int .i64 ((nq + 2 : Nat) : Int)), isV (.slice (some ⟨pg, po, none⟩) (nq + 1) pc), isV (.int .i64 ((nq + 1 : Nat) : Int)), isV (.int .i64 ((nq + 2 : Nat) : Int)), isV (.bool true), isV (.bool true), isV (.bool true), isV (.int .i64 0), isV (.bool true), isV (.bool true), isV (.bool true), isV (.int .i64 0), isV (.bool true), isV (.bool true), isV (.bool true), isV (.slice la (nq + 1) lc), isV (.slice (some ⟨pg, po, none⟩) (nq + 1) pc), isV (.bool true), isV (.bool true), isV (.bool true), isV (.pointer (some ⟨p, 0, none⟩)), isV (.int .i64 ak), isV (.slice (some ⟨pg, po, none⟩) (nq + 1) pc), isV (.slice (some ⟨pg, po, none⟩) (nq + 1) pc), isV (.int .i64 ((nq + 1 : Nat) : Int)), isV (.int .i64 nq), isV (.pointer (some ⟨pg, po + nq * 4, none⟩)), isV (.pointer (some ⟨pg, po + nq * 4 + 1, none⟩)), isV (.int .i64 fi), isV (.bool true), isV (.bool true), isV (.bool true), isV (.pointer (some ⟨p, 0, none⟩)), isV (.int .i64 ln), isV (.slice sa ln sc), isV (.int .i64 ln), isV (.bool true), isV (.bool true), isV (.bool true), isV (.slice sa ln sc), isV (.int .i64 ln), isV (.bool true), isV (.bool true), isV (undef), isV (undef), isV (undef), isV (undef), isV (undef), isV (undef), isV (undef), isV (undef), isV (undef), isV (undef), isV (.bool true), isV (.bool true), isV (.bool true), isV (.bool true), isV (.bool true), isV (.bool true)] (by kernel_rfl) (by kernel_rfl) (by kernel_rfl) (of_decide_eq_true (by kernel_rfl)) (fun d hd => by rw [hA]; exact hlt0 d hd) (fun L hL => ⟨?a0, ?a1, ?a2, ?a3, ?a4, ?a5, ?a6, ?a7, ?a8, ?a9, ?a10, ?a11, ?a12, ?a13, ?a14, ?a15, ?a16, ?a17, ?a18, ?a19, ?a20, ?a21, ?a22, ?a23, ?a24, ?a25, ?a26, ?a27, ?a28, ?a29, ?a30, ?a31, ?a32, ?a33, ?a34, ?a35, ?a36, ?a37, ?a38, ?a39, ?a40, ?a41, ?a42, ?a43, ?a44, ?a45, ?a46, ?a47, ?a48, ?a49, ?a50, ?a51, ?a52, ?a53, ?a54, ?a55, ?a56, ?a57, ?a58, ?a59, ?a60, ?a61, ?a62, ?a63, ?a64, ?a65, ?a66, ?a67, ?a68, trivial⟩) ?he
  · intro a w hN old new
    have e9 := old 9 (.slice (some ⟨pg, po, none⟩) (nq + 1) pc) rfl hA9
    exact OpOk.val (.slice (some ⟨pg, po, none⟩) (nq + 1) pc) (w_none rfl) [(9, _)] (forall_cons e9 <| forall_nil) (fun ρ e ⟨c1, c2⟩ => by (try simp only [List.forall_mem_cons] at e); go_simp) ⟨Nw.refl _, rfl⟩
  · intro a w hN old new
    obtain ⟨y66, e66, g66⟩ := new 0 66 rfl rfl
    obtain rfl : y66 = .slice (some ⟨pg, po, none⟩) (nq + 1) pc := g66
    exact OpOk.val (.int .i64 ((nq + 1 : Nat) : Int)) (w_none rfl) [(66, _)] (forall_cons e66 <| forall_nil) (fun ρ e ⟨c1, c2⟩ => by (try simp only [List.forall_mem_cons] at e); go_simp) ⟨Nw.refl _, rfl⟩
  · intro a w hN old new
    obtain ⟨y67, e67, g67⟩ := new 1 67 rfl rfl
    obtain rfl : y67 = .int .i64 ((nq + 1 : Nat) : Int) := g67
    exact OpOk.val (.bool true) (w_none rfl) [(67, _)] (forall_cons e67 <| forall_nil) (fun ρ e ⟨c1, c2⟩ => by (try simp only [List.forall_mem_cons] at e); (first | (go_simp; done) | (go_simp; omega))) ⟨Nw.refl _, rfl⟩
  · intro a w hN old new
    obtain ⟨y68, e68, g68⟩ := new 2 68 rfl rfl
    obtain rfl : y68 = .bool true := g68
    exact OpOk.val (.bool true) (w_none rfl) [(68, _)] (forall_cons e68 <| forall_nil) (fun ρ e ⟨c1, c2⟩ => by (try simp only [List.forall_mem_cons] at e); go_simp) ⟨Nw.refl _, rfl⟩
  · intro a w hN old new
    obtain ⟨y69, e69, g69⟩ := new 3 69 rfl rfl
    obtain rfl : y69 = .bool true := g69
    have e9 := old 9 (.slice (some ⟨pg, po, none⟩) (nq + 1) pc) rfl hA9
    exact OpOk.val (.slice (some ⟨pg, po, none⟩) (nq + 1) pc) (tab_yes hL rfl rfl e69) [(9, _)] (forall_cons e9 <| forall_nil) (fun ρ e ⟨c1, c2⟩ => by (try simp only [List.forall_mem_cons] at e); go_simp) ⟨Nw.refl _, rfl⟩
  · intro a w hN old new
    obtain ⟨y69, e69, g69⟩ := new 3 69 rfl rfl
    obtain rfl : y69 = .bool true := g69
    obtain ⟨y70, e70, g70⟩ := new 4 70 rfl rfl
    obtain rfl : y70 = .slice (some ⟨pg, po, none⟩) (nq + 1) pc := g70
    refine OpOk.call (tab_yes hL rfl rfl e69) [(70, _)] (forall_cons e70 <| forall_nil) (fun ρ e ⟨c1, c2⟩ => by (try simp only [List.forall_mem_cons] at e); go_simp) (H71.out _ hN) (fun e w1 h => ?_)
    obtain ⟨rfl, n1⟩ := h
    exact ⟨_, rfl, n1, rfl⟩
  · intro a w hN old new
    obtain ⟨y69, e69, g69⟩ := new 3 69 rfl rfl
    obtain rfl : y69 = .bool true := g69
    obtain ⟨y71, e71, g71⟩ := new 5 71 rfl rfl
    obtain rfl : y71 = .bool true := g71
    exact OpOk.val (.bool true) (w_none rfl) [(69, _), (71, _)] (forall_cons e69 <| forall_cons e71 <| forall_nil) (fun ρ e ⟨c1, c2⟩ => by (try simp only [List.forall_mem_cons] at e); go_simp) ⟨Nw.refl _, rfl⟩
  · intro a w hN old new
    obtain ⟨y72, e72, g72⟩ := new 6 72 rfl rfl
    obtain rfl : y72 = .bool true := g72
    exact OpOk.val (.bool true) (w_none rfl) [(72, _)] (forall_cons e72 <| forall_nil) (fun ρ e ⟨c1, c2⟩ => by (try simp only [List.forall_mem_cons] at e); go_simp) ⟨Nw.refl _, rfl⟩
  · intro a w hN old new
    obtain ⟨y73, e73, g73⟩ := new 7 73 rfl rfl
    obtain rfl : y73 = .bool true := g73
    have e5 := old 5 (.pointer (some ⟨b, 0, none⟩)) rfl hA5
    exact OpOk.val (.pointer (some ⟨b, 0, none⟩)) (tab_yes hL rfl rfl e73) [(5, _)] (forall_cons e5 <| forall_nil) (fun ρ e ⟨c1, c2⟩ => by (try simp only [List.forall_mem_cons] at e); go_simp) ⟨Nw.refl _, rfl⟩
  · intro a w hN old new
    obtain ⟨y73, e73, g73⟩ := new 7 73 rfl rfl
    obtain rfl : y73 = .bool true := g73
    obtain ⟨y74, e74, g74⟩ := new 8 74 rfl rfl
    obtain rfl : y74 = .pointer (some ⟨b, 0, none⟩) := g74
    refine OpOk.call (tab_yes hL rfl rfl e73) [(74, _)] (forall_cons e74 <| forall_nil) (fun ρ e ⟨c1, c2⟩ => by (try simp only [List.forall_mem_cons] at e); go_simp) (H75.out _ hN) (fun e w1 h => ?_)
    obtain ⟨ax, cx, rfl, n1⟩ := h
    exact ⟨_, rfl, n1, ⟨ax, cx, rfl⟩⟩
  · intro a w hN old new
    obtain ⟨y73, e73, g73⟩ := new 7 73 rfl rfl
    obtain rfl : y73 = .bool true := g73
    obtain ⟨y75, e75, g75⟩ := new 9 75 rfl rfl
    obtain ⟨a0, c0, rfl⟩ := g75
    exact OpOk.val (.int .i64 ((nq + 2 : Nat) : Int)) (tab_yes hL rfl rfl e73) [(75, _)] (forall_cons e75 <| forall_nil) (fun ρ e ⟨c1, c2⟩ => by (try simp only [List.forall_mem_cons] at e); go_simp) ⟨Nw.refl _, rfl⟩
  · intro a w hN old new
    obtain ⟨y73, e73, g73⟩ := new 7 73 rfl rfl
    obtain rfl : y73 = .bool true := g73
    have e9 := old 9 (.slice (some ⟨pg, po, none⟩) (nq + 1) pc) rfl hA9
    exact OpOk.val (.slice (some ⟨pg, po, none⟩) (nq + 1) pc) (tab_yes hL rfl rfl e73) [(9, _)] (forall_cons e9 <| forall_nil) (fun ρ e ⟨c1, c2⟩ => by (try simp only [List.forall_mem_cons] at e); go_simp) ⟨Nw.refl _, rfl⟩
  · intro a w hN old new
    obtain ⟨y73, e73, g73⟩ := new 7 73 rfl rfl
    obtain rfl : y73 = .bool true := g73
    obtain ⟨y77, e77, g77⟩ := new 11 77 rfl rfl
    obtain rfl : y77 = .slice (some ⟨pg, po, none⟩) (nq + 1) pc := g77
    exact OpOk.val (.int .i64 ((nq + 1 : Nat) : Int)) (tab_yes hL rfl rfl e73) [(77, _)] (forall_cons e77 <| forall_nil) (fun ρ e ⟨c1, c2⟩ => by (try simp only [List.forall_mem_cons] at e); go_simp) ⟨Nw.refl _, rfl⟩
  · intro a w hN old new
    obtain ⟨y73, e73, g73⟩ := new 7 73 rfl rfl
    obtain rfl : y73 = .bool true := g73
    obtain ⟨y78, e78, g78⟩ := new 12 78 rfl rfl
    obtain rfl : y78 = .int .i64 ((nq + 1 : Nat) : Int) := g78
    have hi := (IntWalk.i64_in ((nq : Int) + 1 + 1) (by omega))
    exact OpOk.val (.int .i64 ((nq + 2 : Nat) : Int)) (tab_yes hL rfl rfl e73) [(78, _)] (forall_cons e78 <| forall_nil) (fun ρ e ⟨c1, c2⟩ => by (try simp only [List.forall_mem_cons] at e); (first | (go_simp; done) | (go_simp; omega))) ⟨Nw.refl _, rfl⟩
  · intro a w hN old new
    obtain ⟨y73, e73, g73⟩ := new 7 73 rfl rfl
    obtain rfl : y73 = .bool true := g73
    obtain ⟨y76, e76, g76⟩ := new 10 76 rfl rfl
    obtain rfl : y76 = .int .i64 ((nq + 2 : Nat) : Int) := g76
    obtain ⟨y79, e79, g79⟩ := new 13 79 rfl rfl
    obtain rfl : y79 = .int .i64 ((nq + 2 : Nat) : Int) := g79
    exact OpOk.val (.bool true) (tab_yes hL rfl rfl e73) [(76, _), (79, _)] (forall_cons e76 <| forall_cons e79 <| forall_nil) (fun ρ e ⟨c1, c2⟩ => by (try simp only [List.forall_mem_cons] at e); (first | (go_simp; done) | (go_simp; omega))) ⟨Nw.refl _, rfl⟩
  · intro a w hN old new
    obtain ⟨y73, e73, g73⟩ := new 7 73 rfl rfl
    obtain rfl : y73 = .bool true := g73
    obtain ⟨y80, e80, g80⟩ := new 14 80 rfl rfl
    obtain rfl : y80 = .bool true := g80
    exact OpOk.val (.bool true) (w_none rfl) [(73, _), (80, _)] (forall_cons e73 <| forall_cons e80 <| forall_nil) (fun ρ e ⟨c1, c2⟩ => by (try simp only [List.forall_mem_cons] at e); go_simp) ⟨Nw.refl _, rfl⟩
  · intro a w hN old new
    obtain ⟨y81, e81, g81⟩ := new 15 81 rfl rfl
    obtain rfl : y81 = .bool true := g81
    exact OpOk.val (.bool true) (w_none rfl) [(81, _)] (forall_cons e81 <| forall_nil) (fun ρ e ⟨c1, c2⟩ => by (try simp only [List.forall_mem_cons] at e); go_simp) ⟨Nw.refl _, rfl⟩
  · intro a w hN old new
    obtain ⟨y82, e82, g82⟩ := new 16 82 rfl rfl
    obtain rfl : y82 = .bool true := g82
    have e15 := old 15 (.int .i64 0) rfl hA15
    exact OpOk.val (.int .i64 0) (tab_yes hL rfl rfl e82) [(15, _)] (forall_cons e15 <| forall_nil) (fun ρ e ⟨c1, c2⟩ => by (try simp only [List.forall_mem_cons] at e); go_simp) ⟨Nw.refl _, rfl⟩
  · intro a w hN old new
    obtain ⟨y82, e82, g82⟩ := new 16 82 rfl rfl
    obtain rfl : y82 = .bool true := g82
    obtain ⟨y83, e83, g83⟩ := new 17 83 rfl rfl
    obtain rfl : y83 = .int .i64 0 := g83
    exact OpOk.val (.bool true) (tab_yes hL rfl rfl e82) [(83, _)] (forall_cons e83 <| forall_nil) (fun ρ e ⟨c1, c2⟩ => by (try simp only [List.forall_mem_cons] at e); (first | (go_simp; done) | (go_simp; omega))) ⟨Nw.refl _, rfl⟩
  · intro a w hN old new
    obtain ⟨y82, e82, g82⟩ := new 16 82 rfl rfl
    obtain rfl : y82 = .bool true := g82
    obtain ⟨y84, e84, g84⟩ := new 18 84 rfl rfl
    obtain rfl : y84 = .bool true := g84
    exact OpOk.val (.bool true) (w_none rfl) [(82, _), (84, _)] (forall_cons e82 <| forall_cons e84 <| forall_nil) (fun ρ e ⟨c1, c2⟩ => by (try simp only [List.forall_mem_cons] at e); go_simp) ⟨Nw.refl _, rfl⟩
  · intro a w hN old new
    obtain ⟨y85, e85, g85⟩ := new 19 85 rfl rfl
    obtain rfl : y85 = .bool true := g85
    exact OpOk.val (.bool true) (w_none rfl) [(85, _)] (forall_cons e85 <| forall_nil) (fun ρ e ⟨c1, c2⟩ => by (try simp only [List.forall_mem_cons] at e); go_simp) ⟨Nw.refl _, rfl⟩
  · intro a w hN old new
    obtain ⟨y86, e86, g86⟩ := new 20 86 rfl rfl
    obtain rfl : y86 = .bool true := g86
    have e17 := old 17 (.int .i64 0) rfl hA17
    exact OpOk.val (.int .i64 0) (tab_yes hL rfl rfl e86) [(17, _)] (forall_cons e17 <| forall_nil) (fun ρ e ⟨c1, c2⟩ => by (try simp only [List.forall_mem_cons] at e); go_simp) ⟨Nw.refl _, rfl⟩
  · intro a w hN old new
    obtain ⟨y86, e86, g86⟩ := new 20 86 rfl rfl
    obtain rfl : y86 = .bool true := g86
    obtain ⟨y87, e87, g87⟩ := new 21 87 rfl rfl
    obtain rfl : y87 = .int .i64 0 := g87
    exact OpOk.val (.bool true) (tab_yes hL rfl rfl e86) [(87, _)] (forall_cons e87 <| forall_nil) (fun ρ e ⟨c1, c2⟩ => by (try simp only [List.forall_mem_cons] at e); (first | (go_simp; done) | (go_simp; omega))) ⟨Nw.refl _, rfl⟩
  · intro a w hN old new
    obtain ⟨y86, e86, g86⟩ := new 20 86 rfl rfl
    obtain rfl : y86 = .bool true := g86
    obtain ⟨y88, e88, g88⟩ := new 22 88 rfl rfl
    obtain rfl : y88 = .bool true := g88
    exact OpOk.val (.bool true) (w_none rfl) [(86, _), (88, _)] (forall_cons e86 <| forall_cons e88 <| forall_nil) (fun ρ e ⟨c1, c2⟩ => by (try simp only [List.forall_mem_cons] at e); go_simp) ⟨Nw.refl _, rfl⟩
  · intro a w hN old new
    obtain ⟨y89, e89, g89⟩ := new 23 89 rfl rfl
    obtain rfl : y89 = .bool true := g89
    exact OpOk.val (.bool true) (w_none rfl) [(89, _)] (forall_cons e89 <| forall_nil) (fun ρ e ⟨c1, c2⟩ => by (try simp only [List.forall_mem_cons] at e); go_simp) ⟨Nw.refl _, rfl⟩
  · intro a w hN old new
    obtain ⟨y90, e90, g90⟩ := new 24 90 rfl rfl
    obtain rfl : y90 = .bool true := g90
    have e16 := old 16 (.slice la (nq + 1) lc) rfl hA16
    exact OpOk.val (.slice la (nq + 1) lc) (tab_yes hL rfl rfl e90) [(16, _)] (forall_cons e16 <| forall_nil) (fun ρ e ⟨c1, c2⟩ => by (try simp only [List.forall_mem_cons] at e); go_simp) ⟨Nw.refl _, rfl⟩
  · intro a w hN old new
    obtain ⟨y90, e90, g90⟩ := new 24 90 rfl rfl
    obtain rfl : y90 = .bool true := g90
    have e9 := old 9 (.slice (some ⟨pg, po, none⟩) (nq + 1) pc) rfl hA9
    exact OpOk.val (.slice (some ⟨pg, po, none⟩) (nq + 1) pc) (tab_yes hL rfl rfl e90) [(9, _)] (forall_cons e9 <| forall_nil) (fun ρ e ⟨c1, c2⟩ => by (try simp only [List.forall_mem_cons] at e); go_simp) ⟨Nw.refl _, rfl⟩
  · intro a w hN old new
    obtain ⟨y90, e90, g90⟩ := new 24 90 rfl rfl
    obtain rfl : y90 = .bool true := g90
    obtain ⟨y91, e91, g91⟩ := new 25 91 rfl rfl
    obtain rfl : y91 = .slice la (nq + 1) lc := g91
    obtain ⟨y92, e92, g92⟩ := new 26 92 rfl rfl
    obtain rfl : y92 = .slice (some ⟨pg, po, none⟩) (nq + 1) pc := g92
    refine OpOk.call (tab_yes hL rfl rfl e90) [(91, _), (92, _)] (forall_cons e91 <| forall_cons e92 <| forall_nil) (fun ρ e ⟨c1, c2⟩ => by (try simp only [List.forall_mem_cons] at e); go_simp) (H93.out _ hN) (fun e w1 h => ?_)
    obtain ⟨rfl, n1⟩ := h
    exact ⟨_, rfl, n1, rfl⟩
  · intro a w hN old new
    obtain ⟨y90, e90, g90⟩ := new 24 90 rfl rfl
    obtain rfl : y90 = .bool true := g90
    obtain ⟨y93, e93, g93⟩ := new 27 93 rfl rfl
    obtain rfl : y93 = .bool true := g93
    exact OpOk.val (.bool true) (w_none rfl) [(90, _), (93, _)] (forall_cons e90 <| forall_cons e93 <| forall_nil) (fun ρ e ⟨c1, c2⟩ => by (try simp only [List.forall_mem_cons] at e); go_simp) ⟨Nw.refl _, rfl⟩
  · intro a w hN old new
    obtain ⟨y94, e94, g94⟩ := new 28 94 rfl rfl
    obtain rfl : y94 = .bool true := g94
    exact OpOk.val (.bool true) (w_none rfl) [(94, _)] (forall_cons e94 <| forall_nil) (fun ρ e ⟨c1, c2⟩ => by (try simp only [List.forall_mem_cons] at e); go_simp) ⟨Nw.refl _, rfl⟩
  · intro a w hN old new
    obtain ⟨y95, e95, g95⟩ := new 29 95 rfl rfl
    obtain rfl : y95 = .bool true := g95
    have e6 := old 6 (.pointer (some ⟨p, 0, none⟩)) rfl hA6
    exact OpOk.val (.pointer (some ⟨p, 0, none⟩)) (tab_yes hL rfl rfl e95) [(6, _)] (forall_cons e6 <| forall_nil) (fun ρ e ⟨c1, c2⟩ => by (try simp only [List.forall_mem_cons] at e); go_simp) ⟨Nw.refl _, rfl⟩
  · intro a w hN old new
    obtain ⟨y95, e95, g95⟩ := new 29 95 rfl rfl
    obtain rfl : y95 = .bool true := g95
    obtain ⟨y96, e96, g96⟩ := new 30 96 rfl rfl
    obtain rfl : y96 = .pointer (some ⟨p, 0, none⟩) := g96
    refine OpOk.call (tab_yes hL rfl rfl e95) [(96, _)] (forall_cons e96 <| forall_nil) (fun ρ e ⟨c1, c2⟩ => by (try simp only [List.forall_mem_cons] at e); go_simp) (H97.out _ hN) (fun e w1 h => ?_)
    obtain ⟨rfl, rfl⟩ := h
    exact ⟨_, rfl, Nw.refl _, rfl⟩
  · intro a w hN old new
    obtain ⟨y95, e95, g95⟩ := new 29 95 rfl rfl
    obtain rfl : y95 = .bool true := g95
    have e9 := old 9 (.slice (some ⟨pg, po, none⟩) (nq + 1) pc) rfl hA9
    exact OpOk.val (.slice (some ⟨pg, po, none⟩) (nq + 1) pc) (tab_yes hL rfl rfl e95) [(9, _)] (forall_cons e9 <| forall_nil) (fun ρ e ⟨c1, c2⟩ => by (try simp only [List.forall_mem_cons] at e); go_simp) ⟨Nw.refl _, rfl⟩
  · intro a w hN old new
    obtain ⟨y95, e95, g95⟩ := new 29 95 rfl rfl
    obtain rfl : y95 = .bool true := g95
    have e9 := old 9 (.slice (some ⟨pg, po, none⟩) (nq + 1) pc) rfl hA9
    exact OpOk.val (.slice (some ⟨pg, po, none⟩) (nq + 1) pc) (tab_yes hL rfl rfl e95) [(9, _)] (forall_cons e9 <| forall_nil) (fun ρ e ⟨c1, c2⟩ => by (try simp only [List.forall_mem_cons] at e); go_simp) ⟨Nw.refl _, rfl⟩
  · intro a w hN old new
    obtain ⟨y95, e95, g95⟩ := new 29 95 rfl rfl
    obtain rfl : y95 = .bool true := g95
    obtain ⟨y99, e99, g99⟩ := new 33 99 rfl rfl
    obtain rfl : y99 = .slice (some ⟨pg, po, none⟩) (nq + 1) pc := g99
    exact OpOk.val (.int .i64 ((nq + 1 : Nat) : Int)) (tab_yes hL rfl rfl e95) [(99, _)] (forall_cons e99 <| forall_nil) (fun ρ e ⟨c1, c2⟩ => by (try simp only [List.forall_mem_cons] at e); go_simp) ⟨Nw.refl _, rfl⟩
  · intro a w hN old new
    obtain ⟨y95, e95, g95⟩ := new 29 95 rfl rfl
    obtain rfl : y95 = .bool true := g95
    obtain ⟨y100, e100, g100⟩ := new 34 100 rfl rfl
    obtain rfl : y100 = .int .i64 ((nq + 1 : Nat) : Int) := g100
    have hi := (IntWalk.i64_in (nq : Int) (by omega))
    exact OpOk.val (.int .i64 nq) (tab_yes hL rfl rfl e95) [(100, _)] (forall_cons e100 <| forall_nil) (fun ρ e ⟨c1, c2⟩ => by (try simp only [List.forall_mem_cons] at e); go_simp) ⟨Nw.refl _, rfl⟩
  · intro a w hN old new
    obtain ⟨y95, e95, g95⟩ := new 29 95 rfl rfl
    obtain rfl : y95 = .bool true := g95
    obtain ⟨y98, e98, g98⟩ := new 32 98 rfl rfl
    obtain rfl : y98 = .slice (some ⟨pg, po, none⟩) (nq + 1) pc := g98
    obtain ⟨y101, e101, g101⟩ := new 35 101 rfl rfl
    obtain rfl : y101 = .int .i64 nq := g101
    have hq1 : ¬ ((nq : Int) + 1 ≤ (nq : Int)) := (by omega)
    exact OpOk.val (.pointer (some ⟨pg, po + nq * 4, none⟩)) (tab_yes hL rfl rfl e95) [(98, _), (101, _)] (forall_cons e98 <| forall_cons e101 <| forall_nil) (fun ρ e ⟨c1, c2⟩ => by (try simp only [List.forall_mem_cons] at e); go_simp) ⟨Nw.refl _, rfl⟩
  · intro a w hN old new
    obtain ⟨y95, e95, g95⟩ := new 29 95 rfl rfl
    obtain rfl : y95 = .bool true := g95
    obtain ⟨y102, e102, g102⟩ := new 36 102 rfl rfl
    obtain rfl : y102 = .pointer (some ⟨pg, po + nq * 4, none⟩) := g102
    exact OpOk.val (.pointer (some ⟨pg, po + nq * 4 + 1, none⟩)) (tab_yes hL rfl rfl e95) [(102, _)] (forall_cons e102 <| forall_nil) (fun ρ e ⟨c1, c2⟩ => by (try simp only [List.forall_mem_cons] at e); go_simp) ⟨Nw.refl _, rfl⟩
  · intro a w hN old new
    obtain ⟨y95, e95, g95⟩ := new 29 95 rfl rfl
    obtain rfl : y95 = .bool true := g95
    obtain ⟨y103, e103, g103⟩ := new 37 103 rfl rfl
    obtain rfl : y103 = .pointer (some ⟨pg, po + nq * 4 + 1, none⟩) := g103
    have hc := hN.cell HCp.out
    have hl := Nat.lt_of_lt_of_le HG.out hN.size
    exact OpOk.val (.int .i64 fi) (tab_yes hL rfl rfl e95) [(103, _)] (forall_cons e103 <| forall_nil) (fun ρ e ⟨c1, c2⟩ => by (try simp only [List.forall_mem_cons] at e); go_simp) ⟨Nw.refl _, rfl⟩
  · intro a w hN old new
    obtain ⟨y95, e95, g95⟩ := new 29 95 rfl rfl
    obtain rfl : y95 = .bool true := g95
    obtain ⟨y97, e97, g97⟩ := new 31 97 rfl rfl
    obtain rfl : y97 = .int .i64 ak := g97
    obtain ⟨y104, e104, g104⟩ := new 38 104 rfl rfl
    obtain rfl : y104 = .int .i64 fi := g104
    exact OpOk.val (.bool true) (tab_yes hL rfl rfl e95) [(97, _), (104, _)] (forall_cons e97 <| forall_cons e104 <| forall_nil) (fun ρ e ⟨c1, c2⟩ => by (try simp only [List.forall_mem_cons] at e); (first | (go_simp; done) | (go_simp; omega))) ⟨Nw.refl _, rfl⟩
  · intro a w hN old new
    obtain ⟨y95, e95, g95⟩ := new 29 95 rfl rfl
    obtain rfl : y95 = .bool true := g95
    obtain ⟨y105, e105, g105⟩ := new 39 105 rfl rfl
    obtain rfl : y105 = .bool true := g105
    exact OpOk.val (.bool true) (w_none rfl) [(95, _), (105, _)] (forall_cons e95 <| forall_cons e105 <| forall_nil) (fun ρ e ⟨c1, c2⟩ => by (try simp only [List.forall_mem_cons] at e); go_simp) ⟨Nw.refl _, rfl⟩
  · intro a w hN old new
    obtain ⟨y106, e106, g106⟩ := new 40 106 rfl rfl
    obtain rfl : y106 = .bool true := g106
    exact OpOk.val (.bool true) (w_none rfl) [(106, _)] (forall_cons e106 <| forall_nil) (fun ρ e ⟨c1, c2⟩ => by (try simp only [List.forall_mem_cons] at e); go_simp) ⟨Nw.refl _, rfl⟩
  · intro a w hN old new
    obtain ⟨y107, e107, g107⟩ := new 41 107 rfl rfl
    obtain rfl : y107 = .bool true := g107
    have e6 := old 6 (.pointer (some ⟨p, 0, none⟩)) rfl hA6
    exact OpOk.val (.pointer (some ⟨p, 0, none⟩)) (tab_yes hL rfl rfl e107) [(6, _)] (forall_cons e6 <| forall_nil) (fun ρ e ⟨c1, c2⟩ => by (try simp only [List.forall_mem_cons] at e); go_simp) ⟨Nw.refl _, rfl⟩
  · intro a w hN old new
    obtain ⟨y107, e107, g107⟩ := new 41 107 rfl rfl
    obtain rfl : y107 = .bool true := g107
    obtain ⟨y108, e108, g108⟩ := new 42 108 rfl rfl
    obtain rfl : y108 = .pointer (some ⟨p, 0, none⟩) := g108
    refine OpOk.call (tab_yes hL rfl rfl e107) [(108, _)] (forall_cons e108 <| forall_nil) (fun ρ e ⟨c1, c2⟩ => by (try simp only [List.forall_mem_cons] at e); go_simp) (H109.out _ hN) (fun e w1 h => ?_)
    obtain ⟨rfl, rfl⟩ := h
    exact ⟨_, rfl, Nw.refl _, rfl⟩
  · intro a w hN old new
    obtain ⟨y107, e107, g107⟩ := new 41 107 rfl rfl
    obtain rfl : y107 = .bool true := g107
    have e7 := old 7 (.slice sa ln sc) rfl hA7
    exact OpOk.val (.slice sa ln sc) (tab_yes hL rfl rfl e107) [(7, _)] (forall_cons e7 <| forall_nil) (fun ρ e ⟨c1, c2⟩ => by (try simp only [List.forall_mem_cons] at e); go_simp) ⟨Nw.refl _, rfl⟩
  · intro a w hN old new
    obtain ⟨y107, e107, g107⟩ := new 41 107 rfl rfl
    obtain rfl : y107 = .bool true := g107
    obtain ⟨y110, e110, g110⟩ := new 44 110 rfl rfl
    obtain rfl : y110 = .slice sa ln sc := g110
    exact OpOk.val (.int .i64 ln) (tab_yes hL rfl rfl e107) [(110, _)] (forall_cons e110 <| forall_nil) (fun ρ e ⟨c1, c2⟩ => by (try simp only [List.forall_mem_cons] at e); go_simp) ⟨Nw.refl _, rfl⟩
  · intro a w hN old new
    obtain ⟨y107, e107, g107⟩ := new 41 107 rfl rfl
    obtain rfl : y107 = .bool true := g107
    obtain ⟨y109, e109, g109⟩ := new 43 109 rfl rfl
    obtain rfl : y109 = .int .i64 ln := g109
    obtain ⟨y111, e111, g111⟩ := new 45 111 rfl rfl
    obtain rfl : y111 = .int .i64 ln := g111
    exact OpOk.val (.bool true) (tab_yes hL rfl rfl e107) [(109, _), (111, _)] (forall_cons e109 <| forall_cons e111 <| forall_nil) (fun ρ e ⟨c1, c2⟩ => by (try simp only [List.forall_mem_cons] at e); (first | (go_simp; done) | (go_simp; omega))) ⟨Nw.refl _, rfl⟩
  · intro a w hN old new
    obtain ⟨y107, e107, g107⟩ := new 41 107 rfl rfl
    obtain rfl : y107 = .bool true := g107
    obtain ⟨y112, e112, g112⟩ := new 46 112 rfl rfl
    obtain rfl : y112 = .bool true := g112
    exact OpOk.val (.bool true) (w_none rfl) [(107, _), (112, _)] (forall_cons e107 <| forall_cons e112 <| forall_nil) (fun ρ e ⟨c1, c2⟩ => by (try simp only [List.forall_mem_cons] at e); go_simp) ⟨Nw.refl _, rfl⟩
  · intro a w hN old new
    obtain ⟨y113, e113, g113⟩ := new 47 113 rfl rfl
    obtain rfl : y113 = .bool true := g113
    exact OpOk.val (.bool true) (w_none rfl) [(113, _)] (forall_cons e113 <| forall_nil) (fun ρ e ⟨c1, c2⟩ => by (try simp only [List.forall_mem_cons] at e); go_simp) ⟨Nw.refl _, rfl⟩
  · intro a w hN old new
    obtain ⟨y114, e114, g114⟩ := new 48 114 rfl rfl
    obtain rfl : y114 = .bool true := g114
    have e7 := old 7 (.slice sa ln sc) rfl hA7
    exact OpOk.val (.slice sa ln sc) (tab_yes hL rfl rfl e114) [(7, _)] (forall_cons e7 <| forall_nil) (fun ρ e ⟨c1, c2⟩ => by (try simp only [List.forall_mem_cons] at e); go_simp) ⟨Nw.refl _, rfl⟩
  · intro a w hN old new
    obtain ⟨y114, e114, g114⟩ := new 48 114 rfl rfl
    obtain rfl : y114 = .bool true := g114
    obtain ⟨y115, e115, g115⟩ := new 49 115 rfl rfl
    obtain rfl : y115 = .slice sa ln sc := g115
    exact OpOk.val (.int .i64 ln) (tab_yes hL rfl rfl e114) [(115, _)] (forall_cons e115 <| forall_nil) (fun ρ e ⟨c1, c2⟩ => by (try simp only [List.forall_mem_cons] at e); go_simp) ⟨Nw.refl _, rfl⟩
  · intro a w hN old new
    obtain ⟨y114, e114, g114⟩ := new 48 114 rfl rfl
    obtain rfl : y114 = .bool true := g114
    obtain ⟨y116, e116, g116⟩ := new 50 116 rfl rfl
    obtain rfl : y116 = .int .i64 ln := g116
    exact OpOk.val (.bool true) (tab_yes hL rfl rfl e114) [(116, _)] (forall_cons e116 <| forall_nil) (fun ρ e ⟨c1, c2⟩ => by (try simp only [List.forall_mem_cons] at e); (first | (go_simp; done) | (go_simp; omega))) ⟨Nw.refl _, rfl⟩
  · intro a w hN old new
    obtain ⟨y114, e114, g114⟩ := new 48 114 rfl rfl
    obtain rfl : y114 = .bool true := g114
    obtain ⟨y117, e117, g117⟩ := new 51 117 rfl rfl
    obtain rfl : y117 = .bool true := g117
    exact OpOk.val (.bool true) (tab_yes hL rfl rfl e114) [(117, _)] (forall_cons e117 <| forall_nil) (fun ρ e ⟨c1, c2⟩ => by (try simp only [List.forall_mem_cons] at e); go_simp) ⟨Nw.refl _, rfl⟩
  · intro a w hN old new
    obtain ⟨y118, e118, g118⟩ := new 52 118 rfl rfl
    obtain rfl : y118 = .bool true := g118
    exact OpOk.skip (tab_no hL rfl rfl e118) ⟨Nw.refl _, rfl⟩
  · intro a w hN old new
    obtain ⟨y118, e118, g118⟩ := new 52 118 rfl rfl
    obtain rfl : y118 = .bool true := g118
    exact OpOk.skip (tab_no hL rfl rfl e118) ⟨Nw.refl _, rfl⟩
  · intro a w hN old new
    obtain ⟨y118, e118, g118⟩ := new 52 118 rfl rfl
    obtain rfl : y118 = .bool true := g118
    exact OpOk.skip (tab_no hL rfl rfl e118) ⟨Nw.refl _, rfl⟩
  · intro a w hN old new
    obtain ⟨y118, e118, g118⟩ := new 52 118 rfl rfl
    obtain rfl : y118 = .bool true := g118
    exact OpOk.skip (tab_no hL rfl rfl e118) ⟨Nw.refl _, rfl⟩
  · intro a w hN old new
    obtain ⟨y118, e118, g118⟩ := new 52 118 rfl rfl
    obtain rfl : y118 = .bool true := g118
    exact OpOk.skip (tab_no hL rfl rfl e118) ⟨Nw.refl _, rfl⟩
  · intro a w hN old new
    obtain ⟨y118, e118, g118⟩ := new 52 118 rfl rfl
    obtain rfl : y118 = .bool true := g118
    exact OpOk.skip (tab_no hL rfl rfl e118) ⟨Nw.refl _, rfl⟩
  · intro a w hN old new
    obtain ⟨y118, e118, g118⟩ := new 52 118 rfl rfl
    obtain rfl : y118 = .bool true := g118
    exact OpOk.skip (tab_no hL rfl rfl e118) ⟨Nw.refl _, rfl⟩
  · intro a w hN old new
    obtain ⟨y118, e118, g118⟩ := new 52 118 rfl rfl
    obtain rfl : y118 = .bool true := g118
    exact OpOk.skip (tab_no hL rfl rfl e118) ⟨Nw.refl _, rfl⟩
  · intro a w hN old new
    obtain ⟨y118, e118, g118⟩ := new 52 118 rfl rfl
    obtain rfl : y118 = .bool true := g118
    exact OpOk.skip (tab_no hL rfl rfl e118) ⟨Nw.refl _, rfl⟩
  · intro a w hN old new
    obtain ⟨y118, e118, g118⟩ := new 52 118 rfl rfl
    obtain rfl : y118 = .bool true := g118
    exact OpOk.skip (tab_no hL rfl rfl e118) ⟨Nw.refl _, rfl⟩
  · intro a w hN old new
    obtain ⟨y114, e114, g114⟩ := new 48 114 rfl rfl
    obtain rfl : y114 = .bool true := g114
    obtain ⟨y118, e118, g118⟩ := new 52 118 rfl rfl
    obtain rfl : y118 = .bool true := g118
    obtain ⟨y128, e128, g128⟩ := new 62 128 rfl rfl
    obtain rfl : y128 = undef := g128
    exact OpOk.val (.bool true) (tab_yes hL rfl rfl e114) [(118, _), (128, _)] (forall_cons e118 <| forall_cons e128 <| forall_nil) (fun ρ e ⟨c1, c2⟩ => by (try simp only [List.forall_mem_cons] at e); go_simp) ⟨Nw.refl _, rfl⟩
  · intro a w hN old new
    obtain ⟨y114, e114, g114⟩ := new 48 114 rfl rfl
    obtain rfl : y114 = .bool true := g114
    obtain ⟨y129, e129, g129⟩ := new 63 129 rfl rfl
    obtain rfl : y129 = .bool true := g129
    exact OpOk.val (.bool true) (w_none rfl) [(114, _), (129, _)] (forall_cons e114 <| forall_cons e129 <| forall_nil) (fun ρ e ⟨c1, c2⟩ => by (try simp only [List.forall_mem_cons] at e); go_simp) ⟨Nw.refl _, rfl⟩
  · intro a w hN old new
    obtain ⟨y130, e130, g130⟩ := new 64 130 rfl rfl
    obtain rfl : y130 = .bool true := g130
    exact OpOk.val (.bool true) (w_none rfl) [(130, _)] (forall_cons e130 <| forall_nil) (fun ρ e ⟨c1, c2⟩ => by (try simp only [List.forall_mem_cons] at e); go_simp) ⟨Nw.refl _, rfl⟩
  · intro a w hN old new
    obtain ⟨y131, e131, g131⟩ := new 65 131 rfl rfl
    obtain rfl : y131 = .bool true := g131
    refine OpOk.call (tab_yes hL rfl rfl e131) [] (forall_nil) (fun ρ e ⟨c1, c2⟩ => by (try simp only [List.forall_mem_cons] at e); go_simp) (H132.out _ hN) (fun e w1 h => ?_)
    obtain ⟨rfl, n1⟩ := h
    exact ⟨_, rfl, n1, rfl⟩
  · intro a w hN old new
    obtain ⟨y131, e131, g131⟩ := new 65 131 rfl rfl
    obtain rfl : y131 = .bool true := g131
    obtain ⟨y132, e132, g132⟩ := new 66 132 rfl rfl
    obtain rfl : y132 = .bool true := g132
    exact OpOk.val (.bool true) (w_none rfl) [(131, _), (132, _)] (forall_cons e131 <| forall_cons e132 <| forall_nil) (fun ρ e ⟨c1, c2⟩ => by (try simp only [List.forall_mem_cons] at e); go_simp) ⟨Nw.refl _, rfl⟩
  · intro a w hN old new
    obtain ⟨y133, e133, g133⟩ := new 67 133 rfl rfl
    obtain rfl : y133 = .bool true := g133
    exact OpOk.val (.bool true) (w_none rfl) [(133, _)] (forall_cons e133 <| forall_nil) (fun ρ e ⟨c1, c2⟩ => by (try simp only [List.forall_mem_cons] at e); go_simp) ⟨Nw.refl _, rfl⟩
  · intro a w hN hsz hdf old new
    obtain ⟨y4, e4, g4⟩ := new 68 4 rfl
    exact tab_frame (frame_lit (dst := [66, 67, 68, 69, 70, 71, 72, 73, 74, 75, 76, 77, 78, 79, 80, 81, 82, 83, 84, 85, 86, 87, 88, 89, 90, 91, 92, 93, 94, 95, 96, 97, 98, 99, 100, 101, 102, 103, 104, 105, 106, 107, 108, 109, 110, 111, 112, 113, 114, 115, 116, 117, 118, 119, 120, 121, 122, 123, 124, 125, 126, 127, 128, 129, 130, 131, 132, 133, 4]) (l := [u0, u1, u2, u3, u4, .pointer (some ⟨b, 0, none⟩), .pointer (some ⟨p, 0, none⟩), .slice sa ln sc, u8, .slice (some ⟨pg, po, none⟩) (nq + 1) pc, u10, u11, u12, u13, u14, .int .i64 0, .slice la (nq + 1) lc, .int .i64 0, u18, u19, u20, u21, u22, u23, u24, u25, u26, u27, u28, u29, u30, u31, u32, u33, u34, u35, u36, u37, u38, u39, u40, u41, u42, u43, u44, u45, u46, u47, u48, u49, u50, u51, u52, u53, u54, u55, u56, u57, u58, u59, u60, u61, u62, u63, u64, u65, u66, u67, u68, u69, u70, u71, u72, u73, u74, u75, u76, u77, u78, u79, u80, u81, u82, u83, u84, u85, u86, u87, u88, u89, u90, u91, u92, u93, u94, u95, u96, u97, u98, u99, u100, u101, u102, u103, u104, u105, u106, u107, u108, u109, u110, u111, u112, u113, u114, u115, u116, u117, u118, u119, u120, u121, u122, u123, u124, u125, u126, u127, u128, u129, u130, u131, u132, u133]) hA hsz hdf old (l' := [u0, u1, u2, u3, (a.tmps[4]?.getD undef), .pointer (some ⟨b, 0, none⟩), .pointer (some ⟨p, 0, none⟩), .slice sa ln sc, u8, .slice (some ⟨pg, po, none⟩) (nq + 1) pc, u10, u11, u12, u13, u14, .int .i64 0, .slice la (nq + 1) lc, .int .i64 0, u18, u19, u20, u21, u22, u23, u24, u25, u26, u27, u28, u29, u30, u31, u32, u33, u34, u35, u36, u37, u38, u39, u40, u41, u42, u43, u44, u45, u46, u47, u48, u49, u50, u51, u52, u53, u54, u55, u56, u57, u58, u59, u60, u61, u62, u63, u64, u65, (a.tmps[66]?.getD undef), (a.tmps[67]?.getD undef), (a.tmps[68]?.getD undef), (a.tmps[69]?.getD undef), (a.tmps[70]?.getD undef), (a.tmps[71]?.getD undef), (a.tmps[72]?.getD undef), (a.tmps[73]?.getD undef), (a.tmps[74]?.getD undef), (a.tmps[75]?.getD undef), (a.tmps[76]?.getD undef), (a.tmps[77]?.getD undef), (a.tmps[78]?.getD undef), (a.tmps[79]?.getD undef), (a.tmps[80]?.getD undef), (a.tmps[81]?.getD undef), (a.tmps[82]?.getD undef), (a.tmps[83]?.getD undef), (a.tmps[84]?.getD undef), (a.tmps[85]?.getD undef), (a.tmps[86]?.getD undef), (a.tmps[87]?.getD undef), (a.tmps[88]?.getD undef), (a.tmps[89]?.getD undef), (a.tmps[90]?.getD undef), (a.tmps[91]?.getD undef), (a.tmps[92]?.getD undef), (a.tmps[93]?.getD undef), (a.tmps[94]?.getD undef), (a.tmps[95]?.getD undef), (a.tmps[96]?.getD undef), (a.tmps[97]?.getD undef), (a.tmps[98]?.getD undef), (a.tmps[99]?.getD undef), (a.tmps[100]?.getD undef), (a.tmps[101]?.getD undef), (a.tmps[102]?.getD undef), (a.tmps[103]?.getD undef), (a.tmps[104]?.getD undef), (a.tmps[105]?.getD undef), (a.tmps[106]?.getD undef), (a.tmps[107]?.getD undef), (a.tmps[108]?.getD undef), (a.tmps[109]?.getD undef), (a.tmps[110]?.getD undef), (a.tmps[111]?.getD undef), (a.tmps[112]?.getD undef), (a.tmps[113]?.getD undef), (a.tmps[114]?.getD undef), (a.tmps[115]?.getD undef), (a.tmps[116]?.getD undef), (a.tmps[117]?.getD undef), (a.tmps[118]?.getD undef), (a.tmps[119]?.getD undef), (a.tmps[120]?.getD undef), (a.tmps[121]?.getD undef), (a.tmps[122]?.getD undef), (a.tmps[123]?.getD undef), (a.tmps[124]?.getD undef), (a.tmps[125]?.getD undef), (a.tmps[126]?.getD undef), (a.tmps[127]?.getD undef), (a.tmps[128]?.getD undef), (a.tmps[129]?.getD undef), (a.tmps[130]?.getD undef), (a.tmps[131]?.getD undef), (a.tmps[132]?.getD undef), (a.tmps[133]?.getD undef)]) (by kernel_rfl)) (HQ.out _ _ _ _ _ _ _ _ _ _ _ _ _ _ _ _ _ _ _ _ _ _ _ _ _ _ _ _ _ _ _ _ _ _ _ _ _ _ _ _ _ _ _ _ _ _ _ _ _ _ _ _ _ _ _ _ _ _ _ _ _ _ _ _ _ _ _ _ _ w hN (by rw [e4]; exact g4))
set_option maxHeartbeats 1600000 in
theorem r18_some {w6 : World} {b p pg po nq pc ln sc lc ak : Nat} {sa la : Option Addr} {fi : Int} (hnq : nq ≤ 1000)
    (H71 : Hid (∀ W, Nw w6 W → Calls Tryz.prog 16 #[.slice (some ⟨pg, po, none⟩) (nq + 1) pc] W fun e w' => e = .returned (.bool true) ∧ Nw W w'))
    (H75 : Hid (∀ W, Nw w6 W → Calls Tryz.prog 13 #[.pointer (some ⟨b, 0, none⟩)] W fun e w' => ∃ ax cx, e = .returned (.slice ax (nq + 2) cx) ∧ Nw W w'))
    (H93 : Hid (∀ W, Nw w6 W → Calls Tryz.prog 17 #[.slice la (nq + 1) lc, .slice (some ⟨pg, po, none⟩) (nq + 1) pc] W fun e w' => e = .returned (.bool true) ∧ Nw W w'))
    (H97 : Hid (∀ W, Nw w6 W → Calls Tryz.prog 18 #[.pointer (some ⟨p, 0, none⟩)] W fun e w' => e = .returned (.int .i64 ak) ∧ W = w'))
    (H109 : Hid (∀ W, Nw w6 W → Calls Tryz.prog 19 #[.pointer (some ⟨p, 0, none⟩)] W fun e w' => e = .returned (.int .i64 ln) ∧ W = w'))
    (H132 : Hid (∀ W, Nw w6 W → Calls Tryz.prog 20 #[] W fun e w' => e = .returned (.bool true) ∧ Nw W w'))
    (HCp : Hid (w6.cell? ⟨pg, po + nq * 4 + 1, none⟩ = some (.int .i64 fi))) (HG : Hid (pg < w6.heap.size)) (h1 : fi ≤ (ak : Int)) (h2 : ln ≠ 0) (h3 : fi < (ln : Int))
    {u0 u1 u2 u3 u4 u8 u10 u11 u12 u13 u14 u18 u19 u20 u21 u22 u23 u24 u25 u26 u27 u28 u29 u30 u31 u32 u33 u34 u35 u36 u37 u38 u39 u40 u41 u42 u43 u44 u45 u46 u47 u48 u49 u50 u51 u52 u53 u54 u55 u56 u57 u58 u59 u60 u61 u62 u63 u64 u65 u66 u67 u68 u69 u70 u71 u72 u73 u74 u75 u76 u77 u78 u79 u80 u81 u82 u83 u84 u85 u86 u87 u88 u89 u90 u91 u92 u93 u94 u95 u96 u97 u98 u99 u100 u101 u102 u103 u104 u105 u106 u107 u108 u109 u110 u111 u112 u113 u114 u115 u116 u117 u118 u119 u120 u121 u122 u123 u124 u125 u126 u127 u128 u129 u130 u131 u132 u133 : Value} {Q : Exit → Act → World → Prop}
    (hQ : ∀ (s4 s66 s67 s68 s69 s70 s71 s72 s73 s74 s75 s76 s77 s78 s79 s80 s81 s82 s83 s84 s85 s86 s87 s88 s89 s90 s91 s92 s93 s94 s95 s96 s97 s98 s99 s100 s101 s102 s103 s104 s105 s106 s107 s108 s109 s110 s111 s112 s113 s114 s115 s116 s117 s118 s119 s120 s121 s122 s123 s124 s125 s126 s127 s128 s129 s130 s131 s132 s133 : Value) (wx : World), Nw w6 wx → s4 = .bool true → Q .normal ⟨#[u0, u1, u2, u3, s4, .pointer (some ⟨b, 0, none⟩), .pointer (some ⟨p, 0, none⟩), .slice sa ln sc, u8, .slice (some ⟨pg, po, none⟩) (nq + 1) pc, u10, u11, u12, u13, u14, .int .i64 0, .slice la (nq + 1) lc, .int .i64 0, u18, u19, u20, u21, u22, u23, u24, u25, u26, u27, u28, u29, u30, u31, u32, u33, u34, u35, u36, u37, u38, u39, u40, u41, u42, u43, u44, u45, u46, u47, u48, u49, u50, u51, u52, u53, u54, u55, u56, u57, u58, u59, u60, u61, u62, u63, u64, u65, s66, s67, s68, s69, s70, s71, s72, s73, s74, s75, s76, s77, s78, s79, s80, s81, s82, s83, s84, s85, s86, s87, s88, s89, s90, s91, s92, s93, s94, s95, s96, s97, s98, s99, s100, s101, s102, s103, s104, s105, s106, s107, s108, s109, s110, s111, s112, s113, s114, s115, s116, s117, s118, s119, s120, s121, s122, s123, s124, s125, s126, s127, s128, s129, s130, s131, s132, s133], []⟩ wx) :
    Code.wp Tryz.prog ((Tryz.f3.body.bind (regionOf 18)).getD .skip) Q ⟨#[u0, u1, u2, u3, u4, .pointer (some ⟨b, 0, none⟩), .pointer (some ⟨p, 0, none⟩), .slice sa ln sc, u8, .slice (some ⟨pg, po, none⟩) (nq + 1) pc, u10, u11, u12, u13, u14, .int .i64 0, .slice la (nq + 1) lc, .int .i64 0, u18, u19, u20, u21, u22, u23, u24, u25, u26, u27, u28, u29, u30, u31, u32, u33, u34, u35, u36, u37, u38, u39, u40, u41, u42, u43, u44, u45, u46, u47, u48, u49, u50, u51, u52, u53, u54, u55, u56, u57, u58, u59, u60, u61, u62, u63, u64, u65, u66, u67, u68, u69, u70, u71, u72, u73, u74, u75, u76, u77, u78, u79, u80, u81, u82, u83, u84, u85, u86, u87, u88, u89, u90, u91, u92, u93, u94, u95, u96, u97, u98, u99, u100, u101, u102, u103, u104, u105, u106, u107, u108, u109, u110, u111, u112, u113, u114, u115, u116, u117, u118, u119, u120, u121, u122, u123, u124, u125, u126, u127, u128, u129, u130, u131, u132, u133], []⟩ w6 := by
  dsimp only at hQ ⊢
  conv => arg 2; whnf
  have HQ := Lib.hid hQ
  clear hQ
  refine name_act fun A hA => ?_
  have hA5 : A.tmps[5]? = some (.pointer (some ⟨b, 0, none⟩)) := by rw [hA]; rfl
  have hA6 : A.tmps[6]? = some (.pointer (some ⟨p, 0, none⟩)) := by rw [hA]; rfl
  have hA7 : A.tmps[7]? = some (.slice sa ln sc) := by rw [hA]; rfl
  have hA9 : A.tmps[9]? = some (.slice (some ⟨pg, po, none⟩) (nq + 1) pc) := by rw [hA]; rfl
  have hA15 : A.tmps[15]? = some (.int .i64 0) := by rw [hA]; rfl
  have hA16 : A.tmps[16]? = some (.slice la (nq + 1) lc) := by rw [hA]; rfl
  have hA17 : A.tmps[17]? = some (.int .i64 0) := by rw [hA]; rfl
  have hlt0 : ∀ d ∈ ([66, 67, 68, 69, 70, 71, 72, 73, 74, 75, 76, 77, 78, 79, 80, 81, 82, 83, 84, 85, 86, 87, 88, 89, 90, 91, 92, 93, 94, 95, 96, 97, 98, 99, 100, 101, 102, 103, 104, 105, 106, 107, 108, 109, 110, 111, 112, 113, 114, 115, 116, 117, 118, 119, 120, 121, 122, 123, 124, 125, 126, 127, 128, 129, 130, 131, 132, 133, 4] : List Nat), d < 134 := by decide
  refine wp_region_tab [66, 67, 68, 69, 70, 71, 72, 73, 74, 75, 76, 77, 78, 79, 80, 81, 82, 83, 84, 85, 86, 87, 88, 89, 90, 91, 92, 93, 94, 95, 96, 97, 98, 99, 100, 101, 102, 103, 104, 105, 106, 107, 108, 109, 110, 111, 112, 113, 114, 115, 116, 117, 118, 119, 120, 121, 122, 123, 124, 125, 126, 127, 128, 129, 130, 131, 132, 133, 4] [isV (.slice (some ⟨pg, po, none⟩) (nq + 1) pc), isV (.int .i64 ((nq + 1 : Nat) : Int)), isV (.bool true), isV (.bool true), isV (.slice (some ⟨pg, po, none⟩) (nq + 1) pc), isV (.bool true), isV (.bool true), isV (.bool true), isV (.pointer (some ⟨b, 0, none⟩)), (⟨fun x w => ∃ a c, x = .slice a (nq + 2) c, fun x w w' h n => h⟩), isV (.int .i64 ((nq + 2 : Nat) : Int)), isV (.slice (some ⟨pg, po, none⟩) (nq + 1) pc), isV (.int .i64 ((nq + 1 : Nat) : Int)), isV (.int .i64 ((nq + 2 : Nat) : Int)), isV (.bool true), isV (.bool true), isV (.bool true), isV (.int .i64 0), isV (.bool true), isV (.bool true), isV (.bool true), isV (.int .i64 0), isV (.bool true), isV (.bool true), isV (.bool true), isV (.slice la (nq + 1) lc), isV (.slice (some ⟨pg, po, none⟩) (nq + 1) pc), isV (.bool true), isV (.bool true), isV (.bool true), isV (.pointer (some ⟨p, 0, none⟩)), isV (.int .i64 ak), isV (.slice (some ⟨pg, po, none⟩) (nq + 1) pc), isV (.slice (some ⟨pg, po, none⟩) (nq + 1) pc), isV (.int .i64 ((nq + 1 : Nat) : Int)), isV (.int .i64 nq), isV (.pointer (some ⟨pg, po + nq * 4, none⟩)), isV (.pointer (some ⟨pg, po + nq * 4 + 1, none⟩)), isV (.int .i64 fi), isV (.bool true), isV (.bool true), isV (.bool true), isV (.pointer (some ⟨p, 0, none⟩)), isV (.int .i64 ln), isV (.slice sa ln sc), isV (.int .i64 ln), isV (.bool true), isV (.bool true), isV (.bool true), isV (.slice sa ln sc), isV (.int .i64 ln), isV (.bool false), isV (.bool false), isV (.pointer (some ⟨p, 0, none⟩)), isV (.int .i64 ln), isV (.slice (some ⟨pg, po, none⟩) (nq + 1) pc), isV (.slice (some ⟨pg, po, none⟩) (nq + 1) pc), isV (.int .i64 ((nq + 1 : Nat) : Int)), isV (.int .i64 nq), isV (.pointer (some ⟨pg, po + nq * 4, none⟩)), isV (.pointer (some ⟨pg, po + nq * 4 + 1, none⟩)), isV (.int .i64 fi), isV (.bool true), isV (.bool true), isV (.bool true), isV (.bool true), isV (.bool true), isV (.bool true), isV (.bool true)] (by kernel_rfl) (by kernel_rfl) (by kernel_rfl) (of_decide_eq_true (by kernel_rfl)) (fun d hd => by rw [hA]; exact hlt0 d hd) (fun L hL => ⟨?a0, ?a1, ?a2, ?a3, ?a4, ?a5, ?a6, ?a7, ?a8, ?a9, ?a10, ?a11, ?a12, ?a13, ?a14, ?a15, ?a16, ?a17, ?a18, ?a19, ?a20, ?a21, ?a22, ?a23, ?a24, ?a25, ?a26, ?a27, ?a28, ?a29, ?a30, ?a31, ?a32, ?a33, ?a34, ?a35, ?a36, ?a37, ?a38, ?a39, ?a40, ?a41, ?a42, ?a43, ?a44, ?a45, ?a46, ?a47, ?a48, ?a49, ?a50, ?a51, ?a52, ?a53, ?a54, ?a55, ?a56, ?a57, ?a58, ?a59, ?a60, ?a61, ?a62, ?a63, ?a64, ?a65, ?a66, ?a67, ?a68, trivial⟩) ?he
  · intro a w hN old new
    have e9 := old 9 (.slice (some ⟨pg, po, none⟩) (nq + 1) pc) rfl hA9
    exact OpOk.val (.slice (some ⟨pg, po, none⟩) (nq + 1) pc) (w_none rfl) [(9, _)] (forall_cons e9 <| forall_nil) (fun ρ e ⟨c1, c2⟩ => by (try simp only [List.forall_mem_cons] at e); go_simp) ⟨Nw.refl _, rfl⟩
  · intro a w hN old new
    obtain ⟨y66, e66, g66⟩ := new 0 66 rfl rfl
    obtain rfl : y66 = .slice (some ⟨pg, po, none⟩) (nq + 1) pc := g66
    exact OpOk.val (.int .i64 ((nq + 1 : Nat) : Int)) (w_none rfl) [(66, _)] (forall_cons e66 <| forall_nil) (fun ρ e ⟨c1, c2⟩ => by (try simp only [List.forall_mem_cons] at e); go_simp) ⟨Nw.refl _, rfl⟩
  · intro a w hN old new
    obtain ⟨y67, e67, g67⟩ := new 1 67 rfl rfl
    obtain rfl : y67 = .int .i64 ((nq + 1 : Nat) : Int) := g67
    exact OpOk.val (.bool true) (w_none rfl) [(67, _)] (forall_cons e67 <| forall_nil) (fun ρ e ⟨c1, c2⟩ => by (try simp only [List.forall_mem_cons] at e); (first | (go_simp; done) | (go_simp; omega))) ⟨Nw.refl _, rfl⟩
  · intro a w hN old new
    obtain ⟨y68, e68, g68⟩ := new 2 68 rfl rfl
    obtain rfl : y68 = .bool true := g68
    exact OpOk.val (.bool true) (w_none rfl) [(68, _)] (forall_cons e68 <| forall_nil) (fun ρ e ⟨c1, c2⟩ => by (try simp only [List.forall_mem_cons] at e); go_simp) ⟨Nw.refl _, rfl⟩
  · intro a w hN old new
    obtain ⟨y69, e69, g69⟩ := new 3 69 rfl rfl
    obtain rfl : y69 = .bool true := g69
    have e9 := old 9 (.slice (some ⟨pg, po, none⟩) (nq + 1) pc) rfl hA9
    exact OpOk.val (.slice (some ⟨pg, po, none⟩) (nq + 1) pc) (tab_yes hL rfl rfl e69) [(9, _)] (forall_cons e9 <| forall_nil) (fun ρ e ⟨c1, c2⟩ => by (try simp only [List.forall_mem_cons] at e); go_simp) ⟨Nw.refl _, rfl⟩
  · intro a w hN old new
    obtain ⟨y69, e69, g69⟩ := new 3 69 rfl rfl
    obtain rfl : y69 = .bool true := g69
    obtain ⟨y70, e70, g70⟩ := new 4 70 rfl rfl
    obtain rfl : y70 = .slice (some ⟨pg, po, none⟩) (nq + 1) pc := g70
    refine OpOk.call (tab_yes hL rfl rfl e69) [(70, _)] (forall_cons e70 <| forall_nil) (fun ρ e ⟨c1, c2⟩ => by (try simp only [List.forall_mem_cons] at e); go_simp) (H71.out _ hN) (fun e w1 h => ?_)
    obtain ⟨rfl, n1⟩ := h
    exact ⟨_, rfl, n1, rfl⟩
  · intro a w hN old new
    obtain ⟨y69, e69, g69⟩ := new 3 69 rfl rfl
    obtain rfl : y69 = .bool true := g69
    obtain ⟨y71, e71, g71⟩ := new 5 71 rfl rfl
    obtain rfl : y71 = .bool true := g71
    exact OpOk.val (.bool true) (w_none rfl) [(69, _), (71, _)] (forall_cons e69 <| forall_cons e71 <| forall_nil) (fun ρ e ⟨c1, c2⟩ => by (try simp only [List.forall_mem_cons] at e); go_simp) ⟨Nw.refl _, rfl⟩
  · intro a w hN old new
    obtain ⟨y72, e72, g72⟩ := new 6 72 rfl rfl
    obtain rfl : y72 = .bool true := g72
    exact OpOk.val (.bool true) (w_none rfl) [(72, _)] (forall_cons e72 <| forall_nil) (fun ρ e ⟨c1, c2⟩ => by (try simp only [List.forall_mem_cons] at e); go_simp) ⟨Nw.refl _, rfl⟩
  · intro a w hN old new
    obtain ⟨y73, e73, g73⟩ := new 7 73 rfl rfl
    obtain rfl : y73 = .bool true := g73
    have e5 := old 5 (.pointer (some ⟨b, 0, none⟩)) rfl hA5
    exact OpOk.val (.pointer (some ⟨b, 0, none⟩)) (tab_yes hL rfl rfl e73) [(5, _)] (forall_cons e5 <| forall_nil) (fun ρ e ⟨c1, c2⟩ => by (try simp only [List.forall_mem_cons] at e); go_simp) ⟨Nw.refl _, rfl⟩
  · intro a w hN old new
    obtain ⟨y73, e73, g73⟩ := new 7 73 rfl rfl
    obtain rfl : y73 = .bool true := g73
    obtain ⟨y74, e74, g74⟩ := new 8 74 rfl rfl
    obtain rfl : y74 = .pointer (some ⟨b, 0, none⟩) := g74
    refine OpOk.call (tab_yes hL rfl rfl e73) [(74, _)] (forall_cons e74 <| forall_nil) (fun ρ e ⟨c1, c2⟩ => by (try simp only [List.forall_mem_cons] at e); go_simp) (H75.out _ hN) (fun e w1 h => ?_)
    obtain ⟨ax, cx, rfl, n1⟩ := h
    exact ⟨_, rfl, n1, ⟨ax, cx, rfl⟩⟩
  · intro a w hN old new
    obtain ⟨y73, e73, g73⟩ := new 7 73 rfl rfl
    obtain rfl : y73 = .bool true := g73
    obtain ⟨y75, e75, g75⟩ := new 9 75 rfl rfl
    obtain ⟨a0, c0, rfl⟩ := g75
    exact OpOk.val (.int .i64 ((nq + 2 : Nat) : Int)) (tab_yes hL rfl rfl e73) [(75, _)] (forall_cons e75 <| forall_nil) (fun ρ e ⟨c1, c2⟩ => by (try simp only [List.forall_mem_cons] at e); go_simp) ⟨Nw.refl _, rfl⟩
  · intro a w hN old new
    obtain ⟨y73, e73, g73⟩ := new 7 73 rfl rfl
    obtain rfl : y73 = .bool true := g73
    have e9 := old 9 (.slice (some ⟨pg, po, none⟩) (nq + 1) pc) rfl hA9
    exact OpOk.val (.slice (some ⟨pg, po, none⟩) (nq + 1) pc) (tab_yes hL rfl rfl e73) [(9, _)] (forall_cons e9 <| forall_nil) (fun ρ e ⟨c1, c2⟩ => by (try simp only [List.forall_mem_cons] at e); go_simp) ⟨Nw.refl _, rfl⟩
  · intro a w hN old new
    obtain ⟨y73, e73, g73⟩ := new 7 73 rfl rfl
    obtain rfl : y73 = .bool true := g73
    obtain ⟨y77, e77, g77⟩ := new 11 77 rfl rfl
    obtain rfl : y77 = .slice (some ⟨pg, po, none⟩) (nq + 1) pc := g77
    exact OpOk.val (.int .i64 ((nq + 1 : Nat) : Int)) (tab_yes hL rfl rfl e73) [(77, _)] (forall_cons e77 <| forall_nil) (fun ρ e ⟨c1, c2⟩ => by (try simp only [List.forall_mem_cons] at e); go_simp) ⟨Nw.refl _, rfl⟩
  · intro a w hN old new
    obtain ⟨y73, e73, g73⟩ := new 7 73 rfl rfl
    obtain rfl : y73 = .bool true := g73
    obtain ⟨y78, e78, g78⟩ := new 12 78 rfl rfl
    obtain rfl : y78 = .int .i64 ((nq + 1 : Nat) : Int) := g78
    have hi := (IntWalk.i64_in ((nq : Int) + 1 + 1) (by omega))
    exact OpOk.val (.int .i64 ((nq + 2 : Nat) : Int)) (tab_yes hL rfl rfl e73) [(78, _)] (forall_cons e78 <| forall_nil) (fun ρ e ⟨c1, c2⟩ => by (try simp only [List.forall_mem_cons] at e); (first | (go_simp; done) | (go_simp; omega))) ⟨Nw.refl _, rfl⟩
  · intro a w hN old new
    obtain ⟨y73, e73, g73⟩ := new 7 73 rfl rfl
    obtain rfl : y73 = .bool true := g73
    obtain ⟨y76, e76, g76⟩ := new 10 76 rfl rfl
    obtain rfl : y76 = .int .i64 ((nq + 2 : Nat) : Int) := g76
    obtain ⟨y79, e79, g79⟩ := new 13 79 rfl rfl
    obtain rfl : y79 = .int .i64 ((nq + 2 : Nat) : Int) := g79
    exact OpOk.val (.bool true) (tab_yes hL rfl rfl e73) [(76, _), (79, _)] (forall_cons e76 <| forall_cons e79 <| forall_nil) (fun ρ e ⟨c1, c2⟩ => by (try simp only [List.forall_mem_cons] at e); (first | (go_simp; done) | (go_simp; omega))) ⟨Nw.refl _, rfl⟩
  · intro a w hN old new
    obtain ⟨y73, e73, g73⟩ := new 7 73 rfl rfl
    obtain rfl : y73 = .bool true := g73
    obtain ⟨y80, e80, g80⟩ := new 14 80 rfl rfl
    obtain rfl : y80 = .bool true := g80
    exact OpOk.val (.bool true) (w_none rfl) [(73, _), (80, _)] (forall_cons e73 <| forall_cons e80 <| forall_nil) (fun ρ e ⟨c1, c2⟩ => by (try simp only [List.forall_mem_cons] at e); go_simp) ⟨Nw.refl _, rfl⟩
  · intro a w hN old new
    obtain ⟨y81, e81, g81⟩ := new 15 81 rfl rfl
    obtain rfl : y81 = .bool true := g81
    exact OpOk.val (.bool true) (w_none rfl) [(81, _)] (forall_cons e81 <| forall_nil) (fun ρ e ⟨c1, c2⟩ => by (try simp only [List.forall_mem_cons] at e); go_simp) ⟨Nw.refl _, rfl⟩
  · intro a w hN old new
    obtain ⟨y82, e82, g82⟩ := new 16 82 rfl rfl
    obtain rfl : y82 = .bool true := g82
    have e15 := old 15 (.int .i64 0) rfl hA15
    exact OpOk.val (.int .i64 0) (tab_yes hL rfl rfl e82) [(15, _)] (forall_cons e15 <| forall_nil) (fun ρ e ⟨c1, c2⟩ => by (try simp only [List.forall_mem_cons] at e); go_simp) ⟨Nw.refl _, rfl⟩
  · intro a w hN old new
    obtain ⟨y82, e82, g82⟩ := new 16 82 rfl rfl
    obtain rfl : y82 = .bool true := g82
    obtain ⟨y83, e83, g83⟩ := new 17 83 rfl rfl
    obtain rfl : y83 = .int .i64 0 := g83
    exact OpOk.val (.bool true) (tab_yes hL rfl rfl e82) [(83, _)] (forall_cons e83 <| forall_nil) (fun ρ e ⟨c1, c2⟩ => by (try simp only [List.forall_mem_cons] at e); (first | (go_simp; done) | (go_simp; omega))) ⟨Nw.refl _, rfl⟩
  · intro a w hN old new
    obtain ⟨y82, e82, g82⟩ := new 16 82 rfl rfl
    obtain rfl : y82 = .bool true := g82
    obtain ⟨y84, e84, g84⟩ := new 18 84 rfl rfl
    obtain rfl : y84 = .bool true := g84
    exact OpOk.val (.bool true) (w_none rfl) [(82, _), (84, _)] (forall_cons e82 <| forall_cons e84 <| forall_nil) (fun ρ e ⟨c1, c2⟩ => by (try simp only [List.forall_mem_cons] at e); go_simp) ⟨Nw.refl _, rfl⟩
  · intro a w hN old new
    obtain ⟨y85, e85, g85⟩ := new 19 85 rfl rfl
    obtain rfl : y85 = .bool true := g85
    exact OpOk.val (.bool true) (w_none rfl) [(85, _)] (forall_cons e85 <| forall_nil) (fun ρ e ⟨c1, c2⟩ => by (try simp only [List.forall_mem_cons] at e); go_simp) ⟨Nw.refl _, rfl⟩
  · intro a w hN old new
    obtain ⟨y86, e86, g86⟩ := new 20 86 rfl rfl
    obtain rfl : y86 = .bool true := g86
    have e17 := old 17 (.int .i64 0) rfl hA17
    exact OpOk.val (.int .i64 0) (tab_yes hL rfl rfl e86) [(17, _)] (forall_cons e17 <| forall_nil) (fun ρ e ⟨c1, c2⟩ => by (try simp only [List.forall_mem_cons] at e); go_simp) ⟨Nw.refl _, rfl⟩
  · intro a w hN old new
    obtain ⟨y86, e86, g86⟩ := new 20 86 rfl rfl
    obtain rfl : y86 = .bool true := g86
    obtain ⟨y87, e87, g87⟩ := new 21 87 rfl rfl
    obtain rfl : y87 = .int .i64 0 := g87
    exact OpOk.val (.bool true) (tab_yes hL rfl rfl e86) [(87, _)] (forall_cons e87 <| forall_nil) (fun ρ e ⟨c1, c2⟩ => by (try simp only [List.forall_mem_cons] at e); (first | (go_simp; done) | (go_simp; omega))) ⟨Nw.refl _, rfl⟩
  · intro a w hN old new
    obtain ⟨y86, e86, g86⟩ := new 20 86 rfl rfl
    obtain rfl : y86 = .bool true := g86
    obtain ⟨y88, e88, g88⟩ := new 22 88 rfl rfl
    obtain rfl : y88 = .bool true := g88
    exact OpOk.val (.bool true) (w_none rfl) [(86, _), (88, _)] (forall_cons e86 <| forall_cons e88 <| forall_nil) (fun ρ e ⟨c1, c2⟩ => by (try simp only [List.forall_mem_cons] at e); go_simp) ⟨Nw.refl _, rfl⟩
  · intro a w hN old new
    obtain ⟨y89, e89, g89⟩ := new 23 89 rfl rfl
    obtain rfl : y89 = .bool true := g89
    exact OpOk.val (.bool true) (w_none rfl) [(89, _)] (forall_cons e89 <| forall_nil) (fun ρ e ⟨c1, c2⟩ => by (try simp only [List.forall_mem_cons] at e); go_simp) ⟨Nw.refl _, rfl⟩
  · intro a w hN old new
    obtain ⟨y90, e90, g90⟩ := new 24 90 rfl rfl
    obtain rfl : y90 = .bool true := g90
    have e16 := old 16 (.slice la (nq + 1) lc) rfl hA16
    exact OpOk.val (.slice la (nq + 1) lc) (tab_yes hL rfl rfl e90) [(16, _)] (forall_cons e16 <| forall_nil) (fun ρ e ⟨c1, c2⟩ => by (try simp only [List.forall_mem_cons] at e); go_simp) ⟨Nw.refl _, rfl⟩
  · intro a w hN old new
    obtain ⟨y90, e90, g90⟩ := new 24 90 rfl rfl
    obtain rfl : y90 = .bool true := g90
    have e9 := old 9 (.slice (some ⟨pg, po, none⟩) (nq + 1) pc) rfl hA9
    exact OpOk.val (.slice (some ⟨pg, po, none⟩) (nq + 1) pc) (tab_yes hL rfl rfl e90) [(9, _)] (forall_cons e9 <| forall_nil) (fun ρ e ⟨c1, c2⟩ => by (try simp only [List.forall_mem_cons] at e); go_simp) ⟨Nw.refl _, rfl⟩
  · intro a w hN old new
    obtain ⟨y90, e90, g90⟩ := new 24 90 rfl rfl
    obtain rfl : y90 = .bool true := g90
    obtain ⟨y91, e91, g91⟩ := new 25 91 rfl rfl
    obtain rfl : y91 = .slice la (nq + 1) lc := g91
    obtain ⟨y92, e92, g92⟩ := new 26 92 rfl rfl
    obtain rfl : y92 = .slice (some ⟨pg, po, none⟩) (nq + 1) pc := g92
    refine OpOk.call (tab_yes hL rfl rfl e90) [(91, _), (92, _)] (forall_cons e91 <| forall_cons e92 <| forall_nil) (fun ρ e ⟨c1, c2⟩ => by (try simp only [List.forall_mem_cons] at e); go_simp) (H93.out _ hN) (fun e w1 h => ?_)
    obtain ⟨rfl, n1⟩ := h
    exact ⟨_, rfl, n1, rfl⟩
  · intro a w hN old new
    obtain ⟨y90, e90, g90⟩ := new 24 90 rfl rfl
    obtain rfl : y90 = .bool true := g90
    obtain ⟨y93, e93, g93⟩ := new 27 93 rfl rfl
    obtain rfl : y93 = .bool true := g93
    exact OpOk.val (.bool true) (w_none rfl) [(90, _), (93, _)] (forall_cons e90 <| forall_cons e93 <| forall_nil) (fun ρ e ⟨c1, c2⟩ => by (try simp only [List.forall_mem_cons] at e); go_simp) ⟨Nw.refl _, rfl⟩
  · intro a w hN old new
    obtain ⟨y94, e94, g94⟩ := new 28 94 rfl rfl
    obtain rfl : y94 = .bool true := g94
    exact OpOk.val (.bool true) (w_none rfl) [(94, _)] (forall_cons e94 <| forall_nil) (fun ρ e ⟨c1, c2⟩ => by (try simp only [List.forall_mem_cons] at e); go_simp) ⟨Nw.refl _, rfl⟩
  · intro a w hN old new
    obtain ⟨y95, e95, g95⟩ := new 29 95 rfl rfl
    obtain rfl : y95 = .bool true := g95
    have e6 := old 6 (.pointer (some ⟨p, 0, none⟩)) rfl hA6
    exact OpOk.val (.pointer (some ⟨p, 0, none⟩)) (tab_yes hL rfl rfl e95) [(6, _)] (forall_cons e6 <| forall_nil) (fun ρ e ⟨c1, c2⟩ => by (try simp only [List.forall_mem_cons] at e); go_simp) ⟨Nw.refl _, rfl⟩
  · intro a w hN old new
    obtain ⟨y95, e95, g95⟩ := new 29 95 rfl rfl
    obtain rfl : y95 = .bool true := g95
    obtain ⟨y96, e96, g96⟩ := new 30 96 rfl rfl
    obtain rfl : y96 = .pointer (some ⟨p, 0, none⟩) := g96
    refine OpOk.call (tab_yes hL rfl rfl e95) [(96, _)] (forall_cons e96 <| forall_nil) (fun ρ e ⟨c1, c2⟩ => by (try simp only [List.forall_mem_cons] at e); go_simp) (H97.out _ hN) (fun e w1 h => ?_)
    obtain ⟨rfl, rfl⟩ := h
    exact ⟨_, rfl, Nw.refl _, rfl⟩
  · intro a w hN old new
    obtain ⟨y95, e95, g95⟩ := new 29 95 rfl rfl
    obtain rfl : y95 = .bool true := g95
    have e9 := old 9 (.slice (some ⟨pg, po, none⟩) (nq + 1) pc) rfl hA9
    exact OpOk.val (.slice (some ⟨pg, po, none⟩) (nq + 1) pc) (tab_yes hL rfl rfl e95) [(9, _)] (forall_cons e9 <| forall_nil) (fun ρ e ⟨c1, c2⟩ => by (try simp only [List.forall_mem_cons] at e); go_simp) ⟨Nw.refl _, rfl⟩
  · intro a w hN old new
    obtain ⟨y95, e95, g95⟩ := new 29 95 rfl rfl
    obtain rfl : y95 = .bool true := g95
    have e9 := old 9 (.slice (some ⟨pg, po, none⟩) (nq + 1) pc) rfl hA9
    exact OpOk.val (.slice (some ⟨pg, po, none⟩) (nq + 1) pc) (tab_yes hL rfl rfl e95) [(9, _)] (forall_cons e9 <| forall_nil) (fun ρ e ⟨c1, c2⟩ => by (try simp only [List.forall_mem_cons] at e); go_simp) ⟨Nw.refl _, rfl⟩
  · intro a w hN old new
    obtain ⟨y95, e95, g95⟩ := new 29 95 rfl rfl
    obtain rfl : y95 = .bool true := g95
    obtain ⟨y99, e99, g99⟩ := new 33 99 rfl rfl
    obtain rfl : y99 = .slice (some ⟨pg, po, none⟩) (nq + 1) pc := g99
    exact OpOk.val (.int .i64 ((nq + 1 : Nat) : Int)) (tab_yes hL rfl rfl e95) [(99, _)] (forall_cons e99 <| forall_nil) (fun ρ e ⟨c1, c2⟩ => by (try simp only [List.forall_mem_cons] at e); go_simp) ⟨Nw.refl _, rfl⟩
  · intro a w hN old new
    obtain ⟨y95, e95, g95⟩ := new 29 95 rfl rfl
    obtain rfl : y95 = .bool true := g95
    obtain ⟨y100, e100, g100⟩ := new 34 100 rfl rfl
    obtain rfl : y100 = .int .i64 ((nq + 1 : Nat) : Int) := g100
    have hi := (IntWalk.i64_in (nq : Int) (by omega))
    exact OpOk.val (.int .i64 nq) (tab_yes hL rfl rfl e95) [(100, _)] (forall_cons e100 <| forall_nil) (fun ρ e ⟨c1, c2⟩ => by (try simp only [List.forall_mem_cons] at e); go_simp) ⟨Nw.refl _, rfl⟩
  · intro a w hN old new
    obtain ⟨y95, e95, g95⟩ := new 29 95 rfl rfl
    obtain rfl : y95 = .bool true := g95
    obtain ⟨y98, e98, g98⟩ := new 32 98 rfl rfl
    obtain rfl : y98 = .slice (some ⟨pg, po, none⟩) (nq + 1) pc := g98
    obtain ⟨y101, e101, g101⟩ := new 35 101 rfl rfl
    obtain rfl : y101 = .int .i64 nq := g101
    have hq1 : ¬ ((nq : Int) + 1 ≤ (nq : Int)) := (by omega)
    exact OpOk.val (.pointer (some ⟨pg, po + nq * 4, none⟩)) (tab_yes hL rfl rfl e95) [(98, _), (101, _)] (forall_cons e98 <| forall_cons e101 <| forall_nil) (fun ρ e ⟨c1, c2⟩ => by (try simp only [List.forall_mem_cons] at e); go_simp) ⟨Nw.refl _, rfl⟩
  · intro a w hN old new
    obtain ⟨y95, e95, g95⟩ := new 29 95 rfl rfl
    obtain rfl : y95 = .bool true := g95
    obtain ⟨y102, e102, g102⟩ := new 36 102 rfl rfl
    obtain rfl : y102 = .pointer (some ⟨pg, po + nq * 4, none⟩) := g102
    exact OpOk.val (.pointer (some ⟨pg, po + nq * 4 + 1, none⟩)) (tab_yes hL rfl rfl e95) [(102, _)] (forall_cons e102 <| forall_nil) (fun ρ e ⟨c1, c2⟩ => by (try simp only [List.forall_mem_cons] at e); go_simp) ⟨Nw.refl _, rfl⟩
  · intro a w hN old new
    obtain ⟨y95, e95, g95⟩ := new 29 95 rfl rfl
    obtain rfl : y95 = .bool true := g95
    obtain ⟨y103, e103, g103⟩ := new 37 103 rfl rfl
    obtain rfl : y103 = .pointer (some ⟨pg, po + nq * 4 + 1, none⟩) := g103
    have hc := hN.cell HCp.out
    have hl := Nat.lt_of_lt_of_le HG.out hN.size
    exact OpOk.val (.int .i64 fi) (tab_yes hL rfl rfl e95) [(103, _)] (forall_cons e103 <| forall_nil) (fun ρ e ⟨c1, c2⟩ => by (try simp only [List.forall_mem_cons] at e); go_simp) ⟨Nw.refl _, rfl⟩
  · intro a w hN old new
    obtain ⟨y95, e95, g95⟩ := new 29 95 rfl rfl
    obtain rfl : y95 = .bool true := g95
    obtain ⟨y97, e97, g97⟩ := new 31 97 rfl rfl
    obtain rfl : y97 = .int .i64 ak := g97
    obtain ⟨y104, e104, g104⟩ := new 38 104 rfl rfl
    obtain rfl : y104 = .int .i64 fi := g104
    exact OpOk.val (.bool true) (tab_yes hL rfl rfl e95) [(97, _), (104, _)] (forall_cons e97 <| forall_cons e104 <| forall_nil) (fun ρ e ⟨c1, c2⟩ => by (try simp only [List.forall_mem_cons] at e); (first | (go_simp; done) | (go_simp; omega))) ⟨Nw.refl _, rfl⟩
  · intro a w hN old new
    obtain ⟨y95, e95, g95⟩ := new 29 95 rfl rfl
    obtain rfl : y95 = .bool true := g95
    obtain ⟨y105, e105, g105⟩ := new 39 105 rfl rfl
    obtain rfl : y105 = .bool true := g105
    exact OpOk.val (.bool true) (w_none rfl) [(95, _), (105, _)] (forall_cons e95 <| forall_cons e105 <| forall_nil) (fun ρ e ⟨c1, c2⟩ => by (try simp only [List.forall_mem_cons] at e); go_simp) ⟨Nw.refl _, rfl⟩
  · intro a w hN old new
    obtain ⟨y106, e106, g106⟩ := new 40 106 rfl rfl
    obtain rfl : y106 = .bool true := g106
    exact OpOk.val (.bool true) (w_none rfl) [(106, _)] (forall_cons e106 <| forall_nil) (fun ρ e ⟨c1, c2⟩ => by (try simp only [List.forall_mem_cons] at e); go_simp) ⟨Nw.refl _, rfl⟩
  · intro a w hN old new
    obtain ⟨y107, e107, g107⟩ := new 41 107 rfl rfl
    obtain rfl : y107 = .bool true := g107
    have e6 := old 6 (.pointer (some ⟨p, 0, none⟩)) rfl hA6
    exact OpOk.val (.pointer (some ⟨p, 0, none⟩)) (tab_yes hL rfl rfl e107) [(6, _)] (forall_cons e6 <| forall_nil) (fun ρ e ⟨c1, c2⟩ => by (try simp only [List.forall_mem_cons] at e); go_simp) ⟨Nw.refl _, rfl⟩
  · intro a w hN old new
    obtain ⟨y107, e107, g107⟩ := new 41 107 rfl rfl
    obtain rfl : y107 = .bool true := g107
    obtain ⟨y108, e108, g108⟩ := new 42 108 rfl rfl
    obtain rfl : y108 = .pointer (some ⟨p, 0, none⟩) := g108
    refine OpOk.call (tab_yes hL rfl rfl e107) [(108, _)] (forall_cons e108 <| forall_nil) (fun ρ e ⟨c1, c2⟩ => by (try simp only [List.forall_mem_cons] at e); go_simp) (H109.out _ hN) (fun e w1 h => ?_)
    obtain ⟨rfl, rfl⟩ := h
    exact ⟨_, rfl, Nw.refl _, rfl⟩
  · intro a w hN old new
    obtain ⟨y107, e107, g107⟩ := new 41 107 rfl rfl
    obtain rfl : y107 = .bool true := g107
    have e7 := old 7 (.slice sa ln sc) rfl hA7
    exact OpOk.val (.slice sa ln sc) (tab_yes hL rfl rfl e107) [(7, _)] (forall_cons e7 <| forall_nil) (fun ρ e ⟨c1, c2⟩ => by (try simp only [List.forall_mem_cons] at e); go_simp) ⟨Nw.refl _, rfl⟩
  · intro a w hN old new
    obtain ⟨y107, e107, g107⟩ := new 41 107 rfl rfl
    obtain rfl : y107 = .bool true := g107
    obtain ⟨y110, e110, g110⟩ := new 44 110 rfl rfl
    obtain rfl : y110 = .slice sa ln sc := g110
    exact OpOk.val (.int .i64 ln) (tab_yes hL rfl rfl e107) [(110, _)] (forall_cons e110 <| forall_nil) (fun ρ e ⟨c1, c2⟩ => by (try simp only [List.forall_mem_cons] at e); go_simp) ⟨Nw.refl _, rfl⟩
  · intro a w hN old new
    obtain ⟨y107, e107, g107⟩ := new 41 107 rfl rfl
    obtain rfl : y107 = .bool true := g107
    obtain ⟨y109, e109, g109⟩ := new 43 109 rfl rfl
    obtain rfl : y109 = .int .i64 ln := g109
    obtain ⟨y111, e111, g111⟩ := new 45 111 rfl rfl
    obtain rfl : y111 = .int .i64 ln := g111
    exact OpOk.val (.bool true) (tab_yes hL rfl rfl e107) [(109, _), (111, _)] (forall_cons e109 <| forall_cons e111 <| forall_nil) (fun ρ e ⟨c1, c2⟩ => by (try simp only [List.forall_mem_cons] at e); (first | (go_simp; done) | (go_simp; omega))) ⟨Nw.refl _, rfl⟩
  · intro a w hN old new
    obtain ⟨y107, e107, g107⟩ := new 41 107 rfl rfl
    obtain rfl : y107 = .bool true := g107
    obtain ⟨y112, e112, g112⟩ := new 46 112 rfl rfl
    obtain rfl : y112 = .bool true := g112
    exact OpOk.val (.bool true) (w_none rfl) [(107, _), (112, _)] (forall_cons e107 <| forall_cons e112 <| forall_nil) (fun ρ e ⟨c1, c2⟩ => by (try simp only [List.forall_mem_cons] at e); go_simp) ⟨Nw.refl _, rfl⟩
  · intro a w hN old new
    obtain ⟨y113, e113, g113⟩ := new 47 113 rfl rfl
    obtain rfl : y113 = .bool true := g113
    exact OpOk.val (.bool true) (w_none rfl) [(113, _)] (forall_cons e113 <| forall_nil) (fun ρ e ⟨c1, c2⟩ => by (try simp only [List.forall_mem_cons] at e); go_simp) ⟨Nw.refl _, rfl⟩
  · intro a w hN old new
    obtain ⟨y114, e114, g114⟩ := new 48 114 rfl rfl
    obtain rfl : y114 = .bool true := g114
    have e7 := old 7 (.slice sa ln sc) rfl hA7
    exact OpOk.val (.slice sa ln sc) (tab_yes hL rfl rfl e114) [(7, _)] (forall_cons e7 <| forall_nil) (fun ρ e ⟨c1, c2⟩ => by (try simp only [List.forall_mem_cons] at e); go_simp) ⟨Nw.refl _, rfl⟩
  · intro a w hN old new
    obtain ⟨y114, e114, g114⟩ := new 48 114 rfl rfl
    obtain rfl : y114 = .bool true := g114
    obtain ⟨y115, e115, g115⟩ := new 49 115 rfl rfl
    obtain rfl : y115 = .slice sa ln sc := g115
    exact OpOk.val (.int .i64 ln) (tab_yes hL rfl rfl e114) [(115, _)] (forall_cons e115 <| forall_nil) (fun ρ e ⟨c1, c2⟩ => by (try simp only [List.forall_mem_cons] at e); go_simp) ⟨Nw.refl _, rfl⟩
  · intro a w hN old new
    obtain ⟨y114, e114, g114⟩ := new 48 114 rfl rfl
    obtain rfl : y114 = .bool true := g114
    obtain ⟨y116, e116, g116⟩ := new 50 116 rfl rfl
    obtain rfl : y116 = .int .i64 ln := g116
    exact OpOk.val (.bool false) (tab_yes hL rfl rfl e114) [(116, _)] (forall_cons e116 <| forall_nil) (fun ρ e ⟨c1, c2⟩ => by (try simp only [List.forall_mem_cons] at e); (first | (go_simp; done) | (go_simp; omega))) ⟨Nw.refl _, rfl⟩
  · intro a w hN old new
    obtain ⟨y114, e114, g114⟩ := new 48 114 rfl rfl
    obtain rfl : y114 = .bool true := g114
    obtain ⟨y117, e117, g117⟩ := new 51 117 rfl rfl
    obtain rfl : y117 = .bool false := g117
    exact OpOk.val (.bool false) (tab_yes hL rfl rfl e114) [(117, _)] (forall_cons e117 <| forall_nil) (fun ρ e ⟨c1, c2⟩ => by (try simp only [List.forall_mem_cons] at e); go_simp) ⟨Nw.refl _, rfl⟩
  · intro a w hN old new
    obtain ⟨y118, e118, g118⟩ := new 52 118 rfl rfl
    obtain rfl : y118 = .bool false := g118
    have e6 := old 6 (.pointer (some ⟨p, 0, none⟩)) rfl hA6
    exact OpOk.val (.pointer (some ⟨p, 0, none⟩)) (tab_yes hL rfl rfl e118) [(6, _)] (forall_cons e6 <| forall_nil) (fun ρ e ⟨c1, c2⟩ => by (try simp only [List.forall_mem_cons] at e); go_simp) ⟨Nw.refl _, rfl⟩
  · intro a w hN old new
    obtain ⟨y118, e118, g118⟩ := new 52 118 rfl rfl
    obtain rfl : y118 = .bool false := g118
    obtain ⟨y119, e119, g119⟩ := new 53 119 rfl rfl
    obtain rfl : y119 = .pointer (some ⟨p, 0, none⟩) := g119
    refine OpOk.call (tab_yes hL rfl rfl e118) [(119, _)] (forall_cons e119 <| forall_nil) (fun ρ e ⟨c1, c2⟩ => by (try simp only [List.forall_mem_cons] at e); go_simp) (H109.out _ hN) (fun e w1 h => ?_)
    obtain ⟨rfl, rfl⟩ := h
    exact ⟨_, rfl, Nw.refl _, rfl⟩
  · intro a w hN old new
    obtain ⟨y118, e118, g118⟩ := new 52 118 rfl rfl
    obtain rfl : y118 = .bool false := g118
    have e9 := old 9 (.slice (some ⟨pg, po, none⟩) (nq + 1) pc) rfl hA9
    exact OpOk.val (.slice (some ⟨pg, po, none⟩) (nq + 1) pc) (tab_yes hL rfl rfl e118) [(9, _)] (forall_cons e9 <| forall_nil) (fun ρ e ⟨c1, c2⟩ => by (try simp only [List.forall_mem_cons] at e); go_simp) ⟨Nw.refl _, rfl⟩
  · intro a w hN old new
    obtain ⟨y118, e118, g118⟩ := new 52 118 rfl rfl
    obtain rfl : y118 = .bool false := g118
    have e9 := old 9 (.slice (some ⟨pg, po, none⟩) (nq + 1) pc) rfl hA9
    exact OpOk.val (.slice (some ⟨pg, po, none⟩) (nq + 1) pc) (tab_yes hL rfl rfl e118) [(9, _)] (forall_cons e9 <| forall_nil) (fun ρ e ⟨c1, c2⟩ => by (try simp only [List.forall_mem_cons] at e); go_simp) ⟨Nw.refl _, rfl⟩
  · intro a w hN old new
    obtain ⟨y118, e118, g118⟩ := new 52 118 rfl rfl
    obtain rfl : y118 = .bool false := g118
    obtain ⟨y122, e122, g122⟩ := new 56 122 rfl rfl
    obtain rfl : y122 = .slice (some ⟨pg, po, none⟩) (nq + 1) pc := g122
    exact OpOk.val (.int .i64 ((nq + 1 : Nat) : Int)) (tab_yes hL rfl rfl e118) [(122, _)] (forall_cons e122 <| forall_nil) (fun ρ e ⟨c1, c2⟩ => by (try simp only [List.forall_mem_cons] at e); go_simp) ⟨Nw.refl _, rfl⟩
  · intro a w hN old new
    obtain ⟨y118, e118, g118⟩ := new 52 118 rfl rfl
    obtain rfl : y118 = .bool false := g118
    obtain ⟨y123, e123, g123⟩ := new 57 123 rfl rfl
    obtain rfl : y123 = .int .i64 ((nq + 1 : Nat) : Int) := g123
    have hi := (IntWalk.i64_in (nq : Int) (by omega))
    exact OpOk.val (.int .i64 nq) (tab_yes hL rfl rfl e118) [(123, _)] (forall_cons e123 <| forall_nil) (fun ρ e ⟨c1, c2⟩ => by (try simp only [List.forall_mem_cons] at e); go_simp) ⟨Nw.refl _, rfl⟩
  · intro a w hN old new
    obtain ⟨y118, e118, g118⟩ := new 52 118 rfl rfl
    obtain rfl : y118 = .bool false := g118
    obtain ⟨y121, e121, g121⟩ := new 55 121 rfl rfl
    obtain rfl : y121 = .slice (some ⟨pg, po, none⟩) (nq + 1) pc := g121
    obtain ⟨y124, e124, g124⟩ := new 58 124 rfl rfl
    obtain rfl : y124 = .int .i64 nq := g124
    have hq1 : ¬ ((nq : Int) + 1 ≤ (nq : Int)) := (by omega)
    exact OpOk.val (.pointer (some ⟨pg, po + nq * 4, none⟩)) (tab_yes hL rfl rfl e118) [(121, _), (124, _)] (forall_cons e121 <| forall_cons e124 <| forall_nil) (fun ρ e ⟨c1, c2⟩ => by (try simp only [List.forall_mem_cons] at e); go_simp) ⟨Nw.refl _, rfl⟩
  · intro a w hN old new
    obtain ⟨y118, e118, g118⟩ := new 52 118 rfl rfl
    obtain rfl : y118 = .bool false := g118
    obtain ⟨y125, e125, g125⟩ := new 59 125 rfl rfl
    obtain rfl : y125 = .pointer (some ⟨pg, po + nq * 4, none⟩) := g125
    exact OpOk.val (.pointer (some ⟨pg, po + nq * 4 + 1, none⟩)) (tab_yes hL rfl rfl e118) [(125, _)] (forall_cons e125 <| forall_nil) (fun ρ e ⟨c1, c2⟩ => by (try simp only [List.forall_mem_cons] at e); go_simp) ⟨Nw.refl _, rfl⟩
  · intro a w hN old new
    obtain ⟨y118, e118, g118⟩ := new 52 118 rfl rfl
    obtain rfl : y118 = .bool false := g118
    obtain ⟨y126, e126, g126⟩ := new 60 126 rfl rfl
    obtain rfl : y126 = .pointer (some ⟨pg, po + nq * 4 + 1, none⟩) := g126
    have hc := hN.cell HCp.out
    have hl := Nat.lt_of_lt_of_le HG.out hN.size
    exact OpOk.val (.int .i64 fi) (tab_yes hL rfl rfl e118) [(126, _)] (forall_cons e126 <| forall_nil) (fun ρ e ⟨c1, c2⟩ => by (try simp only [List.forall_mem_cons] at e); go_simp) ⟨Nw.refl _, rfl⟩
  · intro a w hN old new
    obtain ⟨y118, e118, g118⟩ := new 52 118 rfl rfl
    obtain rfl : y118 = .bool false := g118
    obtain ⟨y120, e120, g120⟩ := new 54 120 rfl rfl
    obtain rfl : y120 = .int .i64 ln := g120
    obtain ⟨y127, e127, g127⟩ := new 61 127 rfl rfl
    obtain rfl : y127 = .int .i64 fi := g127
    exact OpOk.val (.bool true) (tab_yes hL rfl rfl e118) [(120, _), (127, _)] (forall_cons e120 <| forall_cons e127 <| forall_nil) (fun ρ e ⟨c1, c2⟩ => by (try simp only [List.forall_mem_cons] at e); (first | (go_simp; done) | (go_simp; omega))) ⟨Nw.refl _, rfl⟩
  · intro a w hN old new
    obtain ⟨y114, e114, g114⟩ := new 48 114 rfl rfl
    obtain rfl : y114 = .bool true := g114
    obtain ⟨y118, e118, g118⟩ := new 52 118 rfl rfl
    obtain rfl : y118 = .bool false := g118
    obtain ⟨y128, e128, g128⟩ := new 62 128 rfl rfl
    obtain rfl : y128 = .bool true := g128
    exact OpOk.val (.bool true) (tab_yes hL rfl rfl e114) [(118, _), (128, _)] (forall_cons e118 <| forall_cons e128 <| forall_nil) (fun ρ e ⟨c1, c2⟩ => by (try simp only [List.forall_mem_cons] at e); go_simp) ⟨Nw.refl _, rfl⟩
  · intro a w hN old new
    obtain ⟨y114, e114, g114⟩ := new 48 114 rfl rfl
    obtain rfl : y114 = .bool true := g114
    obtain ⟨y129, e129, g129⟩ := new 63 129 rfl rfl
    obtain rfl : y129 = .bool true := g129
    exact OpOk.val (.bool true) (w_none rfl) [(114, _), (129, _)] (forall_cons e114 <| forall_cons e129 <| forall_nil) (fun ρ e ⟨c1, c2⟩ => by (try simp only [List.forall_mem_cons] at e); go_simp) ⟨Nw.refl _, rfl⟩
  · intro a w hN old new
    obtain ⟨y130, e130, g130⟩ := new 64 130 rfl rfl
    obtain rfl : y130 = .bool true := g130
    exact OpOk.val (.bool true) (w_none rfl) [(130, _)] (forall_cons e130 <| forall_nil) (fun ρ e ⟨c1, c2⟩ => by (try simp only [List.forall_mem_cons] at e); go_simp) ⟨Nw.refl _, rfl⟩
  · intro a w hN old new
    obtain ⟨y131, e131, g131⟩ := new 65 131 rfl rfl
    obtain rfl : y131 = .bool true := g131
    refine OpOk.call (tab_yes hL rfl rfl e131) [] (forall_nil) (fun ρ e ⟨c1, c2⟩ => by (try simp only [List.forall_mem_cons] at e); go_simp) (H132.out _ hN) (fun e w1 h => ?_)
    obtain ⟨rfl, n1⟩ := h
    exact ⟨_, rfl, n1, rfl⟩
  · intro a w hN old new
    obtain ⟨y131, e131, g131⟩ := new 65 131 rfl rfl
    obtain rfl : y131 = .bool true := g131
    obtain ⟨y132, e132, g132⟩ := new 66 132 rfl rfl
    obtain rfl : y132 = .bool true := g132
    exact OpOk.val (.bool true) (w_none rfl) [(131, _), (132, _)] (forall_cons e131 <| forall_cons e132 <| forall_nil) (fun ρ e ⟨c1, c2⟩ => by (try simp only [List.forall_mem_cons] at e); go_simp) ⟨Nw.refl _, rfl⟩
  · intro a w hN old new
    obtain ⟨y133, e133, g133⟩ := new 67 133 rfl rfl
    obtain rfl : y133 = .bool true := g133
    exact OpOk.val (.bool true) (w_none rfl) [(133, _)] (forall_cons e133 <| forall_nil) (fun ρ e ⟨c1, c2⟩ => by (try simp only [List.forall_mem_cons] at e); go_simp) ⟨Nw.refl _, rfl⟩
  · intro a w hN hsz hdf old new
    obtain ⟨y4, e4, g4⟩ := new 68 4 rfl
    exact tab_frame (frame_lit (dst := [66, 67, 68, 69, 70, 71, 72, 73, 74, 75, 76, 77, 78, 79, 80, 81, 82, 83, 84, 85, 86, 87, 88, 89, 90, 91, 92, 93, 94, 95, 96, 97, 98, 99, 100, 101, 102, 103, 104, 105, 106, 107, 108, 109, 110, 111, 112, 113, 114, 115, 116, 117, 118, 119, 120, 121, 122, 123, 124, 125, 126, 127, 128, 129, 130, 131, 132, 133, 4]) (l := [u0, u1, u2, u3, u4, .pointer (some ⟨b, 0, none⟩), .pointer (some ⟨p, 0, none⟩), .slice sa ln sc, u8, .slice (some ⟨pg, po, none⟩) (nq + 1) pc, u10, u11, u12, u13, u14, .int .i64 0, .slice la (nq + 1) lc, .int .i64 0, u18, u19, u20, u21, u22, u23, u24, u25, u26, u27, u28, u29, u30, u31, u32, u33, u34, u35, u36, u37, u38, u39, u40, u41, u42, u43, u44, u45, u46, u47, u48, u49, u50, u51, u52, u53, u54, u55, u56, u57, u58, u59, u60, u61, u62, u63, u64, u65, u66, u67, u68, u69, u70, u71, u72, u73, u74, u75, u76, u77, u78, u79, u80, u81, u82, u83, u84, u85, u86, u87, u88, u89, u90, u91, u92, u93, u94, u95, u96, u97, u98, u99, u100, u101, u102, u103, u104, u105, u106, u107, u108, u109, u110, u111, u112, u113, u114, u115, u116, u117, u118, u119, u120, u121, u122, u123, u124, u125, u126, u127, u128, u129, u130, u131, u132, u133]) hA hsz hdf old (l' := [u0, u1, u2, u3, (a.tmps[4]?.getD undef), .pointer (some ⟨b, 0, none⟩), .pointer (some ⟨p, 0, none⟩), .slice sa ln sc, u8, .slice (some ⟨pg, po, none⟩) (nq + 1) pc, u10, u11, u12, u13, u14, .int .i64 0, .slice la (nq + 1) lc, .int .i64 0, u18, u19, u20, u21, u22, u23, u24, u25, u26, u27, u28, u29, u30, u31, u32, u33, u34, u35, u36, u37, u38, u39, u40, u41, u42, u43, u44, u45, u46, u47, u48, u49, u50, u51, u52, u53, u54, u55, u56, u57, u58, u59, u60, u61, u62, u63, u64, u65, (a.tmps[66]?.getD undef), (a.tmps[67]?.getD undef), (a.tmps[68]?.getD undef), (a.tmps[69]?.getD undef), (a.tmps[70]?.getD undef), (a.tmps[71]?.getD undef), (a.tmps[72]?.getD undef), (a.tmps[73]?.getD undef), (a.tmps[74]?.getD undef), (a.tmps[75]?.getD undef), (a.tmps[76]?.getD undef), (a.tmps[77]?.getD undef), (a.tmps[78]?.getD undef), (a.tmps[79]?.getD undef), (a.tmps[80]?.getD undef), (a.tmps[81]?.getD undef), (a.tmps[82]?.getD undef), (a.tmps[83]?.getD undef), (a.tmps[84]?.getD undef), (a.tmps[85]?.getD undef), (a.tmps[86]?.getD undef), (a.tmps[87]?.getD undef), (a.tmps[88]?.getD undef), (a.tmps[89]?.getD undef), (a.tmps[90]?.getD undef), (a.tmps[91]?.getD undef), (a.tmps[92]?.getD undef), (a.tmps[93]?.getD undef), (a.tmps[94]?.getD undef), (a.tmps[95]?.getD undef), (a.tmps[96]?.getD undef), (a.tmps[97]?.getD undef), (a.tmps[98]?.getD undef), (a.tmps[99]?.getD undef), (a.tmps[100]?.getD undef), (a.tmps[101]?.getD undef), (a.tmps[102]?.getD undef), (a.tmps[103]?.getD undef), (a.tmps[104]?.getD undef), (a.tmps[105]?.getD undef), (a.tmps[106]?.getD undef), (a.tmps[107]?.getD undef), (a.tmps[108]?.getD undef), (a.tmps[109]?.getD undef), (a.tmps[110]?.getD undef), (a.tmps[111]?.getD undef), (a.tmps[112]?.getD undef), (a.tmps[113]?.getD undef), (a.tmps[114]?.getD undef), (a.tmps[115]?.getD undef), (a.tmps[116]?.getD undef), (a.tmps[117]?.getD undef), (a.tmps[118]?.getD undef), (a.tmps[119]?.getD undef), (a.tmps[120]?.getD undef), (a.tmps[121]?.getD undef), (a.tmps[122]?.getD undef), (a.tmps[123]?.getD undef), (a.tmps[124]?.getD undef), (a.tmps[125]?.getD undef), (a.tmps[126]?.getD undef), (a.tmps[127]?.getD undef), (a.tmps[128]?.getD undef), (a.tmps[129]?.getD undef), (a.tmps[130]?.getD undef), (a.tmps[131]?.getD undef), (a.tmps[132]?.getD undef), (a.tmps[133]?.getD undef)]) (by kernel_rfl)) (HQ.out _ _ _ _ _ _ _ _ _ _ _ _ _ _ _ _ _ _ _ _ _ _ _ _ _ _ _ _ _ _ _ _ _ _ _ _ _ _ _ _ _ _ _ _ _ _ _ _ _ _ _ _ _ _ _ _ _ _ _ _ _ _ _ _ _ _ _ _ _ w hN (by rw [e4]; exact g4))
end Go.Proofs.YtjapijndljknnaaGreatDoor.SeglogPieces
