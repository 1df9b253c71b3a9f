/-
  Texts merged by a program of this claim's: TwiceR.
-/
import Derived.Test.YtjapijndljknnaaGreatDoorM45
import Derived.Test.YtjapijndljknnaaGreatDoorM18
/-
  amanuensislaw07.CompactTwice: its last region. Printed by wip/gen_t7.py.
-/
namespace Go.Proofs.YtjapijndljknnaaGreatDoor.CompactTwice
open Go Go.RowKit Go.Sort
set_option maxRecDepth 100000
set_option maxHeartbeats 1600000 in
theorem r12_1 {w5 : World} {va xa ra : Option Addr} {p g o m vc qc xc rc k : Nat} {l2 : List Pc}
    (SE : Hid (∀ W, Nw w5 W → Calls Tryz.prog 40 #[.slice xa m xc, .slice va m vc] W fun e w' => e = .returned (.bool true) ∧ Nw W w'))
    (SP : Hid (∀ W, Nw w5 W → Calls Tryz.prog 17 #[.slice (some ⟨g, o, none⟩) 1 qc, .slice ra 1 rc] W fun e w' => e = .returned (.bool true) ∧ Nw W w'))
    (PI : Hid (∀ W, Nw w5 W → Calls Tryz.prog 12 #[.pointer (some ⟨p, 0, none⟩)] W fun e w' => ∃ a c, e = .returned (.slice a 1 c) ∧ Pcs w' (.slice a 1 c) l2 ∧ Nw W w'))
    (SQ : Hid (∀ W, Nw w5 W → ∀ a c, Pcs W (.slice a 1 c) l2 → Calls Tryz.prog 17 #[.slice a 1 c, .slice (some ⟨g, o, none⟩) 1 qc] W fun e w' => e = .returned (.bool true) ∧ Nw W w'))
    (AW : Hid (∀ W, Nw w5 W → Calls Tryz.prog 41 #[] W fun e w' => e = .returned (.bool true) ∧ Nw W w'))
    {u0 u1 u2 u5 u6 u7 u8 u9 u11 u12 u13 u16 u17 u18 u19 u20 u21 u22 u23 u24 u25 u26 u27 u28 u29 u30 u31 u32 u33 u34 u35 u36 u37 u38 u39 u40 u41 u42 u43 u44 u45 u46 u47 u48 u49 u50 u51 u52 u53 u54 u55 u56 u57 u58 u59 u60 u61 u62 u63 u64 u65 u66 u67 u68 u69 u70 u71 u72 u73 u74 u75 u76 u77 u78 u79 u80 u81 u82 u83 u84 u85 u86 u87 u88 u89 u90 u91 u92 u93 u94 u95 u96 u97 u98 u99 u100 u101 u102 u103 u104 u105 u106 u107 u108 u109 u110 u111 u112 u113 u114 u115 u116 u117 u118 u119 u120 u121 u122 u123 u124 u125 u126 u127 u128 u129 u130 u131 u132 u133 u134 u135 u136 : Value} {Q : Exit → Act → World → Prop}
    (hQ : ∀ (s2 s98 s99 s100 s101 s102 s103 s104 s105 s106 s107 s108 s109 s110 s111 s112 s113 s114 s115 s116 s117 s118 s119 s120 s121 s122 s123 s124 s125 s126 s127 s128 s129 s130 s131 s132 s133 s134 s135 s136 : Value) (wx : World), Nw w5 wx → s2 = .bool true → Q .normal ⟨#[u0, u1, s2, .pointer (some ⟨p, 0, none⟩), .slice va m vc, u5, u6, u7, u8, u9, .slice (some ⟨g, o, none⟩) 1 qc, u11, u12, u13, .slice xa m xc, .slice ra 1 rc, u16, u17, u18, u19, u20, u21, u22, u23, u24, u25, u26, u27, u28, u29, u30, u31, u32, u33, u34, u35, u36, u37, u38, u39, u40, u41, u42, u43, u44, u45, u46, u47, u48, u49, u50, u51, u52, u53, u54, u55, u56, u57, u58, u59, u60, u61, u62, u63, u64, u65, u66, u67, u68, u69, u70, u71, u72, u73, u74, u75, u76, u77, u78, u79, u80, u81, u82, u83, u84, u85, u86, u87, u88, u89, u90, u91, u92, u93, u94, u95, u96, u97, s98, s99, s100, s101, s102, s103, s104, s105, s106, s107, s108, s109, s110, s111, s112, s113, s114, s115, s116, s117, s118, s119, s120, s121, s122, s123, s124, s125, s126, s127, s128, s129, s130, s131, s132, s133, s134, s135, s136], []⟩ wx) :
    Code.wp Tryz.prog ((Tryz.f5.body.bind (regionOf 12)).getD .skip) Q ⟨#[u0, u1, u2, .pointer (some ⟨p, 0, none⟩), .slice va m vc, u5, u6, u7, u8, u9, .slice (some ⟨g, o, none⟩) 1 qc, u11, u12, u13, .slice xa m xc, .slice ra 1 rc, u16, u17, u18, u19, u20, u21, u22, u23, u24, u25, u26, u27, u28, u29, u30, u31, u32, u33, u34, u35, u36, u37, u38, u39, u40, u41, u42, u43, u44, u45, u46, u47, u48, u49, u50, u51, u52, u53, u54, u55, u56, u57, u58, u59, u60, u61, u62, u63, u64, u65, u66, u67, u68, u69, u70, u71, u72, u73, u74, u75, u76, u77, u78, u79, u80, u81, u82, u83, u84, u85, u86, u87, u88, u89, u90, u91, u92, u93, u94, u95, u96, u97, u98, u99, u100, u101, u102, u103, u104, u105, u106, u107, u108, u109, u110, u111, u112, u113, u114, u115, u116, u117, u118, u119, u120, u121, u122, u123, u124, u125, u126, u127, u128, u129, u130, u131, u132, u133, u134, u135, u136], []⟩ w5 := by
  dsimp only at hQ ⊢
  conv => arg 2; whnf
  have HQ := Lib.hid hQ
  clear hQ
  refine name_act fun A hA => ?_
  have hA3 : A.tmps[3]? = some (.pointer (some ⟨p, 0, none⟩)) := by rw [hA]; rfl
  have hA4 : A.tmps[4]? = some (.slice va m vc) := by rw [hA]; rfl
  have hA10 : A.tmps[10]? = some (.slice (some ⟨g, o, none⟩) 1 qc) := by rw [hA]; rfl
  have hA14 : A.tmps[14]? = some (.slice xa m xc) := by rw [hA]; rfl
  have hA15 : A.tmps[15]? = some (.slice ra 1 rc) := by rw [hA]; rfl
  have hlt0 : ∀ d ∈ ([98, 99, 100, 101, 102, 103, 104, 105, 106, 107, 108, 109, 110, 111, 112, 113, 114, 115, 116, 117, 118, 119, 120, 121, 122, 123, 124, 125, 126, 127, 128, 129, 130, 131, 132, 133, 134, 135, 136, 2] : List Nat), d < 137 := by decide
  refine wp_region_tab [98, 99, 100, 101, 102, 103, 104, 105, 106, 107, 108, 109, 110, 111, 112, 113, 114, 115, 116, 117, 118, 119, 120, 121, 122, 123, 124, 125, 126, 127, 128, 129, 130, 131, 132, 133, 134, 135, 136, 2] [isV (.slice xa m xc), isV (.slice va m vc), isV (.bool true), isV (.bool true), isV (.slice (some ⟨g, o, none⟩) 1 qc), isV (.slice ra 1 rc), isV (.bool true), isV (.bool true), isV (.bool true), isV (.pointer (some ⟨p, 0, none⟩)), (⟨fun x w => ∃ a c, x = .slice a 1 c ∧ Pcs w x l2, fun x w w' ⟨a, c, h1, h2⟩ n => ⟨a, c, h1, h2.nw n⟩⟩), isV (.slice (some ⟨g, o, none⟩) 1 qc), isV (.bool true), isV (.bool true), isV (.bool true), isV (.slice (some ⟨g, o, none⟩) 1 qc), isV (.int .i64 1), isV (.bool true), isV (.bool true), isV (undef), isV (undef), isV (undef), isV (undef), isV (undef), isV (undef), isV (undef), isV (undef), isV (undef), isV (undef), isV (undef), isV (undef), isV (undef), isV (undef), isV (undef), isV (.bool true), isV (.bool true), isV (.bool true), isV (.bool true), isV (.bool true), isV (.bool true)] (by kernel_rfl) (by kernel_rfl) (by kernel_rfl) (of_decide_eq_true (by kernel_rfl)) (fun d hd => by rw [hA]; exact hlt0 d hd) (fun L hL => ⟨?a0, ?a1, ?a2, ?a3, ?a4, ?a5, ?a6, ?a7, ?a8, ?a9, ?a10, ?a11, ?a12, ?a13, ?a14, ?a15, ?a16, ?a17, ?a18, ?a19, ?a20, ?a21, ?a22, ?a23, ?a24, ?a25, ?a26, ?a27, ?a28, ?a29, ?a30, ?a31, ?a32, ?a33, ?a34, ?a35, ?a36, ?a37, ?a38, ?a39, trivial⟩) ?he
  · intro a w hN old new
    have e14 := old 14 (.slice xa m xc) rfl hA14
    exact OpOk.val (.slice xa m xc) (w_none rfl) [(14, _)] (forall_cons e14 <| forall_nil) (fun ρ e ⟨c1, c2⟩ => by (try simp only [List.forall_mem_cons] at e); go_simp) ⟨Nw.refl _, rfl⟩
  · intro a w hN old new
    have e4 := old 4 (.slice va m vc) rfl hA4
    exact OpOk.val (.slice va m vc) (w_none rfl) [(4, _)] (forall_cons e4 <| forall_nil) (fun ρ e ⟨c1, c2⟩ => by (try simp only [List.forall_mem_cons] at e); go_simp) ⟨Nw.refl _, rfl⟩
  · intro a w hN old new
    obtain ⟨y98, e98, g98⟩ := new 0 98 rfl rfl
    obtain rfl : y98 = .slice xa m xc := g98
    obtain ⟨y99, e99, g99⟩ := new 1 99 rfl rfl
    obtain rfl : y99 = .slice va m vc := g99
    refine OpOk.call (w_none rfl) [(98, _), (99, _)] (forall_cons e98 <| forall_cons e99 <| forall_nil) (fun ρ e ⟨c1, c2⟩ => by (try simp only [List.forall_mem_cons] at e); go_simp) (SE.out _ hN) (fun e w1 h => ?_)
    obtain ⟨rfl, n1⟩ := h
    exact ⟨_, rfl, n1, rfl⟩
  · intro a w hN old new
    obtain ⟨y100, e100, g100⟩ := new 2 100 rfl rfl
    obtain rfl : y100 = .bool true := g100
    exact OpOk.val (.bool true) (w_none rfl) [(100, _)] (forall_cons e100 <| forall_nil) (fun ρ e ⟨c1, c2⟩ => by (try simp only [List.forall_mem_cons] at e); go_simp) ⟨Nw.refl _, rfl⟩
  · intro a w hN old new
    obtain ⟨y101, e101, g101⟩ := new 3 101 rfl rfl
    obtain rfl : y101 = .bool true := g101
    have e10 := old 10 (.slice (some ⟨g, o, none⟩) 1 qc) rfl hA10
    exact OpOk.val (.slice (some ⟨g, o, none⟩) 1 qc) (tab_yes hL rfl rfl e101) [(10, _)] (forall_cons e10 <| forall_nil) (fun ρ e ⟨c1, c2⟩ => by (try simp only [List.forall_mem_cons] at e); go_simp) ⟨Nw.refl _, rfl⟩
  · intro a w hN old new
    obtain ⟨y101, e101, g101⟩ := new 3 101 rfl rfl
    obtain rfl : y101 = .bool true := g101
    have e15 := old 15 (.slice ra 1 rc) rfl hA15
    exact OpOk.val (.slice ra 1 rc) (tab_yes hL rfl rfl e101) [(15, _)] (forall_cons e15 <| forall_nil) (fun ρ e ⟨c1, c2⟩ => by (try simp only [List.forall_mem_cons] at e); go_simp) ⟨Nw.refl _, rfl⟩
  · intro a w hN old new
    obtain ⟨y101, e101, g101⟩ := new 3 101 rfl rfl
    obtain rfl : y101 = .bool true := g101
    obtain ⟨y102, e102, g102⟩ := new 4 102 rfl rfl
    obtain rfl : y102 = .slice (some ⟨g, o, none⟩) 1 qc := g102
    obtain ⟨y103, e103, g103⟩ := new 5 103 rfl rfl
    obtain rfl : y103 = .slice ra 1 rc := g103
    refine OpOk.call (tab_yes hL rfl rfl e101) [(102, _), (103, _)] (forall_cons e102 <| forall_cons e103 <| forall_nil) (fun ρ e ⟨c1, c2⟩ => by (try simp only [List.forall_mem_cons] at e); go_simp) (SP.out _ hN) (fun e w1 h => ?_)
    obtain ⟨rfl, n1⟩ := h
    exact ⟨_, rfl, n1, rfl⟩
  · intro a w hN old new
    obtain ⟨y101, e101, g101⟩ := new 3 101 rfl rfl
    obtain rfl : y101 = .bool true := g101
    obtain ⟨y104, e104, g104⟩ := new 6 104 rfl rfl
    obtain rfl : y104 = .bool true := g104
    exact OpOk.val (.bool true) (w_none rfl) [(101, _), (104, _)] (forall_cons e101 <| forall_cons e104 <| forall_nil) (fun ρ e ⟨c1, c2⟩ => by (try simp only [List.forall_mem_cons] at e); go_simp) ⟨Nw.refl _, rfl⟩
  · intro a w hN old new
    obtain ⟨y105, e105, g105⟩ := new 7 105 rfl rfl
    obtain rfl : y105 = .bool true := g105
    exact OpOk.val (.bool true) (w_none rfl) [(105, _)] (forall_cons e105 <| forall_nil) (fun ρ e ⟨c1, c2⟩ => by (try simp only [List.forall_mem_cons] at e); go_simp) ⟨Nw.refl _, rfl⟩
  · intro a w hN old new
    obtain ⟨y106, e106, g106⟩ := new 8 106 rfl rfl
    obtain rfl : y106 = .bool true := g106
    have e3 := old 3 (.pointer (some ⟨p, 0, none⟩)) rfl hA3
    exact OpOk.val (.pointer (some ⟨p, 0, none⟩)) (tab_yes hL rfl rfl e106) [(3, _)] (forall_cons e3 <| forall_nil) (fun ρ e ⟨c1, c2⟩ => by (try simp only [List.forall_mem_cons] at e); go_simp) ⟨Nw.refl _, rfl⟩
  · intro a w hN old new
    obtain ⟨y106, e106, g106⟩ := new 8 106 rfl rfl
    obtain rfl : y106 = .bool true := g106
    obtain ⟨y107, e107, g107⟩ := new 9 107 rfl rfl
    obtain rfl : y107 = .pointer (some ⟨p, 0, none⟩) := g107
    refine OpOk.call (tab_yes hL rfl rfl e106) [(107, _)] (forall_cons e107 <| forall_nil) (fun ρ e ⟨c1, c2⟩ => by (try simp only [List.forall_mem_cons] at e); go_simp) (PI.out _ hN) (fun e w1 h => ?_)
    obtain ⟨a, c, rfl, q1, n1⟩ := h
    exact ⟨_, rfl, n1, ⟨a, c, rfl, q1⟩⟩
  · intro a w hN old new
    obtain ⟨y106, e106, g106⟩ := new 8 106 rfl rfl
    obtain rfl : y106 = .bool true := g106
    have e10 := old 10 (.slice (some ⟨g, o, none⟩) 1 qc) rfl hA10
    exact OpOk.val (.slice (some ⟨g, o, none⟩) 1 qc) (tab_yes hL rfl rfl e106) [(10, _)] (forall_cons e10 <| forall_nil) (fun ρ e ⟨c1, c2⟩ => by (try simp only [List.forall_mem_cons] at e); go_simp) ⟨Nw.refl _, rfl⟩
  · intro a w hN old new
    obtain ⟨y106, e106, g106⟩ := new 8 106 rfl rfl
    obtain rfl : y106 = .bool true := g106
    obtain ⟨y108, e108, g108⟩ := new 10 108 rfl rfl
    obtain ⟨a0, c0, rfl, q0⟩ := g108
    obtain ⟨y109, e109, g109⟩ := new 11 109 rfl rfl
    obtain rfl : y109 = .slice (some ⟨g, o, none⟩) 1 qc := g109
    refine OpOk.call (tab_yes hL rfl rfl e106) [(108, _), (109, _)] (forall_cons e108 <| forall_cons e109 <| forall_nil) (fun ρ e ⟨c1, c2⟩ => by (try simp only [List.forall_mem_cons] at e); go_simp) (SQ.out _ hN a0 c0 q0) (fun e w1 h => ?_)
    obtain ⟨rfl, n1⟩ := h
    exact ⟨_, rfl, n1, rfl⟩
  · intro a w hN old new
    obtain ⟨y106, e106, g106⟩ := new 8 106 rfl rfl
    obtain rfl : y106 = .bool true := g106
    obtain ⟨y110, e110, g110⟩ := new 12 110 rfl rfl
    obtain rfl : y110 = .bool true := g110
    exact OpOk.val (.bool true) (w_none rfl) [(106, _), (110, _)] (forall_cons e106 <| forall_cons e110 <| forall_nil) (fun ρ e ⟨c1, c2⟩ => by (try simp only [List.forall_mem_cons] at e); go_simp) ⟨Nw.refl _, rfl⟩
  · intro a w hN old new
    obtain ⟨y111, e111, g111⟩ := new 13 111 rfl rfl
    obtain rfl : y111 = .bool true := g111
    exact OpOk.val (.bool true) (w_none rfl) [(111, _)] (forall_cons e111 <| forall_nil) (fun ρ e ⟨c1, c2⟩ => by (try simp only [List.forall_mem_cons] at e); go_simp) ⟨Nw.refl _, rfl⟩
  · intro a w hN old new
    obtain ⟨y112, e112, g112⟩ := new 14 112 rfl rfl
    obtain rfl : y112 = .bool true := g112
    have e10 := old 10 (.slice (some ⟨g, o, none⟩) 1 qc) rfl hA10
    exact OpOk.val (.slice (some ⟨g, o, none⟩) 1 qc) (tab_yes hL rfl rfl e112) [(10, _)] (forall_cons e10 <| forall_nil) (fun ρ e ⟨c1, c2⟩ => by (try simp only [List.forall_mem_cons] at e); go_simp) ⟨Nw.refl _, rfl⟩
  · intro a w hN old new
    obtain ⟨y112, e112, g112⟩ := new 14 112 rfl rfl
    obtain rfl : y112 = .bool true := g112
    obtain ⟨y113, e113, g113⟩ := new 15 113 rfl rfl
    obtain rfl : y113 = .slice (some ⟨g, o, none⟩) 1 qc := g113
    exact OpOk.val (.int .i64 1) (tab_yes hL rfl rfl e112) [(113, _)] (forall_cons e113 <| forall_nil) (fun ρ e ⟨c1, c2⟩ => by (try simp only [List.forall_mem_cons] at e); go_simp) ⟨Nw.refl _, rfl⟩
  · intro a w hN old new
    obtain ⟨y112, e112, g112⟩ := new 14 112 rfl rfl
    obtain rfl : y112 = .bool true := g112
    obtain ⟨y114, e114, g114⟩ := new 16 114 rfl rfl
    obtain rfl : y114 = .int .i64 1 := g114
    exact OpOk.val (.bool true) (tab_yes hL rfl rfl e112) [(114, _)] (forall_cons e114 <| forall_nil) (fun ρ e ⟨c1, c2⟩ => by (try simp only [List.forall_mem_cons] at e); go_simp) ⟨Nw.refl _, rfl⟩
  · intro a w hN old new
    obtain ⟨y112, e112, g112⟩ := new 14 112 rfl rfl
    obtain rfl : y112 = .bool true := g112
    obtain ⟨y115, e115, g115⟩ := new 17 115 rfl rfl
    obtain rfl : y115 = .bool true := g115
    exact OpOk.val (.bool true) (tab_yes hL rfl rfl e112) [(115, _)] (forall_cons e115 <| forall_nil) (fun ρ e ⟨c1, c2⟩ => by (try simp only [List.forall_mem_cons] at e); go_simp) ⟨Nw.refl _, rfl⟩
  · intro a w hN old new
    obtain ⟨y116, e116, g116⟩ := new 18 116 rfl rfl
    obtain rfl : y116 = .bool true := g116
    exact OpOk.skip (tab_no hL rfl rfl e116) ⟨Nw.refl _, rfl⟩
  · intro a w hN old new
    obtain ⟨y116, e116, g116⟩ := new 18 116 rfl rfl
    obtain rfl : y116 = .bool true := g116
    exact OpOk.skip (tab_no hL rfl rfl e116) ⟨Nw.refl _, rfl⟩
  · intro a w hN old new
    obtain ⟨y116, e116, g116⟩ := new 18 116 rfl rfl
    obtain rfl : y116 = .bool true := g116
    exact OpOk.skip (tab_no hL rfl rfl e116) ⟨Nw.refl _, rfl⟩
  · intro a w hN old new
    obtain ⟨y116, e116, g116⟩ := new 18 116 rfl rfl
    obtain rfl : y116 = .bool true := g116
    exact OpOk.skip (tab_no hL rfl rfl e116) ⟨Nw.refl _, rfl⟩
  · intro a w hN old new
    obtain ⟨y116, e116, g116⟩ := new 18 116 rfl rfl
    obtain rfl : y116 = .bool true := g116
    exact OpOk.skip (tab_no hL rfl rfl e116) ⟨Nw.refl _, rfl⟩
  · intro a w hN old new
    obtain ⟨y121, e121, g121⟩ := new 23 121 rfl rfl
    obtain rfl : y121 = undef := g121
    exact OpOk.skip (tab_un hL rfl rfl e121) ⟨Nw.refl _, rfl⟩
  · intro a w hN old new
    obtain ⟨y121, e121, g121⟩ := new 23 121 rfl rfl
    obtain rfl : y121 = undef := g121
    exact OpOk.skip (tab_un hL rfl rfl e121) ⟨Nw.refl _, rfl⟩
  · intro a w hN old new
    obtain ⟨y121, e121, g121⟩ := new 23 121 rfl rfl
    obtain rfl : y121 = undef := g121
    exact OpOk.skip (tab_un hL rfl rfl e121) ⟨Nw.refl _, rfl⟩
  · intro a w hN old new
    obtain ⟨y121, e121, g121⟩ := new 23 121 rfl rfl
    obtain rfl : y121 = undef := g121
    exact OpOk.skip (tab_un hL rfl rfl e121) ⟨Nw.refl _, rfl⟩
  · intro a w hN old new
    obtain ⟨y121, e121, g121⟩ := new 23 121 rfl rfl
    obtain rfl : y121 = undef := g121
    exact OpOk.skip (tab_un hL rfl rfl e121) ⟨Nw.refl _, rfl⟩
  · intro a w hN old new
    obtain ⟨y121, e121, g121⟩ := new 23 121 rfl rfl
    obtain rfl : y121 = undef := g121
    exact OpOk.skip (tab_un hL rfl rfl e121) ⟨Nw.refl _, rfl⟩
  · intro a w hN old new
    obtain ⟨y121, e121, g121⟩ := new 23 121 rfl rfl
    obtain rfl : y121 = undef := g121
    exact OpOk.skip (tab_un hL rfl rfl e121) ⟨Nw.refl _, rfl⟩
  · intro a w hN old new
    obtain ⟨y121, e121, g121⟩ := new 23 121 rfl rfl
    obtain rfl : y121 = undef := g121
    exact OpOk.skip (tab_un hL rfl rfl e121) ⟨Nw.refl _, rfl⟩
  · intro a w hN old new
    obtain ⟨y121, e121, g121⟩ := new 23 121 rfl rfl
    obtain rfl : y121 = undef := g121
    exact OpOk.skip (tab_un hL rfl rfl e121) ⟨Nw.refl _, rfl⟩
  · intro a w hN old new
    obtain ⟨y116, e116, g116⟩ := new 18 116 rfl rfl
    obtain rfl : y116 = .bool true := g116
    exact OpOk.skip (tab_no hL rfl rfl e116) ⟨Nw.refl _, rfl⟩
  · intro a w hN old new
    obtain ⟨y112, e112, g112⟩ := new 14 112 rfl rfl
    obtain rfl : y112 = .bool true := g112
    obtain ⟨y116, e116, g116⟩ := new 18 116 rfl rfl
    obtain rfl : y116 = .bool true := g116
    obtain ⟨y131, e131, g131⟩ := new 33 131 rfl rfl
    obtain rfl : y131 = undef := g131
    exact OpOk.val (.bool true) (tab_yes hL rfl rfl e112) [(116, _), (131, _)] (forall_cons e116 <| forall_cons e131 <| forall_nil) (fun ρ e ⟨c1, c2⟩ => by (try simp only [List.forall_mem_cons] at e); go_simp) ⟨Nw.refl _, rfl⟩
  · intro a w hN old new
    obtain ⟨y112, e112, g112⟩ := new 14 112 rfl rfl
    obtain rfl : y112 = .bool true := g112
    obtain ⟨y132, e132, g132⟩ := new 34 132 rfl rfl
    obtain rfl : y132 = .bool true := g132
    exact OpOk.val (.bool true) (w_none rfl) [(112, _), (132, _)] (forall_cons e112 <| forall_cons e132 <| forall_nil) (fun ρ e ⟨c1, c2⟩ => by (try simp only [List.forall_mem_cons] at e); go_simp) ⟨Nw.refl _, rfl⟩
  · intro a w hN old new
    obtain ⟨y133, e133, g133⟩ := new 35 133 rfl rfl
    obtain rfl : y133 = .bool true := g133
    exact OpOk.val (.bool true) (w_none rfl) [(133, _)] (forall_cons e133 <| forall_nil) (fun ρ e ⟨c1, c2⟩ => by (try simp only [List.forall_mem_cons] at e); go_simp) ⟨Nw.refl _, rfl⟩
  · intro a w hN old new
    obtain ⟨y134, e134, g134⟩ := new 36 134 rfl rfl
    obtain rfl : y134 = .bool true := g134
    refine OpOk.call (tab_yes hL rfl rfl e134) [] (forall_nil) (fun ρ e ⟨c1, c2⟩ => by (try simp only [List.forall_mem_cons] at e); go_simp) (AW.out _ hN) (fun e w1 h => ?_)
    obtain ⟨rfl, n1⟩ := h
    exact ⟨_, rfl, n1, rfl⟩
  · intro a w hN old new
    obtain ⟨y134, e134, g134⟩ := new 36 134 rfl rfl
    obtain rfl : y134 = .bool true := g134
    obtain ⟨y135, e135, g135⟩ := new 37 135 rfl rfl
    obtain rfl : y135 = .bool true := g135
    exact OpOk.val (.bool true) (w_none rfl) [(134, _), (135, _)] (forall_cons e134 <| forall_cons e135 <| forall_nil) (fun ρ e ⟨c1, c2⟩ => by (try simp only [List.forall_mem_cons] at e); go_simp) ⟨Nw.refl _, rfl⟩
  · intro a w hN old new
    obtain ⟨y136, e136, g136⟩ := new 38 136 rfl rfl
    obtain rfl : y136 = .bool true := g136
    exact OpOk.val (.bool true) (w_none rfl) [(136, _)] (forall_cons e136 <| forall_nil) (fun ρ e ⟨c1, c2⟩ => by (try simp only [List.forall_mem_cons] at e); go_simp) ⟨Nw.refl _, rfl⟩
  · intro a w hN hsz hdf old new
    obtain ⟨y2, e2, g2⟩ := new 39 2 rfl
    exact tab_frame (frame_lit (dst := [98, 99, 100, 101, 102, 103, 104, 105, 106, 107, 108, 109, 110, 111, 112, 113, 114, 115, 116, 117, 118, 119, 120, 121, 122, 123, 124, 125, 126, 127, 128, 129, 130, 131, 132, 133, 134, 135, 136, 2]) (l := [u0, u1, u2, .pointer (some ⟨p, 0, none⟩), .slice va m vc, u5, u6, u7, u8, u9, .slice (some ⟨g, o, none⟩) 1 qc, u11, u12, u13, .slice xa m xc, .slice ra 1 rc, u16, u17, u18, u19, u20, u21, u22, u23, u24, u25, u26, u27, u28, u29, u30, u31, u32, u33, u34, u35, u36, u37, u38, u39, u40, u41, u42, u43, u44, u45, u46, u47, u48, u49, u50, u51, u52, u53, u54, u55, u56, u57, u58, u59, u60, u61, u62, u63, u64, u65, u66, u67, u68, u69, u70, u71, u72, u73, u74, u75, u76, u77, u78, u79, u80, u81, u82, u83, u84, u85, u86, u87, u88, u89, u90, u91, u92, u93, u94, u95, u96, u97, u98, u99, u100, u101, u102, u103, u104, u105, u106, u107, u108, u109, u110, u111, u112, u113, u114, u115, u116, u117, u118, u119, u120, u121, u122, u123, u124, u125, u126, u127, u128, u129, u130, u131, u132, u133, u134, u135, u136]) hA hsz hdf old (l' := [u0, u1, (a.tmps[2]?.getD undef), .pointer (some ⟨p, 0, none⟩), .slice va m vc, u5, u6, u7, u8, u9, .slice (some ⟨g, o, none⟩) 1 qc, u11, u12, u13, .slice xa m xc, .slice ra 1 rc, u16, u17, u18, u19, u20, u21, u22, u23, u24, u25, u26, u27, u28, u29, u30, u31, u32, u33, u34, u35, u36, u37, u38, u39, u40, u41, u42, u43, u44, u45, u46, u47, u48, u49, u50, u51, u52, u53, u54, u55, u56, u57, u58, u59, u60, u61, u62, u63, u64, u65, u66, u67, u68, u69, u70, u71, u72, u73, u74, u75, u76, u77, u78, u79, u80, u81, u82, u83, u84, u85, u86, u87, u88, u89, u90, u91, u92, u93, u94, u95, u96, u97, (a.tmps[98]?.getD undef), (a.tmps[99]?.getD undef), (a.tmps[100]?.getD undef), (a.tmps[101]?.getD undef), (a.tmps[102]?.getD undef), (a.tmps[103]?.getD undef), (a.tmps[104]?.getD undef), (a.tmps[105]?.getD undef), (a.tmps[106]?.getD undef), (a.tmps[107]?.getD undef), (a.tmps[108]?.getD undef), (a.tmps[109]?.getD undef), (a.tmps[110]?.getD undef), (a.tmps[111]?.getD undef), (a.tmps[112]?.getD undef), (a.tmps[113]?.getD undef), (a.tmps[114]?.getD undef), (a.tmps[115]?.getD undef), (a.tmps[116]?.getD undef), (a.tmps[117]?.getD undef), (a.tmps[118]?.getD undef), (a.tmps[119]?.getD undef), (a.tmps[120]?.getD undef), (a.tmps[121]?.getD undef), (a.tmps[122]?.getD undef), (a.tmps[123]?.getD undef), (a.tmps[124]?.getD undef), (a.tmps[125]?.getD undef), (a.tmps[126]?.getD undef), (a.tmps[127]?.getD undef), (a.tmps[128]?.getD undef), (a.tmps[129]?.getD undef), (a.tmps[130]?.getD undef), (a.tmps[131]?.getD undef), (a.tmps[132]?.getD undef), (a.tmps[133]?.getD undef), (a.tmps[134]?.getD undef), (a.tmps[135]?.getD undef), (a.tmps[136]?.getD undef)]) (by kernel_rfl)) (HQ.out _ _ _ _ _ _ _ _ _ _ _ _ _ _ _ _ _ _ _ _ _ _ _ _ _ _ _ _ _ _ _ _ _ _ _ _ _ _ _ _ w hN (by rw [e2]; exact g2))
set_option maxHeartbeats 1600000 in
theorem r12_2 {w5 : World} {va xa ra : Option Addr} {p g o m vc qc xc rc k : Nat} {l2 : List Pc}
    (SE : Hid (∀ W, Nw w5 W → Calls Tryz.prog 40 #[.slice xa m xc, .slice va m vc] W fun e w' => e = .returned (.bool true) ∧ Nw W w'))
    (SP : Hid (∀ W, Nw w5 W → Calls Tryz.prog 17 #[.slice (some ⟨g, o, none⟩) 2 qc, .slice ra 2 rc] W fun e w' => e = .returned (.bool true) ∧ Nw W w'))
    (PI : Hid (∀ W, Nw w5 W → Calls Tryz.prog 12 #[.pointer (some ⟨p, 0, none⟩)] W fun e w' => ∃ a c, e = .returned (.slice a 2 c) ∧ Pcs w' (.slice a 2 c) l2 ∧ Nw W w'))
    (SQ : Hid (∀ W, Nw w5 W → ∀ a c, Pcs W (.slice a 2 c) l2 → Calls Tryz.prog 17 #[.slice a 2 c, .slice (some ⟨g, o, none⟩) 2 qc] W fun e w' => e = .returned (.bool true) ∧ Nw W w'))
    (AW : Hid (∀ W, Nw w5 W → Calls Tryz.prog 41 #[] W fun e w' => e = .returned (.bool true) ∧ Nw W w'))
    (LG : Hid (g < w5.heap.size)) (C120 : Hid (w5.cell? ⟨g, o + 3, none⟩ = some (.bool true))) (C125 : Hid (w5.cell? ⟨g, o + 2, none⟩ = some (.int .i64 k))) (C129 : Hid (w5.cell? ⟨g, o + 4 + 1, none⟩ = some (.int .i64 k)))
    {u0 u1 u2 u5 u6 u7 u8 u9 u11 u12 u13 u16 u17 u18 u19 u20 u21 u22 u23 u24 u25 u26 u27 u28 u29 u30 u31 u32 u33 u34 u35 u36 u37 u38 u39 u40 u41 u42 u43 u44 u45 u46 u47 u48 u49 u50 u51 u52 u53 u54 u55 u56 u57 u58 u59 u60 u61 u62 u63 u64 u65 u66 u67 u68 u69 u70 u71 u72 u73 u74 u75 u76 u77 u78 u79 u80 u81 u82 u83 u84 u85 u86 u87 u88 u89 u90 u91 u92 u93 u94 u95 u96 u97 u98 u99 u100 u101 u102 u103 u104 u105 u106 u107 u108 u109 u110 u111 u112 u113 u114 u115 u116 u117 u118 u119 u120 u121 u122 u123 u124 u125 u126 u127 u128 u129 u130 u131 u132 u133 u134 u135 u136 : Value} {Q : Exit → Act → World → Prop}
    (hQ : ∀ (s2 s98 s99 s100 s101 s102 s103 s104 s105 s106 s107 s108 s109 s110 s111 s112 s113 s114 s115 s116 s117 s118 s119 s120 s121 s122 s123 s124 s125 s126 s127 s128 s129 s130 s131 s132 s133 s134 s135 s136 : Value) (wx : World), Nw w5 wx → s2 = .bool true → Q .normal ⟨#[u0, u1, s2, .pointer (some ⟨p, 0, none⟩), .slice va m vc, u5, u6, u7, u8, u9, .slice (some ⟨g, o, none⟩) 2 qc, u11, u12, u13, .slice xa m xc, .slice ra 2 rc, u16, u17, u18, u19, u20, u21, u22, u23, u24, u25, u26, u27, u28, u29, u30, u31, u32, u33, u34, u35, u36, u37, u38, u39, u40, u41, u42, u43, u44, u45, u46, u47, u48, u49, u50, u51, u52, u53, u54, u55, u56, u57, u58, u59, u60, u61, u62, u63, u64, u65, u66, u67, u68, u69, u70, u71, u72, u73, u74, u75, u76, u77, u78, u79, u80, u81, u82, u83, u84, u85, u86, u87, u88, u89, u90, u91, u92, u93, u94, u95, u96, u97, s98, s99, s100, s101, s102, s103, s104, s105, s106, s107, s108, s109, s110, s111, s112, s113, s114, s115, s116, s117, s118, s119, s120, s121, s122, s123, s124, s125, s126, s127, s128, s129, s130, s131, s132, s133, s134, s135, s136], []⟩ wx) :
    Code.wp Tryz.prog ((Tryz.f5.body.bind (regionOf 12)).getD .skip) Q ⟨#[u0, u1, u2, .pointer (some ⟨p, 0, none⟩), .slice va m vc, u5, u6, u7, u8, u9, .slice (some ⟨g, o, none⟩) 2 qc, u11, u12, u13, .slice xa m xc, .slice ra 2 rc, u16, u17, u18, u19, u20, u21, u22, u23, u24, u25, u26, u27, u28, u29, u30, u31, u32, u33, u34, u35, u36, u37, u38, u39, u40, u41, u42, u43, u44, u45, u46, u47, u48, u49, u50, u51, u52, u53, u54, u55, u56, u57, u58, u59, u60, u61, u62, u63, u64, u65, u66, u67, u68, u69, u70, u71, u72, u73, u74, u75, u76, u77, u78, u79, u80, u81, u82, u83, u84, u85, u86, u87, u88, u89, u90, u91, u92, u93, u94, u95, u96, u97, u98, u99, u100, u101, u102, u103, u104, u105, u106, u107, u108, u109, u110, u111, u112, u113, u114, u115, u116, u117, u118, u119, u120, u121, u122, u123, u124, u125, u126, u127, u128, u129, u130, u131, u132, u133, u134, u135, u136], []⟩ w5 := by
  dsimp only at hQ ⊢
  conv => arg 2; whnf
  have HQ := Lib.hid hQ
  clear hQ
  refine name_act fun A hA => ?_
  have hA3 : A.tmps[3]? = some (.pointer (some ⟨p, 0, none⟩)) := by rw [hA]; rfl
  have hA4 : A.tmps[4]? = some (.slice va m vc) := by rw [hA]; rfl
  have hA10 : A.tmps[10]? = some (.slice (some ⟨g, o, none⟩) 2 qc) := by rw [hA]; rfl
  have hA14 : A.tmps[14]? = some (.slice xa m xc) := by rw [hA]; rfl
  have hA15 : A.tmps[15]? = some (.slice ra 2 rc) := by rw [hA]; rfl
  have hlt0 : ∀ d ∈ ([98, 99, 100, 101, 102, 103, 104, 105, 106, 107, 108, 109, 110, 111, 112, 113, 114, 115, 116, 117, 118, 119, 120, 121, 122, 123, 124, 125, 126, 127, 128, 129, 130, 131, 132, 133, 134, 135, 136, 2] : List Nat), d < 137 := by decide
  refine wp_region_tab [98, 99, 100, 101, 102, 103, 104, 105, 106, 107, 108, 109, 110, 111, 112, 113, 114, 115, 116, 117, 118, 119, 120, 121, 122, 123, 124, 125, 126, 127, 128, 129, 130, 131, 132, 133, 134, 135, 136, 2] [isV (.slice xa m xc), isV (.slice va m vc), isV (.bool true), isV (.bool true), isV (.slice (some ⟨g, o, none⟩) 2 qc), isV (.slice ra 2 rc), isV (.bool true), isV (.bool true), isV (.bool true), isV (.pointer (some ⟨p, 0, none⟩)), (⟨fun x w => ∃ a c, x = .slice a 2 c ∧ Pcs w x l2, fun x w w' ⟨a, c, h1, h2⟩ n => ⟨a, c, h1, h2.nw n⟩⟩), isV (.slice (some ⟨g, o, none⟩) 2 qc), isV (.bool true), isV (.bool true), isV (.bool true), isV (.slice (some ⟨g, o, none⟩) 2 qc), isV (.int .i64 2), isV (.bool false), isV (.bool false), isV (.slice (some ⟨g, o, none⟩) 2 qc), isV (.pointer (some ⟨g, o, none⟩)), isV (.pointer (some ⟨g, o + 3, none⟩)), isV (.bool true), isV (.bool true), isV (.slice (some ⟨g, o, none⟩) 2 qc), isV (.pointer (some ⟨g, o, none⟩)), isV (.pointer (some ⟨g, o + 2, none⟩)), isV (.int .i64 k), isV (.slice (some ⟨g, o, none⟩) 2 qc), isV (.pointer (some ⟨g, o + 4, none⟩)), isV (.pointer (some ⟨g, o + 4 + 1, none⟩)), isV (.int .i64 k), isV (.bool true), isV (.bool true), isV (.bool true), isV (.bool true), isV (.bool true), isV (.bool true), isV (.bool true), isV (.bool true)] (by kernel_rfl) (by kernel_rfl) (by kernel_rfl) (of_decide_eq_true (by kernel_rfl)) (fun d hd => by rw [hA]; exact hlt0 d hd) (fun L hL => ⟨?a0, ?a1, ?a2, ?a3, ?a4, ?a5, ?a6, ?a7, ?a8, ?a9, ?a10, ?a11, ?a12, ?a13, ?a14, ?a15, ?a16, ?a17, ?a18, ?a19, ?a20, ?a21, ?a22, ?a23, ?a24, ?a25, ?a26, ?a27, ?a28, ?a29, ?a30, ?a31, ?a32, ?a33, ?a34, ?a35, ?a36, ?a37, ?a38, ?a39, trivial⟩) ?he
  · intro a w hN old new
    have e14 := old 14 (.slice xa m xc) rfl hA14
    exact OpOk.val (.slice xa m xc) (w_none rfl) [(14, _)] (forall_cons e14 <| forall_nil) (fun ρ e ⟨c1, c2⟩ => by (try simp only [List.forall_mem_cons] at e); go_simp) ⟨Nw.refl _, rfl⟩
  · intro a w hN old new
    have e4 := old 4 (.slice va m vc) rfl hA4
    exact OpOk.val (.slice va m vc) (w_none rfl) [(4, _)] (forall_cons e4 <| forall_nil) (fun ρ e ⟨c1, c2⟩ => by (try simp only [List.forall_mem_cons] at e); go_simp) ⟨Nw.refl _, rfl⟩
  · intro a w hN old new
    obtain ⟨y98, e98, g98⟩ := new 0 98 rfl rfl
    obtain rfl : y98 = .slice xa m xc := g98
    obtain ⟨y99, e99, g99⟩ := new 1 99 rfl rfl
    obtain rfl : y99 = .slice va m vc := g99
    refine OpOk.call (w_none rfl) [(98, _), (99, _)] (forall_cons e98 <| forall_cons e99 <| forall_nil) (fun ρ e ⟨c1, c2⟩ => by (try simp only [List.forall_mem_cons] at e); go_simp) (SE.out _ hN) (fun e w1 h => ?_)
    obtain ⟨rfl, n1⟩ := h
    exact ⟨_, rfl, n1, rfl⟩
  · intro a w hN old new
    obtain ⟨y100, e100, g100⟩ := new 2 100 rfl rfl
    obtain rfl : y100 = .bool true := g100
    exact OpOk.val (.bool true) (w_none rfl) [(100, _)] (forall_cons e100 <| forall_nil) (fun ρ e ⟨c1, c2⟩ => by (try simp only [List.forall_mem_cons] at e); go_simp) ⟨Nw.refl _, rfl⟩
  · intro a w hN old new
    obtain ⟨y101, e101, g101⟩ := new 3 101 rfl rfl
    obtain rfl : y101 = .bool true := g101
    have e10 := old 10 (.slice (some ⟨g, o, none⟩) 2 qc) rfl hA10
    exact OpOk.val (.slice (some ⟨g, o, none⟩) 2 qc) (tab_yes hL rfl rfl e101) [(10, _)] (forall_cons e10 <| forall_nil) (fun ρ e ⟨c1, c2⟩ => by (try simp only [List.forall_mem_cons] at e); go_simp) ⟨Nw.refl _, rfl⟩
  · intro a w hN old new
    obtain ⟨y101, e101, g101⟩ := new 3 101 rfl rfl
    obtain rfl : y101 = .bool true := g101
    have e15 := old 15 (.slice ra 2 rc) rfl hA15
    exact OpOk.val (.slice ra 2 rc) (tab_yes hL rfl rfl e101) [(15, _)] (forall_cons e15 <| forall_nil) (fun ρ e ⟨c1, c2⟩ => by (try simp only [List.forall_mem_cons] at e); go_simp) ⟨Nw.refl _, rfl⟩
  · intro a w hN old new
    obtain ⟨y101, e101, g101⟩ := new 3 101 rfl rfl
    obtain rfl : y101 = .bool true := g101
    obtain ⟨y102, e102, g102⟩ := new 4 102 rfl rfl
    obtain rfl : y102 = .slice (some ⟨g, o, none⟩) 2 qc := g102
    obtain ⟨y103, e103, g103⟩ := new 5 103 rfl rfl
    obtain rfl : y103 = .slice ra 2 rc := g103
    refine OpOk.call (tab_yes hL rfl rfl e101) [(102, _), (103, _)] (forall_cons e102 <| forall_cons e103 <| forall_nil) (fun ρ e ⟨c1, c2⟩ => by (try simp only [List.forall_mem_cons] at e); go_simp) (SP.out _ hN) (fun e w1 h => ?_)
    obtain ⟨rfl, n1⟩ := h
    exact ⟨_, rfl, n1, rfl⟩
  · intro a w hN old new
    obtain ⟨y101, e101, g101⟩ := new 3 101 rfl rfl
    obtain rfl : y101 = .bool true := g101
    obtain ⟨y104, e104, g104⟩ := new 6 104 rfl rfl
    obtain rfl : y104 = .bool true := g104
    exact OpOk.val (.bool true) (w_none rfl) [(101, _), (104, _)] (forall_cons e101 <| forall_cons e104 <| forall_nil) (fun ρ e ⟨c1, c2⟩ => by (try simp only [List.forall_mem_cons] at e); go_simp) ⟨Nw.refl _, rfl⟩
  · intro a w hN old new
    obtain ⟨y105, e105, g105⟩ := new 7 105 rfl rfl
    obtain rfl : y105 = .bool true := g105
    exact OpOk.val (.bool true) (w_none rfl) [(105, _)] (forall_cons e105 <| forall_nil) (fun ρ e ⟨c1, c2⟩ => by (try simp only [List.forall_mem_cons] at e); go_simp) ⟨Nw.refl _, rfl⟩
  · intro a w hN old new
    obtain ⟨y106, e106, g106⟩ := new 8 106 rfl rfl
    obtain rfl : y106 = .bool true := g106
    have e3 := old 3 (.pointer (some ⟨p, 0, none⟩)) rfl hA3
    exact OpOk.val (.pointer (some ⟨p, 0, none⟩)) (tab_yes hL rfl rfl e106) [(3, _)] (forall_cons e3 <| forall_nil) (fun ρ e ⟨c1, c2⟩ => by (try simp only [List.forall_mem_cons] at e); go_simp) ⟨Nw.refl _, rfl⟩
  · intro a w hN old new
    obtain ⟨y106, e106, g106⟩ := new 8 106 rfl rfl
    obtain rfl : y106 = .bool true := g106
    obtain ⟨y107, e107, g107⟩ := new 9 107 rfl rfl
    obtain rfl : y107 = .pointer (some ⟨p, 0, none⟩) := g107
    refine OpOk.call (tab_yes hL rfl rfl e106) [(107, _)] (forall_cons e107 <| forall_nil) (fun ρ e ⟨c1, c2⟩ => by (try simp only [List.forall_mem_cons] at e); go_simp) (PI.out _ hN) (fun e w1 h => ?_)
    obtain ⟨a, c, rfl, q1, n1⟩ := h
    exact ⟨_, rfl, n1, ⟨a, c, rfl, q1⟩⟩
  · intro a w hN old new
    obtain ⟨y106, e106, g106⟩ := new 8 106 rfl rfl
    obtain rfl : y106 = .bool true := g106
    have e10 := old 10 (.slice (some ⟨g, o, none⟩) 2 qc) rfl hA10
    exact OpOk.val (.slice (some ⟨g, o, none⟩) 2 qc) (tab_yes hL rfl rfl e106) [(10, _)] (forall_cons e10 <| forall_nil) (fun ρ e ⟨c1, c2⟩ => by (try simp only [List.forall_mem_cons] at e); go_simp) ⟨Nw.refl _, rfl⟩
  · intro a w hN old new
    obtain ⟨y106, e106, g106⟩ := new 8 106 rfl rfl
    obtain rfl : y106 = .bool true := g106
    obtain ⟨y108, e108, g108⟩ := new 10 108 rfl rfl
    obtain ⟨a0, c0, rfl, q0⟩ := g108
    obtain ⟨y109, e109, g109⟩ := new 11 109 rfl rfl
    obtain rfl : y109 = .slice (some ⟨g, o, none⟩) 2 qc := g109
    refine OpOk.call (tab_yes hL rfl rfl e106) [(108, _), (109, _)] (forall_cons e108 <| forall_cons e109 <| forall_nil) (fun ρ e ⟨c1, c2⟩ => by (try simp only [List.forall_mem_cons] at e); go_simp) (SQ.out _ hN a0 c0 q0) (fun e w1 h => ?_)
    obtain ⟨rfl, n1⟩ := h
    exact ⟨_, rfl, n1, rfl⟩
  · intro a w hN old new
    obtain ⟨y106, e106, g106⟩ := new 8 106 rfl rfl
    obtain rfl : y106 = .bool true := g106
    obtain ⟨y110, e110, g110⟩ := new 12 110 rfl rfl
    obtain rfl : y110 = .bool true := g110
    exact OpOk.val (.bool true) (w_none rfl) [(106, _), (110, _)] (forall_cons e106 <| forall_cons e110 <| forall_nil) (fun ρ e ⟨c1, c2⟩ => by (try simp only [List.forall_mem_cons] at e); go_simp) ⟨Nw.refl _, rfl⟩
  · intro a w hN old new
    obtain ⟨y111, e111, g111⟩ := new 13 111 rfl rfl
    obtain rfl : y111 = .bool true := g111
    exact OpOk.val (.bool true) (w_none rfl) [(111, _)] (forall_cons e111 <| forall_nil) (fun ρ e ⟨c1, c2⟩ => by (try simp only [List.forall_mem_cons] at e); go_simp) ⟨Nw.refl _, rfl⟩
  · intro a w hN old new
    obtain ⟨y112, e112, g112⟩ := new 14 112 rfl rfl
    obtain rfl : y112 = .bool true := g112
    have e10 := old 10 (.slice (some ⟨g, o, none⟩) 2 qc) rfl hA10
    exact OpOk.val (.slice (some ⟨g, o, none⟩) 2 qc) (tab_yes hL rfl rfl e112) [(10, _)] (forall_cons e10 <| forall_nil) (fun ρ e ⟨c1, c2⟩ => by (try simp only [List.forall_mem_cons] at e); go_simp) ⟨Nw.refl _, rfl⟩
  · intro a w hN old new
    obtain ⟨y112, e112, g112⟩ := new 14 112 rfl rfl
    obtain rfl : y112 = .bool true := g112
    obtain ⟨y113, e113, g113⟩ := new 15 113 rfl rfl
    obtain rfl : y113 = .slice (some ⟨g, o, none⟩) 2 qc := g113
    exact OpOk.val (.int .i64 2) (tab_yes hL rfl rfl e112) [(113, _)] (forall_cons e113 <| forall_nil) (fun ρ e ⟨c1, c2⟩ => by (try simp only [List.forall_mem_cons] at e); go_simp) ⟨Nw.refl _, rfl⟩
  · intro a w hN old new
    obtain ⟨y112, e112, g112⟩ := new 14 112 rfl rfl
    obtain rfl : y112 = .bool true := g112
    obtain ⟨y114, e114, g114⟩ := new 16 114 rfl rfl
    obtain rfl : y114 = .int .i64 2 := g114
    exact OpOk.val (.bool false) (tab_yes hL rfl rfl e112) [(114, _)] (forall_cons e114 <| forall_nil) (fun ρ e ⟨c1, c2⟩ => by (try simp only [List.forall_mem_cons] at e); go_simp) ⟨Nw.refl _, rfl⟩
  · intro a w hN old new
    obtain ⟨y112, e112, g112⟩ := new 14 112 rfl rfl
    obtain rfl : y112 = .bool true := g112
    obtain ⟨y115, e115, g115⟩ := new 17 115 rfl rfl
    obtain rfl : y115 = .bool false := g115
    exact OpOk.val (.bool false) (tab_yes hL rfl rfl e112) [(115, _)] (forall_cons e115 <| forall_nil) (fun ρ e ⟨c1, c2⟩ => by (try simp only [List.forall_mem_cons] at e); go_simp) ⟨Nw.refl _, rfl⟩
  · intro a w hN old new
    obtain ⟨y116, e116, g116⟩ := new 18 116 rfl rfl
    obtain rfl : y116 = .bool false := g116
    have e10 := old 10 (.slice (some ⟨g, o, none⟩) 2 qc) rfl hA10
    exact OpOk.val (.slice (some ⟨g, o, none⟩) 2 qc) (tab_yes hL rfl rfl e116) [(10, _)] (forall_cons e10 <| forall_nil) (fun ρ e ⟨c1, c2⟩ => by (try simp only [List.forall_mem_cons] at e); go_simp) ⟨Nw.refl _, rfl⟩
  · intro a w hN old new
    obtain ⟨y116, e116, g116⟩ := new 18 116 rfl rfl
    obtain rfl : y116 = .bool false := g116
    obtain ⟨y117, e117, g117⟩ := new 19 117 rfl rfl
    obtain rfl : y117 = .slice (some ⟨g, o, none⟩) 2 qc := g117
    exact OpOk.val (.pointer (some ⟨g, o, none⟩)) (tab_yes hL rfl rfl e116) [(117, _)] (forall_cons e117 <| forall_nil) (fun ρ e ⟨c1, c2⟩ => by (try simp only [List.forall_mem_cons] at e); go_simp) ⟨Nw.refl _, rfl⟩
  · intro a w hN old new
    obtain ⟨y116, e116, g116⟩ := new 18 116 rfl rfl
    obtain rfl : y116 = .bool false := g116
    obtain ⟨y118, e118, g118⟩ := new 20 118 rfl rfl
    obtain rfl : y118 = .pointer (some ⟨g, o, none⟩) := g118
    exact OpOk.val (.pointer (some ⟨g, o + 3, none⟩)) (tab_yes hL rfl rfl e116) [(118, _)] (forall_cons e118 <| forall_nil) (fun ρ e ⟨c1, c2⟩ => by (try simp only [List.forall_mem_cons] at e); go_simp) ⟨Nw.refl _, rfl⟩
  · intro a w hN old new
    obtain ⟨y116, e116, g116⟩ := new 18 116 rfl rfl
    obtain rfl : y116 = .bool false := g116
    obtain ⟨y119, e119, g119⟩ := new 21 119 rfl rfl
    obtain rfl : y119 = .pointer (some ⟨g, o + 3, none⟩) := g119
    have hc := hN.cell C120.out
    have hl := Nat.lt_of_lt_of_le LG.out hN.size
    exact OpOk.val (.bool true) (tab_yes hL rfl rfl e116) [(119, _)] (forall_cons e119 <| forall_nil) (fun ρ e ⟨c1, c2⟩ => by (try simp only [List.forall_mem_cons] at e); go_simp) ⟨Nw.refl _, rfl⟩
  · intro a w hN old new
    obtain ⟨y116, e116, g116⟩ := new 18 116 rfl rfl
    obtain rfl : y116 = .bool false := g116
    obtain ⟨y120, e120, g120⟩ := new 22 120 rfl rfl
    obtain rfl : y120 = .bool true := g120
    exact OpOk.val (.bool true) (tab_yes hL rfl rfl e116) [(120, _)] (forall_cons e120 <| forall_nil) (fun ρ e ⟨c1, c2⟩ => by (try simp only [List.forall_mem_cons] at e); go_simp) ⟨Nw.refl _, rfl⟩
  · intro a w hN old new
    obtain ⟨y121, e121, g121⟩ := new 23 121 rfl rfl
    obtain rfl : y121 = .bool true := g121
    have e10 := old 10 (.slice (some ⟨g, o, none⟩) 2 qc) rfl hA10
    exact OpOk.val (.slice (some ⟨g, o, none⟩) 2 qc) (tab_yes hL rfl rfl e121) [(10, _)] (forall_cons e10 <| forall_nil) (fun ρ e ⟨c1, c2⟩ => by (try simp only [List.forall_mem_cons] at e); go_simp) ⟨Nw.refl _, rfl⟩
  · intro a w hN old new
    obtain ⟨y121, e121, g121⟩ := new 23 121 rfl rfl
    obtain rfl : y121 = .bool true := g121
    obtain ⟨y122, e122, g122⟩ := new 24 122 rfl rfl
    obtain rfl : y122 = .slice (some ⟨g, o, none⟩) 2 qc := g122
    exact OpOk.val (.pointer (some ⟨g, o, none⟩)) (tab_yes hL rfl rfl e121) [(122, _)] (forall_cons e122 <| forall_nil) (fun ρ e ⟨c1, c2⟩ => by (try simp only [List.forall_mem_cons] at e); go_simp) ⟨Nw.refl _, rfl⟩
  · intro a w hN old new
    obtain ⟨y121, e121, g121⟩ := new 23 121 rfl rfl
    obtain rfl : y121 = .bool true := g121
    obtain ⟨y123, e123, g123⟩ := new 25 123 rfl rfl
    obtain rfl : y123 = .pointer (some ⟨g, o, none⟩) := g123
    exact OpOk.val (.pointer (some ⟨g, o + 2, none⟩)) (tab_yes hL rfl rfl e121) [(123, _)] (forall_cons e123 <| forall_nil) (fun ρ e ⟨c1, c2⟩ => by (try simp only [List.forall_mem_cons] at e); go_simp) ⟨Nw.refl _, rfl⟩
  · intro a w hN old new
    obtain ⟨y121, e121, g121⟩ := new 23 121 rfl rfl
    obtain rfl : y121 = .bool true := g121
    obtain ⟨y124, e124, g124⟩ := new 26 124 rfl rfl
    obtain rfl : y124 = .pointer (some ⟨g, o + 2, none⟩) := g124
    have hc := hN.cell C125.out
    have hl := Nat.lt_of_lt_of_le LG.out hN.size
    exact OpOk.val (.int .i64 k) (tab_yes hL rfl rfl e121) [(124, _)] (forall_cons e124 <| forall_nil) (fun ρ e ⟨c1, c2⟩ => by (try simp only [List.forall_mem_cons] at e); go_simp) ⟨Nw.refl _, rfl⟩
  · intro a w hN old new
    obtain ⟨y121, e121, g121⟩ := new 23 121 rfl rfl
    obtain rfl : y121 = .bool true := g121
    have e10 := old 10 (.slice (some ⟨g, o, none⟩) 2 qc) rfl hA10
    exact OpOk.val (.slice (some ⟨g, o, none⟩) 2 qc) (tab_yes hL rfl rfl e121) [(10, _)] (forall_cons e10 <| forall_nil) (fun ρ e ⟨c1, c2⟩ => by (try simp only [List.forall_mem_cons] at e); go_simp) ⟨Nw.refl _, rfl⟩
  · intro a w hN old new
    obtain ⟨y121, e121, g121⟩ := new 23 121 rfl rfl
    obtain rfl : y121 = .bool true := g121
    obtain ⟨y126, e126, g126⟩ := new 28 126 rfl rfl
    obtain rfl : y126 = .slice (some ⟨g, o, none⟩) 2 qc := g126
    exact OpOk.val (.pointer (some ⟨g, o + 4, none⟩)) (tab_yes hL rfl rfl e121) [(126, _)] (forall_cons e126 <| forall_nil) (fun ρ e ⟨c1, c2⟩ => by (try simp only [List.forall_mem_cons] at e); go_simp) ⟨Nw.refl _, rfl⟩
  · intro a w hN old new
    obtain ⟨y121, e121, g121⟩ := new 23 121 rfl rfl
    obtain rfl : y121 = .bool true := g121
    obtain ⟨y127, e127, g127⟩ := new 29 127 rfl rfl
    obtain rfl : y127 = .pointer (some ⟨g, o + 4, none⟩) := g127
    exact OpOk.val (.pointer (some ⟨g, o + 4 + 1, none⟩)) (tab_yes hL rfl rfl e121) [(127, _)] (forall_cons e127 <| forall_nil) (fun ρ e ⟨c1, c2⟩ => by (try simp only [List.forall_mem_cons] at e); go_simp) ⟨Nw.refl _, rfl⟩
  · intro a w hN old new
    obtain ⟨y121, e121, g121⟩ := new 23 121 rfl rfl
    obtain rfl : y121 = .bool true := g121
    obtain ⟨y128, e128, g128⟩ := new 30 128 rfl rfl
    obtain rfl : y128 = .pointer (some ⟨g, o + 4 + 1, none⟩) := g128
    have hc := hN.cell C129.out
    have hl := Nat.lt_of_lt_of_le LG.out hN.size
    exact OpOk.val (.int .i64 k) (tab_yes hL rfl rfl e121) [(128, _)] (forall_cons e128 <| forall_nil) (fun ρ e ⟨c1, c2⟩ => by (try simp only [List.forall_mem_cons] at e); go_simp) ⟨Nw.refl _, rfl⟩
  · intro a w hN old new
    obtain ⟨y121, e121, g121⟩ := new 23 121 rfl rfl
    obtain rfl : y121 = .bool true := g121
    obtain ⟨y125, e125, g125⟩ := new 27 125 rfl rfl
    obtain rfl : y125 = .int .i64 k := g125
    obtain ⟨y129, e129, g129⟩ := new 31 129 rfl rfl
    obtain rfl : y129 = .int .i64 k := g129
    exact OpOk.val (.bool true) (tab_yes hL rfl rfl e121) [(125, _), (129, _)] (forall_cons e125 <| forall_cons e129 <| forall_nil) (fun ρ e ⟨c1, c2⟩ => by (try simp only [List.forall_mem_cons] at e); go_simp) ⟨Nw.refl _, rfl⟩
  · intro a w hN old new
    obtain ⟨y116, e116, g116⟩ := new 18 116 rfl rfl
    obtain rfl : y116 = .bool false := g116
    obtain ⟨y121, e121, g121⟩ := new 23 121 rfl rfl
    obtain rfl : y121 = .bool true := g121
    obtain ⟨y130, e130, g130⟩ := new 32 130 rfl rfl
    obtain rfl : y130 = .bool true := g130
    exact OpOk.val (.bool true) (tab_yes hL rfl rfl e116) [(121, _), (130, _)] (forall_cons e121 <| forall_cons e130 <| forall_nil) (fun ρ e ⟨c1, c2⟩ => by (try simp only [List.forall_mem_cons] at e); go_simp) ⟨Nw.refl _, rfl⟩
  · intro a w hN old new
    obtain ⟨y112, e112, g112⟩ := new 14 112 rfl rfl
    obtain rfl : y112 = .bool true := g112
    obtain ⟨y116, e116, g116⟩ := new 18 116 rfl rfl
    obtain rfl : y116 = .bool false := g116
    obtain ⟨y131, e131, g131⟩ := new 33 131 rfl rfl
    obtain rfl : y131 = .bool true := g131
    exact OpOk.val (.bool true) (tab_yes hL rfl rfl e112) [(116, _), (131, _)] (forall_cons e116 <| forall_cons e131 <| forall_nil) (fun ρ e ⟨c1, c2⟩ => by (try simp only [List.forall_mem_cons] at e); go_simp) ⟨Nw.refl _, rfl⟩
  · intro a w hN old new
    obtain ⟨y112, e112, g112⟩ := new 14 112 rfl rfl
    obtain rfl : y112 = .bool true := g112
    obtain ⟨y132, e132, g132⟩ := new 34 132 rfl rfl
    obtain rfl : y132 = .bool true := g132
    exact OpOk.val (.bool true) (w_none rfl) [(112, _), (132, _)] (forall_cons e112 <| forall_cons e132 <| forall_nil) (fun ρ e ⟨c1, c2⟩ => by (try simp only [List.forall_mem_cons] at e); go_simp) ⟨Nw.refl _, rfl⟩
  · intro a w hN old new
    obtain ⟨y133, e133, g133⟩ := new 35 133 rfl rfl
    obtain rfl : y133 = .bool true := g133
    exact OpOk.val (.bool true) (w_none rfl) [(133, _)] (forall_cons e133 <| forall_nil) (fun ρ e ⟨c1, c2⟩ => by (try simp only [List.forall_mem_cons] at e); go_simp) ⟨Nw.refl _, rfl⟩
  · intro a w hN old new
    obtain ⟨y134, e134, g134⟩ := new 36 134 rfl rfl
    obtain rfl : y134 = .bool true := g134
    refine OpOk.call (tab_yes hL rfl rfl e134) [] (forall_nil) (fun ρ e ⟨c1, c2⟩ => by (try simp only [List.forall_mem_cons] at e); go_simp) (AW.out _ hN) (fun e w1 h => ?_)
    obtain ⟨rfl, n1⟩ := h
    exact ⟨_, rfl, n1, rfl⟩
  · intro a w hN old new
    obtain ⟨y134, e134, g134⟩ := new 36 134 rfl rfl
    obtain rfl : y134 = .bool true := g134
    obtain ⟨y135, e135, g135⟩ := new 37 135 rfl rfl
    obtain rfl : y135 = .bool true := g135
    exact OpOk.val (.bool true) (w_none rfl) [(134, _), (135, _)] (forall_cons e134 <| forall_cons e135 <| forall_nil) (fun ρ e ⟨c1, c2⟩ => by (try simp only [List.forall_mem_cons] at e); go_simp) ⟨Nw.refl _, rfl⟩
  · intro a w hN old new
    obtain ⟨y136, e136, g136⟩ := new 38 136 rfl rfl
    obtain rfl : y136 = .bool true := g136
    exact OpOk.val (.bool true) (w_none rfl) [(136, _)] (forall_cons e136 <| forall_nil) (fun ρ e ⟨c1, c2⟩ => by (try simp only [List.forall_mem_cons] at e); go_simp) ⟨Nw.refl _, rfl⟩
  · intro a w hN hsz hdf old new
    obtain ⟨y2, e2, g2⟩ := new 39 2 rfl
    exact tab_frame (frame_lit (dst := [98, 99, 100, 101, 102, 103, 104, 105, 106, 107, 108, 109, 110, 111, 112, 113, 114, 115, 116, 117, 118, 119, 120, 121, 122, 123, 124, 125, 126, 127, 128, 129, 130, 131, 132, 133, 134, 135, 136, 2]) (l := [u0, u1, u2, .pointer (some ⟨p, 0, none⟩), .slice va m vc, u5, u6, u7, u8, u9, .slice (some ⟨g, o, none⟩) 2 qc, u11, u12, u13, .slice xa m xc, .slice ra 2 rc, u16, u17, u18, u19, u20, u21, u22, u23, u24, u25, u26, u27, u28, u29, u30, u31, u32, u33, u34, u35, u36, u37, u38, u39, u40, u41, u42, u43, u44, u45, u46, u47, u48, u49, u50, u51, u52, u53, u54, u55, u56, u57, u58, u59, u60, u61, u62, u63, u64, u65, u66, u67, u68, u69, u70, u71, u72, u73, u74, u75, u76, u77, u78, u79, u80, u81, u82, u83, u84, u85, u86, u87, u88, u89, u90, u91, u92, u93, u94, u95, u96, u97, u98, u99, u100, u101, u102, u103, u104, u105, u106, u107, u108, u109, u110, u111, u112, u113, u114, u115, u116, u117, u118, u119, u120, u121, u122, u123, u124, u125, u126, u127, u128, u129, u130, u131, u132, u133, u134, u135, u136]) hA hsz hdf old (l' := [u0, u1, (a.tmps[2]?.getD undef), .pointer (some ⟨p, 0, none⟩), .slice va m vc, u5, u6, u7, u8, u9, .slice (some ⟨g, o, none⟩) 2 qc, u11, u12, u13, .slice xa m xc, .slice ra 2 rc, u16, u17, u18, u19, u20, u21, u22, u23, u24, u25, u26, u27, u28, u29, u30, u31, u32, u33, u34, u35, u36, u37, u38, u39, u40, u41, u42, u43, u44, u45, u46, u47, u48, u49, u50, u51, u52, u53, u54, u55, u56, u57, u58, u59, u60, u61, u62, u63, u64, u65, u66, u67, u68, u69, u70, u71, u72, u73, u74, u75, u76, u77, u78, u79, u80, u81, u82, u83, u84, u85, u86, u87, u88, u89, u90, u91, u92, u93, u94, u95, u96, u97, (a.tmps[98]?.getD undef), (a.tmps[99]?.getD undef), (a.tmps[100]?.getD undef), (a.tmps[101]?.getD undef), (a.tmps[102]?.getD undef), (a.tmps[103]?.getD undef), (a.tmps[104]?.getD undef), (a.tmps[105]?.getD undef), (a.tmps[106]?.getD undef), (a.tmps[107]?.getD undef), (a.tmps[108]?.getD undef), (a.tmps[109]?.getD undef), (a.tmps[110]?.getD undef), (a.tmps[111]?.getD undef), (a.tmps[112]?.getD undef), (a.tmps[113]?.getD undef), (a.tmps[114]?.getD undef), (a.tmps[115]?.getD undef), (a.tmps[116]?.getD undef), (a.tmps[117]?.getD undef), (a.tmps[118]?.getD undef), (a.tmps[119]?.getD undef), (a.tmps[120]?.getD undef), (a.tmps[121]?.getD undef), (a.tmps[122]?.getD undef), (a.tmps[123]?.getD undef), (a.tmps[124]?.getD undef), (a.tmps[125]?.getD undef), (a.tmps[126]?.getD undef), (a.tmps[127]?.getD undef), (a.tmps[128]?.getD undef), (a.tmps[129]?.getD undef), (a.tmps[130]?.getD undef), (a.tmps[131]?.getD undef), (a.tmps[132]?.getD undef), (a.tmps[133]?.getD undef), (a.tmps[134]?.getD undef), (a.tmps[135]?.getD undef), (a.tmps[136]?.getD undef)]) (by kernel_rfl)) (HQ.out _ _ _ _ _ _ _ _ _ _ _ _ _ _ _ _ _ _ _ _ _ _ _ _ _ _ _ _ _ _ _ _ _ _ _ _ _ _ _ _ w hN (by rw [e2]; exact g2))
end Go.Proofs.YtjapijndljknnaaGreatDoor.CompactTwice
