/-
  Texts merged by a program of this claim's: WalkD.
-/
import Derived.Test.YtcmaedoolinijaaGreatDoorM15
import Derived.Test.YtcmaedoolinijaaGreatDoorM2
namespace Go.Proofs.YtcmaedoolinijaaGreatDoor
open Go Go.RowKit Go.Sort
set_option maxRecDepth 100000
theorem box9 {w : World} {p : Nat} {a b c d e f g h i : Value} {t : TypeId} (hb : w.heap[p]? = some (.cells #[a, b, c, d, e, f, g, h, i] t (0, 0))) :
    w.cell? ⟨p, 0, none⟩ = some a ∧ w.cell? ⟨p, 1, none⟩ = some b ∧ w.cell? ⟨p, 2, none⟩ = some c ∧ w.cell? ⟨p, 3, none⟩ = some d ∧ w.cell? ⟨p, 4, none⟩ = some e ∧ w.cell? ⟨p, 5, none⟩ = some f ∧ w.cell? ⟨p, 6, none⟩ = some g ∧ w.cell? ⟨p, 7, none⟩ = some h ∧ w.cell? ⟨p, 8, none⟩ = some i ∧ ∀ k, w.frozen? ⟨p, k, none⟩ = false := by
  simp [World.cell?, World.frozen?, hb]
set_option maxHeartbeats 1600000 in
theorem shp_lo {w5 : World} {eb kd op na nb ne c5 c6 c7 inn ar : Nat} {a5 a6 a7 : Option Addr} {obj into : List UInt8} {nv line : Int} {bn : Bool}
    (PB : Hid (w5.heap[eb]? = some (.cells #[.int .u8 (kd : Int), .int .u8 (op : Int), .string ⟨obj.toArray⟩, .string ⟨into.toArray⟩, .int .i64 nv, .slice a5 na c5, .slice a6 nb c6, .slice a7 ne c7, .int .i64 line] 144 (0, 0))))
    (HNM : Hid (∀ W, Nw w5 W → Calls Tryz.prog 70 #[.string ⟨obj.toArray⟩] W fun z w' => z = .returned (.bool bn) ∧ Nw W w'))
    (HAR : Hid (∀ W, Calls Tryz.prog 137 #[.int .u8 (op : Int)] W fun z w' => z = .returned (.int .i64 (ar : Int)) ∧ w' = W))
    (h17 : decide ((op : Int) < 1) = true)
    {u0 u2 u4 u5 u6 u7 u8 u9 u10 u11 u12 u13 u14 u15 u16 u17 u18 u19 u20 u21 u22 u23 u24 u25 u26 u27 u28 u29 u30 u31 u32 u33 u34 u35 u36 u37 u38 u39 u40 u41 u42 u43 u44 u45 u46 u47 u48 u49 u50 u51 u52 u53 u54 u55 u56 u57 u58 u59 u60 u61 u62 u63 u64 u65 u66 u67 u68 u69 u70 u71 u72 u73 u74 u75 u76 u77 u78 u79 u80 u81 u82 u83 u84 u85 u86 u87 u88 u89 u90 u91 u92 u93 u94 u95 u96 u97 u98 u99 u100 u101 u102 u103 u104 u105 u106 u107 u108 u109 u110 u111 u112 u113 u114 u115 u116 u117 u118 u119 u120 u121 u122 u123 u124 u125 u126 u127 u128 u129 u130 u131 u132 u133 u134 u135 u136 u137 u138 u139 : Value} {Q : Exit → Act → World → Prop}
    (hQ : ∀ (s15 s16 s17 s18 s19 s20 s21 s22 s23 s24 s25 s26 s27 s28 s29 s30 s31 s32 s33 s34 s35 s36 s37 s38 s39 s40 s41 s42 s43 s44 s45 s46 s47 s48 s49 s50 s51 s52 s53 s54 s55 s56 s57 : Value) (wx : World), Nw w5 wx → s57 = .bool true → Q .normal ⟨#[u0, .pointer (some ⟨eb, 0, none⟩), u2, .int .i64 (inn : Int), u4, u5, u6, u7, u8, u9, u10, u11, u12, u13, u14, s15, s16, s17, s18, s19, s20, s21, s22, s23, s24, s25, s26, s27, s28, s29, s30, s31, s32, s33, s34, s35, s36, s37, s38, s39, s40, s41, s42, s43, s44, s45, s46, s47, s48, s49, s50, s51, s52, s53, s54, s55, s56, s57, u58, u59, u60, u61, u62, u63, u64, u65, u66, u67, u68, u69, u70, u71, u72, u73, u74, u75, u76, u77, u78, u79, u80, u81, u82, u83, u84, u85, u86, u87, u88, u89, u90, u91, u92, u93, u94, u95, u96, u97, u98, u99, u100, u101, u102, u103, u104, u105, u106, u107, u108, u109, u110, u111, u112, u113, u114, u115, u116, u117, u118, u119, u120, u121, u122, u123, u124, u125, u126, u127, u128, u129, u130, u131, u132, u133, u134, u135, u136, u137, u138, u139], []⟩ wx) :
    Code.wp Tryz.prog ((Tryz.f112.body.bind (regionOf 4)).getD .skip) Q ⟨#[u0, .pointer (some ⟨eb, 0, none⟩), u2, .int .i64 (inn : Int), u4, u5, u6, u7, u8, u9, u10, u11, u12, u13, u14, u15, u16, u17, u18, u19, u20, u21, u22, u23, u24, u25, u26, u27, u28, u29, u30, u31, u32, u33, u34, u35, u36, u37, u38, u39, u40, u41, u42, u43, u44, u45, u46, u47, u48, u49, u50, u51, u52, u53, u54, u55, u56, u57, u58, u59, u60, u61, u62, u63, u64, u65, u66, u67, u68, u69, u70, u71, u72, u73, u74, u75, u76, u77, u78, u79, u80, u81, u82, u83, u84, u85, u86, u87, u88, u89, u90, u91, u92, u93, u94, u95, u96, u97, u98, u99, u100, u101, u102, u103, u104, u105, u106, u107, u108, u109, u110, u111, u112, u113, u114, u115, u116, u117, u118, u119, u120, u121, u122, u123, u124, u125, u126, u127, u128, u129, u130, u131, u132, u133, u134, u135, u136, u137, u138, u139], []⟩ w5 := by
  (try dsimp only at hQ ⊢)
  conv => arg 2; whnf
  have HQ := Lib.hid hQ
  clear hQ
  refine name_act fun A hA => ?_
  have hA1 : A.tmps[1]? = some (.pointer (some ⟨eb, 0, none⟩)) := by rw [hA]; rfl
  have hA3 : A.tmps[3]? = some (.int .i64 (inn : Int)) := by rw [hA]; rfl
  have hlt0 : ∀ d ∈ ([15, 16, 17, 18, 19, 20, 21, 22, 23, 24, 25, 26, 27, 28, 29, 30, 31, 32, 33, 34, 35, 36, 37, 38, 39, 40, 41, 42, 43, 44, 45, 46, 47, 48, 49, 50, 51, 52, 53, 54, 55, 56, 57] : List Nat), d < 140 := by decide
  refine wp_region_tab [15, 16, 17, 18, 19, 20, 21, 22, 23, 24, 25, 26, 27, 28, 29, 30, 31, 32, 33, 34, 35, 36, 37, 38, 39, 40, 41, 42, 43, 44, 45, 46, 47, 48, 49, 50, 51, 52, 53, 54, 55, 56, 57] [isV (.pointer (some ⟨eb, 1, none⟩)), isV (.int .u8 (op : Int)), isV (.bool true), isV (.bool true), isV (undef), isV (undef), isV (undef), isV (.bool true), isV (.bool true), isV (undef), isV (undef), isV (undef), isV (undef), isV (.bool true), isV (.bool true), isV (undef), isV (undef), isV (undef), isV (.bool true), isV (.bool true), isV (undef), isV (undef), isV (undef), isV (undef), isV (undef), isV (undef), isV (undef), isV (.bool true), isV (.bool true), isV (undef), isV (undef), isV (undef), isV (undef), isV (.bool true), isV (.bool true), isV (undef), isV (undef), isV (undef), isV (undef), isV (undef), isV (undef), isV (undef), isV (.bool true)] (by kernel_rfl) (by kernel_rfl) (by kernel_rfl) (of_decide_eq_true (by kernel_rfl)) (fun d hd => by rw [hA]; exact hlt0 d hd) (fun L hL => ⟨?a0, ?a1, ?a2, ?a3, ?a4, ?a5, ?a6, ?a7, ?a8, ?a9, ?a10, ?a11, ?a12, ?a13, ?a14, ?a15, ?a16, ?a17, ?a18, ?a19, ?a20, ?a21, ?a22, ?a23, ?a24, ?a25, ?a26, ?a27, ?a28, ?a29, ?a30, ?a31, ?a32, ?a33, ?a34, ?a35, ?a36, ?a37, ?a38, ?a39, ?a40, ?a41, ?a42, trivial⟩) ?he
  · intro a w hN old new
    have e1 := old 1 (.pointer (some ⟨eb, 0, none⟩)) rfl hA1
    exact OpOk.val (.pointer (some ⟨eb, 1, none⟩)) (w_none rfl) [(1, _)] (forall_cons e1 <| forall_nil) (fun ρ e ⟨c1, c2⟩ => by (try simp only [List.forall_mem_cons] at e); go_simp) ⟨Nw.refl _, rfl⟩
  · intro a w hN old new
    obtain ⟨y15, e15, g15⟩ := new 0 15 rfl rfl
    obtain rfl : y15 = .pointer (some ⟨eb, 1, none⟩) := g15
    have hp := hN.at_ PB.out
    obtain ⟨q0, q1, q2, q3, q4, q5, q6, q7, q8, qf⟩ := box9 hp
    exact OpOk.val (.int .u8 (op : Int)) (w_none rfl) [(15, _)] (forall_cons e15 <| forall_nil) (fun ρ e ⟨c1, c2⟩ => by (try simp only [List.forall_mem_cons] at e); go_simp) ⟨Nw.refl _, rfl⟩
  · intro a w hN old new
    obtain ⟨y16, e16, g16⟩ := new 1 16 rfl rfl
    obtain rfl : y16 = .int .u8 (op : Int) := g16
    exact OpOk.val (.bool true) (w_none rfl) [(16, _)] (forall_cons e16 <| forall_nil) (fun ρ e ⟨c1, c2⟩ => by (try simp only [List.forall_mem_cons] at e); go_simp) ⟨Nw.refl _, rfl⟩
  · intro a w hN old new
    obtain ⟨y17, e17, g17⟩ := new 2 17 rfl rfl
    obtain rfl : y17 = .bool true := g17
    exact OpOk.val (.bool true) (w_none rfl) [(17, _)] (forall_cons e17 <| forall_nil) (fun ρ e ⟨c1, c2⟩ => by (try simp only [List.forall_mem_cons] at e); go_simp) ⟨Nw.refl _, rfl⟩
  · intro a w hN old new
    obtain ⟨y18, e18, g18⟩ := new 3 18 rfl rfl
    obtain rfl : y18 = .bool true := g18
    exact OpOk.skip (tab_no hL rfl rfl e18) ⟨Nw.refl _, rfl⟩
  · intro a w hN old new
    obtain ⟨y18, e18, g18⟩ := new 3 18 rfl rfl
    obtain rfl : y18 = .bool true := g18
    exact OpOk.skip (tab_no hL rfl rfl e18) ⟨Nw.refl _, rfl⟩
  · intro a w hN old new
    obtain ⟨y18, e18, g18⟩ := new 3 18 rfl rfl
    obtain rfl : y18 = .bool true := g18
    exact OpOk.skip (tab_no hL rfl rfl e18) ⟨Nw.refl _, rfl⟩
  · intro a w hN old new
    obtain ⟨y18, e18, g18⟩ := new 3 18 rfl rfl
    obtain rfl : y18 = .bool true := g18
    obtain ⟨y21, e21, g21⟩ := new 6 21 rfl rfl
    obtain rfl : y21 = undef := g21
    exact OpOk.val (.bool true) (w_none rfl) [(18, _), (21, _)] (forall_cons e18 <| forall_cons e21 <| forall_nil) (fun ρ e ⟨c1, c2⟩ => by (try simp only [List.forall_mem_cons] at e); go_simp) ⟨Nw.refl _, rfl⟩
  · intro a w hN old new
    obtain ⟨y22, e22, g22⟩ := new 7 22 rfl rfl
    obtain rfl : y22 = .bool true := g22
    exact OpOk.val (.bool true) (w_none rfl) [(22, _)] (forall_cons e22 <| forall_nil) (fun ρ e ⟨c1, c2⟩ => by (try simp only [List.forall_mem_cons] at e); go_simp) ⟨Nw.refl _, rfl⟩
  · intro a w hN old new
    obtain ⟨y23, e23, g23⟩ := new 8 23 rfl rfl
    obtain rfl : y23 = .bool true := g23
    exact OpOk.skip (tab_no hL rfl rfl e23) ⟨Nw.refl _, rfl⟩
  · intro a w hN old new
    obtain ⟨y23, e23, g23⟩ := new 8 23 rfl rfl
    obtain rfl : y23 = .bool true := g23
    exact OpOk.skip (tab_no hL rfl rfl e23) ⟨Nw.refl _, rfl⟩
  · intro a w hN old new
    obtain ⟨y23, e23, g23⟩ := new 8 23 rfl rfl
    obtain rfl : y23 = .bool true := g23
    exact OpOk.skip (tab_no hL rfl rfl e23) ⟨Nw.refl _, rfl⟩
  · intro a w hN old new
    obtain ⟨y23, e23, g23⟩ := new 8 23 rfl rfl
    obtain rfl : y23 = .bool true := g23
    exact OpOk.skip (tab_no hL rfl rfl e23) ⟨Nw.refl _, rfl⟩
  · intro a w hN old new
    obtain ⟨y23, e23, g23⟩ := new 8 23 rfl rfl
    obtain rfl : y23 = .bool true := g23
    obtain ⟨y27, e27, g27⟩ := new 12 27 rfl rfl
    obtain rfl : y27 = undef := g27
    exact OpOk.val (.bool true) (w_none rfl) [(23, _), (27, _)] (forall_cons e23 <| forall_cons e27 <| forall_nil) (fun ρ e ⟨c1, c2⟩ => by (try simp only [List.forall_mem_cons] at e); go_simp) ⟨Nw.refl _, rfl⟩
  · intro a w hN old new
    obtain ⟨y28, e28, g28⟩ := new 13 28 rfl rfl
    obtain rfl : y28 = .bool true := g28
    exact OpOk.val (.bool true) (w_none rfl) [(28, _)] (forall_cons e28 <| forall_nil) (fun ρ e ⟨c1, c2⟩ => by (try simp only [List.forall_mem_cons] at e); go_simp) ⟨Nw.refl _, rfl⟩
  · intro a w hN old new
    obtain ⟨y29, e29, g29⟩ := new 14 29 rfl rfl
    obtain rfl : y29 = .bool true := g29
    exact OpOk.skip (tab_no hL rfl rfl e29) ⟨Nw.refl _, rfl⟩
  · intro a w hN old new
    obtain ⟨y29, e29, g29⟩ := new 14 29 rfl rfl
    obtain rfl : y29 = .bool true := g29
    exact OpOk.skip (tab_no hL rfl rfl e29) ⟨Nw.refl _, rfl⟩
  · intro a w hN old new
    obtain ⟨y29, e29, g29⟩ := new 14 29 rfl rfl
    obtain rfl : y29 = .bool true := g29
    exact OpOk.skip (tab_no hL rfl rfl e29) ⟨Nw.refl _, rfl⟩
  · intro a w hN old new
    obtain ⟨y29, e29, g29⟩ := new 14 29 rfl rfl
    obtain rfl : y29 = .bool true := g29
    obtain ⟨y32, e32, g32⟩ := new 17 32 rfl rfl
    obtain rfl : y32 = undef := g32
    exact OpOk.val (.bool true) (w_none rfl) [(29, _), (32, _)] (forall_cons e29 <| forall_cons e32 <| forall_nil) (fun ρ e ⟨c1, c2⟩ => by (try simp only [List.forall_mem_cons] at e); go_simp) ⟨Nw.refl _, rfl⟩
  · intro a w hN old new
    obtain ⟨y33, e33, g33⟩ := new 18 33 rfl rfl
    obtain rfl : y33 = .bool true := g33
    exact OpOk.val (.bool true) (w_none rfl) [(33, _)] (forall_cons e33 <| forall_nil) (fun ρ e ⟨c1, c2⟩ => by (try simp only [List.forall_mem_cons] at e); go_simp) ⟨Nw.refl _, rfl⟩
  · intro a w hN old new
    obtain ⟨y34, e34, g34⟩ := new 19 34 rfl rfl
    obtain rfl : y34 = .bool true := g34
    exact OpOk.skip (tab_no hL rfl rfl e34) ⟨Nw.refl _, rfl⟩
  · intro a w hN old new
    obtain ⟨y34, e34, g34⟩ := new 19 34 rfl rfl
    obtain rfl : y34 = .bool true := g34
    exact OpOk.skip (tab_no hL rfl rfl e34) ⟨Nw.refl _, rfl⟩
  · intro a w hN old new
    obtain ⟨y34, e34, g34⟩ := new 19 34 rfl rfl
    obtain rfl : y34 = .bool true := g34
    exact OpOk.skip (tab_no hL rfl rfl e34) ⟨Nw.refl _, rfl⟩
  · intro a w hN old new
    obtain ⟨y34, e34, g34⟩ := new 19 34 rfl rfl
    obtain rfl : y34 = .bool true := g34
    exact OpOk.skip (tab_no hL rfl rfl e34) ⟨Nw.refl _, rfl⟩
  · intro a w hN old new
    obtain ⟨y34, e34, g34⟩ := new 19 34 rfl rfl
    obtain rfl : y34 = .bool true := g34
    exact OpOk.skip (tab_no hL rfl rfl e34) ⟨Nw.refl _, rfl⟩
  · intro a w hN old new
    obtain ⟨y34, e34, g34⟩ := new 19 34 rfl rfl
    obtain rfl : y34 = .bool true := g34
    exact OpOk.skip (tab_no hL rfl rfl e34) ⟨Nw.refl _, rfl⟩
  · intro a w hN old new
    obtain ⟨y34, e34, g34⟩ := new 19 34 rfl rfl
    obtain rfl : y34 = .bool true := g34
    exact OpOk.skip (tab_no hL rfl rfl e34) ⟨Nw.refl _, rfl⟩
  · intro a w hN old new
    obtain ⟨y34, e34, g34⟩ := new 19 34 rfl rfl
    obtain rfl : y34 = .bool true := g34
    obtain ⟨y41, e41, g41⟩ := new 26 41 rfl rfl
    obtain rfl : y41 = undef := g41
    exact OpOk.val (.bool true) (w_none rfl) [(34, _), (41, _)] (forall_cons e34 <| forall_cons e41 <| forall_nil) (fun ρ e ⟨c1, c2⟩ => by (try simp only [List.forall_mem_cons] at e); go_simp) ⟨Nw.refl _, rfl⟩
  · intro a w hN old new
    obtain ⟨y42, e42, g42⟩ := new 27 42 rfl rfl
    obtain rfl : y42 = .bool true := g42
    exact OpOk.val (.bool true) (w_none rfl) [(42, _)] (forall_cons e42 <| forall_nil) (fun ρ e ⟨c1, c2⟩ => by (try simp only [List.forall_mem_cons] at e); go_simp) ⟨Nw.refl _, rfl⟩
  · intro a w hN old new
    obtain ⟨y43, e43, g43⟩ := new 28 43 rfl rfl
    obtain rfl : y43 = .bool true := g43
    exact OpOk.skip (tab_no hL rfl rfl e43) ⟨Nw.refl _, rfl⟩
  · intro a w hN old new
    obtain ⟨y43, e43, g43⟩ := new 28 43 rfl rfl
    obtain rfl : y43 = .bool true := g43
    exact OpOk.skip (tab_no hL rfl rfl e43) ⟨Nw.refl _, rfl⟩
  · intro a w hN old new
    obtain ⟨y43, e43, g43⟩ := new 28 43 rfl rfl
    obtain rfl : y43 = .bool true := g43
    exact OpOk.skip (tab_no hL rfl rfl e43) ⟨Nw.refl _, rfl⟩
  · intro a w hN old new
    obtain ⟨y43, e43, g43⟩ := new 28 43 rfl rfl
    obtain rfl : y43 = .bool true := g43
    exact OpOk.skip (tab_no hL rfl rfl e43) ⟨Nw.refl _, rfl⟩
  · intro a w hN old new
    obtain ⟨y43, e43, g43⟩ := new 28 43 rfl rfl
    obtain rfl : y43 = .bool true := g43
    obtain ⟨y47, e47, g47⟩ := new 32 47 rfl rfl
    obtain rfl : y47 = undef := g47
    exact OpOk.val (.bool true) (w_none rfl) [(43, _), (47, _)] (forall_cons e43 <| forall_cons e47 <| forall_nil) (fun ρ e ⟨c1, c2⟩ => by (try simp only [List.forall_mem_cons] at e); go_simp) ⟨Nw.refl _, rfl⟩
  · intro a w hN old new
    obtain ⟨y48, e48, g48⟩ := new 33 48 rfl rfl
    obtain rfl : y48 = .bool true := g48
    exact OpOk.val (.bool true) (w_none rfl) [(48, _)] (forall_cons e48 <| forall_nil) (fun ρ e ⟨c1, c2⟩ => by (try simp only [List.forall_mem_cons] at e); go_simp) ⟨Nw.refl _, rfl⟩
  · intro a w hN old new
    obtain ⟨y49, e49, g49⟩ := new 34 49 rfl rfl
    obtain rfl : y49 = .bool true := g49
    exact OpOk.skip (tab_no hL rfl rfl e49) ⟨Nw.refl _, rfl⟩
  · intro a w hN old new
    obtain ⟨y49, e49, g49⟩ := new 34 49 rfl rfl
    obtain rfl : y49 = .bool true := g49
    exact OpOk.skip (tab_no hL rfl rfl e49) ⟨Nw.refl _, rfl⟩
  · intro a w hN old new
    obtain ⟨y49, e49, g49⟩ := new 34 49 rfl rfl
    obtain rfl : y49 = .bool true := g49
    exact OpOk.skip (tab_no hL rfl rfl e49) ⟨Nw.refl _, rfl⟩
  · intro a w hN old new
    obtain ⟨y52, e52, g52⟩ := new 37 52 rfl rfl
    obtain rfl : y52 = undef := g52
    exact OpOk.skip (tab_un hL rfl rfl e52) ⟨Nw.refl _, rfl⟩
  · intro a w hN old new
    obtain ⟨y52, e52, g52⟩ := new 37 52 rfl rfl
    obtain rfl : y52 = undef := g52
    exact OpOk.skip (tab_un hL rfl rfl e52) ⟨Nw.refl _, rfl⟩
  · intro a w hN old new
    obtain ⟨y52, e52, g52⟩ := new 37 52 rfl rfl
    obtain rfl : y52 = undef := g52
    exact OpOk.skip (tab_un hL rfl rfl e52) ⟨Nw.refl _, rfl⟩
  · intro a w hN old new
    obtain ⟨y49, e49, g49⟩ := new 34 49 rfl rfl
    obtain rfl : y49 = .bool true := g49
    exact OpOk.skip (tab_no hL rfl rfl e49) ⟨Nw.refl _, rfl⟩
  · intro a w hN old new
    obtain ⟨y49, e49, g49⟩ := new 34 49 rfl rfl
    obtain rfl : y49 = .bool true := g49
    obtain ⟨y56, e56, g56⟩ := new 41 56 rfl rfl
    obtain rfl : y56 = undef := g56
    exact OpOk.val (.bool true) (w_none rfl) [(49, _), (56, _)] (forall_cons e49 <| forall_cons e56 <| forall_nil) (fun ρ e ⟨c1, c2⟩ => by (try simp only [List.forall_mem_cons] at e); go_simp) ⟨Nw.refl _, rfl⟩
  · intro a w hN hsz hdf old new
    obtain ⟨y57, e57, g57⟩ := new 42 57 rfl
    exact tab_frame (frame_lit (dst := [15, 16, 17, 18, 19, 20, 21, 22, 23, 24, 25, 26, 27, 28, 29, 30, 31, 32, 33, 34, 35, 36, 37, 38, 39, 40, 41, 42, 43, 44, 45, 46, 47, 48, 49, 50, 51, 52, 53, 54, 55, 56, 57]) (l := [u0, .pointer (some ⟨eb, 0, none⟩), u2, .int .i64 (inn : Int), u4, u5, u6, u7, u8, u9, u10, u11, u12, u13, u14, u15, u16, u17, u18, u19, u20, u21, u22, u23, u24, u25, u26, u27, u28, u29, u30, u31, u32, u33, u34, u35, u36, u37, u38, u39, u40, u41, u42, u43, u44, u45, u46, u47, u48, u49, u50, u51, u52, u53, u54, u55, u56, u57, u58, u59, u60, u61, u62, u63, u64, u65, u66, u67, u68, u69, u70, u71, u72, u73, u74, u75, u76, u77, u78, u79, u80, u81, u82, u83, u84, u85, u86, u87, u88, u89, u90, u91, u92, u93, u94, u95, u96, u97, u98, u99, u100, u101, u102, u103, u104, u105, u106, u107, u108, u109, u110, u111, u112, u113, u114, u115, u116, u117, u118, u119, u120, u121, u122, u123, u124, u125, u126, u127, u128, u129, u130, u131, u132, u133, u134, u135, u136, u137, u138, u139]) hA hsz hdf old (l' := [u0, .pointer (some ⟨eb, 0, none⟩), u2, .int .i64 (inn : Int), u4, u5, u6, u7, u8, u9, u10, u11, u12, u13, u14, (a.tmps[15]?.getD undef), (a.tmps[16]?.getD undef), (a.tmps[17]?.getD undef), (a.tmps[18]?.getD undef), (a.tmps[19]?.getD undef), (a.tmps[20]?.getD undef), (a.tmps[21]?.getD undef), (a.tmps[22]?.getD undef), (a.tmps[23]?.getD undef), (a.tmps[24]?.getD undef), (a.tmps[25]?.getD undef), (a.tmps[26]?.getD undef), (a.tmps[27]?.getD undef), (a.tmps[28]?.getD undef), (a.tmps[29]?.getD undef), (a.tmps[30]?.getD undef), (a.tmps[31]?.getD undef), (a.tmps[32]?.getD undef), (a.tmps[33]?.getD undef), (a.tmps[34]?.getD undef), (a.tmps[35]?.getD undef), (a.tmps[36]?.getD undef), (a.tmps[37]?.getD undef), (a.tmps[38]?.getD undef), (a.tmps[39]?.getD undef), (a.tmps[40]?.getD undef), (a.tmps[41]?.getD undef), (a.tmps[42]?.getD undef), (a.tmps[43]?.getD undef), (a.tmps[44]?.getD undef), (a.tmps[45]?.getD undef), (a.tmps[46]?.getD undef), (a.tmps[47]?.getD undef), (a.tmps[48]?.getD undef), (a.tmps[49]?.getD undef), (a.tmps[50]?.getD undef), (a.tmps[51]?.getD undef), (a.tmps[52]?.getD undef), (a.tmps[53]?.getD undef), (a.tmps[54]?.getD undef), (a.tmps[55]?.getD undef), (a.tmps[56]?.getD undef), (a.tmps[57]?.getD undef), u58, u59, u60, u61, u62, u63, u64, u65, u66, u67, u68, u69, u70, u71, u72, u73, u74, u75, u76, u77, u78, u79, u80, u81, u82, u83, u84, u85, u86, u87, u88, u89, u90, u91, u92, u93, u94, u95, u96, u97, u98, u99, u100, u101, u102, u103, u104, u105, u106, u107, u108, u109, u110, u111, u112, u113, u114, u115, u116, u117, u118, u119, u120, u121, u122, u123, u124, u125, u126, u127, u128, u129, u130, u131, u132, u133, u134, u135, u136, u137, u138, u139]) (by kernel_rfl)) (HQ.out _ _ _ _ _ _ _ _ _ _ _ _ _ _ _ _ _ _ _ _ _ _ _ _ _ _ _ _ _ _ _ _ _ _ _ _ _ _ _ _ _ _ _ w hN (by rw [e57]; exact g57))
set_option maxHeartbeats 1600000 in
theorem shp_hi {w5 : World} {eb kd op na nb ne c5 c6 c7 inn ar : Nat} {a5 a6 a7 : Option Addr} {obj into : List UInt8} {nv line : Int} {bn : Bool}
    (PB : Hid (w5.heap[eb]? = some (.cells #[.int .u8 (kd : Int), .int .u8 (op : Int), .string ⟨obj.toArray⟩, .string ⟨into.toArray⟩, .int .i64 nv, .slice a5 na c5, .slice a6 nb c6, .slice a7 ne c7, .int .i64 line] 144 (0, 0))))
    (HNM : Hid (∀ W, Nw w5 W → Calls Tryz.prog 70 #[.string ⟨obj.toArray⟩] W fun z w' => z = .returned (.bool bn) ∧ Nw W w'))
    (HAR : Hid (∀ W, Calls Tryz.prog 137 #[.int .u8 (op : Int)] W fun z w' => z = .returned (.int .i64 (ar : Int)) ∧ w' = W))
    (h17 : decide ((op : Int) < 1) = false)
    (h21 : decide (23 < (op : Int)) = true)
    {u0 u2 u4 u5 u6 u7 u8 u9 u10 u11 u12 u13 u14 u15 u16 u17 u18 u19 u20 u21 u22 u23 u24 u25 u26 u27 u28 u29 u30 u31 u32 u33 u34 u35 u36 u37 u38 u39 u40 u41 u42 u43 u44 u45 u46 u47 u48 u49 u50 u51 u52 u53 u54 u55 u56 u57 u58 u59 u60 u61 u62 u63 u64 u65 u66 u67 u68 u69 u70 u71 u72 u73 u74 u75 u76 u77 u78 u79 u80 u81 u82 u83 u84 u85 u86 u87 u88 u89 u90 u91 u92 u93 u94 u95 u96 u97 u98 u99 u100 u101 u102 u103 u104 u105 u106 u107 u108 u109 u110 u111 u112 u113 u114 u115 u116 u117 u118 u119 u120 u121 u122 u123 u124 u125 u126 u127 u128 u129 u130 u131 u132 u133 u134 u135 u136 u137 u138 u139 : Value} {Q : Exit → Act → World → Prop}
    (hQ : ∀ (s15 s16 s17 s18 s19 s20 s21 s22 s23 s24 s25 s26 s27 s28 s29 s30 s31 s32 s33 s34 s35 s36 s37 s38 s39 s40 s41 s42 s43 s44 s45 s46 s47 s48 s49 s50 s51 s52 s53 s54 s55 s56 s57 : Value) (wx : World), Nw w5 wx → s57 = .bool true → Q .normal ⟨#[u0, .pointer (some ⟨eb, 0, none⟩), u2, .int .i64 (inn : Int), u4, u5, u6, u7, u8, u9, u10, u11, u12, u13, u14, s15, s16, s17, s18, s19, s20, s21, s22, s23, s24, s25, s26, s27, s28, s29, s30, s31, s32, s33, s34, s35, s36, s37, s38, s39, s40, s41, s42, s43, s44, s45, s46, s47, s48, s49, s50, s51, s52, s53, s54, s55, s56, s57, u58, u59, u60, u61, u62, u63, u64, u65, u66, u67, u68, u69, u70, u71, u72, u73, u74, u75, u76, u77, u78, u79, u80, u81, u82, u83, u84, u85, u86, u87, u88, u89, u90, u91, u92, u93, u94, u95, u96, u97, u98, u99, u100, u101, u102, u103, u104, u105, u106, u107, u108, u109, u110, u111, u112, u113, u114, u115, u116, u117, u118, u119, u120, u121, u122, u123, u124, u125, u126, u127, u128, u129, u130, u131, u132, u133, u134, u135, u136, u137, u138, u139], []⟩ wx) :
    Code.wp Tryz.prog ((Tryz.f112.body.bind (regionOf 4)).getD .skip) Q ⟨#[u0, .pointer (some ⟨eb, 0, none⟩), u2, .int .i64 (inn : Int), u4, u5, u6, u7, u8, u9, u10, u11, u12, u13, u14, u15, u16, u17, u18, u19, u20, u21, u22, u23, u24, u25, u26, u27, u28, u29, u30, u31, u32, u33, u34, u35, u36, u37, u38, u39, u40, u41, u42, u43, u44, u45, u46, u47, u48, u49, u50, u51, u52, u53, u54, u55, u56, u57, u58, u59, u60, u61, u62, u63, u64, u65, u66, u67, u68, u69, u70, u71, u72, u73, u74, u75, u76, u77, u78, u79, u80, u81, u82, u83, u84, u85, u86, u87, u88, u89, u90, u91, u92, u93, u94, u95, u96, u97, u98, u99, u100, u101, u102, u103, u104, u105, u106, u107, u108, u109, u110, u111, u112, u113, u114, u115, u116, u117, u118, u119, u120, u121, u122, u123, u124, u125, u126, u127, u128, u129, u130, u131, u132, u133, u134, u135, u136, u137, u138, u139], []⟩ w5 := by
  (try dsimp only at hQ ⊢)
  conv => arg 2; whnf
  have HQ := Lib.hid hQ
  clear hQ
  refine name_act fun A hA => ?_
  have hA1 : A.tmps[1]? = some (.pointer (some ⟨eb, 0, none⟩)) := by rw [hA]; rfl
  have hA3 : A.tmps[3]? = some (.int .i64 (inn : Int)) := by rw [hA]; rfl
  have hlt0 : ∀ d ∈ ([15, 16, 17, 18, 19, 20, 21, 22, 23, 24, 25, 26, 27, 28, 29, 30, 31, 32, 33, 34, 35, 36, 37, 38, 39, 40, 41, 42, 43, 44, 45, 46, 47, 48, 49, 50, 51, 52, 53, 54, 55, 56, 57] : List Nat), d < 140 := by decide
  refine wp_region_tab [15, 16, 17, 18, 19, 20, 21, 22, 23, 24, 25, 26, 27, 28, 29, 30, 31, 32, 33, 34, 35, 36, 37, 38, 39, 40, 41, 42, 43, 44, 45, 46, 47, 48, 49, 50, 51, 52, 53, 54, 55, 56, 57] [isV (.pointer (some ⟨eb, 1, none⟩)), isV (.int .u8 (op : Int)), isV (.bool false), isV (.bool false), isV (.pointer (some ⟨eb, 1, none⟩)), isV (.int .u8 (op : Int)), isV (.bool true), isV (.bool true), isV (.bool true), isV (undef), isV (undef), isV (undef), isV (undef), isV (.bool true), isV (.bool true), isV (undef), isV (undef), isV (undef), isV (.bool true), isV (.bool true), isV (undef), isV (undef), isV (undef), isV (undef), isV (undef), isV (undef), isV (undef), isV (.bool true), isV (.bool true), isV (undef), isV (undef), isV (undef), isV (undef), isV (.bool true), isV (.bool true), isV (undef), isV (undef), isV (undef), isV (undef), isV (undef), isV (undef), isV (undef), isV (.bool true)] (by kernel_rfl) (by kernel_rfl) (by kernel_rfl) (of_decide_eq_true (by kernel_rfl)) (fun d hd => by rw [hA]; exact hlt0 d hd) (fun L hL => ⟨?a0, ?a1, ?a2, ?a3, ?a4, ?a5, ?a6, ?a7, ?a8, ?a9, ?a10, ?a11, ?a12, ?a13, ?a14, ?a15, ?a16, ?a17, ?a18, ?a19, ?a20, ?a21, ?a22, ?a23, ?a24, ?a25, ?a26, ?a27, ?a28, ?a29, ?a30, ?a31, ?a32, ?a33, ?a34, ?a35, ?a36, ?a37, ?a38, ?a39, ?a40, ?a41, ?a42, trivial⟩) ?he
  · intro a w hN old new
    have e1 := old 1 (.pointer (some ⟨eb, 0, none⟩)) rfl hA1
    exact OpOk.val (.pointer (some ⟨eb, 1, none⟩)) (w_none rfl) [(1, _)] (forall_cons e1 <| forall_nil) (fun ρ e ⟨c1, c2⟩ => by (try simp only [List.forall_mem_cons] at e); go_simp) ⟨Nw.refl _, rfl⟩
  · intro a w hN old new
    obtain ⟨y15, e15, g15⟩ := new 0 15 rfl rfl
    obtain rfl : y15 = .pointer (some ⟨eb, 1, none⟩) := g15
    have hp := hN.at_ PB.out
    obtain ⟨q0, q1, q2, q3, q4, q5, q6, q7, q8, qf⟩ := box9 hp
    exact OpOk.val (.int .u8 (op : Int)) (w_none rfl) [(15, _)] (forall_cons e15 <| forall_nil) (fun ρ e ⟨c1, c2⟩ => by (try simp only [List.forall_mem_cons] at e); go_simp) ⟨Nw.refl _, rfl⟩
  · intro a w hN old new
    obtain ⟨y16, e16, g16⟩ := new 1 16 rfl rfl
    obtain rfl : y16 = .int .u8 (op : Int) := g16
    exact OpOk.val (.bool false) (w_none rfl) [(16, _)] (forall_cons e16 <| forall_nil) (fun ρ e ⟨c1, c2⟩ => by (try simp only [List.forall_mem_cons] at e); go_simp) ⟨Nw.refl _, rfl⟩
  · intro a w hN old new
    obtain ⟨y17, e17, g17⟩ := new 2 17 rfl rfl
    obtain rfl : y17 = .bool false := g17
    exact OpOk.val (.bool false) (w_none rfl) [(17, _)] (forall_cons e17 <| forall_nil) (fun ρ e ⟨c1, c2⟩ => by (try simp only [List.forall_mem_cons] at e); go_simp) ⟨Nw.refl _, rfl⟩
  · intro a w hN old new
    obtain ⟨y18, e18, g18⟩ := new 3 18 rfl rfl
    obtain rfl : y18 = .bool false := g18
    have e1 := old 1 (.pointer (some ⟨eb, 0, none⟩)) rfl hA1
    exact OpOk.val (.pointer (some ⟨eb, 1, none⟩)) (tab_yes hL rfl rfl e18) [(1, _)] (forall_cons e1 <| forall_nil) (fun ρ e ⟨c1, c2⟩ => by (try simp only [List.forall_mem_cons] at e); go_simp) ⟨Nw.refl _, rfl⟩
  · intro a w hN old new
    obtain ⟨y18, e18, g18⟩ := new 3 18 rfl rfl
    obtain rfl : y18 = .bool false := g18
    obtain ⟨y19, e19, g19⟩ := new 4 19 rfl rfl
    obtain rfl : y19 = .pointer (some ⟨eb, 1, none⟩) := g19
    have hp := hN.at_ PB.out
    obtain ⟨q0, q1, q2, q3, q4, q5, q6, q7, q8, qf⟩ := box9 hp
    exact OpOk.val (.int .u8 (op : Int)) (tab_yes hL rfl rfl e18) [(19, _)] (forall_cons e19 <| forall_nil) (fun ρ e ⟨c1, c2⟩ => by (try simp only [List.forall_mem_cons] at e); go_simp) ⟨Nw.refl _, rfl⟩
  · intro a w hN old new
    obtain ⟨y18, e18, g18⟩ := new 3 18 rfl rfl
    obtain rfl : y18 = .bool false := g18
    obtain ⟨y20, e20, g20⟩ := new 5 20 rfl rfl
    obtain rfl : y20 = .int .u8 (op : Int) := g20
    exact OpOk.val (.bool true) (tab_yes hL rfl rfl e18) [(20, _)] (forall_cons e20 <| forall_nil) (fun ρ e ⟨c1, c2⟩ => by (try simp only [List.forall_mem_cons] at e); go_simp) ⟨Nw.refl _, rfl⟩
  · intro a w hN old new
    obtain ⟨y18, e18, g18⟩ := new 3 18 rfl rfl
    obtain rfl : y18 = .bool false := g18
    obtain ⟨y21, e21, g21⟩ := new 6 21 rfl rfl
    obtain rfl : y21 = .bool true := g21
    exact OpOk.val (.bool true) (w_none rfl) [(18, _), (21, _)] (forall_cons e18 <| forall_cons e21 <| forall_nil) (fun ρ e ⟨c1, c2⟩ => by (try simp only [List.forall_mem_cons] at e); go_simp) ⟨Nw.refl _, rfl⟩
  · intro a w hN old new
    obtain ⟨y22, e22, g22⟩ := new 7 22 rfl rfl
    obtain rfl : y22 = .bool true := g22
    exact OpOk.val (.bool true) (w_none rfl) [(22, _)] (forall_cons e22 <| forall_nil) (fun ρ e ⟨c1, c2⟩ => by (try simp only [List.forall_mem_cons] at e); go_simp) ⟨Nw.refl _, rfl⟩
  · intro a w hN old new
    obtain ⟨y23, e23, g23⟩ := new 8 23 rfl rfl
    obtain rfl : y23 = .bool true := g23
    exact OpOk.skip (tab_no hL rfl rfl e23) ⟨Nw.refl _, rfl⟩
  · intro a w hN old new
    obtain ⟨y23, e23, g23⟩ := new 8 23 rfl rfl
    obtain rfl : y23 = .bool true := g23
    exact OpOk.skip (tab_no hL rfl rfl e23) ⟨Nw.refl _, rfl⟩
  · intro a w hN old new
    obtain ⟨y23, e23, g23⟩ := new 8 23 rfl rfl
    obtain rfl : y23 = .bool true := g23
    exact OpOk.skip (tab_no hL rfl rfl e23) ⟨Nw.refl _, rfl⟩
  · intro a w hN old new
    obtain ⟨y23, e23, g23⟩ := new 8 23 rfl rfl
    obtain rfl : y23 = .bool true := g23
    exact OpOk.skip (tab_no hL rfl rfl e23) ⟨Nw.refl _, rfl⟩
  · intro a w hN old new
    obtain ⟨y23, e23, g23⟩ := new 8 23 rfl rfl
    obtain rfl : y23 = .bool true := g23
    obtain ⟨y27, e27, g27⟩ := new 12 27 rfl rfl
    obtain rfl : y27 = undef := g27
    exact OpOk.val (.bool true) (w_none rfl) [(23, _), (27, _)] (forall_cons e23 <| forall_cons e27 <| forall_nil) (fun ρ e ⟨c1, c2⟩ => by (try simp only [List.forall_mem_cons] at e); go_simp) ⟨Nw.refl _, rfl⟩
  · intro a w hN old new
    obtain ⟨y28, e28, g28⟩ := new 13 28 rfl rfl
    obtain rfl : y28 = .bool true := g28
    exact OpOk.val (.bool true) (w_none rfl) [(28, _)] (forall_cons e28 <| forall_nil) (fun ρ e ⟨c1, c2⟩ => by (try simp only [List.forall_mem_cons] at e); go_simp) ⟨Nw.refl _, rfl⟩
  · intro a w hN old new
    obtain ⟨y29, e29, g29⟩ := new 14 29 rfl rfl
    obtain rfl : y29 = .bool true := g29
    exact OpOk.skip (tab_no hL rfl rfl e29) ⟨Nw.refl _, rfl⟩
  · intro a w hN old new
    obtain ⟨y29, e29, g29⟩ := new 14 29 rfl rfl
    obtain rfl : y29 = .bool true := g29
    exact OpOk.skip (tab_no hL rfl rfl e29) ⟨Nw.refl _, rfl⟩
  · intro a w hN old new
    obtain ⟨y29, e29, g29⟩ := new 14 29 rfl rfl
    obtain rfl : y29 = .bool true := g29
    exact OpOk.skip (tab_no hL rfl rfl e29) ⟨Nw.refl _, rfl⟩
  · intro a w hN old new
    obtain ⟨y29, e29, g29⟩ := new 14 29 rfl rfl
    obtain rfl : y29 = .bool true := g29
    obtain ⟨y32, e32, g32⟩ := new 17 32 rfl rfl
    obtain rfl : y32 = undef := g32
    exact OpOk.val (.bool true) (w_none rfl) [(29, _), (32, _)] (forall_cons e29 <| forall_cons e32 <| forall_nil) (fun ρ e ⟨c1, c2⟩ => by (try simp only [List.forall_mem_cons] at e); go_simp) ⟨Nw.refl _, rfl⟩
  · intro a w hN old new
    obtain ⟨y33, e33, g33⟩ := new 18 33 rfl rfl
    obtain rfl : y33 = .bool true := g33
    exact OpOk.val (.bool true) (w_none rfl) [(33, _)] (forall_cons e33 <| forall_nil) (fun ρ e ⟨c1, c2⟩ => by (try simp only [List.forall_mem_cons] at e); go_simp) ⟨Nw.refl _, rfl⟩
  · intro a w hN old new
    obtain ⟨y34, e34, g34⟩ := new 19 34 rfl rfl
    obtain rfl : y34 = .bool true := g34
    exact OpOk.skip (tab_no hL rfl rfl e34) ⟨Nw.refl _, rfl⟩
  · intro a w hN old new
    obtain ⟨y34, e34, g34⟩ := new 19 34 rfl rfl
    obtain rfl : y34 = .bool true := g34
    exact OpOk.skip (tab_no hL rfl rfl e34) ⟨Nw.refl _, rfl⟩
  · intro a w hN old new
    obtain ⟨y34, e34, g34⟩ := new 19 34 rfl rfl
    obtain rfl : y34 = .bool true := g34
    exact OpOk.skip (tab_no hL rfl rfl e34) ⟨Nw.refl _, rfl⟩
  · intro a w hN old new
    obtain ⟨y34, e34, g34⟩ := new 19 34 rfl rfl
    obtain rfl : y34 = .bool true := g34
    exact OpOk.skip (tab_no hL rfl rfl e34) ⟨Nw.refl _, rfl⟩
  · intro a w hN old new
    obtain ⟨y34, e34, g34⟩ := new 19 34 rfl rfl
    obtain rfl : y34 = .bool true := g34
    exact OpOk.skip (tab_no hL rfl rfl e34) ⟨Nw.refl _, rfl⟩
  · intro a w hN old new
    obtain ⟨y34, e34, g34⟩ := new 19 34 rfl rfl
    obtain rfl : y34 = .bool true := g34
    exact OpOk.skip (tab_no hL rfl rfl e34) ⟨Nw.refl _, rfl⟩
  · intro a w hN old new
    obtain ⟨y34, e34, g34⟩ := new 19 34 rfl rfl
    obtain rfl : y34 = .bool true := g34
    exact OpOk.skip (tab_no hL rfl rfl e34) ⟨Nw.refl _, rfl⟩
  · intro a w hN old new
    obtain ⟨y34, e34, g34⟩ := new 19 34 rfl rfl
    obtain rfl : y34 = .bool true := g34
    obtain ⟨y41, e41, g41⟩ := new 26 41 rfl rfl
    obtain rfl : y41 = undef := g41
    exact OpOk.val (.bool true) (w_none rfl) [(34, _), (41, _)] (forall_cons e34 <| forall_cons e41 <| forall_nil) (fun ρ e ⟨c1, c2⟩ => by (try simp only [List.forall_mem_cons] at e); go_simp) ⟨Nw.refl _, rfl⟩
  · intro a w hN old new
    obtain ⟨y42, e42, g42⟩ := new 27 42 rfl rfl
    obtain rfl : y42 = .bool true := g42
    exact OpOk.val (.bool true) (w_none rfl) [(42, _)] (forall_cons e42 <| forall_nil) (fun ρ e ⟨c1, c2⟩ => by (try simp only [List.forall_mem_cons] at e); go_simp) ⟨Nw.refl _, rfl⟩
  · intro a w hN old new
    obtain ⟨y43, e43, g43⟩ := new 28 43 rfl rfl
    obtain rfl : y43 = .bool true := g43
    exact OpOk.skip (tab_no hL rfl rfl e43) ⟨Nw.refl _, rfl⟩
  · intro a w hN old new
    obtain ⟨y43, e43, g43⟩ := new 28 43 rfl rfl
    obtain rfl : y43 = .bool true := g43
    exact OpOk.skip (tab_no hL rfl rfl e43) ⟨Nw.refl _, rfl⟩
  · intro a w hN old new
    obtain ⟨y43, e43, g43⟩ := new 28 43 rfl rfl
    obtain rfl : y43 = .bool true := g43
    exact OpOk.skip (tab_no hL rfl rfl e43) ⟨Nw.refl _, rfl⟩
  · intro a w hN old new
    obtain ⟨y43, e43, g43⟩ := new 28 43 rfl rfl
    obtain rfl : y43 = .bool true := g43
    exact OpOk.skip (tab_no hL rfl rfl e43) ⟨Nw.refl _, rfl⟩
  · intro a w hN old new
    obtain ⟨y43, e43, g43⟩ := new 28 43 rfl rfl
    obtain rfl : y43 = .bool true := g43
    obtain ⟨y47, e47, g47⟩ := new 32 47 rfl rfl
    obtain rfl : y47 = undef := g47
    exact OpOk.val (.bool true) (w_none rfl) [(43, _), (47, _)] (forall_cons e43 <| forall_cons e47 <| forall_nil) (fun ρ e ⟨c1, c2⟩ => by (try simp only [List.forall_mem_cons] at e); go_simp) ⟨Nw.refl _, rfl⟩
  · intro a w hN old new
    obtain ⟨y48, e48, g48⟩ := new 33 48 rfl rfl
    obtain rfl : y48 = .bool true := g48
    exact OpOk.val (.bool true) (w_none rfl) [(48, _)] (forall_cons e48 <| forall_nil) (fun ρ e ⟨c1, c2⟩ => by (try simp only [List.forall_mem_cons] at e); go_simp) ⟨Nw.refl _, rfl⟩
  · intro a w hN old new
    obtain ⟨y49, e49, g49⟩ := new 34 49 rfl rfl
    obtain rfl : y49 = .bool true := g49
    exact OpOk.skip (tab_no hL rfl rfl e49) ⟨Nw.refl _, rfl⟩
  · intro a w hN old new
    obtain ⟨y49, e49, g49⟩ := new 34 49 rfl rfl
    obtain rfl : y49 = .bool true := g49
    exact OpOk.skip (tab_no hL rfl rfl e49) ⟨Nw.refl _, rfl⟩
  · intro a w hN old new
    obtain ⟨y49, e49, g49⟩ := new 34 49 rfl rfl
    obtain rfl : y49 = .bool true := g49
    exact OpOk.skip (tab_no hL rfl rfl e49) ⟨Nw.refl _, rfl⟩
  · intro a w hN old new
    obtain ⟨y52, e52, g52⟩ := new 37 52 rfl rfl
    obtain rfl : y52 = undef := g52
    exact OpOk.skip (tab_un hL rfl rfl e52) ⟨Nw.refl _, rfl⟩
  · intro a w hN old new
    obtain ⟨y52, e52, g52⟩ := new 37 52 rfl rfl
    obtain rfl : y52 = undef := g52
    exact OpOk.skip (tab_un hL rfl rfl e52) ⟨Nw.refl _, rfl⟩
  · intro a w hN old new
    obtain ⟨y52, e52, g52⟩ := new 37 52 rfl rfl
    obtain rfl : y52 = undef := g52
    exact OpOk.skip (tab_un hL rfl rfl e52) ⟨Nw.refl _, rfl⟩
  · intro a w hN old new
    obtain ⟨y49, e49, g49⟩ := new 34 49 rfl rfl
    obtain rfl : y49 = .bool true := g49
    exact OpOk.skip (tab_no hL rfl rfl e49) ⟨Nw.refl _, rfl⟩
  · intro a w hN old new
    obtain ⟨y49, e49, g49⟩ := new 34 49 rfl rfl
    obtain rfl : y49 = .bool true := g49
    obtain ⟨y56, e56, g56⟩ := new 41 56 rfl rfl
    obtain rfl : y56 = undef := g56
    exact OpOk.val (.bool true) (w_none rfl) [(49, _), (56, _)] (forall_cons e49 <| forall_cons e56 <| forall_nil) (fun ρ e ⟨c1, c2⟩ => by (try simp only [List.forall_mem_cons] at e); go_simp) ⟨Nw.refl _, rfl⟩
  · intro a w hN hsz hdf old new
    obtain ⟨y57, e57, g57⟩ := new 42 57 rfl
    exact tab_frame (frame_lit (dst := [15, 16, 17, 18, 19, 20, 21, 22, 23, 24, 25, 26, 27, 28, 29, 30, 31, 32, 33, 34, 35, 36, 37, 38, 39, 40, 41, 42, 43, 44, 45, 46, 47, 48, 49, 50, 51, 52, 53, 54, 55, 56, 57]) (l := [u0, .pointer (some ⟨eb, 0, none⟩), u2, .int .i64 (inn : Int), u4, u5, u6, u7, u8, u9, u10, u11, u12, u13, u14, u15, u16, u17, u18, u19, u20, u21, u22, u23, u24, u25, u26, u27, u28, u29, u30, u31, u32, u33, u34, u35, u36, u37, u38, u39, u40, u41, u42, u43, u44, u45, u46, u47, u48, u49, u50, u51, u52, u53, u54, u55, u56, u57, u58, u59, u60, u61, u62, u63, u64, u65, u66, u67, u68, u69, u70, u71, u72, u73, u74, u75, u76, u77, u78, u79, u80, u81, u82, u83, u84, u85, u86, u87, u88, u89, u90, u91, u92, u93, u94, u95, u96, u97, u98, u99, u100, u101, u102, u103, u104, u105, u106, u107, u108, u109, u110, u111, u112, u113, u114, u115, u116, u117, u118, u119, u120, u121, u122, u123, u124, u125, u126, u127, u128, u129, u130, u131, u132, u133, u134, u135, u136, u137, u138, u139]) hA hsz hdf old (l' := [u0, .pointer (some ⟨eb, 0, none⟩), u2, .int .i64 (inn : Int), u4, u5, u6, u7, u8, u9, u10, u11, u12, u13, u14, (a.tmps[15]?.getD undef), (a.tmps[16]?.getD undef), (a.tmps[17]?.getD undef), (a.tmps[18]?.getD undef), (a.tmps[19]?.getD undef), (a.tmps[20]?.getD undef), (a.tmps[21]?.getD undef), (a.tmps[22]?.getD undef), (a.tmps[23]?.getD undef), (a.tmps[24]?.getD undef), (a.tmps[25]?.getD undef), (a.tmps[26]?.getD undef), (a.tmps[27]?.getD undef), (a.tmps[28]?.getD undef), (a.tmps[29]?.getD undef), (a.tmps[30]?.getD undef), (a.tmps[31]?.getD undef), (a.tmps[32]?.getD undef), (a.tmps[33]?.getD undef), (a.tmps[34]?.getD undef), (a.tmps[35]?.getD undef), (a.tmps[36]?.getD undef), (a.tmps[37]?.getD undef), (a.tmps[38]?.getD undef), (a.tmps[39]?.getD undef), (a.tmps[40]?.getD undef), (a.tmps[41]?.getD undef), (a.tmps[42]?.getD undef), (a.tmps[43]?.getD undef), (a.tmps[44]?.getD undef), (a.tmps[45]?.getD undef), (a.tmps[46]?.getD undef), (a.tmps[47]?.getD undef), (a.tmps[48]?.getD undef), (a.tmps[49]?.getD undef), (a.tmps[50]?.getD undef), (a.tmps[51]?.getD undef), (a.tmps[52]?.getD undef), (a.tmps[53]?.getD undef), (a.tmps[54]?.getD undef), (a.tmps[55]?.getD undef), (a.tmps[56]?.getD undef), (a.tmps[57]?.getD undef), u58, u59, u60, u61, u62, u63, u64, u65, u66, u67, u68, u69, u70, u71, u72, u73, u74, u75, u76, u77, u78, u79, u80, u81, u82, u83, u84, u85, u86, u87, u88, u89, u90, u91, u92, u93, u94, u95, u96, u97, u98, u99, u100, u101, u102, u103, u104, u105, u106, u107, u108, u109, u110, u111, u112, u113, u114, u115, u116, u117, u118, u119, u120, u121, u122, u123, u124, u125, u126, u127, u128, u129, u130, u131, u132, u133, u134, u135, u136, u137, u138, u139]) (by kernel_rfl)) (HQ.out _ _ _ _ _ _ _ _ _ _ _ _ _ _ _ _ _ _ _ _ _ _ _ _ _ _ _ _ _ _ _ _ _ _ _ _ _ _ _ _ _ _ _ w hN (by rw [e57]; exact g57))
set_option maxHeartbeats 1600000 in
theorem shp_nm {w5 : World} {eb kd op na nb ne c5 c6 c7 inn ar : Nat} {a5 a6 a7 : Option Addr} {obj into : List UInt8} {nv line : Int}
    (PB : Hid (w5.heap[eb]? = some (.cells #[.int .u8 (kd : Int), .int .u8 (op : Int), .string ⟨obj.toArray⟩, .string ⟨into.toArray⟩, .int .i64 nv, .slice a5 na c5, .slice a6 nb c6, .slice a7 ne c7, .int .i64 line] 144 (0, 0))))
    (HNM : Hid (∀ W, Nw w5 W → Calls Tryz.prog 70 #[.string ⟨obj.toArray⟩] W fun z w' => z = .returned (.bool false) ∧ Nw W w'))
    (HAR : Hid (∀ W, Calls Tryz.prog 137 #[.int .u8 (op : Int)] W fun z w' => z = .returned (.int .i64 (ar : Int)) ∧ w' = W))
    (h17 : decide ((op : Int) < 1) = false)
    (h21 : decide (23 < (op : Int)) = false)
    {u0 u2 u4 u5 u6 u7 u8 u9 u10 u11 u12 u13 u14 u15 u16 u17 u18 u19 u20 u21 u22 u23 u24 u25 u26 u27 u28 u29 u30 u31 u32 u33 u34 u35 u36 u37 u38 u39 u40 u41 u42 u43 u44 u45 u46 u47 u48 u49 u50 u51 u52 u53 u54 u55 u56 u57 u58 u59 u60 u61 u62 u63 u64 u65 u66 u67 u68 u69 u70 u71 u72 u73 u74 u75 u76 u77 u78 u79 u80 u81 u82 u83 u84 u85 u86 u87 u88 u89 u90 u91 u92 u93 u94 u95 u96 u97 u98 u99 u100 u101 u102 u103 u104 u105 u106 u107 u108 u109 u110 u111 u112 u113 u114 u115 u116 u117 u118 u119 u120 u121 u122 u123 u124 u125 u126 u127 u128 u129 u130 u131 u132 u133 u134 u135 u136 u137 u138 u139 : Value} {Q : Exit → Act → World → Prop}
    (hQ : ∀ (s15 s16 s17 s18 s19 s20 s21 s22 s23 s24 s25 s26 s27 s28 s29 s30 s31 s32 s33 s34 s35 s36 s37 s38 s39 s40 s41 s42 s43 s44 s45 s46 s47 s48 s49 s50 s51 s52 s53 s54 s55 s56 s57 : Value) (wx : World), Nw w5 wx → s57 = .bool true → Q .normal ⟨#[u0, .pointer (some ⟨eb, 0, none⟩), u2, .int .i64 (inn : Int), u4, u5, u6, u7, u8, u9, u10, u11, u12, u13, u14, s15, s16, s17, s18, s19, s20, s21, s22, s23, s24, s25, s26, s27, s28, s29, s30, s31, s32, s33, s34, s35, s36, s37, s38, s39, s40, s41, s42, s43, s44, s45, s46, s47, s48, s49, s50, s51, s52, s53, s54, s55, s56, s57, u58, u59, u60, u61, u62, u63, u64, u65, u66, u67, u68, u69, u70, u71, u72, u73, u74, u75, u76, u77, u78, u79, u80, u81, u82, u83, u84, u85, u86, u87, u88, u89, u90, u91, u92, u93, u94, u95, u96, u97, u98, u99, u100, u101, u102, u103, u104, u105, u106, u107, u108, u109, u110, u111, u112, u113, u114, u115, u116, u117, u118, u119, u120, u121, u122, u123, u124, u125, u126, u127, u128, u129, u130, u131, u132, u133, u134, u135, u136, u137, u138, u139], []⟩ wx) :
    Code.wp Tryz.prog ((Tryz.f112.body.bind (regionOf 4)).getD .skip) Q ⟨#[u0, .pointer (some ⟨eb, 0, none⟩), u2, .int .i64 (inn : Int), u4, u5, u6, u7, u8, u9, u10, u11, u12, u13, u14, u15, u16, u17, u18, u19, u20, u21, u22, u23, u24, u25, u26, u27, u28, u29, u30, u31, u32, u33, u34, u35, u36, u37, u38, u39, u40, u41, u42, u43, u44, u45, u46, u47, u48, u49, u50, u51, u52, u53, u54, u55, u56, u57, u58, u59, u60, u61, u62, u63, u64, u65, u66, u67, u68, u69, u70, u71, u72, u73, u74, u75, u76, u77, u78, u79, u80, u81, u82, u83, u84, u85, u86, u87, u88, u89, u90, u91, u92, u93, u94, u95, u96, u97, u98, u99, u100, u101, u102, u103, u104, u105, u106, u107, u108, u109, u110, u111, u112, u113, u114, u115, u116, u117, u118, u119, u120, u121, u122, u123, u124, u125, u126, u127, u128, u129, u130, u131, u132, u133, u134, u135, u136, u137, u138, u139], []⟩ w5 := by
  (try dsimp only at hQ ⊢)
  conv => arg 2; whnf
  have HQ := Lib.hid hQ
  clear hQ
  refine name_act fun A hA => ?_
  have hA1 : A.tmps[1]? = some (.pointer (some ⟨eb, 0, none⟩)) := by rw [hA]; rfl
  have hA3 : A.tmps[3]? = some (.int .i64 (inn : Int)) := by rw [hA]; rfl
  have hlt0 : ∀ d ∈ ([15, 16, 17, 18, 19, 20, 21, 22, 23, 24, 25, 26, 27, 28, 29, 30, 31, 32, 33, 34, 35, 36, 37, 38, 39, 40, 41, 42, 43, 44, 45, 46, 47, 48, 49, 50, 51, 52, 53, 54, 55, 56, 57] : List Nat), d < 140 := by decide
  refine wp_region_tab [15, 16, 17, 18, 19, 20, 21, 22, 23, 24, 25, 26, 27, 28, 29, 30, 31, 32, 33, 34, 35, 36, 37, 38, 39, 40, 41, 42, 43, 44, 45, 46, 47, 48, 49, 50, 51, 52, 53, 54, 55, 56, 57] [isV (.pointer (some ⟨eb, 1, none⟩)), isV (.int .u8 (op : Int)), isV (.bool false), isV (.bool false), isV (.pointer (some ⟨eb, 1, none⟩)), isV (.int .u8 (op : Int)), isV (.bool false), isV (.bool false), isV (.bool false), isV (.pointer (some ⟨eb, 2, none⟩)), isV (.string ⟨obj.toArray⟩), isV (.bool false), isV (.bool true), isV (.bool true), isV (.bool true), isV (undef), isV (undef), isV (undef), isV (.bool true), isV (.bool true), isV (undef), isV (undef), isV (undef), isV (undef), isV (undef), isV (undef), isV (undef), isV (.bool true), isV (.bool true), isV (undef), isV (undef), isV (undef), isV (undef), isV (.bool true), isV (.bool true), isV (undef), isV (undef), isV (undef), isV (undef), isV (undef), isV (undef), isV (undef), isV (.bool true)] (by kernel_rfl) (by kernel_rfl) (by kernel_rfl) (of_decide_eq_true (by kernel_rfl)) (fun d hd => by rw [hA]; exact hlt0 d hd) (fun L hL => ⟨?a0, ?a1, ?a2, ?a3, ?a4, ?a5, ?a6, ?a7, ?a8, ?a9, ?a10, ?a11, ?a12, ?a13, ?a14, ?a15, ?a16, ?a17, ?a18, ?a19, ?a20, ?a21, ?a22, ?a23, ?a24, ?a25, ?a26, ?a27, ?a28, ?a29, ?a30, ?a31, ?a32, ?a33, ?a34, ?a35, ?a36, ?a37, ?a38, ?a39, ?a40, ?a41, ?a42, trivial⟩) ?he
  · intro a w hN old new
    have e1 := old 1 (.pointer (some ⟨eb, 0, none⟩)) rfl hA1
    exact OpOk.val (.pointer (some ⟨eb, 1, none⟩)) (w_none rfl) [(1, _)] (forall_cons e1 <| forall_nil) (fun ρ e ⟨c1, c2⟩ => by (try simp only [List.forall_mem_cons] at e); go_simp) ⟨Nw.refl _, rfl⟩
  · intro a w hN old new
    obtain ⟨y15, e15, g15⟩ := new 0 15 rfl rfl
    obtain rfl : y15 = .pointer (some ⟨eb, 1, none⟩) := g15
    have hp := hN.at_ PB.out
    obtain ⟨q0, q1, q2, q3, q4, q5, q6, q7, q8, qf⟩ := box9 hp
    exact OpOk.val (.int .u8 (op : Int)) (w_none rfl) [(15, _)] (forall_cons e15 <| forall_nil) (fun ρ e ⟨c1, c2⟩ => by (try simp only [List.forall_mem_cons] at e); go_simp) ⟨Nw.refl _, rfl⟩
  · intro a w hN old new
    obtain ⟨y16, e16, g16⟩ := new 1 16 rfl rfl
    obtain rfl : y16 = .int .u8 (op : Int) := g16
    exact OpOk.val (.bool false) (w_none rfl) [(16, _)] (forall_cons e16 <| forall_nil) (fun ρ e ⟨c1, c2⟩ => by (try simp only [List.forall_mem_cons] at e); go_simp) ⟨Nw.refl _, rfl⟩
  · intro a w hN old new
    obtain ⟨y17, e17, g17⟩ := new 2 17 rfl rfl
    obtain rfl : y17 = .bool false := g17
    exact OpOk.val (.bool false) (w_none rfl) [(17, _)] (forall_cons e17 <| forall_nil) (fun ρ e ⟨c1, c2⟩ => by (try simp only [List.forall_mem_cons] at e); go_simp) ⟨Nw.refl _, rfl⟩
  · intro a w hN old new
    obtain ⟨y18, e18, g18⟩ := new 3 18 rfl rfl
    obtain rfl : y18 = .bool false := g18
    have e1 := old 1 (.pointer (some ⟨eb, 0, none⟩)) rfl hA1
    exact OpOk.val (.pointer (some ⟨eb, 1, none⟩)) (tab_yes hL rfl rfl e18) [(1, _)] (forall_cons e1 <| forall_nil) (fun ρ e ⟨c1, c2⟩ => by (try simp only [List.forall_mem_cons] at e); go_simp) ⟨Nw.refl _, rfl⟩
  · intro a w hN old new
    obtain ⟨y18, e18, g18⟩ := new 3 18 rfl rfl
    obtain rfl : y18 = .bool false := g18
    obtain ⟨y19, e19, g19⟩ := new 4 19 rfl rfl
    obtain rfl : y19 = .pointer (some ⟨eb, 1, none⟩) := g19
    have hp := hN.at_ PB.out
    obtain ⟨q0, q1, q2, q3, q4, q5, q6, q7, q8, qf⟩ := box9 hp
    exact OpOk.val (.int .u8 (op : Int)) (tab_yes hL rfl rfl e18) [(19, _)] (forall_cons e19 <| forall_nil) (fun ρ e ⟨c1, c2⟩ => by (try simp only [List.forall_mem_cons] at e); go_simp) ⟨Nw.refl _, rfl⟩
  · intro a w hN old new
    obtain ⟨y18, e18, g18⟩ := new 3 18 rfl rfl
    obtain rfl : y18 = .bool false := g18
    obtain ⟨y20, e20, g20⟩ := new 5 20 rfl rfl
    obtain rfl : y20 = .int .u8 (op : Int) := g20
    exact OpOk.val (.bool false) (tab_yes hL rfl rfl e18) [(20, _)] (forall_cons e20 <| forall_nil) (fun ρ e ⟨c1, c2⟩ => by (try simp only [List.forall_mem_cons] at e); go_simp) ⟨Nw.refl _, rfl⟩
  · intro a w hN old new
    obtain ⟨y18, e18, g18⟩ := new 3 18 rfl rfl
    obtain rfl : y18 = .bool false := g18
    obtain ⟨y21, e21, g21⟩ := new 6 21 rfl rfl
    obtain rfl : y21 = .bool false := g21
    exact OpOk.val (.bool false) (w_none rfl) [(18, _), (21, _)] (forall_cons e18 <| forall_cons e21 <| forall_nil) (fun ρ e ⟨c1, c2⟩ => by (try simp only [List.forall_mem_cons] at e); go_simp) ⟨Nw.refl _, rfl⟩
  · intro a w hN old new
    obtain ⟨y22, e22, g22⟩ := new 7 22 rfl rfl
    obtain rfl : y22 = .bool false := g22
    exact OpOk.val (.bool false) (w_none rfl) [(22, _)] (forall_cons e22 <| forall_nil) (fun ρ e ⟨c1, c2⟩ => by (try simp only [List.forall_mem_cons] at e); go_simp) ⟨Nw.refl _, rfl⟩
  · intro a w hN old new
    obtain ⟨y23, e23, g23⟩ := new 8 23 rfl rfl
    obtain rfl : y23 = .bool false := g23
    have e1 := old 1 (.pointer (some ⟨eb, 0, none⟩)) rfl hA1
    exact OpOk.val (.pointer (some ⟨eb, 2, none⟩)) (tab_yes hL rfl rfl e23) [(1, _)] (forall_cons e1 <| forall_nil) (fun ρ e ⟨c1, c2⟩ => by (try simp only [List.forall_mem_cons] at e); go_simp) ⟨Nw.refl _, rfl⟩
  · intro a w hN old new
    obtain ⟨y23, e23, g23⟩ := new 8 23 rfl rfl
    obtain rfl : y23 = .bool false := g23
    obtain ⟨y24, e24, g24⟩ := new 9 24 rfl rfl
    obtain rfl : y24 = .pointer (some ⟨eb, 2, none⟩) := g24
    have hp := hN.at_ PB.out
    obtain ⟨q0, q1, q2, q3, q4, q5, q6, q7, q8, qf⟩ := box9 hp
    exact OpOk.val (.string ⟨obj.toArray⟩) (tab_yes hL rfl rfl e23) [(24, _)] (forall_cons e24 <| forall_nil) (fun ρ e ⟨c1, c2⟩ => by (try simp only [List.forall_mem_cons] at e); go_simp) ⟨Nw.refl _, rfl⟩
  · intro a w hN old new
    obtain ⟨y23, e23, g23⟩ := new 8 23 rfl rfl
    obtain rfl : y23 = .bool false := g23
    obtain ⟨y25, e25, g25⟩ := new 10 25 rfl rfl
    obtain rfl : y25 = .string ⟨obj.toArray⟩ := g25
    refine OpOk.call (tab_yes hL rfl rfl e23) [(25, _)] (forall_cons e25 <| forall_nil) (fun ρ e ⟨c1, c2⟩ => by (try simp only [List.forall_mem_cons] at e); go_simp) (HNM.out _ hN) (fun e w1 h => ?_)
    obtain ⟨rfl, n1⟩ := h
    exact ⟨_, rfl, n1, rfl⟩
  · intro a w hN old new
    obtain ⟨y23, e23, g23⟩ := new 8 23 rfl rfl
    obtain rfl : y23 = .bool false := g23
    obtain ⟨y26, e26, g26⟩ := new 11 26 rfl rfl
    obtain rfl : y26 = .bool false := g26
    exact OpOk.val (.bool true) (tab_yes hL rfl rfl e23) [(26, _)] (forall_cons e26 <| forall_nil) (fun ρ e ⟨c1, c2⟩ => by (try simp only [List.forall_mem_cons] at e); go_simp) ⟨Nw.refl _, rfl⟩
  · intro a w hN old new
    obtain ⟨y23, e23, g23⟩ := new 8 23 rfl rfl
    obtain rfl : y23 = .bool false := g23
    obtain ⟨y27, e27, g27⟩ := new 12 27 rfl rfl
    obtain rfl : y27 = .bool true := g27
    exact OpOk.val (.bool true) (w_none rfl) [(23, _), (27, _)] (forall_cons e23 <| forall_cons e27 <| forall_nil) (fun ρ e ⟨c1, c2⟩ => by (try simp only [List.forall_mem_cons] at e); go_simp) ⟨Nw.refl _, rfl⟩
  · intro a w hN old new
    obtain ⟨y28, e28, g28⟩ := new 13 28 rfl rfl
    obtain rfl : y28 = .bool true := g28
    exact OpOk.val (.bool true) (w_none rfl) [(28, _)] (forall_cons e28 <| forall_nil) (fun ρ e ⟨c1, c2⟩ => by (try simp only [List.forall_mem_cons] at e); go_simp) ⟨Nw.refl _, rfl⟩
  · intro a w hN old new
    obtain ⟨y29, e29, g29⟩ := new 14 29 rfl rfl
    obtain rfl : y29 = .bool true := g29
    exact OpOk.skip (tab_no hL rfl rfl e29) ⟨Nw.refl _, rfl⟩
  · intro a w hN old new
    obtain ⟨y29, e29, g29⟩ := new 14 29 rfl rfl
    obtain rfl : y29 = .bool true := g29
    exact OpOk.skip (tab_no hL rfl rfl e29) ⟨Nw.refl _, rfl⟩
  · intro a w hN old new
    obtain ⟨y29, e29, g29⟩ := new 14 29 rfl rfl
    obtain rfl : y29 = .bool true := g29
    exact OpOk.skip (tab_no hL rfl rfl e29) ⟨Nw.refl _, rfl⟩
  · intro a w hN old new
    obtain ⟨y29, e29, g29⟩ := new 14 29 rfl rfl
    obtain rfl : y29 = .bool true := g29
    obtain ⟨y32, e32, g32⟩ := new 17 32 rfl rfl
    obtain rfl : y32 = undef := g32
    exact OpOk.val (.bool true) (w_none rfl) [(29, _), (32, _)] (forall_cons e29 <| forall_cons e32 <| forall_nil) (fun ρ e ⟨c1, c2⟩ => by (try simp only [List.forall_mem_cons] at e); go_simp) ⟨Nw.refl _, rfl⟩
  · intro a w hN old new
    obtain ⟨y33, e33, g33⟩ := new 18 33 rfl rfl
    obtain rfl : y33 = .bool true := g33
    exact OpOk.val (.bool true) (w_none rfl) [(33, _)] (forall_cons e33 <| forall_nil) (fun ρ e ⟨c1, c2⟩ => by (try simp only [List.forall_mem_cons] at e); go_simp) ⟨Nw.refl _, rfl⟩
  · intro a w hN old new
    obtain ⟨y34, e34, g34⟩ := new 19 34 rfl rfl
    obtain rfl : y34 = .bool true := g34
    exact OpOk.skip (tab_no hL rfl rfl e34) ⟨Nw.refl _, rfl⟩
  · intro a w hN old new
    obtain ⟨y34, e34, g34⟩ := new 19 34 rfl rfl
    obtain rfl : y34 = .bool true := g34
    exact OpOk.skip (tab_no hL rfl rfl e34) ⟨Nw.refl _, rfl⟩
  · intro a w hN old new
    obtain ⟨y34, e34, g34⟩ := new 19 34 rfl rfl
    obtain rfl : y34 = .bool true := g34
    exact OpOk.skip (tab_no hL rfl rfl e34) ⟨Nw.refl _, rfl⟩
  · intro a w hN old new
    obtain ⟨y34, e34, g34⟩ := new 19 34 rfl rfl
    obtain rfl : y34 = .bool true := g34
    exact OpOk.skip (tab_no hL rfl rfl e34) ⟨Nw.refl _, rfl⟩
  · intro a w hN old new
    obtain ⟨y34, e34, g34⟩ := new 19 34 rfl rfl
    obtain rfl : y34 = .bool true := g34
    exact OpOk.skip (tab_no hL rfl rfl e34) ⟨Nw.refl _, rfl⟩
  · intro a w hN old new
    obtain ⟨y34, e34, g34⟩ := new 19 34 rfl rfl
    obtain rfl : y34 = .bool true := g34
    exact OpOk.skip (tab_no hL rfl rfl e34) ⟨Nw.refl _, rfl⟩
  · intro a w hN old new
    obtain ⟨y34, e34, g34⟩ := new 19 34 rfl rfl
    obtain rfl : y34 = .bool true := g34
    exact OpOk.skip (tab_no hL rfl rfl e34) ⟨Nw.refl _, rfl⟩
  · intro a w hN old new
    obtain ⟨y34, e34, g34⟩ := new 19 34 rfl rfl
    obtain rfl : y34 = .bool true := g34
    obtain ⟨y41, e41, g41⟩ := new 26 41 rfl rfl
    obtain rfl : y41 = undef := g41
    exact OpOk.val (.bool true) (w_none rfl) [(34, _), (41, _)] (forall_cons e34 <| forall_cons e41 <| forall_nil) (fun ρ e ⟨c1, c2⟩ => by (try simp only [List.forall_mem_cons] at e); go_simp) ⟨Nw.refl _, rfl⟩
  · intro a w hN old new
    obtain ⟨y42, e42, g42⟩ := new 27 42 rfl rfl
    obtain rfl : y42 = .bool true := g42
    exact OpOk.val (.bool true) (w_none rfl) [(42, _)] (forall_cons e42 <| forall_nil) (fun ρ e ⟨c1, c2⟩ => by (try simp only [List.forall_mem_cons] at e); go_simp) ⟨Nw.refl _, rfl⟩
  · intro a w hN old new
    obtain ⟨y43, e43, g43⟩ := new 28 43 rfl rfl
    obtain rfl : y43 = .bool true := g43
    exact OpOk.skip (tab_no hL rfl rfl e43) ⟨Nw.refl _, rfl⟩
  · intro a w hN old new
    obtain ⟨y43, e43, g43⟩ := new 28 43 rfl rfl
    obtain rfl : y43 = .bool true := g43
    exact OpOk.skip (tab_no hL rfl rfl e43) ⟨Nw.refl _, rfl⟩
  · intro a w hN old new
    obtain ⟨y43, e43, g43⟩ := new 28 43 rfl rfl
    obtain rfl : y43 = .bool true := g43
    exact OpOk.skip (tab_no hL rfl rfl e43) ⟨Nw.refl _, rfl⟩
  · intro a w hN old new
    obtain ⟨y43, e43, g43⟩ := new 28 43 rfl rfl
    obtain rfl : y43 = .bool true := g43
    exact OpOk.skip (tab_no hL rfl rfl e43) ⟨Nw.refl _, rfl⟩
  · intro a w hN old new
    obtain ⟨y43, e43, g43⟩ := new 28 43 rfl rfl
    obtain rfl : y43 = .bool true := g43
    obtain ⟨y47, e47, g47⟩ := new 32 47 rfl rfl
    obtain rfl : y47 = undef := g47
    exact OpOk.val (.bool true) (w_none rfl) [(43, _), (47, _)] (forall_cons e43 <| forall_cons e47 <| forall_nil) (fun ρ e ⟨c1, c2⟩ => by (try simp only [List.forall_mem_cons] at e); go_simp) ⟨Nw.refl _, rfl⟩
  · intro a w hN old new
    obtain ⟨y48, e48, g48⟩ := new 33 48 rfl rfl
    obtain rfl : y48 = .bool true := g48
    exact OpOk.val (.bool true) (w_none rfl) [(48, _)] (forall_cons e48 <| forall_nil) (fun ρ e ⟨c1, c2⟩ => by (try simp only [List.forall_mem_cons] at e); go_simp) ⟨Nw.refl _, rfl⟩
  · intro a w hN old new
    obtain ⟨y49, e49, g49⟩ := new 34 49 rfl rfl
    obtain rfl : y49 = .bool true := g49
    exact OpOk.skip (tab_no hL rfl rfl e49) ⟨Nw.refl _, rfl⟩
  · intro a w hN old new
    obtain ⟨y49, e49, g49⟩ := new 34 49 rfl rfl
    obtain rfl : y49 = .bool true := g49
    exact OpOk.skip (tab_no hL rfl rfl e49) ⟨Nw.refl _, rfl⟩
  · intro a w hN old new
    obtain ⟨y49, e49, g49⟩ := new 34 49 rfl rfl
    obtain rfl : y49 = .bool true := g49
    exact OpOk.skip (tab_no hL rfl rfl e49) ⟨Nw.refl _, rfl⟩
  · intro a w hN old new
    obtain ⟨y52, e52, g52⟩ := new 37 52 rfl rfl
    obtain rfl : y52 = undef := g52
    exact OpOk.skip (tab_un hL rfl rfl e52) ⟨Nw.refl _, rfl⟩
  · intro a w hN old new
    obtain ⟨y52, e52, g52⟩ := new 37 52 rfl rfl
    obtain rfl : y52 = undef := g52
    exact OpOk.skip (tab_un hL rfl rfl e52) ⟨Nw.refl _, rfl⟩
  · intro a w hN old new
    obtain ⟨y52, e52, g52⟩ := new 37 52 rfl rfl
    obtain rfl : y52 = undef := g52
    exact OpOk.skip (tab_un hL rfl rfl e52) ⟨Nw.refl _, rfl⟩
  · intro a w hN old new
    obtain ⟨y49, e49, g49⟩ := new 34 49 rfl rfl
    obtain rfl : y49 = .bool true := g49
    exact OpOk.skip (tab_no hL rfl rfl e49) ⟨Nw.refl _, rfl⟩
  · intro a w hN old new
    obtain ⟨y49, e49, g49⟩ := new 34 49 rfl rfl
    obtain rfl : y49 = .bool true := g49
    obtain ⟨y56, e56, g56⟩ := new 41 56 rfl rfl
    obtain rfl : y56 = undef := g56
    exact OpOk.val (.bool true) (w_none rfl) [(49, _), (56, _)] (forall_cons e49 <| forall_cons e56 <| forall_nil) (fun ρ e ⟨c1, c2⟩ => by (try simp only [List.forall_mem_cons] at e); go_simp) ⟨Nw.refl _, rfl⟩
  · intro a w hN hsz hdf old new
    obtain ⟨y57, e57, g57⟩ := new 42 57 rfl
    exact tab_frame (frame_lit (dst := [15, 16, 17, 18, 19, 20, 21, 22, 23, 24, 25, 26, 27, 28, 29, 30, 31, 32, 33, 34, 35, 36, 37, 38, 39, 40, 41, 42, 43, 44, 45, 46, 47, 48, 49, 50, 51, 52, 53, 54, 55, 56, 57]) (l := [u0, .pointer (some ⟨eb, 0, none⟩), u2, .int .i64 (inn : Int), u4, u5, u6, u7, u8, u9, u10, u11, u12, u13, u14, u15, u16, u17, u18, u19, u20, u21, u22, u23, u24, u25, u26, u27, u28, u29, u30, u31, u32, u33, u34, u35, u36, u37, u38, u39, u40, u41, u42, u43, u44, u45, u46, u47, u48, u49, u50, u51, u52, u53, u54, u55, u56, u57, u58, u59, u60, u61, u62, u63, u64, u65, u66, u67, u68, u69, u70, u71, u72, u73, u74, u75, u76, u77, u78, u79, u80, u81, u82, u83, u84, u85, u86, u87, u88, u89, u90, u91, u92, u93, u94, u95, u96, u97, u98, u99, u100, u101, u102, u103, u104, u105, u106, u107, u108, u109, u110, u111, u112, u113, u114, u115, u116, u117, u118, u119, u120, u121, u122, u123, u124, u125, u126, u127, u128, u129, u130, u131, u132, u133, u134, u135, u136, u137, u138, u139]) hA hsz hdf old (l' := [u0, .pointer (some ⟨eb, 0, none⟩), u2, .int .i64 (inn : Int), u4, u5, u6, u7, u8, u9, u10, u11, u12, u13, u14, (a.tmps[15]?.getD undef), (a.tmps[16]?.getD undef), (a.tmps[17]?.getD undef), (a.tmps[18]?.getD undef), (a.tmps[19]?.getD undef), (a.tmps[20]?.getD undef), (a.tmps[21]?.getD undef), (a.tmps[22]?.getD undef), (a.tmps[23]?.getD undef), (a.tmps[24]?.getD undef), (a.tmps[25]?.getD undef), (a.tmps[26]?.getD undef), (a.tmps[27]?.getD undef), (a.tmps[28]?.getD undef), (a.tmps[29]?.getD undef), (a.tmps[30]?.getD undef), (a.tmps[31]?.getD undef), (a.tmps[32]?.getD undef), (a.tmps[33]?.getD undef), (a.tmps[34]?.getD undef), (a.tmps[35]?.getD undef), (a.tmps[36]?.getD undef), (a.tmps[37]?.getD undef), (a.tmps[38]?.getD undef), (a.tmps[39]?.getD undef), (a.tmps[40]?.getD undef), (a.tmps[41]?.getD undef), (a.tmps[42]?.getD undef), (a.tmps[43]?.getD undef), (a.tmps[44]?.getD undef), (a.tmps[45]?.getD undef), (a.tmps[46]?.getD undef), (a.tmps[47]?.getD undef), (a.tmps[48]?.getD undef), (a.tmps[49]?.getD undef), (a.tmps[50]?.getD undef), (a.tmps[51]?.getD undef), (a.tmps[52]?.getD undef), (a.tmps[53]?.getD undef), (a.tmps[54]?.getD undef), (a.tmps[55]?.getD undef), (a.tmps[56]?.getD undef), (a.tmps[57]?.getD undef), u58, u59, u60, u61, u62, u63, u64, u65, u66, u67, u68, u69, u70, u71, u72, u73, u74, u75, u76, u77, u78, u79, u80, u81, u82, u83, u84, u85, u86, u87, u88, u89, u90, u91, u92, u93, u94, u95, u96, u97, u98, u99, u100, u101, u102, u103, u104, u105, u106, u107, u108, u109, u110, u111, u112, u113, u114, u115, u116, u117, u118, u119, u120, u121, u122, u123, u124, u125, u126, u127, u128, u129, u130, u131, u132, u133, u134, u135, u136, u137, u138, u139]) (by kernel_rfl)) (HQ.out _ _ _ _ _ _ _ _ _ _ _ _ _ _ _ _ _ _ _ _ _ _ _ _ _ _ _ _ _ _ _ _ _ _ _ _ _ _ _ _ _ _ _ w hN (by rw [e57]; exact g57))
set_option maxHeartbeats 1600000 in
theorem shp_nv {w5 : World} {eb kd op na nb ne c5 c6 c7 inn ar : Nat} {a5 a6 a7 : Option Addr} {obj into : List UInt8} {nv line : Int}
    (PB : Hid (w5.heap[eb]? = some (.cells #[.int .u8 (kd : Int), .int .u8 (op : Int), .string ⟨obj.toArray⟩, .string ⟨into.toArray⟩, .int .i64 nv, .slice a5 na c5, .slice a6 nb c6, .slice a7 ne c7, .int .i64 line] 144 (0, 0))))
    (HNM : Hid (∀ W, Nw w5 W → Calls Tryz.prog 70 #[.string ⟨obj.toArray⟩] W fun z w' => z = .returned (.bool true) ∧ Nw W w'))
    (HAR : Hid (∀ W, Calls Tryz.prog 137 #[.int .u8 (op : Int)] W fun z w' => z = .returned (.int .i64 (ar : Int)) ∧ w' = W))
    (h17 : decide ((op : Int) < 1) = false)
    (h21 : decide (23 < (op : Int)) = false)
    (h32 : (nv != 0) = true)
    {u0 u2 u4 u5 u6 u7 u8 u9 u10 u11 u12 u13 u14 u15 u16 u17 u18 u19 u20 u21 u22 u23 u24 u25 u26 u27 u28 u29 u30 u31 u32 u33 u34 u35 u36 u37 u38 u39 u40 u41 u42 u43 u44 u45 u46 u47 u48 u49 u50 u51 u52 u53 u54 u55 u56 u57 u58 u59 u60 u61 u62 u63 u64 u65 u66 u67 u68 u69 u70 u71 u72 u73 u74 u75 u76 u77 u78 u79 u80 u81 u82 u83 u84 u85 u86 u87 u88 u89 u90 u91 u92 u93 u94 u95 u96 u97 u98 u99 u100 u101 u102 u103 u104 u105 u106 u107 u108 u109 u110 u111 u112 u113 u114 u115 u116 u117 u118 u119 u120 u121 u122 u123 u124 u125 u126 u127 u128 u129 u130 u131 u132 u133 u134 u135 u136 u137 u138 u139 : Value} {Q : Exit → Act → World → Prop}
    (hQ : ∀ (s15 s16 s17 s18 s19 s20 s21 s22 s23 s24 s25 s26 s27 s28 s29 s30 s31 s32 s33 s34 s35 s36 s37 s38 s39 s40 s41 s42 s43 s44 s45 s46 s47 s48 s49 s50 s51 s52 s53 s54 s55 s56 s57 : Value) (wx : World), Nw w5 wx → s57 = .bool true → Q .normal ⟨#[u0, .pointer (some ⟨eb, 0, none⟩), u2, .int .i64 (inn : Int), u4, u5, u6, u7, u8, u9, u10, u11, u12, u13, u14, s15, s16, s17, s18, s19, s20, s21, s22, s23, s24, s25, s26, s27, s28, s29, s30, s31, s32, s33, s34, s35, s36, s37, s38, s39, s40, s41, s42, s43, s44, s45, s46, s47, s48, s49, s50, s51, s52, s53, s54, s55, s56, s57, u58, u59, u60, u61, u62, u63, u64, u65, u66, u67, u68, u69, u70, u71, u72, u73, u74, u75, u76, u77, u78, u79, u80, u81, u82, u83, u84, u85, u86, u87, u88, u89, u90, u91, u92, u93, u94, u95, u96, u97, u98, u99, u100, u101, u102, u103, u104, u105, u106, u107, u108, u109, u110, u111, u112, u113, u114, u115, u116, u117, u118, u119, u120, u121, u122, u123, u124, u125, u126, u127, u128, u129, u130, u131, u132, u133, u134, u135, u136, u137, u138, u139], []⟩ wx) :
    Code.wp Tryz.prog ((Tryz.f112.body.bind (regionOf 4)).getD .skip) Q ⟨#[u0, .pointer (some ⟨eb, 0, none⟩), u2, .int .i64 (inn : Int), u4, u5, u6, u7, u8, u9, u10, u11, u12, u13, u14, u15, u16, u17, u18, u19, u20, u21, u22, u23, u24, u25, u26, u27, u28, u29, u30, u31, u32, u33, u34, u35, u36, u37, u38, u39, u40, u41, u42, u43, u44, u45, u46, u47, u48, u49, u50, u51, u52, u53, u54, u55, u56, u57, u58, u59, u60, u61, u62, u63, u64, u65, u66, u67, u68, u69, u70, u71, u72, u73, u74, u75, u76, u77, u78, u79, u80, u81, u82, u83, u84, u85, u86, u87, u88, u89, u90, u91, u92, u93, u94, u95, u96, u97, u98, u99, u100, u101, u102, u103, u104, u105, u106, u107, u108, u109, u110, u111, u112, u113, u114, u115, u116, u117, u118, u119, u120, u121, u122, u123, u124, u125, u126, u127, u128, u129, u130, u131, u132, u133, u134, u135, u136, u137, u138, u139], []⟩ w5 := by
  (try dsimp only at hQ ⊢)
  conv => arg 2; whnf
  have HQ := Lib.hid hQ
  clear hQ
  refine name_act fun A hA => ?_
  have hA1 : A.tmps[1]? = some (.pointer (some ⟨eb, 0, none⟩)) := by rw [hA]; rfl
  have hA3 : A.tmps[3]? = some (.int .i64 (inn : Int)) := by rw [hA]; rfl
  have hlt0 : ∀ d ∈ ([15, 16, 17, 18, 19, 20, 21, 22, 23, 24, 25, 26, 27, 28, 29, 30, 31, 32, 33, 34, 35, 36, 37, 38, 39, 40, 41, 42, 43, 44, 45, 46, 47, 48, 49, 50, 51, 52, 53, 54, 55, 56, 57] : List Nat), d < 140 := by decide
  refine wp_region_tab [15, 16, 17, 18, 19, 20, 21, 22, 23, 24, 25, 26, 27, 28, 29, 30, 31, 32, 33, 34, 35, 36, 37, 38, 39, 40, 41, 42, 43, 44, 45, 46, 47, 48, 49, 50, 51, 52, 53, 54, 55, 56, 57] [isV (.pointer (some ⟨eb, 1, none⟩)), isV (.int .u8 (op : Int)), isV (.bool false), isV (.bool false), isV (.pointer (some ⟨eb, 1, none⟩)), isV (.int .u8 (op : Int)), isV (.bool false), isV (.bool false), isV (.bool false), isV (.pointer (some ⟨eb, 2, none⟩)), isV (.string ⟨obj.toArray⟩), isV (.bool true), isV (.bool false), isV (.bool false), isV (.bool false), isV (.pointer (some ⟨eb, 4, none⟩)), isV (.int .i64 nv), isV (.bool true), isV (.bool true), isV (.bool true), isV (undef), isV (undef), isV (undef), isV (undef), isV (undef), isV (undef), isV (undef), isV (.bool true), isV (.bool true), isV (undef), isV (undef), isV (undef), isV (undef), isV (.bool true), isV (.bool true), isV (undef), isV (undef), isV (undef), isV (undef), isV (undef), isV (undef), isV (undef), isV (.bool true)] (by kernel_rfl) (by kernel_rfl) (by kernel_rfl) (of_decide_eq_true (by kernel_rfl)) (fun d hd => by rw [hA]; exact hlt0 d hd) (fun L hL => ⟨?a0, ?a1, ?a2, ?a3, ?a4, ?a5, ?a6, ?a7, ?a8, ?a9, ?a10, ?a11, ?a12, ?a13, ?a14, ?a15, ?a16, ?a17, ?a18, ?a19, ?a20, ?a21, ?a22, ?a23, ?a24, ?a25, ?a26, ?a27, ?a28, ?a29, ?a30, ?a31, ?a32, ?a33, ?a34, ?a35, ?a36, ?a37, ?a38, ?a39, ?a40, ?a41, ?a42, trivial⟩) ?he
  · intro a w hN old new
    have e1 := old 1 (.pointer (some ⟨eb, 0, none⟩)) rfl hA1
    exact OpOk.val (.pointer (some ⟨eb, 1, none⟩)) (w_none rfl) [(1, _)] (forall_cons e1 <| forall_nil) (fun ρ e ⟨c1, c2⟩ => by (try simp only [List.forall_mem_cons] at e); go_simp) ⟨Nw.refl _, rfl⟩
  · intro a w hN old new
    obtain ⟨y15, e15, g15⟩ := new 0 15 rfl rfl
    obtain rfl : y15 = .pointer (some ⟨eb, 1, none⟩) := g15
    have hp := hN.at_ PB.out
    obtain ⟨q0, q1, q2, q3, q4, q5, q6, q7, q8, qf⟩ := box9 hp
    exact OpOk.val (.int .u8 (op : Int)) (w_none rfl) [(15, _)] (forall_cons e15 <| forall_nil) (fun ρ e ⟨c1, c2⟩ => by (try simp only [List.forall_mem_cons] at e); go_simp) ⟨Nw.refl _, rfl⟩
  · intro a w hN old new
    obtain ⟨y16, e16, g16⟩ := new 1 16 rfl rfl
    obtain rfl : y16 = .int .u8 (op : Int) := g16
    exact OpOk.val (.bool false) (w_none rfl) [(16, _)] (forall_cons e16 <| forall_nil) (fun ρ e ⟨c1, c2⟩ => by (try simp only [List.forall_mem_cons] at e); go_simp) ⟨Nw.refl _, rfl⟩
  · intro a w hN old new
    obtain ⟨y17, e17, g17⟩ := new 2 17 rfl rfl
    obtain rfl : y17 = .bool false := g17
    exact OpOk.val (.bool false) (w_none rfl) [(17, _)] (forall_cons e17 <| forall_nil) (fun ρ e ⟨c1, c2⟩ => by (try simp only [List.forall_mem_cons] at e); go_simp) ⟨Nw.refl _, rfl⟩
  · intro a w hN old new
    obtain ⟨y18, e18, g18⟩ := new 3 18 rfl rfl
    obtain rfl : y18 = .bool false := g18
    have e1 := old 1 (.pointer (some ⟨eb, 0, none⟩)) rfl hA1
    exact OpOk.val (.pointer (some ⟨eb, 1, none⟩)) (tab_yes hL rfl rfl e18) [(1, _)] (forall_cons e1 <| forall_nil) (fun ρ e ⟨c1, c2⟩ => by (try simp only [List.forall_mem_cons] at e); go_simp) ⟨Nw.refl _, rfl⟩
  · intro a w hN old new
    obtain ⟨y18, e18, g18⟩ := new 3 18 rfl rfl
    obtain rfl : y18 = .bool false := g18
    obtain ⟨y19, e19, g19⟩ := new 4 19 rfl rfl
    obtain rfl : y19 = .pointer (some ⟨eb, 1, none⟩) := g19
    have hp := hN.at_ PB.out
    obtain ⟨q0, q1, q2, q3, q4, q5, q6, q7, q8, qf⟩ := box9 hp
    exact OpOk.val (.int .u8 (op : Int)) (tab_yes hL rfl rfl e18) [(19, _)] (forall_cons e19 <| forall_nil) (fun ρ e ⟨c1, c2⟩ => by (try simp only [List.forall_mem_cons] at e); go_simp) ⟨Nw.refl _, rfl⟩
  · intro a w hN old new
    obtain ⟨y18, e18, g18⟩ := new 3 18 rfl rfl
    obtain rfl : y18 = .bool false := g18
    obtain ⟨y20, e20, g20⟩ := new 5 20 rfl rfl
    obtain rfl : y20 = .int .u8 (op : Int) := g20
    exact OpOk.val (.bool false) (tab_yes hL rfl rfl e18) [(20, _)] (forall_cons e20 <| forall_nil) (fun ρ e ⟨c1, c2⟩ => by (try simp only [List.forall_mem_cons] at e); go_simp) ⟨Nw.refl _, rfl⟩
  · intro a w hN old new
    obtain ⟨y18, e18, g18⟩ := new 3 18 rfl rfl
    obtain rfl : y18 = .bool false := g18
    obtain ⟨y21, e21, g21⟩ := new 6 21 rfl rfl
    obtain rfl : y21 = .bool false := g21
    exact OpOk.val (.bool false) (w_none rfl) [(18, _), (21, _)] (forall_cons e18 <| forall_cons e21 <| forall_nil) (fun ρ e ⟨c1, c2⟩ => by (try simp only [List.forall_mem_cons] at e); go_simp) ⟨Nw.refl _, rfl⟩
  · intro a w hN old new
    obtain ⟨y22, e22, g22⟩ := new 7 22 rfl rfl
    obtain rfl : y22 = .bool false := g22
    exact OpOk.val (.bool false) (w_none rfl) [(22, _)] (forall_cons e22 <| forall_nil) (fun ρ e ⟨c1, c2⟩ => by (try simp only [List.forall_mem_cons] at e); go_simp) ⟨Nw.refl _, rfl⟩
  · intro a w hN old new
    obtain ⟨y23, e23, g23⟩ := new 8 23 rfl rfl
    obtain rfl : y23 = .bool false := g23
    have e1 := old 1 (.pointer (some ⟨eb, 0, none⟩)) rfl hA1
    exact OpOk.val (.pointer (some ⟨eb, 2, none⟩)) (tab_yes hL rfl rfl e23) [(1, _)] (forall_cons e1 <| forall_nil) (fun ρ e ⟨c1, c2⟩ => by (try simp only [List.forall_mem_cons] at e); go_simp) ⟨Nw.refl _, rfl⟩
  · intro a w hN old new
    obtain ⟨y23, e23, g23⟩ := new 8 23 rfl rfl
    obtain rfl : y23 = .bool false := g23
    obtain ⟨y24, e24, g24⟩ := new 9 24 rfl rfl
    obtain rfl : y24 = .pointer (some ⟨eb, 2, none⟩) := g24
    have hp := hN.at_ PB.out
    obtain ⟨q0, q1, q2, q3, q4, q5, q6, q7, q8, qf⟩ := box9 hp
    exact OpOk.val (.string ⟨obj.toArray⟩) (tab_yes hL rfl rfl e23) [(24, _)] (forall_cons e24 <| forall_nil) (fun ρ e ⟨c1, c2⟩ => by (try simp only [List.forall_mem_cons] at e); go_simp) ⟨Nw.refl _, rfl⟩
  · intro a w hN old new
    obtain ⟨y23, e23, g23⟩ := new 8 23 rfl rfl
    obtain rfl : y23 = .bool false := g23
    obtain ⟨y25, e25, g25⟩ := new 10 25 rfl rfl
    obtain rfl : y25 = .string ⟨obj.toArray⟩ := g25
    refine OpOk.call (tab_yes hL rfl rfl e23) [(25, _)] (forall_cons e25 <| forall_nil) (fun ρ e ⟨c1, c2⟩ => by (try simp only [List.forall_mem_cons] at e); go_simp) (HNM.out _ hN) (fun e w1 h => ?_)
    obtain ⟨rfl, n1⟩ := h
    exact ⟨_, rfl, n1, rfl⟩
  · intro a w hN old new
    obtain ⟨y23, e23, g23⟩ := new 8 23 rfl rfl
    obtain rfl : y23 = .bool false := g23
    obtain ⟨y26, e26, g26⟩ := new 11 26 rfl rfl
    obtain rfl : y26 = .bool true := g26
    exact OpOk.val (.bool false) (tab_yes hL rfl rfl e23) [(26, _)] (forall_cons e26 <| forall_nil) (fun ρ e ⟨c1, c2⟩ => by (try simp only [List.forall_mem_cons] at e); go_simp) ⟨Nw.refl _, rfl⟩
  · intro a w hN old new
    obtain ⟨y23, e23, g23⟩ := new 8 23 rfl rfl
    obtain rfl : y23 = .bool false := g23
    obtain ⟨y27, e27, g27⟩ := new 12 27 rfl rfl
    obtain rfl : y27 = .bool false := g27
    exact OpOk.val (.bool false) (w_none rfl) [(23, _), (27, _)] (forall_cons e23 <| forall_cons e27 <| forall_nil) (fun ρ e ⟨c1, c2⟩ => by (try simp only [List.forall_mem_cons] at e); go_simp) ⟨Nw.refl _, rfl⟩
  · intro a w hN old new
    obtain ⟨y28, e28, g28⟩ := new 13 28 rfl rfl
    obtain rfl : y28 = .bool false := g28
    exact OpOk.val (.bool false) (w_none rfl) [(28, _)] (forall_cons e28 <| forall_nil) (fun ρ e ⟨c1, c2⟩ => by (try simp only [List.forall_mem_cons] at e); go_simp) ⟨Nw.refl _, rfl⟩
  · intro a w hN old new
    obtain ⟨y29, e29, g29⟩ := new 14 29 rfl rfl
    obtain rfl : y29 = .bool false := g29
    have e1 := old 1 (.pointer (some ⟨eb, 0, none⟩)) rfl hA1
    exact OpOk.val (.pointer (some ⟨eb, 4, none⟩)) (tab_yes hL rfl rfl e29) [(1, _)] (forall_cons e1 <| forall_nil) (fun ρ e ⟨c1, c2⟩ => by (try simp only [List.forall_mem_cons] at e); go_simp) ⟨Nw.refl _, rfl⟩
  · intro a w hN old new
    obtain ⟨y29, e29, g29⟩ := new 14 29 rfl rfl
    obtain rfl : y29 = .bool false := g29
    obtain ⟨y30, e30, g30⟩ := new 15 30 rfl rfl
    obtain rfl : y30 = .pointer (some ⟨eb, 4, none⟩) := g30
    have hp := hN.at_ PB.out
    obtain ⟨q0, q1, q2, q3, q4, q5, q6, q7, q8, qf⟩ := box9 hp
    exact OpOk.val (.int .i64 nv) (tab_yes hL rfl rfl e29) [(30, _)] (forall_cons e30 <| forall_nil) (fun ρ e ⟨c1, c2⟩ => by (try simp only [List.forall_mem_cons] at e); go_simp) ⟨Nw.refl _, rfl⟩
  · intro a w hN old new
    obtain ⟨y29, e29, g29⟩ := new 14 29 rfl rfl
    obtain rfl : y29 = .bool false := g29
    obtain ⟨y31, e31, g31⟩ := new 16 31 rfl rfl
    obtain rfl : y31 = .int .i64 nv := g31
    exact OpOk.val (.bool true) (tab_yes hL rfl rfl e29) [(31, _)] (forall_cons e31 <| forall_nil) (fun ρ e ⟨c1, c2⟩ => by (try simp only [List.forall_mem_cons] at e); go_simp) ⟨Nw.refl _, rfl⟩
  · intro a w hN old new
    obtain ⟨y29, e29, g29⟩ := new 14 29 rfl rfl
    obtain rfl : y29 = .bool false := g29
    obtain ⟨y32, e32, g32⟩ := new 17 32 rfl rfl
    obtain rfl : y32 = .bool true := g32
    exact OpOk.val (.bool true) (w_none rfl) [(29, _), (32, _)] (forall_cons e29 <| forall_cons e32 <| forall_nil) (fun ρ e ⟨c1, c2⟩ => by (try simp only [List.forall_mem_cons] at e); go_simp) ⟨Nw.refl _, rfl⟩
  · intro a w hN old new
    obtain ⟨y33, e33, g33⟩ := new 18 33 rfl rfl
    obtain rfl : y33 = .bool true := g33
    exact OpOk.val (.bool true) (w_none rfl) [(33, _)] (forall_cons e33 <| forall_nil) (fun ρ e ⟨c1, c2⟩ => by (try simp only [List.forall_mem_cons] at e); go_simp) ⟨Nw.refl _, rfl⟩
  · intro a w hN old new
    obtain ⟨y34, e34, g34⟩ := new 19 34 rfl rfl
    obtain rfl : y34 = .bool true := g34
    exact OpOk.skip (tab_no hL rfl rfl e34) ⟨Nw.refl _, rfl⟩
  · intro a w hN old new
    obtain ⟨y34, e34, g34⟩ := new 19 34 rfl rfl
    obtain rfl : y34 = .bool true := g34
    exact OpOk.skip (tab_no hL rfl rfl e34) ⟨Nw.refl _, rfl⟩
  · intro a w hN old new
    obtain ⟨y34, e34, g34⟩ := new 19 34 rfl rfl
    obtain rfl : y34 = .bool true := g34
    exact OpOk.skip (tab_no hL rfl rfl e34) ⟨Nw.refl _, rfl⟩
  · intro a w hN old new
    obtain ⟨y34, e34, g34⟩ := new 19 34 rfl rfl
    obtain rfl : y34 = .bool true := g34
    exact OpOk.skip (tab_no hL rfl rfl e34) ⟨Nw.refl _, rfl⟩
  · intro a w hN old new
    obtain ⟨y34, e34, g34⟩ := new 19 34 rfl rfl
    obtain rfl : y34 = .bool true := g34
    exact OpOk.skip (tab_no hL rfl rfl e34) ⟨Nw.refl _, rfl⟩
  · intro a w hN old new
    obtain ⟨y34, e34, g34⟩ := new 19 34 rfl rfl
    obtain rfl : y34 = .bool true := g34
    exact OpOk.skip (tab_no hL rfl rfl e34) ⟨Nw.refl _, rfl⟩
  · intro a w hN old new
    obtain ⟨y34, e34, g34⟩ := new 19 34 rfl rfl
    obtain rfl : y34 = .bool true := g34
    exact OpOk.skip (tab_no hL rfl rfl e34) ⟨Nw.refl _, rfl⟩
  · intro a w hN old new
    obtain ⟨y34, e34, g34⟩ := new 19 34 rfl rfl
    obtain rfl : y34 = .bool true := g34
    obtain ⟨y41, e41, g41⟩ := new 26 41 rfl rfl
    obtain rfl : y41 = undef := g41
    exact OpOk.val (.bool true) (w_none rfl) [(34, _), (41, _)] (forall_cons e34 <| forall_cons e41 <| forall_nil) (fun ρ e ⟨c1, c2⟩ => by (try simp only [List.forall_mem_cons] at e); go_simp) ⟨Nw.refl _, rfl⟩
  · intro a w hN old new
    obtain ⟨y42, e42, g42⟩ := new 27 42 rfl rfl
    obtain rfl : y42 = .bool true := g42
    exact OpOk.val (.bool true) (w_none rfl) [(42, _)] (forall_cons e42 <| forall_nil) (fun ρ e ⟨c1, c2⟩ => by (try simp only [List.forall_mem_cons] at e); go_simp) ⟨Nw.refl _, rfl⟩
  · intro a w hN old new
    obtain ⟨y43, e43, g43⟩ := new 28 43 rfl rfl
    obtain rfl : y43 = .bool true := g43
    exact OpOk.skip (tab_no hL rfl rfl e43) ⟨Nw.refl _, rfl⟩
  · intro a w hN old new
    obtain ⟨y43, e43, g43⟩ := new 28 43 rfl rfl
    obtain rfl : y43 = .bool true := g43
    exact OpOk.skip (tab_no hL rfl rfl e43) ⟨Nw.refl _, rfl⟩
  · intro a w hN old new
    obtain ⟨y43, e43, g43⟩ := new 28 43 rfl rfl
    obtain rfl : y43 = .bool true := g43
    exact OpOk.skip (tab_no hL rfl rfl e43) ⟨Nw.refl _, rfl⟩
  · intro a w hN old new
    obtain ⟨y43, e43, g43⟩ := new 28 43 rfl rfl
    obtain rfl : y43 = .bool true := g43
    exact OpOk.skip (tab_no hL rfl rfl e43) ⟨Nw.refl _, rfl⟩
  · intro a w hN old new
    obtain ⟨y43, e43, g43⟩ := new 28 43 rfl rfl
    obtain rfl : y43 = .bool true := g43
    obtain ⟨y47, e47, g47⟩ := new 32 47 rfl rfl
    obtain rfl : y47 = undef := g47
    exact OpOk.val (.bool true) (w_none rfl) [(43, _), (47, _)] (forall_cons e43 <| forall_cons e47 <| forall_nil) (fun ρ e ⟨c1, c2⟩ => by (try simp only [List.forall_mem_cons] at e); go_simp) ⟨Nw.refl _, rfl⟩
  · intro a w hN old new
    obtain ⟨y48, e48, g48⟩ := new 33 48 rfl rfl
    obtain rfl : y48 = .bool true := g48
    exact OpOk.val (.bool true) (w_none rfl) [(48, _)] (forall_cons e48 <| forall_nil) (fun ρ e ⟨c1, c2⟩ => by (try simp only [List.forall_mem_cons] at e); go_simp) ⟨Nw.refl _, rfl⟩
  · intro a w hN old new
    obtain ⟨y49, e49, g49⟩ := new 34 49 rfl rfl
    obtain rfl : y49 = .bool true := g49
    exact OpOk.skip (tab_no hL rfl rfl e49) ⟨Nw.refl _, rfl⟩
  · intro a w hN old new
    obtain ⟨y49, e49, g49⟩ := new 34 49 rfl rfl
    obtain rfl : y49 = .bool true := g49
    exact OpOk.skip (tab_no hL rfl rfl e49) ⟨Nw.refl _, rfl⟩
  · intro a w hN old new
    obtain ⟨y49, e49, g49⟩ := new 34 49 rfl rfl
    obtain rfl : y49 = .bool true := g49
    exact OpOk.skip (tab_no hL rfl rfl e49) ⟨Nw.refl _, rfl⟩
  · intro a w hN old new
    obtain ⟨y52, e52, g52⟩ := new 37 52 rfl rfl
    obtain rfl : y52 = undef := g52
    exact OpOk.skip (tab_un hL rfl rfl e52) ⟨Nw.refl _, rfl⟩
  · intro a w hN old new
    obtain ⟨y52, e52, g52⟩ := new 37 52 rfl rfl
    obtain rfl : y52 = undef := g52
    exact OpOk.skip (tab_un hL rfl rfl e52) ⟨Nw.refl _, rfl⟩
  · intro a w hN old new
    obtain ⟨y52, e52, g52⟩ := new 37 52 rfl rfl
    obtain rfl : y52 = undef := g52
    exact OpOk.skip (tab_un hL rfl rfl e52) ⟨Nw.refl _, rfl⟩
  · intro a w hN old new
    obtain ⟨y49, e49, g49⟩ := new 34 49 rfl rfl
    obtain rfl : y49 = .bool true := g49
    exact OpOk.skip (tab_no hL rfl rfl e49) ⟨Nw.refl _, rfl⟩
  · intro a w hN old new
    obtain ⟨y49, e49, g49⟩ := new 34 49 rfl rfl
    obtain rfl : y49 = .bool true := g49
    obtain ⟨y56, e56, g56⟩ := new 41 56 rfl rfl
    obtain rfl : y56 = undef := g56
    exact OpOk.val (.bool true) (w_none rfl) [(49, _), (56, _)] (forall_cons e49 <| forall_cons e56 <| forall_nil) (fun ρ e ⟨c1, c2⟩ => by (try simp only [List.forall_mem_cons] at e); go_simp) ⟨Nw.refl _, rfl⟩
  · intro a w hN hsz hdf old new
    obtain ⟨y57, e57, g57⟩ := new 42 57 rfl
    exact tab_frame (frame_lit (dst := [15, 16, 17, 18, 19, 20, 21, 22, 23, 24, 25, 26, 27, 28, 29, 30, 31, 32, 33, 34, 35, 36, 37, 38, 39, 40, 41, 42, 43, 44, 45, 46, 47, 48, 49, 50, 51, 52, 53, 54, 55, 56, 57]) (l := [u0, .pointer (some ⟨eb, 0, none⟩), u2, .int .i64 (inn : Int), u4, u5, u6, u7, u8, u9, u10, u11, u12, u13, u14, u15, u16, u17, u18, u19, u20, u21, u22, u23, u24, u25, u26, u27, u28, u29, u30, u31, u32, u33, u34, u35, u36, u37, u38, u39, u40, u41, u42, u43, u44, u45, u46, u47, u48, u49, u50, u51, u52, u53, u54, u55, u56, u57, u58, u59, u60, u61, u62, u63, u64, u65, u66, u67, u68, u69, u70, u71, u72, u73, u74, u75, u76, u77, u78, u79, u80, u81, u82, u83, u84, u85, u86, u87, u88, u89, u90, u91, u92, u93, u94, u95, u96, u97, u98, u99, u100, u101, u102, u103, u104, u105, u106, u107, u108, u109, u110, u111, u112, u113, u114, u115, u116, u117, u118, u119, u120, u121, u122, u123, u124, u125, u126, u127, u128, u129, u130, u131, u132, u133, u134, u135, u136, u137, u138, u139]) hA hsz hdf old (l' := [u0, .pointer (some ⟨eb, 0, none⟩), u2, .int .i64 (inn : Int), u4, u5, u6, u7, u8, u9, u10, u11, u12, u13, u14, (a.tmps[15]?.getD undef), (a.tmps[16]?.getD undef), (a.tmps[17]?.getD undef), (a.tmps[18]?.getD undef), (a.tmps[19]?.getD undef), (a.tmps[20]?.getD undef), (a.tmps[21]?.getD undef), (a.tmps[22]?.getD undef), (a.tmps[23]?.getD undef), (a.tmps[24]?.getD undef), (a.tmps[25]?.getD undef), (a.tmps[26]?.getD undef), (a.tmps[27]?.getD undef), (a.tmps[28]?.getD undef), (a.tmps[29]?.getD undef), (a.tmps[30]?.getD undef), (a.tmps[31]?.getD undef), (a.tmps[32]?.getD undef), (a.tmps[33]?.getD undef), (a.tmps[34]?.getD undef), (a.tmps[35]?.getD undef), (a.tmps[36]?.getD undef), (a.tmps[37]?.getD undef), (a.tmps[38]?.getD undef), (a.tmps[39]?.getD undef), (a.tmps[40]?.getD undef), (a.tmps[41]?.getD undef), (a.tmps[42]?.getD undef), (a.tmps[43]?.getD undef), (a.tmps[44]?.getD undef), (a.tmps[45]?.getD undef), (a.tmps[46]?.getD undef), (a.tmps[47]?.getD undef), (a.tmps[48]?.getD undef), (a.tmps[49]?.getD undef), (a.tmps[50]?.getD undef), (a.tmps[51]?.getD undef), (a.tmps[52]?.getD undef), (a.tmps[53]?.getD undef), (a.tmps[54]?.getD undef), (a.tmps[55]?.getD undef), (a.tmps[56]?.getD undef), (a.tmps[57]?.getD undef), u58, u59, u60, u61, u62, u63, u64, u65, u66, u67, u68, u69, u70, u71, u72, u73, u74, u75, u76, u77, u78, u79, u80, u81, u82, u83, u84, u85, u86, u87, u88, u89, u90, u91, u92, u93, u94, u95, u96, u97, u98, u99, u100, u101, u102, u103, u104, u105, u106, u107, u108, u109, u110, u111, u112, u113, u114, u115, u116, u117, u118, u119, u120, u121, u122, u123, u124, u125, u126, u127, u128, u129, u130, u131, u132, u133, u134, u135, u136, u137, u138, u139]) (by kernel_rfl)) (HQ.out _ _ _ _ _ _ _ _ _ _ _ _ _ _ _ _ _ _ _ _ _ _ _ _ _ _ _ _ _ _ _ _ _ _ _ _ _ _ _ _ _ _ _ w hN (by rw [e57]; exact g57))
set_option maxHeartbeats 1600000 in
theorem shp_na {w5 : World} {eb kd op na nb ne c5 c6 c7 inn ar : Nat} {a5 a6 a7 : Option Addr} {obj into : List UInt8} {nv line : Int}
    (PB : Hid (w5.heap[eb]? = some (.cells #[.int .u8 (kd : Int), .int .u8 (op : Int), .string ⟨obj.toArray⟩, .string ⟨into.toArray⟩, .int .i64 nv, .slice a5 na c5, .slice a6 nb c6, .slice a7 ne c7, .int .i64 line] 144 (0, 0))))
    (HNM : Hid (∀ W, Nw w5 W → Calls Tryz.prog 70 #[.string ⟨obj.toArray⟩] W fun z w' => z = .returned (.bool true) ∧ Nw W w'))
    (HAR : Hid (∀ W, Calls Tryz.prog 137 #[.int .u8 (op : Int)] W fun z w' => z = .returned (.int .i64 (ar : Int)) ∧ w' = W))
    (h17 : decide ((op : Int) < 1) = false)
    (h21 : decide (23 < (op : Int)) = false)
    (h32 : (nv != 0) = false)
    (h41 : ((na : Int) != (ar : Int)) = true)
    {u0 u2 u4 u5 u6 u7 u8 u9 u10 u11 u12 u13 u14 u15 u16 u17 u18 u19 u20 u21 u22 u23 u24 u25 u26 u27 u28 u29 u30 u31 u32 u33 u34 u35 u36 u37 u38 u39 u40 u41 u42 u43 u44 u45 u46 u47 u48 u49 u50 u51 u52 u53 u54 u55 u56 u57 u58 u59 u60 u61 u62 u63 u64 u65 u66 u67 u68 u69 u70 u71 u72 u73 u74 u75 u76 u77 u78 u79 u80 u81 u82 u83 u84 u85 u86 u87 u88 u89 u90 u91 u92 u93 u94 u95 u96 u97 u98 u99 u100 u101 u102 u103 u104 u105 u106 u107 u108 u109 u110 u111 u112 u113 u114 u115 u116 u117 u118 u119 u120 u121 u122 u123 u124 u125 u126 u127 u128 u129 u130 u131 u132 u133 u134 u135 u136 u137 u138 u139 : Value} {Q : Exit → Act → World → Prop}
    (hQ : ∀ (s15 s16 s17 s18 s19 s20 s21 s22 s23 s24 s25 s26 s27 s28 s29 s30 s31 s32 s33 s34 s35 s36 s37 s38 s39 s40 s41 s42 s43 s44 s45 s46 s47 s48 s49 s50 s51 s52 s53 s54 s55 s56 s57 : Value) (wx : World), Nw w5 wx → s57 = .bool true → Q .normal ⟨#[u0, .pointer (some ⟨eb, 0, none⟩), u2, .int .i64 (inn : Int), u4, u5, u6, u7, u8, u9, u10, u11, u12, u13, u14, s15, s16, s17, s18, s19, s20, s21, s22, s23, s24, s25, s26, s27, s28, s29, s30, s31, s32, s33, s34, s35, s36, s37, s38, s39, s40, s41, s42, s43, s44, s45, s46, s47, s48, s49, s50, s51, s52, s53, s54, s55, s56, s57, u58, u59, u60, u61, u62, u63, u64, u65, u66, u67, u68, u69, u70, u71, u72, u73, u74, u75, u76, u77, u78, u79, u80, u81, u82, u83, u84, u85, u86, u87, u88, u89, u90, u91, u92, u93, u94, u95, u96, u97, u98, u99, u100, u101, u102, u103, u104, u105, u106, u107, u108, u109, u110, u111, u112, u113, u114, u115, u116, u117, u118, u119, u120, u121, u122, u123, u124, u125, u126, u127, u128, u129, u130, u131, u132, u133, u134, u135, u136, u137, u138, u139], []⟩ wx) :
    Code.wp Tryz.prog ((Tryz.f112.body.bind (regionOf 4)).getD .skip) Q ⟨#[u0, .pointer (some ⟨eb, 0, none⟩), u2, .int .i64 (inn : Int), u4, u5, u6, u7, u8, u9, u10, u11, u12, u13, u14, u15, u16, u17, u18, u19, u20, u21, u22, u23, u24, u25, u26, u27, u28, u29, u30, u31, u32, u33, u34, u35, u36, u37, u38, u39, u40, u41, u42, u43, u44, u45, u46, u47, u48, u49, u50, u51, u52, u53, u54, u55, u56, u57, u58, u59, u60, u61, u62, u63, u64, u65, u66, u67, u68, u69, u70, u71, u72, u73, u74, u75, u76, u77, u78, u79, u80, u81, u82, u83, u84, u85, u86, u87, u88, u89, u90, u91, u92, u93, u94, u95, u96, u97, u98, u99, u100, u101, u102, u103, u104, u105, u106, u107, u108, u109, u110, u111, u112, u113, u114, u115, u116, u117, u118, u119, u120, u121, u122, u123, u124, u125, u126, u127, u128, u129, u130, u131, u132, u133, u134, u135, u136, u137, u138, u139], []⟩ w5 := by
  (try dsimp only at hQ ⊢)
  conv => arg 2; whnf
  have HQ := Lib.hid hQ
  clear hQ
  refine name_act fun A hA => ?_
  have hA1 : A.tmps[1]? = some (.pointer (some ⟨eb, 0, none⟩)) := by rw [hA]; rfl
  have hA3 : A.tmps[3]? = some (.int .i64 (inn : Int)) := by rw [hA]; rfl
  have hlt0 : ∀ d ∈ ([15, 16, 17, 18, 19, 20, 21, 22, 23, 24, 25, 26, 27, 28, 29, 30, 31, 32, 33, 34, 35, 36, 37, 38, 39, 40, 41, 42, 43, 44, 45, 46, 47, 48, 49, 50, 51, 52, 53, 54, 55, 56, 57] : List Nat), d < 140 := by decide
  refine wp_region_tab [15, 16, 17, 18, 19, 20, 21, 22, 23, 24, 25, 26, 27, 28, 29, 30, 31, 32, 33, 34, 35, 36, 37, 38, 39, 40, 41, 42, 43, 44, 45, 46, 47, 48, 49, 50, 51, 52, 53, 54, 55, 56, 57] [isV (.pointer (some ⟨eb, 1, none⟩)), isV (.int .u8 (op : Int)), isV (.bool false), isV (.bool false), isV (.pointer (some ⟨eb, 1, none⟩)), isV (.int .u8 (op : Int)), isV (.bool false), isV (.bool false), isV (.bool false), isV (.pointer (some ⟨eb, 2, none⟩)), isV (.string ⟨obj.toArray⟩), isV (.bool true), isV (.bool false), isV (.bool false), isV (.bool false), isV (.pointer (some ⟨eb, 4, none⟩)), isV (.int .i64 nv), isV (.bool false), isV (.bool false), isV (.bool false), isV (.pointer (some ⟨eb, 5, none⟩)), isV (.slice a5 na c5), isV (.int .i64 (na : Int)), isV (.pointer (some ⟨eb, 1, none⟩)), isV (.int .u8 (op : Int)), isV (.int .i64 (ar : Int)), isV (.bool true), isV (.bool true), isV (.bool true), isV (undef), isV (undef), isV (undef), isV (undef), isV (.bool true), isV (.bool true), isV (undef), isV (undef), isV (undef), isV (undef), isV (undef), isV (undef), isV (undef), isV (.bool true)] (by kernel_rfl) (by kernel_rfl) (by kernel_rfl) (of_decide_eq_true (by kernel_rfl)) (fun d hd => by rw [hA]; exact hlt0 d hd) (fun L hL => ⟨?a0, ?a1, ?a2, ?a3, ?a4, ?a5, ?a6, ?a7, ?a8, ?a9, ?a10, ?a11, ?a12, ?a13, ?a14, ?a15, ?a16, ?a17, ?a18, ?a19, ?a20, ?a21, ?a22, ?a23, ?a24, ?a25, ?a26, ?a27, ?a28, ?a29, ?a30, ?a31, ?a32, ?a33, ?a34, ?a35, ?a36, ?a37, ?a38, ?a39, ?a40, ?a41, ?a42, trivial⟩) ?he
  · intro a w hN old new
    have e1 := old 1 (.pointer (some ⟨eb, 0, none⟩)) rfl hA1
    exact OpOk.val (.pointer (some ⟨eb, 1, none⟩)) (w_none rfl) [(1, _)] (forall_cons e1 <| forall_nil) (fun ρ e ⟨c1, c2⟩ => by (try simp only [List.forall_mem_cons] at e); go_simp) ⟨Nw.refl _, rfl⟩
  · intro a w hN old new
    obtain ⟨y15, e15, g15⟩ := new 0 15 rfl rfl
    obtain rfl : y15 = .pointer (some ⟨eb, 1, none⟩) := g15
    have hp := hN.at_ PB.out
    obtain ⟨q0, q1, q2, q3, q4, q5, q6, q7, q8, qf⟩ := box9 hp
    exact OpOk.val (.int .u8 (op : Int)) (w_none rfl) [(15, _)] (forall_cons e15 <| forall_nil) (fun ρ e ⟨c1, c2⟩ => by (try simp only [List.forall_mem_cons] at e); go_simp) ⟨Nw.refl _, rfl⟩
  · intro a w hN old new
    obtain ⟨y16, e16, g16⟩ := new 1 16 rfl rfl
    obtain rfl : y16 = .int .u8 (op : Int) := g16
    exact OpOk.val (.bool false) (w_none rfl) [(16, _)] (forall_cons e16 <| forall_nil) (fun ρ e ⟨c1, c2⟩ => by (try simp only [List.forall_mem_cons] at e); go_simp) ⟨Nw.refl _, rfl⟩
  · intro a w hN old new
    obtain ⟨y17, e17, g17⟩ := new 2 17 rfl rfl
    obtain rfl : y17 = .bool false := g17
    exact OpOk.val (.bool false) (w_none rfl) [(17, _)] (forall_cons e17 <| forall_nil) (fun ρ e ⟨c1, c2⟩ => by (try simp only [List.forall_mem_cons] at e); go_simp) ⟨Nw.refl _, rfl⟩
  · intro a w hN old new
    obtain ⟨y18, e18, g18⟩ := new 3 18 rfl rfl
    obtain rfl : y18 = .bool false := g18
    have e1 := old 1 (.pointer (some ⟨eb, 0, none⟩)) rfl hA1
    exact OpOk.val (.pointer (some ⟨eb, 1, none⟩)) (tab_yes hL rfl rfl e18) [(1, _)] (forall_cons e1 <| forall_nil) (fun ρ e ⟨c1, c2⟩ => by (try simp only [List.forall_mem_cons] at e); go_simp) ⟨Nw.refl _, rfl⟩
  · intro a w hN old new
    obtain ⟨y18, e18, g18⟩ := new 3 18 rfl rfl
    obtain rfl : y18 = .bool false := g18
    obtain ⟨y19, e19, g19⟩ := new 4 19 rfl rfl
    obtain rfl : y19 = .pointer (some ⟨eb, 1, none⟩) := g19
    have hp := hN.at_ PB.out
    obtain ⟨q0, q1, q2, q3, q4, q5, q6, q7, q8, qf⟩ := box9 hp
    exact OpOk.val (.int .u8 (op : Int)) (tab_yes hL rfl rfl e18) [(19, _)] (forall_cons e19 <| forall_nil) (fun ρ e ⟨c1, c2⟩ => by (try simp only [List.forall_mem_cons] at e); go_simp) ⟨Nw.refl _, rfl⟩
  · intro a w hN old new
    obtain ⟨y18, e18, g18⟩ := new 3 18 rfl rfl
    obtain rfl : y18 = .bool false := g18
    obtain ⟨y20, e20, g20⟩ := new 5 20 rfl rfl
    obtain rfl : y20 = .int .u8 (op : Int) := g20
    exact OpOk.val (.bool false) (tab_yes hL rfl rfl e18) [(20, _)] (forall_cons e20 <| forall_nil) (fun ρ e ⟨c1, c2⟩ => by (try simp only [List.forall_mem_cons] at e); go_simp) ⟨Nw.refl _, rfl⟩
  · intro a w hN old new
    obtain ⟨y18, e18, g18⟩ := new 3 18 rfl rfl
    obtain rfl : y18 = .bool false := g18
    obtain ⟨y21, e21, g21⟩ := new 6 21 rfl rfl
    obtain rfl : y21 = .bool false := g21
    exact OpOk.val (.bool false) (w_none rfl) [(18, _), (21, _)] (forall_cons e18 <| forall_cons e21 <| forall_nil) (fun ρ e ⟨c1, c2⟩ => by (try simp only [List.forall_mem_cons] at e); go_simp) ⟨Nw.refl _, rfl⟩
  · intro a w hN old new
    obtain ⟨y22, e22, g22⟩ := new 7 22 rfl rfl
    obtain rfl : y22 = .bool false := g22
    exact OpOk.val (.bool false) (w_none rfl) [(22, _)] (forall_cons e22 <| forall_nil) (fun ρ e ⟨c1, c2⟩ => by (try simp only [List.forall_mem_cons] at e); go_simp) ⟨Nw.refl _, rfl⟩
  · intro a w hN old new
    obtain ⟨y23, e23, g23⟩ := new 8 23 rfl rfl
    obtain rfl : y23 = .bool false := g23
    have e1 := old 1 (.pointer (some ⟨eb, 0, none⟩)) rfl hA1
    exact OpOk.val (.pointer (some ⟨eb, 2, none⟩)) (tab_yes hL rfl rfl e23) [(1, _)] (forall_cons e1 <| forall_nil) (fun ρ e ⟨c1, c2⟩ => by (try simp only [List.forall_mem_cons] at e); go_simp) ⟨Nw.refl _, rfl⟩
  · intro a w hN old new
    obtain ⟨y23, e23, g23⟩ := new 8 23 rfl rfl
    obtain rfl : y23 = .bool false := g23
    obtain ⟨y24, e24, g24⟩ := new 9 24 rfl rfl
    obtain rfl : y24 = .pointer (some ⟨eb, 2, none⟩) := g24
    have hp := hN.at_ PB.out
    obtain ⟨q0, q1, q2, q3, q4, q5, q6, q7, q8, qf⟩ := box9 hp
    exact OpOk.val (.string ⟨obj.toArray⟩) (tab_yes hL rfl rfl e23) [(24, _)] (forall_cons e24 <| forall_nil) (fun ρ e ⟨c1, c2⟩ => by (try simp only [List.forall_mem_cons] at e); go_simp) ⟨Nw.refl _, rfl⟩
  · intro a w hN old new
    obtain ⟨y23, e23, g23⟩ := new 8 23 rfl rfl
    obtain rfl : y23 = .bool false := g23
    obtain ⟨y25, e25, g25⟩ := new 10 25 rfl rfl
    obtain rfl : y25 = .string ⟨obj.toArray⟩ := g25
    refine OpOk.call (tab_yes hL rfl rfl e23) [(25, _)] (forall_cons e25 <| forall_nil) (fun ρ e ⟨c1, c2⟩ => by (try simp only [List.forall_mem_cons] at e); go_simp) (HNM.out _ hN) (fun e w1 h => ?_)
    obtain ⟨rfl, n1⟩ := h
    exact ⟨_, rfl, n1, rfl⟩
  · intro a w hN old new
    obtain ⟨y23, e23, g23⟩ := new 8 23 rfl rfl
    obtain rfl : y23 = .bool false := g23
    obtain ⟨y26, e26, g26⟩ := new 11 26 rfl rfl
    obtain rfl : y26 = .bool true := g26
    exact OpOk.val (.bool false) (tab_yes hL rfl rfl e23) [(26, _)] (forall_cons e26 <| forall_nil) (fun ρ e ⟨c1, c2⟩ => by (try simp only [List.forall_mem_cons] at e); go_simp) ⟨Nw.refl _, rfl⟩
  · intro a w hN old new
    obtain ⟨y23, e23, g23⟩ := new 8 23 rfl rfl
    obtain rfl : y23 = .bool false := g23
    obtain ⟨y27, e27, g27⟩ := new 12 27 rfl rfl
    obtain rfl : y27 = .bool false := g27
    exact OpOk.val (.bool false) (w_none rfl) [(23, _), (27, _)] (forall_cons e23 <| forall_cons e27 <| forall_nil) (fun ρ e ⟨c1, c2⟩ => by (try simp only [List.forall_mem_cons] at e); go_simp) ⟨Nw.refl _, rfl⟩
  · intro a w hN old new
    obtain ⟨y28, e28, g28⟩ := new 13 28 rfl rfl
    obtain rfl : y28 = .bool false := g28
    exact OpOk.val (.bool false) (w_none rfl) [(28, _)] (forall_cons e28 <| forall_nil) (fun ρ e ⟨c1, c2⟩ => by (try simp only [List.forall_mem_cons] at e); go_simp) ⟨Nw.refl _, rfl⟩
  · intro a w hN old new
    obtain ⟨y29, e29, g29⟩ := new 14 29 rfl rfl
    obtain rfl : y29 = .bool false := g29
    have e1 := old 1 (.pointer (some ⟨eb, 0, none⟩)) rfl hA1
    exact OpOk.val (.pointer (some ⟨eb, 4, none⟩)) (tab_yes hL rfl rfl e29) [(1, _)] (forall_cons e1 <| forall_nil) (fun ρ e ⟨c1, c2⟩ => by (try simp only [List.forall_mem_cons] at e); go_simp) ⟨Nw.refl _, rfl⟩
  · intro a w hN old new
    obtain ⟨y29, e29, g29⟩ := new 14 29 rfl rfl
    obtain rfl : y29 = .bool false := g29
    obtain ⟨y30, e30, g30⟩ := new 15 30 rfl rfl
    obtain rfl : y30 = .pointer (some ⟨eb, 4, none⟩) := g30
    have hp := hN.at_ PB.out
    obtain ⟨q0, q1, q2, q3, q4, q5, q6, q7, q8, qf⟩ := box9 hp
    exact OpOk.val (.int .i64 nv) (tab_yes hL rfl rfl e29) [(30, _)] (forall_cons e30 <| forall_nil) (fun ρ e ⟨c1, c2⟩ => by (try simp only [List.forall_mem_cons] at e); go_simp) ⟨Nw.refl _, rfl⟩
  · intro a w hN old new
    obtain ⟨y29, e29, g29⟩ := new 14 29 rfl rfl
    obtain rfl : y29 = .bool false := g29
    obtain ⟨y31, e31, g31⟩ := new 16 31 rfl rfl
    obtain rfl : y31 = .int .i64 nv := g31
    exact OpOk.val (.bool false) (tab_yes hL rfl rfl e29) [(31, _)] (forall_cons e31 <| forall_nil) (fun ρ e ⟨c1, c2⟩ => by (try simp only [List.forall_mem_cons] at e); go_simp) ⟨Nw.refl _, rfl⟩
  · intro a w hN old new
    obtain ⟨y29, e29, g29⟩ := new 14 29 rfl rfl
    obtain rfl : y29 = .bool false := g29
    obtain ⟨y32, e32, g32⟩ := new 17 32 rfl rfl
    obtain rfl : y32 = .bool false := g32
    exact OpOk.val (.bool false) (w_none rfl) [(29, _), (32, _)] (forall_cons e29 <| forall_cons e32 <| forall_nil) (fun ρ e ⟨c1, c2⟩ => by (try simp only [List.forall_mem_cons] at e); go_simp) ⟨Nw.refl _, rfl⟩
  · intro a w hN old new
    obtain ⟨y33, e33, g33⟩ := new 18 33 rfl rfl
    obtain rfl : y33 = .bool false := g33
    exact OpOk.val (.bool false) (w_none rfl) [(33, _)] (forall_cons e33 <| forall_nil) (fun ρ e ⟨c1, c2⟩ => by (try simp only [List.forall_mem_cons] at e); go_simp) ⟨Nw.refl _, rfl⟩
  · intro a w hN old new
    obtain ⟨y34, e34, g34⟩ := new 19 34 rfl rfl
    obtain rfl : y34 = .bool false := g34
    have e1 := old 1 (.pointer (some ⟨eb, 0, none⟩)) rfl hA1
    exact OpOk.val (.pointer (some ⟨eb, 5, none⟩)) (tab_yes hL rfl rfl e34) [(1, _)] (forall_cons e1 <| forall_nil) (fun ρ e ⟨c1, c2⟩ => by (try simp only [List.forall_mem_cons] at e); go_simp) ⟨Nw.refl _, rfl⟩
  · intro a w hN old new
    obtain ⟨y34, e34, g34⟩ := new 19 34 rfl rfl
    obtain rfl : y34 = .bool false := g34
    obtain ⟨y35, e35, g35⟩ := new 20 35 rfl rfl
    obtain rfl : y35 = .pointer (some ⟨eb, 5, none⟩) := g35
    have hp := hN.at_ PB.out
    obtain ⟨q0, q1, q2, q3, q4, q5, q6, q7, q8, qf⟩ := box9 hp
    exact OpOk.val (.slice a5 na c5) (tab_yes hL rfl rfl e34) [(35, _)] (forall_cons e35 <| forall_nil) (fun ρ e ⟨c1, c2⟩ => by (try simp only [List.forall_mem_cons] at e); go_simp) ⟨Nw.refl _, rfl⟩
  · intro a w hN old new
    obtain ⟨y34, e34, g34⟩ := new 19 34 rfl rfl
    obtain rfl : y34 = .bool false := g34
    obtain ⟨y36, e36, g36⟩ := new 21 36 rfl rfl
    obtain rfl : y36 = .slice a5 na c5 := g36
    exact OpOk.val (.int .i64 (na : Int)) (tab_yes hL rfl rfl e34) [(36, _)] (forall_cons e36 <| forall_nil) (fun ρ e ⟨c1, c2⟩ => by (try simp only [List.forall_mem_cons] at e); go_simp) ⟨Nw.refl _, rfl⟩
  · intro a w hN old new
    obtain ⟨y34, e34, g34⟩ := new 19 34 rfl rfl
    obtain rfl : y34 = .bool false := g34
    have e1 := old 1 (.pointer (some ⟨eb, 0, none⟩)) rfl hA1
    exact OpOk.val (.pointer (some ⟨eb, 1, none⟩)) (tab_yes hL rfl rfl e34) [(1, _)] (forall_cons e1 <| forall_nil) (fun ρ e ⟨c1, c2⟩ => by (try simp only [List.forall_mem_cons] at e); go_simp) ⟨Nw.refl _, rfl⟩
  · intro a w hN old new
    obtain ⟨y34, e34, g34⟩ := new 19 34 rfl rfl
    obtain rfl : y34 = .bool false := g34
    obtain ⟨y38, e38, g38⟩ := new 23 38 rfl rfl
    obtain rfl : y38 = .pointer (some ⟨eb, 1, none⟩) := g38
    have hp := hN.at_ PB.out
    obtain ⟨q0, q1, q2, q3, q4, q5, q6, q7, q8, qf⟩ := box9 hp
    exact OpOk.val (.int .u8 (op : Int)) (tab_yes hL rfl rfl e34) [(38, _)] (forall_cons e38 <| forall_nil) (fun ρ e ⟨c1, c2⟩ => by (try simp only [List.forall_mem_cons] at e); go_simp) ⟨Nw.refl _, rfl⟩
  · intro a w hN old new
    obtain ⟨y34, e34, g34⟩ := new 19 34 rfl rfl
    obtain rfl : y34 = .bool false := g34
    obtain ⟨y39, e39, g39⟩ := new 24 39 rfl rfl
    obtain rfl : y39 = .int .u8 (op : Int) := g39
    refine OpOk.call (tab_yes hL rfl rfl e34) [(39, _)] (forall_cons e39 <| forall_nil) (fun ρ e ⟨c1, c2⟩ => by (try simp only [List.forall_mem_cons] at e); go_simp) (HAR.out _) (fun e w1 h => ?_)
    obtain ⟨rfl, rfl⟩ := h
    exact ⟨_, rfl, Nw.refl _, rfl⟩
  · intro a w hN old new
    obtain ⟨y34, e34, g34⟩ := new 19 34 rfl rfl
    obtain rfl : y34 = .bool false := g34
    obtain ⟨y37, e37, g37⟩ := new 22 37 rfl rfl
    obtain rfl : y37 = .int .i64 (na : Int) := g37
    obtain ⟨y40, e40, g40⟩ := new 25 40 rfl rfl
    obtain rfl : y40 = .int .i64 (ar : Int) := g40
    exact OpOk.val (.bool true) (tab_yes hL rfl rfl e34) [(37, _), (40, _)] (forall_cons e37 <| forall_cons e40 <| forall_nil) (fun ρ e ⟨c1, c2⟩ => by (try simp only [List.forall_mem_cons] at e); go_simp) ⟨Nw.refl _, rfl⟩
  · intro a w hN old new
    obtain ⟨y34, e34, g34⟩ := new 19 34 rfl rfl
    obtain rfl : y34 = .bool false := g34
    obtain ⟨y41, e41, g41⟩ := new 26 41 rfl rfl
    obtain rfl : y41 = .bool true := g41
    exact OpOk.val (.bool true) (w_none rfl) [(34, _), (41, _)] (forall_cons e34 <| forall_cons e41 <| forall_nil) (fun ρ e ⟨c1, c2⟩ => by (try simp only [List.forall_mem_cons] at e); go_simp) ⟨Nw.refl _, rfl⟩
  · intro a w hN old new
    obtain ⟨y42, e42, g42⟩ := new 27 42 rfl rfl
    obtain rfl : y42 = .bool true := g42
    exact OpOk.val (.bool true) (w_none rfl) [(42, _)] (forall_cons e42 <| forall_nil) (fun ρ e ⟨c1, c2⟩ => by (try simp only [List.forall_mem_cons] at e); go_simp) ⟨Nw.refl _, rfl⟩
  · intro a w hN old new
    obtain ⟨y43, e43, g43⟩ := new 28 43 rfl rfl
    obtain rfl : y43 = .bool true := g43
    exact OpOk.skip (tab_no hL rfl rfl e43) ⟨Nw.refl _, rfl⟩
  · intro a w hN old new
    obtain ⟨y43, e43, g43⟩ := new 28 43 rfl rfl
    obtain rfl : y43 = .bool true := g43
    exact OpOk.skip (tab_no hL rfl rfl e43) ⟨Nw.refl _, rfl⟩
  · intro a w hN old new
    obtain ⟨y43, e43, g43⟩ := new 28 43 rfl rfl
    obtain rfl : y43 = .bool true := g43
    exact OpOk.skip (tab_no hL rfl rfl e43) ⟨Nw.refl _, rfl⟩
  · intro a w hN old new
    obtain ⟨y43, e43, g43⟩ := new 28 43 rfl rfl
    obtain rfl : y43 = .bool true := g43
    exact OpOk.skip (tab_no hL rfl rfl e43) ⟨Nw.refl _, rfl⟩
  · intro a w hN old new
    obtain ⟨y43, e43, g43⟩ := new 28 43 rfl rfl
    obtain rfl : y43 = .bool true := g43
    obtain ⟨y47, e47, g47⟩ := new 32 47 rfl rfl
    obtain rfl : y47 = undef := g47
    exact OpOk.val (.bool true) (w_none rfl) [(43, _), (47, _)] (forall_cons e43 <| forall_cons e47 <| forall_nil) (fun ρ e ⟨c1, c2⟩ => by (try simp only [List.forall_mem_cons] at e); go_simp) ⟨Nw.refl _, rfl⟩
  · intro a w hN old new
    obtain ⟨y48, e48, g48⟩ := new 33 48 rfl rfl
    obtain rfl : y48 = .bool true := g48
    exact OpOk.val (.bool true) (w_none rfl) [(48, _)] (forall_cons e48 <| forall_nil) (fun ρ e ⟨c1, c2⟩ => by (try simp only [List.forall_mem_cons] at e); go_simp) ⟨Nw.refl _, rfl⟩
  · intro a w hN old new
    obtain ⟨y49, e49, g49⟩ := new 34 49 rfl rfl
    obtain rfl : y49 = .bool true := g49
    exact OpOk.skip (tab_no hL rfl rfl e49) ⟨Nw.refl _, rfl⟩
  · intro a w hN old new
    obtain ⟨y49, e49, g49⟩ := new 34 49 rfl rfl
    obtain rfl : y49 = .bool true := g49
    exact OpOk.skip (tab_no hL rfl rfl e49) ⟨Nw.refl _, rfl⟩
  · intro a w hN old new
    obtain ⟨y49, e49, g49⟩ := new 34 49 rfl rfl
    obtain rfl : y49 = .bool true := g49
    exact OpOk.skip (tab_no hL rfl rfl e49) ⟨Nw.refl _, rfl⟩
  · intro a w hN old new
    obtain ⟨y52, e52, g52⟩ := new 37 52 rfl rfl
    obtain rfl : y52 = undef := g52
    exact OpOk.skip (tab_un hL rfl rfl e52) ⟨Nw.refl _, rfl⟩
  · intro a w hN old new
    obtain ⟨y52, e52, g52⟩ := new 37 52 rfl rfl
    obtain rfl : y52 = undef := g52
    exact OpOk.skip (tab_un hL rfl rfl e52) ⟨Nw.refl _, rfl⟩
  · intro a w hN old new
    obtain ⟨y52, e52, g52⟩ := new 37 52 rfl rfl
    obtain rfl : y52 = undef := g52
    exact OpOk.skip (tab_un hL rfl rfl e52) ⟨Nw.refl _, rfl⟩
  · intro a w hN old new
    obtain ⟨y49, e49, g49⟩ := new 34 49 rfl rfl
    obtain rfl : y49 = .bool true := g49
    exact OpOk.skip (tab_no hL rfl rfl e49) ⟨Nw.refl _, rfl⟩
  · intro a w hN old new
    obtain ⟨y49, e49, g49⟩ := new 34 49 rfl rfl
    obtain rfl : y49 = .bool true := g49
    obtain ⟨y56, e56, g56⟩ := new 41 56 rfl rfl
    obtain rfl : y56 = undef := g56
    exact OpOk.val (.bool true) (w_none rfl) [(49, _), (56, _)] (forall_cons e49 <| forall_cons e56 <| forall_nil) (fun ρ e ⟨c1, c2⟩ => by (try simp only [List.forall_mem_cons] at e); go_simp) ⟨Nw.refl _, rfl⟩
  · intro a w hN hsz hdf old new
    obtain ⟨y57, e57, g57⟩ := new 42 57 rfl
    exact tab_frame (frame_lit (dst := [15, 16, 17, 18, 19, 20, 21, 22, 23, 24, 25, 26, 27, 28, 29, 30, 31, 32, 33, 34, 35, 36, 37, 38, 39, 40, 41, 42, 43, 44, 45, 46, 47, 48, 49, 50, 51, 52, 53, 54, 55, 56, 57]) (l := [u0, .pointer (some ⟨eb, 0, none⟩), u2, .int .i64 (inn : Int), u4, u5, u6, u7, u8, u9, u10, u11, u12, u13, u14, u15, u16, u17, u18, u19, u20, u21, u22, u23, u24, u25, u26, u27, u28, u29, u30, u31, u32, u33, u34, u35, u36, u37, u38, u39, u40, u41, u42, u43, u44, u45, u46, u47, u48, u49, u50, u51, u52, u53, u54, u55, u56, u57, u58, u59, u60, u61, u62, u63, u64, u65, u66, u67, u68, u69, u70, u71, u72, u73, u74, u75, u76, u77, u78, u79, u80, u81, u82, u83, u84, u85, u86, u87, u88, u89, u90, u91, u92, u93, u94, u95, u96, u97, u98, u99, u100, u101, u102, u103, u104, u105, u106, u107, u108, u109, u110, u111, u112, u113, u114, u115, u116, u117, u118, u119, u120, u121, u122, u123, u124, u125, u126, u127, u128, u129, u130, u131, u132, u133, u134, u135, u136, u137, u138, u139]) hA hsz hdf old (l' := [u0, .pointer (some ⟨eb, 0, none⟩), u2, .int .i64 (inn : Int), u4, u5, u6, u7, u8, u9, u10, u11, u12, u13, u14, (a.tmps[15]?.getD undef), (a.tmps[16]?.getD undef), (a.tmps[17]?.getD undef), (a.tmps[18]?.getD undef), (a.tmps[19]?.getD undef), (a.tmps[20]?.getD undef), (a.tmps[21]?.getD undef), (a.tmps[22]?.getD undef), (a.tmps[23]?.getD undef), (a.tmps[24]?.getD undef), (a.tmps[25]?.getD undef), (a.tmps[26]?.getD undef), (a.tmps[27]?.getD undef), (a.tmps[28]?.getD undef), (a.tmps[29]?.getD undef), (a.tmps[30]?.getD undef), (a.tmps[31]?.getD undef), (a.tmps[32]?.getD undef), (a.tmps[33]?.getD undef), (a.tmps[34]?.getD undef), (a.tmps[35]?.getD undef), (a.tmps[36]?.getD undef), (a.tmps[37]?.getD undef), (a.tmps[38]?.getD undef), (a.tmps[39]?.getD undef), (a.tmps[40]?.getD undef), (a.tmps[41]?.getD undef), (a.tmps[42]?.getD undef), (a.tmps[43]?.getD undef), (a.tmps[44]?.getD undef), (a.tmps[45]?.getD undef), (a.tmps[46]?.getD undef), (a.tmps[47]?.getD undef), (a.tmps[48]?.getD undef), (a.tmps[49]?.getD undef), (a.tmps[50]?.getD undef), (a.tmps[51]?.getD undef), (a.tmps[52]?.getD undef), (a.tmps[53]?.getD undef), (a.tmps[54]?.getD undef), (a.tmps[55]?.getD undef), (a.tmps[56]?.getD undef), (a.tmps[57]?.getD undef), u58, u59, u60, u61, u62, u63, u64, u65, u66, u67, u68, u69, u70, u71, u72, u73, u74, u75, u76, u77, u78, u79, u80, u81, u82, u83, u84, u85, u86, u87, u88, u89, u90, u91, u92, u93, u94, u95, u96, u97, u98, u99, u100, u101, u102, u103, u104, u105, u106, u107, u108, u109, u110, u111, u112, u113, u114, u115, u116, u117, u118, u119, u120, u121, u122, u123, u124, u125, u126, u127, u128, u129, u130, u131, u132, u133, u134, u135, u136, u137, u138, u139]) (by kernel_rfl)) (HQ.out _ _ _ _ _ _ _ _ _ _ _ _ _ _ _ _ _ _ _ _ _ _ _ _ _ _ _ _ _ _ _ _ _ _ _ _ _ _ _ _ _ _ _ w hN (by rw [e57]; exact g57))
set_option maxHeartbeats 1600000 in
theorem shp_ne {w5 : World} {eb kd op na nb ne c5 c6 c7 inn ar : Nat} {a5 a6 a7 : Option Addr} {obj into : List UInt8} {nv line : Int}
    (PB : Hid (w5.heap[eb]? = some (.cells #[.int .u8 (kd : Int), .int .u8 (op : Int), .string ⟨obj.toArray⟩, .string ⟨into.toArray⟩, .int .i64 nv, .slice a5 na c5, .slice a6 nb c6, .slice a7 ne c7, .int .i64 line] 144 (0, 0))))
    (HNM : Hid (∀ W, Nw w5 W → Calls Tryz.prog 70 #[.string ⟨obj.toArray⟩] W fun z w' => z = .returned (.bool true) ∧ Nw W w'))
    (HAR : Hid (∀ W, Calls Tryz.prog 137 #[.int .u8 (op : Int)] W fun z w' => z = .returned (.int .i64 (ar : Int)) ∧ w' = W))
    (h17 : decide ((op : Int) < 1) = false)
    (h21 : decide (23 < (op : Int)) = false)
    (h32 : (nv != 0) = false)
    (h41 : ((na : Int) != (ar : Int)) = false)
    (h47 : 0 < ne)
    {u0 u2 u4 u5 u6 u7 u8 u9 u10 u11 u12 u13 u14 u15 u16 u17 u18 u19 u20 u21 u22 u23 u24 u25 u26 u27 u28 u29 u30 u31 u32 u33 u34 u35 u36 u37 u38 u39 u40 u41 u42 u43 u44 u45 u46 u47 u48 u49 u50 u51 u52 u53 u54 u55 u56 u57 u58 u59 u60 u61 u62 u63 u64 u65 u66 u67 u68 u69 u70 u71 u72 u73 u74 u75 u76 u77 u78 u79 u80 u81 u82 u83 u84 u85 u86 u87 u88 u89 u90 u91 u92 u93 u94 u95 u96 u97 u98 u99 u100 u101 u102 u103 u104 u105 u106 u107 u108 u109 u110 u111 u112 u113 u114 u115 u116 u117 u118 u119 u120 u121 u122 u123 u124 u125 u126 u127 u128 u129 u130 u131 u132 u133 u134 u135 u136 u137 u138 u139 : Value} {Q : Exit → Act → World → Prop}
    (hQ : ∀ (s15 s16 s17 s18 s19 s20 s21 s22 s23 s24 s25 s26 s27 s28 s29 s30 s31 s32 s33 s34 s35 s36 s37 s38 s39 s40 s41 s42 s43 s44 s45 s46 s47 s48 s49 s50 s51 s52 s53 s54 s55 s56 s57 : Value) (wx : World), Nw w5 wx → s57 = .bool true → Q .normal ⟨#[u0, .pointer (some ⟨eb, 0, none⟩), u2, .int .i64 (inn : Int), u4, u5, u6, u7, u8, u9, u10, u11, u12, u13, u14, s15, s16, s17, s18, s19, s20, s21, s22, s23, s24, s25, s26, s27, s28, s29, s30, s31, s32, s33, s34, s35, s36, s37, s38, s39, s40, s41, s42, s43, s44, s45, s46, s47, s48, s49, s50, s51, s52, s53, s54, s55, s56, s57, u58, u59, u60, u61, u62, u63, u64, u65, u66, u67, u68, u69, u70, u71, u72, u73, u74, u75, u76, u77, u78, u79, u80, u81, u82, u83, u84, u85, u86, u87, u88, u89, u90, u91, u92, u93, u94, u95, u96, u97, u98, u99, u100, u101, u102, u103, u104, u105, u106, u107, u108, u109, u110, u111, u112, u113, u114, u115, u116, u117, u118, u119, u120, u121, u122, u123, u124, u125, u126, u127, u128, u129, u130, u131, u132, u133, u134, u135, u136, u137, u138, u139], []⟩ wx) :
    Code.wp Tryz.prog ((Tryz.f112.body.bind (regionOf 4)).getD .skip) Q ⟨#[u0, .pointer (some ⟨eb, 0, none⟩), u2, .int .i64 (inn : Int), u4, u5, u6, u7, u8, u9, u10, u11, u12, u13, u14, u15, u16, u17, u18, u19, u20, u21, u22, u23, u24, u25, u26, u27, u28, u29, u30, u31, u32, u33, u34, u35, u36, u37, u38, u39, u40, u41, u42, u43, u44, u45, u46, u47, u48, u49, u50, u51, u52, u53, u54, u55, u56, u57, u58, u59, u60, u61, u62, u63, u64, u65, u66, u67, u68, u69, u70, u71, u72, u73, u74, u75, u76, u77, u78, u79, u80, u81, u82, u83, u84, u85, u86, u87, u88, u89, u90, u91, u92, u93, u94, u95, u96, u97, u98, u99, u100, u101, u102, u103, u104, u105, u106, u107, u108, u109, u110, u111, u112, u113, u114, u115, u116, u117, u118, u119, u120, u121, u122, u123, u124, u125, u126, u127, u128, u129, u130, u131, u132, u133, u134, u135, u136, u137, u138, u139], []⟩ w5 := by
  (try dsimp only at hQ ⊢)
  conv => arg 2; whnf
  have HQ := Lib.hid hQ
  clear hQ
  refine name_act fun A hA => ?_
  have hA1 : A.tmps[1]? = some (.pointer (some ⟨eb, 0, none⟩)) := by rw [hA]; rfl
  have hA3 : A.tmps[3]? = some (.int .i64 (inn : Int)) := by rw [hA]; rfl
  have hlt0 : ∀ d ∈ ([15, 16, 17, 18, 19, 20, 21, 22, 23, 24, 25, 26, 27, 28, 29, 30, 31, 32, 33, 34, 35, 36, 37, 38, 39, 40, 41, 42, 43, 44, 45, 46, 47, 48, 49, 50, 51, 52, 53, 54, 55, 56, 57] : List Nat), d < 140 := by decide
  refine wp_region_tab [15, 16, 17, 18, 19, 20, 21, 22, 23, 24, 25, 26, 27, 28, 29, 30, 31, 32, 33, 34, 35, 36, 37, 38, 39, 40, 41, 42, 43, 44, 45, 46, 47, 48, 49, 50, 51, 52, 53, 54, 55, 56, 57] [isV (.pointer (some ⟨eb, 1, none⟩)), isV (.int .u8 (op : Int)), isV (.bool false), isV (.bool false), isV (.pointer (some ⟨eb, 1, none⟩)), isV (.int .u8 (op : Int)), isV (.bool false), isV (.bool false), isV (.bool false), isV (.pointer (some ⟨eb, 2, none⟩)), isV (.string ⟨obj.toArray⟩), isV (.bool true), isV (.bool false), isV (.bool false), isV (.bool false), isV (.pointer (some ⟨eb, 4, none⟩)), isV (.int .i64 nv), isV (.bool false), isV (.bool false), isV (.bool false), isV (.pointer (some ⟨eb, 5, none⟩)), isV (.slice a5 na c5), isV (.int .i64 (na : Int)), isV (.pointer (some ⟨eb, 1, none⟩)), isV (.int .u8 (op : Int)), isV (.int .i64 (ar : Int)), isV (.bool false), isV (.bool false), isV (.bool false), isV (.pointer (some ⟨eb, 7, none⟩)), isV (.slice a7 ne c7), isV (.int .i64 (ne : Int)), isV (.bool true), isV (.bool true), isV (.bool true), isV (undef), isV (undef), isV (undef), isV (undef), isV (undef), isV (undef), isV (undef), isV (.bool true)] (by kernel_rfl) (by kernel_rfl) (by kernel_rfl) (of_decide_eq_true (by kernel_rfl)) (fun d hd => by rw [hA]; exact hlt0 d hd) (fun L hL => ⟨?a0, ?a1, ?a2, ?a3, ?a4, ?a5, ?a6, ?a7, ?a8, ?a9, ?a10, ?a11, ?a12, ?a13, ?a14, ?a15, ?a16, ?a17, ?a18, ?a19, ?a20, ?a21, ?a22, ?a23, ?a24, ?a25, ?a26, ?a27, ?a28, ?a29, ?a30, ?a31, ?a32, ?a33, ?a34, ?a35, ?a36, ?a37, ?a38, ?a39, ?a40, ?a41, ?a42, trivial⟩) ?he
  · intro a w hN old new
    have e1 := old 1 (.pointer (some ⟨eb, 0, none⟩)) rfl hA1
    exact OpOk.val (.pointer (some ⟨eb, 1, none⟩)) (w_none rfl) [(1, _)] (forall_cons e1 <| forall_nil) (fun ρ e ⟨c1, c2⟩ => by (try simp only [List.forall_mem_cons] at e); go_simp) ⟨Nw.refl _, rfl⟩
  · intro a w hN old new
    obtain ⟨y15, e15, g15⟩ := new 0 15 rfl rfl
    obtain rfl : y15 = .pointer (some ⟨eb, 1, none⟩) := g15
    have hp := hN.at_ PB.out
    obtain ⟨q0, q1, q2, q3, q4, q5, q6, q7, q8, qf⟩ := box9 hp
    exact OpOk.val (.int .u8 (op : Int)) (w_none rfl) [(15, _)] (forall_cons e15 <| forall_nil) (fun ρ e ⟨c1, c2⟩ => by (try simp only [List.forall_mem_cons] at e); go_simp) ⟨Nw.refl _, rfl⟩
  · intro a w hN old new
    obtain ⟨y16, e16, g16⟩ := new 1 16 rfl rfl
    obtain rfl : y16 = .int .u8 (op : Int) := g16
    exact OpOk.val (.bool false) (w_none rfl) [(16, _)] (forall_cons e16 <| forall_nil) (fun ρ e ⟨c1, c2⟩ => by (try simp only [List.forall_mem_cons] at e); go_simp) ⟨Nw.refl _, rfl⟩
  · intro a w hN old new
    obtain ⟨y17, e17, g17⟩ := new 2 17 rfl rfl
    obtain rfl : y17 = .bool false := g17
    exact OpOk.val (.bool false) (w_none rfl) [(17, _)] (forall_cons e17 <| forall_nil) (fun ρ e ⟨c1, c2⟩ => by (try simp only [List.forall_mem_cons] at e); go_simp) ⟨Nw.refl _, rfl⟩
  · intro a w hN old new
    obtain ⟨y18, e18, g18⟩ := new 3 18 rfl rfl
    obtain rfl : y18 = .bool false := g18
    have e1 := old 1 (.pointer (some ⟨eb, 0, none⟩)) rfl hA1
    exact OpOk.val (.pointer (some ⟨eb, 1, none⟩)) (tab_yes hL rfl rfl e18) [(1, _)] (forall_cons e1 <| forall_nil) (fun ρ e ⟨c1, c2⟩ => by (try simp only [List.forall_mem_cons] at e); go_simp) ⟨Nw.refl _, rfl⟩
  · intro a w hN old new
    obtain ⟨y18, e18, g18⟩ := new 3 18 rfl rfl
    obtain rfl : y18 = .bool false := g18
    obtain ⟨y19, e19, g19⟩ := new 4 19 rfl rfl
    obtain rfl : y19 = .pointer (some ⟨eb, 1, none⟩) := g19
    have hp := hN.at_ PB.out
    obtain ⟨q0, q1, q2, q3, q4, q5, q6, q7, q8, qf⟩ := box9 hp
    exact OpOk.val (.int .u8 (op : Int)) (tab_yes hL rfl rfl e18) [(19, _)] (forall_cons e19 <| forall_nil) (fun ρ e ⟨c1, c2⟩ => by (try simp only [List.forall_mem_cons] at e); go_simp) ⟨Nw.refl _, rfl⟩
  · intro a w hN old new
    obtain ⟨y18, e18, g18⟩ := new 3 18 rfl rfl
    obtain rfl : y18 = .bool false := g18
    obtain ⟨y20, e20, g20⟩ := new 5 20 rfl rfl
    obtain rfl : y20 = .int .u8 (op : Int) := g20
    exact OpOk.val (.bool false) (tab_yes hL rfl rfl e18) [(20, _)] (forall_cons e20 <| forall_nil) (fun ρ e ⟨c1, c2⟩ => by (try simp only [List.forall_mem_cons] at e); go_simp) ⟨Nw.refl _, rfl⟩
  · intro a w hN old new
    obtain ⟨y18, e18, g18⟩ := new 3 18 rfl rfl
    obtain rfl : y18 = .bool false := g18
    obtain ⟨y21, e21, g21⟩ := new 6 21 rfl rfl
    obtain rfl : y21 = .bool false := g21
    exact OpOk.val (.bool false) (w_none rfl) [(18, _), (21, _)] (forall_cons e18 <| forall_cons e21 <| forall_nil) (fun ρ e ⟨c1, c2⟩ => by (try simp only [List.forall_mem_cons] at e); go_simp) ⟨Nw.refl _, rfl⟩
  · intro a w hN old new
    obtain ⟨y22, e22, g22⟩ := new 7 22 rfl rfl
    obtain rfl : y22 = .bool false := g22
    exact OpOk.val (.bool false) (w_none rfl) [(22, _)] (forall_cons e22 <| forall_nil) (fun ρ e ⟨c1, c2⟩ => by (try simp only [List.forall_mem_cons] at e); go_simp) ⟨Nw.refl _, rfl⟩
  · intro a w hN old new
    obtain ⟨y23, e23, g23⟩ := new 8 23 rfl rfl
    obtain rfl : y23 = .bool false := g23
    have e1 := old 1 (.pointer (some ⟨eb, 0, none⟩)) rfl hA1
    exact OpOk.val (.pointer (some ⟨eb, 2, none⟩)) (tab_yes hL rfl rfl e23) [(1, _)] (forall_cons e1 <| forall_nil) (fun ρ e ⟨c1, c2⟩ => by (try simp only [List.forall_mem_cons] at e); go_simp) ⟨Nw.refl _, rfl⟩
  · intro a w hN old new
    obtain ⟨y23, e23, g23⟩ := new 8 23 rfl rfl
    obtain rfl : y23 = .bool false := g23
    obtain ⟨y24, e24, g24⟩ := new 9 24 rfl rfl
    obtain rfl : y24 = .pointer (some ⟨eb, 2, none⟩) := g24
    have hp := hN.at_ PB.out
    obtain ⟨q0, q1, q2, q3, q4, q5, q6, q7, q8, qf⟩ := box9 hp
    exact OpOk.val (.string ⟨obj.toArray⟩) (tab_yes hL rfl rfl e23) [(24, _)] (forall_cons e24 <| forall_nil) (fun ρ e ⟨c1, c2⟩ => by (try simp only [List.forall_mem_cons] at e); go_simp) ⟨Nw.refl _, rfl⟩
  · intro a w hN old new
    obtain ⟨y23, e23, g23⟩ := new 8 23 rfl rfl
    obtain rfl : y23 = .bool false := g23
    obtain ⟨y25, e25, g25⟩ := new 10 25 rfl rfl
    obtain rfl : y25 = .string ⟨obj.toArray⟩ := g25
    refine OpOk.call (tab_yes hL rfl rfl e23) [(25, _)] (forall_cons e25 <| forall_nil) (fun ρ e ⟨c1, c2⟩ => by (try simp only [List.forall_mem_cons] at e); go_simp) (HNM.out _ hN) (fun e w1 h => ?_)
    obtain ⟨rfl, n1⟩ := h
    exact ⟨_, rfl, n1, rfl⟩
  · intro a w hN old new
    obtain ⟨y23, e23, g23⟩ := new 8 23 rfl rfl
    obtain rfl : y23 = .bool false := g23
    obtain ⟨y26, e26, g26⟩ := new 11 26 rfl rfl
    obtain rfl : y26 = .bool true := g26
    exact OpOk.val (.bool false) (tab_yes hL rfl rfl e23) [(26, _)] (forall_cons e26 <| forall_nil) (fun ρ e ⟨c1, c2⟩ => by (try simp only [List.forall_mem_cons] at e); go_simp) ⟨Nw.refl _, rfl⟩
  · intro a w hN old new
    obtain ⟨y23, e23, g23⟩ := new 8 23 rfl rfl
    obtain rfl : y23 = .bool false := g23
    obtain ⟨y27, e27, g27⟩ := new 12 27 rfl rfl
    obtain rfl : y27 = .bool false := g27
    exact OpOk.val (.bool false) (w_none rfl) [(23, _), (27, _)] (forall_cons e23 <| forall_cons e27 <| forall_nil) (fun ρ e ⟨c1, c2⟩ => by (try simp only [List.forall_mem_cons] at e); go_simp) ⟨Nw.refl _, rfl⟩
  · intro a w hN old new
    obtain ⟨y28, e28, g28⟩ := new 13 28 rfl rfl
    obtain rfl : y28 = .bool false := g28
    exact OpOk.val (.bool false) (w_none rfl) [(28, _)] (forall_cons e28 <| forall_nil) (fun ρ e ⟨c1, c2⟩ => by (try simp only [List.forall_mem_cons] at e); go_simp) ⟨Nw.refl _, rfl⟩
  · intro a w hN old new
    obtain ⟨y29, e29, g29⟩ := new 14 29 rfl rfl
    obtain rfl : y29 = .bool false := g29
    have e1 := old 1 (.pointer (some ⟨eb, 0, none⟩)) rfl hA1
    exact OpOk.val (.pointer (some ⟨eb, 4, none⟩)) (tab_yes hL rfl rfl e29) [(1, _)] (forall_cons e1 <| forall_nil) (fun ρ e ⟨c1, c2⟩ => by (try simp only [List.forall_mem_cons] at e); go_simp) ⟨Nw.refl _, rfl⟩
  · intro a w hN old new
    obtain ⟨y29, e29, g29⟩ := new 14 29 rfl rfl
    obtain rfl : y29 = .bool false := g29
    obtain ⟨y30, e30, g30⟩ := new 15 30 rfl rfl
    obtain rfl : y30 = .pointer (some ⟨eb, 4, none⟩) := g30
    have hp := hN.at_ PB.out
    obtain ⟨q0, q1, q2, q3, q4, q5, q6, q7, q8, qf⟩ := box9 hp
    exact OpOk.val (.int .i64 nv) (tab_yes hL rfl rfl e29) [(30, _)] (forall_cons e30 <| forall_nil) (fun ρ e ⟨c1, c2⟩ => by (try simp only [List.forall_mem_cons] at e); go_simp) ⟨Nw.refl _, rfl⟩
  · intro a w hN old new
    obtain ⟨y29, e29, g29⟩ := new 14 29 rfl rfl
    obtain rfl : y29 = .bool false := g29
    obtain ⟨y31, e31, g31⟩ := new 16 31 rfl rfl
    obtain rfl : y31 = .int .i64 nv := g31
    exact OpOk.val (.bool false) (tab_yes hL rfl rfl e29) [(31, _)] (forall_cons e31 <| forall_nil) (fun ρ e ⟨c1, c2⟩ => by (try simp only [List.forall_mem_cons] at e); go_simp) ⟨Nw.refl _, rfl⟩
  · intro a w hN old new
    obtain ⟨y29, e29, g29⟩ := new 14 29 rfl rfl
    obtain rfl : y29 = .bool false := g29
    obtain ⟨y32, e32, g32⟩ := new 17 32 rfl rfl
    obtain rfl : y32 = .bool false := g32
    exact OpOk.val (.bool false) (w_none rfl) [(29, _), (32, _)] (forall_cons e29 <| forall_cons e32 <| forall_nil) (fun ρ e ⟨c1, c2⟩ => by (try simp only [List.forall_mem_cons] at e); go_simp) ⟨Nw.refl _, rfl⟩
  · intro a w hN old new
    obtain ⟨y33, e33, g33⟩ := new 18 33 rfl rfl
    obtain rfl : y33 = .bool false := g33
    exact OpOk.val (.bool false) (w_none rfl) [(33, _)] (forall_cons e33 <| forall_nil) (fun ρ e ⟨c1, c2⟩ => by (try simp only [List.forall_mem_cons] at e); go_simp) ⟨Nw.refl _, rfl⟩
  · intro a w hN old new
    obtain ⟨y34, e34, g34⟩ := new 19 34 rfl rfl
    obtain rfl : y34 = .bool false := g34
    have e1 := old 1 (.pointer (some ⟨eb, 0, none⟩)) rfl hA1
    exact OpOk.val (.pointer (some ⟨eb, 5, none⟩)) (tab_yes hL rfl rfl e34) [(1, _)] (forall_cons e1 <| forall_nil) (fun ρ e ⟨c1, c2⟩ => by (try simp only [List.forall_mem_cons] at e); go_simp) ⟨Nw.refl _, rfl⟩
  · intro a w hN old new
    obtain ⟨y34, e34, g34⟩ := new 19 34 rfl rfl
    obtain rfl : y34 = .bool false := g34
    obtain ⟨y35, e35, g35⟩ := new 20 35 rfl rfl
    obtain rfl : y35 = .pointer (some ⟨eb, 5, none⟩) := g35
    have hp := hN.at_ PB.out
    obtain ⟨q0, q1, q2, q3, q4, q5, q6, q7, q8, qf⟩ := box9 hp
    exact OpOk.val (.slice a5 na c5) (tab_yes hL rfl rfl e34) [(35, _)] (forall_cons e35 <| forall_nil) (fun ρ e ⟨c1, c2⟩ => by (try simp only [List.forall_mem_cons] at e); go_simp) ⟨Nw.refl _, rfl⟩
  · intro a w hN old new
    obtain ⟨y34, e34, g34⟩ := new 19 34 rfl rfl
    obtain rfl : y34 = .bool false := g34
    obtain ⟨y36, e36, g36⟩ := new 21 36 rfl rfl
    obtain rfl : y36 = .slice a5 na c5 := g36
    exact OpOk.val (.int .i64 (na : Int)) (tab_yes hL rfl rfl e34) [(36, _)] (forall_cons e36 <| forall_nil) (fun ρ e ⟨c1, c2⟩ => by (try simp only [List.forall_mem_cons] at e); go_simp) ⟨Nw.refl _, rfl⟩
  · intro a w hN old new
    obtain ⟨y34, e34, g34⟩ := new 19 34 rfl rfl
    obtain rfl : y34 = .bool false := g34
    have e1 := old 1 (.pointer (some ⟨eb, 0, none⟩)) rfl hA1
    exact OpOk.val (.pointer (some ⟨eb, 1, none⟩)) (tab_yes hL rfl rfl e34) [(1, _)] (forall_cons e1 <| forall_nil) (fun ρ e ⟨c1, c2⟩ => by (try simp only [List.forall_mem_cons] at e); go_simp) ⟨Nw.refl _, rfl⟩
  · intro a w hN old new
    obtain ⟨y34, e34, g34⟩ := new 19 34 rfl rfl
    obtain rfl : y34 = .bool false := g34
    obtain ⟨y38, e38, g38⟩ := new 23 38 rfl rfl
    obtain rfl : y38 = .pointer (some ⟨eb, 1, none⟩) := g38
    have hp := hN.at_ PB.out
    obtain ⟨q0, q1, q2, q3, q4, q5, q6, q7, q8, qf⟩ := box9 hp
    exact OpOk.val (.int .u8 (op : Int)) (tab_yes hL rfl rfl e34) [(38, _)] (forall_cons e38 <| forall_nil) (fun ρ e ⟨c1, c2⟩ => by (try simp only [List.forall_mem_cons] at e); go_simp) ⟨Nw.refl _, rfl⟩
  · intro a w hN old new
    obtain ⟨y34, e34, g34⟩ := new 19 34 rfl rfl
    obtain rfl : y34 = .bool false := g34
    obtain ⟨y39, e39, g39⟩ := new 24 39 rfl rfl
    obtain rfl : y39 = .int .u8 (op : Int) := g39
    refine OpOk.call (tab_yes hL rfl rfl e34) [(39, _)] (forall_cons e39 <| forall_nil) (fun ρ e ⟨c1, c2⟩ => by (try simp only [List.forall_mem_cons] at e); go_simp) (HAR.out _) (fun e w1 h => ?_)
    obtain ⟨rfl, rfl⟩ := h
    exact ⟨_, rfl, Nw.refl _, rfl⟩
  · intro a w hN old new
    obtain ⟨y34, e34, g34⟩ := new 19 34 rfl rfl
    obtain rfl : y34 = .bool false := g34
    obtain ⟨y37, e37, g37⟩ := new 22 37 rfl rfl
    obtain rfl : y37 = .int .i64 (na : Int) := g37
    obtain ⟨y40, e40, g40⟩ := new 25 40 rfl rfl
    obtain rfl : y40 = .int .i64 (ar : Int) := g40
    exact OpOk.val (.bool false) (tab_yes hL rfl rfl e34) [(37, _), (40, _)] (forall_cons e37 <| forall_cons e40 <| forall_nil) (fun ρ e ⟨c1, c2⟩ => by (try simp only [List.forall_mem_cons] at e); go_simp) ⟨Nw.refl _, rfl⟩
  · intro a w hN old new
    obtain ⟨y34, e34, g34⟩ := new 19 34 rfl rfl
    obtain rfl : y34 = .bool false := g34
    obtain ⟨y41, e41, g41⟩ := new 26 41 rfl rfl
    obtain rfl : y41 = .bool false := g41
    exact OpOk.val (.bool false) (w_none rfl) [(34, _), (41, _)] (forall_cons e34 <| forall_cons e41 <| forall_nil) (fun ρ e ⟨c1, c2⟩ => by (try simp only [List.forall_mem_cons] at e); go_simp) ⟨Nw.refl _, rfl⟩
  · intro a w hN old new
    obtain ⟨y42, e42, g42⟩ := new 27 42 rfl rfl
    obtain rfl : y42 = .bool false := g42
    exact OpOk.val (.bool false) (w_none rfl) [(42, _)] (forall_cons e42 <| forall_nil) (fun ρ e ⟨c1, c2⟩ => by (try simp only [List.forall_mem_cons] at e); go_simp) ⟨Nw.refl _, rfl⟩
  · intro a w hN old new
    obtain ⟨y43, e43, g43⟩ := new 28 43 rfl rfl
    obtain rfl : y43 = .bool false := g43
    have e1 := old 1 (.pointer (some ⟨eb, 0, none⟩)) rfl hA1
    exact OpOk.val (.pointer (some ⟨eb, 7, none⟩)) (tab_yes hL rfl rfl e43) [(1, _)] (forall_cons e1 <| forall_nil) (fun ρ e ⟨c1, c2⟩ => by (try simp only [List.forall_mem_cons] at e); go_simp) ⟨Nw.refl _, rfl⟩
  · intro a w hN old new
    obtain ⟨y43, e43, g43⟩ := new 28 43 rfl rfl
    obtain rfl : y43 = .bool false := g43
    obtain ⟨y44, e44, g44⟩ := new 29 44 rfl rfl
    obtain rfl : y44 = .pointer (some ⟨eb, 7, none⟩) := g44
    have hp := hN.at_ PB.out
    obtain ⟨q0, q1, q2, q3, q4, q5, q6, q7, q8, qf⟩ := box9 hp
    exact OpOk.val (.slice a7 ne c7) (tab_yes hL rfl rfl e43) [(44, _)] (forall_cons e44 <| forall_nil) (fun ρ e ⟨c1, c2⟩ => by (try simp only [List.forall_mem_cons] at e); go_simp) ⟨Nw.refl _, rfl⟩
  · intro a w hN old new
    obtain ⟨y43, e43, g43⟩ := new 28 43 rfl rfl
    obtain rfl : y43 = .bool false := g43
    obtain ⟨y45, e45, g45⟩ := new 30 45 rfl rfl
    obtain rfl : y45 = .slice a7 ne c7 := g45
    exact OpOk.val (.int .i64 (ne : Int)) (tab_yes hL rfl rfl e43) [(45, _)] (forall_cons e45 <| forall_nil) (fun ρ e ⟨c1, c2⟩ => by (try simp only [List.forall_mem_cons] at e); go_simp) ⟨Nw.refl _, rfl⟩
  · intro a w hN old new
    obtain ⟨y43, e43, g43⟩ := new 28 43 rfl rfl
    obtain rfl : y43 = .bool false := g43
    obtain ⟨y46, e46, g46⟩ := new 31 46 rfl rfl
    obtain rfl : y46 = .int .i64 (ne : Int) := g46
    exact OpOk.val (.bool true) (tab_yes hL rfl rfl e43) [(46, _)] (forall_cons e46 <| forall_nil) (fun ρ e ⟨c1, c2⟩ => by (try simp only [List.forall_mem_cons] at e); go_simp) ⟨Nw.refl _, rfl⟩
  · intro a w hN old new
    obtain ⟨y43, e43, g43⟩ := new 28 43 rfl rfl
    obtain rfl : y43 = .bool false := g43
    obtain ⟨y47, e47, g47⟩ := new 32 47 rfl rfl
    obtain rfl : y47 = .bool true := g47
    exact OpOk.val (.bool true) (w_none rfl) [(43, _), (47, _)] (forall_cons e43 <| forall_cons e47 <| forall_nil) (fun ρ e ⟨c1, c2⟩ => by (try simp only [List.forall_mem_cons] at e); go_simp) ⟨Nw.refl _, rfl⟩
  · intro a w hN old new
    obtain ⟨y48, e48, g48⟩ := new 33 48 rfl rfl
    obtain rfl : y48 = .bool true := g48
    exact OpOk.val (.bool true) (w_none rfl) [(48, _)] (forall_cons e48 <| forall_nil) (fun ρ e ⟨c1, c2⟩ => by (try simp only [List.forall_mem_cons] at e); go_simp) ⟨Nw.refl _, rfl⟩
  · intro a w hN old new
    obtain ⟨y49, e49, g49⟩ := new 34 49 rfl rfl
    obtain rfl : y49 = .bool true := g49
    exact OpOk.skip (tab_no hL rfl rfl e49) ⟨Nw.refl _, rfl⟩
  · intro a w hN old new
    obtain ⟨y49, e49, g49⟩ := new 34 49 rfl rfl
    obtain rfl : y49 = .bool true := g49
    exact OpOk.skip (tab_no hL rfl rfl e49) ⟨Nw.refl _, rfl⟩
  · intro a w hN old new
    obtain ⟨y49, e49, g49⟩ := new 34 49 rfl rfl
    obtain rfl : y49 = .bool true := g49
    exact OpOk.skip (tab_no hL rfl rfl e49) ⟨Nw.refl _, rfl⟩
  · intro a w hN old new
    obtain ⟨y52, e52, g52⟩ := new 37 52 rfl rfl
    obtain rfl : y52 = undef := g52
    exact OpOk.skip (tab_un hL rfl rfl e52) ⟨Nw.refl _, rfl⟩
  · intro a w hN old new
    obtain ⟨y52, e52, g52⟩ := new 37 52 rfl rfl
    obtain rfl : y52 = undef := g52
    exact OpOk.skip (tab_un hL rfl rfl e52) ⟨Nw.refl _, rfl⟩
  · intro a w hN old new
    obtain ⟨y52, e52, g52⟩ := new 37 52 rfl rfl
    obtain rfl : y52 = undef := g52
    exact OpOk.skip (tab_un hL rfl rfl e52) ⟨Nw.refl _, rfl⟩
  · intro a w hN old new
    obtain ⟨y49, e49, g49⟩ := new 34 49 rfl rfl
    obtain rfl : y49 = .bool true := g49
    exact OpOk.skip (tab_no hL rfl rfl e49) ⟨Nw.refl _, rfl⟩
  · intro a w hN old new
    obtain ⟨y49, e49, g49⟩ := new 34 49 rfl rfl
    obtain rfl : y49 = .bool true := g49
    obtain ⟨y56, e56, g56⟩ := new 41 56 rfl rfl
    obtain rfl : y56 = undef := g56
    exact OpOk.val (.bool true) (w_none rfl) [(49, _), (56, _)] (forall_cons e49 <| forall_cons e56 <| forall_nil) (fun ρ e ⟨c1, c2⟩ => by (try simp only [List.forall_mem_cons] at e); go_simp) ⟨Nw.refl _, rfl⟩
  · intro a w hN hsz hdf old new
    obtain ⟨y57, e57, g57⟩ := new 42 57 rfl
    exact tab_frame (frame_lit (dst := [15, 16, 17, 18, 19, 20, 21, 22, 23, 24, 25, 26, 27, 28, 29, 30, 31, 32, 33, 34, 35, 36, 37, 38, 39, 40, 41, 42, 43, 44, 45, 46, 47, 48, 49, 50, 51, 52, 53, 54, 55, 56, 57]) (l := [u0, .pointer (some ⟨eb, 0, none⟩), u2, .int .i64 (inn : Int), u4, u5, u6, u7, u8, u9, u10, u11, u12, u13, u14, u15, u16, u17, u18, u19, u20, u21, u22, u23, u24, u25, u26, u27, u28, u29, u30, u31, u32, u33, u34, u35, u36, u37, u38, u39, u40, u41, u42, u43, u44, u45, u46, u47, u48, u49, u50, u51, u52, u53, u54, u55, u56, u57, u58, u59, u60, u61, u62, u63, u64, u65, u66, u67, u68, u69, u70, u71, u72, u73, u74, u75, u76, u77, u78, u79, u80, u81, u82, u83, u84, u85, u86, u87, u88, u89, u90, u91, u92, u93, u94, u95, u96, u97, u98, u99, u100, u101, u102, u103, u104, u105, u106, u107, u108, u109, u110, u111, u112, u113, u114, u115, u116, u117, u118, u119, u120, u121, u122, u123, u124, u125, u126, u127, u128, u129, u130, u131, u132, u133, u134, u135, u136, u137, u138, u139]) hA hsz hdf old (l' := [u0, .pointer (some ⟨eb, 0, none⟩), u2, .int .i64 (inn : Int), u4, u5, u6, u7, u8, u9, u10, u11, u12, u13, u14, (a.tmps[15]?.getD undef), (a.tmps[16]?.getD undef), (a.tmps[17]?.getD undef), (a.tmps[18]?.getD undef), (a.tmps[19]?.getD undef), (a.tmps[20]?.getD undef), (a.tmps[21]?.getD undef), (a.tmps[22]?.getD undef), (a.tmps[23]?.getD undef), (a.tmps[24]?.getD undef), (a.tmps[25]?.getD undef), (a.tmps[26]?.getD undef), (a.tmps[27]?.getD undef), (a.tmps[28]?.getD undef), (a.tmps[29]?.getD undef), (a.tmps[30]?.getD undef), (a.tmps[31]?.getD undef), (a.tmps[32]?.getD undef), (a.tmps[33]?.getD undef), (a.tmps[34]?.getD undef), (a.tmps[35]?.getD undef), (a.tmps[36]?.getD undef), (a.tmps[37]?.getD undef), (a.tmps[38]?.getD undef), (a.tmps[39]?.getD undef), (a.tmps[40]?.getD undef), (a.tmps[41]?.getD undef), (a.tmps[42]?.getD undef), (a.tmps[43]?.getD undef), (a.tmps[44]?.getD undef), (a.tmps[45]?.getD undef), (a.tmps[46]?.getD undef), (a.tmps[47]?.getD undef), (a.tmps[48]?.getD undef), (a.tmps[49]?.getD undef), (a.tmps[50]?.getD undef), (a.tmps[51]?.getD undef), (a.tmps[52]?.getD undef), (a.tmps[53]?.getD undef), (a.tmps[54]?.getD undef), (a.tmps[55]?.getD undef), (a.tmps[56]?.getD undef), (a.tmps[57]?.getD undef), u58, u59, u60, u61, u62, u63, u64, u65, u66, u67, u68, u69, u70, u71, u72, u73, u74, u75, u76, u77, u78, u79, u80, u81, u82, u83, u84, u85, u86, u87, u88, u89, u90, u91, u92, u93, u94, u95, u96, u97, u98, u99, u100, u101, u102, u103, u104, u105, u106, u107, u108, u109, u110, u111, u112, u113, u114, u115, u116, u117, u118, u119, u120, u121, u122, u123, u124, u125, u126, u127, u128, u129, u130, u131, u132, u133, u134, u135, u136, u137, u138, u139]) (by kernel_rfl)) (HQ.out _ _ _ _ _ _ _ _ _ _ _ _ _ _ _ _ _ _ _ _ _ _ _ _ _ _ _ _ _ _ _ _ _ _ _ _ _ _ _ _ _ _ _ w hN (by rw [e57]; exact g57))
set_option maxHeartbeats 1600000 in
theorem shp_in {w5 : World} {eb kd op na nb ne c5 c6 c7 inn ar : Nat} {a5 a6 a7 : Option Addr} {obj into : List UInt8} {nv line : Int}
    (PB : Hid (w5.heap[eb]? = some (.cells #[.int .u8 (kd : Int), .int .u8 (op : Int), .string ⟨obj.toArray⟩, .string ⟨into.toArray⟩, .int .i64 nv, .slice a5 na c5, .slice a6 nb c6, .slice a7 ne c7, .int .i64 line] 144 (0, 0))))
    (HNM : Hid (∀ W, Nw w5 W → Calls Tryz.prog 70 #[.string ⟨obj.toArray⟩] W fun z w' => z = .returned (.bool true) ∧ Nw W w'))
    (HAR : Hid (∀ W, Calls Tryz.prog 137 #[.int .u8 (op : Int)] W fun z w' => z = .returned (.int .i64 (ar : Int)) ∧ w' = W))
    (h17 : decide ((op : Int) < 1) = false)
    (h21 : decide (23 < (op : Int)) = false)
    (h32 : (nv != 0) = false)
    (h41 : ((na : Int) != (ar : Int)) = false)
    (h47 : ne = 0)
    (h51 : 0 < inn)
    (h55 : ((op : Int) != 16) = true)
    {u0 u2 u4 u5 u6 u7 u8 u9 u10 u11 u12 u13 u14 u15 u16 u17 u18 u19 u20 u21 u22 u23 u24 u25 u26 u27 u28 u29 u30 u31 u32 u33 u34 u35 u36 u37 u38 u39 u40 u41 u42 u43 u44 u45 u46 u47 u48 u49 u50 u51 u52 u53 u54 u55 u56 u57 u58 u59 u60 u61 u62 u63 u64 u65 u66 u67 u68 u69 u70 u71 u72 u73 u74 u75 u76 u77 u78 u79 u80 u81 u82 u83 u84 u85 u86 u87 u88 u89 u90 u91 u92 u93 u94 u95 u96 u97 u98 u99 u100 u101 u102 u103 u104 u105 u106 u107 u108 u109 u110 u111 u112 u113 u114 u115 u116 u117 u118 u119 u120 u121 u122 u123 u124 u125 u126 u127 u128 u129 u130 u131 u132 u133 u134 u135 u136 u137 u138 u139 : Value} {Q : Exit → Act → World → Prop}
    (hQ : ∀ (s15 s16 s17 s18 s19 s20 s21 s22 s23 s24 s25 s26 s27 s28 s29 s30 s31 s32 s33 s34 s35 s36 s37 s38 s39 s40 s41 s42 s43 s44 s45 s46 s47 s48 s49 s50 s51 s52 s53 s54 s55 s56 s57 : Value) (wx : World), Nw w5 wx → s57 = .bool true → Q .normal ⟨#[u0, .pointer (some ⟨eb, 0, none⟩), u2, .int .i64 (inn : Int), u4, u5, u6, u7, u8, u9, u10, u11, u12, u13, u14, s15, s16, s17, s18, s19, s20, s21, s22, s23, s24, s25, s26, s27, s28, s29, s30, s31, s32, s33, s34, s35, s36, s37, s38, s39, s40, s41, s42, s43, s44, s45, s46, s47, s48, s49, s50, s51, s52, s53, s54, s55, s56, s57, u58, u59, u60, u61, u62, u63, u64, u65, u66, u67, u68, u69, u70, u71, u72, u73, u74, u75, u76, u77, u78, u79, u80, u81, u82, u83, u84, u85, u86, u87, u88, u89, u90, u91, u92, u93, u94, u95, u96, u97, u98, u99, u100, u101, u102, u103, u104, u105, u106, u107, u108, u109, u110, u111, u112, u113, u114, u115, u116, u117, u118, u119, u120, u121, u122, u123, u124, u125, u126, u127, u128, u129, u130, u131, u132, u133, u134, u135, u136, u137, u138, u139], []⟩ wx) :
    Code.wp Tryz.prog ((Tryz.f112.body.bind (regionOf 4)).getD .skip) Q ⟨#[u0, .pointer (some ⟨eb, 0, none⟩), u2, .int .i64 (inn : Int), u4, u5, u6, u7, u8, u9, u10, u11, u12, u13, u14, u15, u16, u17, u18, u19, u20, u21, u22, u23, u24, u25, u26, u27, u28, u29, u30, u31, u32, u33, u34, u35, u36, u37, u38, u39, u40, u41, u42, u43, u44, u45, u46, u47, u48, u49, u50, u51, u52, u53, u54, u55, u56, u57, u58, u59, u60, u61, u62, u63, u64, u65, u66, u67, u68, u69, u70, u71, u72, u73, u74, u75, u76, u77, u78, u79, u80, u81, u82, u83, u84, u85, u86, u87, u88, u89, u90, u91, u92, u93, u94, u95, u96, u97, u98, u99, u100, u101, u102, u103, u104, u105, u106, u107, u108, u109, u110, u111, u112, u113, u114, u115, u116, u117, u118, u119, u120, u121, u122, u123, u124, u125, u126, u127, u128, u129, u130, u131, u132, u133, u134, u135, u136, u137, u138, u139], []⟩ w5 := by
  (try dsimp only at hQ ⊢)
  conv => arg 2; whnf
  have HQ := Lib.hid hQ
  clear hQ
  refine name_act fun A hA => ?_
  have hA1 : A.tmps[1]? = some (.pointer (some ⟨eb, 0, none⟩)) := by rw [hA]; rfl
  have hA3 : A.tmps[3]? = some (.int .i64 (inn : Int)) := by rw [hA]; rfl
  have hlt0 : ∀ d ∈ ([15, 16, 17, 18, 19, 20, 21, 22, 23, 24, 25, 26, 27, 28, 29, 30, 31, 32, 33, 34, 35, 36, 37, 38, 39, 40, 41, 42, 43, 44, 45, 46, 47, 48, 49, 50, 51, 52, 53, 54, 55, 56, 57] : List Nat), d < 140 := by decide
  refine wp_region_tab [15, 16, 17, 18, 19, 20, 21, 22, 23, 24, 25, 26, 27, 28, 29, 30, 31, 32, 33, 34, 35, 36, 37, 38, 39, 40, 41, 42, 43, 44, 45, 46, 47, 48, 49, 50, 51, 52, 53, 54, 55, 56, 57] [isV (.pointer (some ⟨eb, 1, none⟩)), isV (.int .u8 (op : Int)), isV (.bool false), isV (.bool false), isV (.pointer (some ⟨eb, 1, none⟩)), isV (.int .u8 (op : Int)), isV (.bool false), isV (.bool false), isV (.bool false), isV (.pointer (some ⟨eb, 2, none⟩)), isV (.string ⟨obj.toArray⟩), isV (.bool true), isV (.bool false), isV (.bool false), isV (.bool false), isV (.pointer (some ⟨eb, 4, none⟩)), isV (.int .i64 nv), isV (.bool false), isV (.bool false), isV (.bool false), isV (.pointer (some ⟨eb, 5, none⟩)), isV (.slice a5 na c5), isV (.int .i64 (na : Int)), isV (.pointer (some ⟨eb, 1, none⟩)), isV (.int .u8 (op : Int)), isV (.int .i64 (ar : Int)), isV (.bool false), isV (.bool false), isV (.bool false), isV (.pointer (some ⟨eb, 7, none⟩)), isV (.slice a7 ne c7), isV (.int .i64 (ne : Int)), isV (.bool false), isV (.bool false), isV (.bool false), isV (.int .i64 (inn : Int)), isV (.bool true), isV (.bool true), isV (.pointer (some ⟨eb, 1, none⟩)), isV (.int .u8 (op : Int)), isV (.bool true), isV (.bool true), isV (.bool true)] (by kernel_rfl) (by kernel_rfl) (by kernel_rfl) (of_decide_eq_true (by kernel_rfl)) (fun d hd => by rw [hA]; exact hlt0 d hd) (fun L hL => ⟨?a0, ?a1, ?a2, ?a3, ?a4, ?a5, ?a6, ?a7, ?a8, ?a9, ?a10, ?a11, ?a12, ?a13, ?a14, ?a15, ?a16, ?a17, ?a18, ?a19, ?a20, ?a21, ?a22, ?a23, ?a24, ?a25, ?a26, ?a27, ?a28, ?a29, ?a30, ?a31, ?a32, ?a33, ?a34, ?a35, ?a36, ?a37, ?a38, ?a39, ?a40, ?a41, ?a42, trivial⟩) ?he
  · intro a w hN old new
    have e1 := old 1 (.pointer (some ⟨eb, 0, none⟩)) rfl hA1
    exact OpOk.val (.pointer (some ⟨eb, 1, none⟩)) (w_none rfl) [(1, _)] (forall_cons e1 <| forall_nil) (fun ρ e ⟨c1, c2⟩ => by (try simp only [List.forall_mem_cons] at e); go_simp) ⟨Nw.refl _, rfl⟩
  · intro a w hN old new
    obtain ⟨y15, e15, g15⟩ := new 0 15 rfl rfl
    obtain rfl : y15 = .pointer (some ⟨eb, 1, none⟩) := g15
    have hp := hN.at_ PB.out
    obtain ⟨q0, q1, q2, q3, q4, q5, q6, q7, q8, qf⟩ := box9 hp
    exact OpOk.val (.int .u8 (op : Int)) (w_none rfl) [(15, _)] (forall_cons e15 <| forall_nil) (fun ρ e ⟨c1, c2⟩ => by (try simp only [List.forall_mem_cons] at e); go_simp) ⟨Nw.refl _, rfl⟩
  · intro a w hN old new
    obtain ⟨y16, e16, g16⟩ := new 1 16 rfl rfl
    obtain rfl : y16 = .int .u8 (op : Int) := g16
    exact OpOk.val (.bool false) (w_none rfl) [(16, _)] (forall_cons e16 <| forall_nil) (fun ρ e ⟨c1, c2⟩ => by (try simp only [List.forall_mem_cons] at e); go_simp) ⟨Nw.refl _, rfl⟩
  · intro a w hN old new
    obtain ⟨y17, e17, g17⟩ := new 2 17 rfl rfl
    obtain rfl : y17 = .bool false := g17
    exact OpOk.val (.bool false) (w_none rfl) [(17, _)] (forall_cons e17 <| forall_nil) (fun ρ e ⟨c1, c2⟩ => by (try simp only [List.forall_mem_cons] at e); go_simp) ⟨Nw.refl _, rfl⟩
  · intro a w hN old new
    obtain ⟨y18, e18, g18⟩ := new 3 18 rfl rfl
    obtain rfl : y18 = .bool false := g18
    have e1 := old 1 (.pointer (some ⟨eb, 0, none⟩)) rfl hA1
    exact OpOk.val (.pointer (some ⟨eb, 1, none⟩)) (tab_yes hL rfl rfl e18) [(1, _)] (forall_cons e1 <| forall_nil) (fun ρ e ⟨c1, c2⟩ => by (try simp only [List.forall_mem_cons] at e); go_simp) ⟨Nw.refl _, rfl⟩
  · intro a w hN old new
    obtain ⟨y18, e18, g18⟩ := new 3 18 rfl rfl
    obtain rfl : y18 = .bool false := g18
    obtain ⟨y19, e19, g19⟩ := new 4 19 rfl rfl
    obtain rfl : y19 = .pointer (some ⟨eb, 1, none⟩) := g19
    have hp := hN.at_ PB.out
    obtain ⟨q0, q1, q2, q3, q4, q5, q6, q7, q8, qf⟩ := box9 hp
    exact OpOk.val (.int .u8 (op : Int)) (tab_yes hL rfl rfl e18) [(19, _)] (forall_cons e19 <| forall_nil) (fun ρ e ⟨c1, c2⟩ => by (try simp only [List.forall_mem_cons] at e); go_simp) ⟨Nw.refl _, rfl⟩
  · intro a w hN old new
    obtain ⟨y18, e18, g18⟩ := new 3 18 rfl rfl
    obtain rfl : y18 = .bool false := g18
    obtain ⟨y20, e20, g20⟩ := new 5 20 rfl rfl
    obtain rfl : y20 = .int .u8 (op : Int) := g20
    exact OpOk.val (.bool false) (tab_yes hL rfl rfl e18) [(20, _)] (forall_cons e20 <| forall_nil) (fun ρ e ⟨c1, c2⟩ => by (try simp only [List.forall_mem_cons] at e); go_simp) ⟨Nw.refl _, rfl⟩
  · intro a w hN old new
    obtain ⟨y18, e18, g18⟩ := new 3 18 rfl rfl
    obtain rfl : y18 = .bool false := g18
    obtain ⟨y21, e21, g21⟩ := new 6 21 rfl rfl
    obtain rfl : y21 = .bool false := g21
    exact OpOk.val (.bool false) (w_none rfl) [(18, _), (21, _)] (forall_cons e18 <| forall_cons e21 <| forall_nil) (fun ρ e ⟨c1, c2⟩ => by (try simp only [List.forall_mem_cons] at e); go_simp) ⟨Nw.refl _, rfl⟩
  · intro a w hN old new
    obtain ⟨y22, e22, g22⟩ := new 7 22 rfl rfl
    obtain rfl : y22 = .bool false := g22
    exact OpOk.val (.bool false) (w_none rfl) [(22, _)] (forall_cons e22 <| forall_nil) (fun ρ e ⟨c1, c2⟩ => by (try simp only [List.forall_mem_cons] at e); go_simp) ⟨Nw.refl _, rfl⟩
  · intro a w hN old new
    obtain ⟨y23, e23, g23⟩ := new 8 23 rfl rfl
    obtain rfl : y23 = .bool false := g23
    have e1 := old 1 (.pointer (some ⟨eb, 0, none⟩)) rfl hA1
    exact OpOk.val (.pointer (some ⟨eb, 2, none⟩)) (tab_yes hL rfl rfl e23) [(1, _)] (forall_cons e1 <| forall_nil) (fun ρ e ⟨c1, c2⟩ => by (try simp only [List.forall_mem_cons] at e); go_simp) ⟨Nw.refl _, rfl⟩
  · intro a w hN old new
    obtain ⟨y23, e23, g23⟩ := new 8 23 rfl rfl
    obtain rfl : y23 = .bool false := g23
    obtain ⟨y24, e24, g24⟩ := new 9 24 rfl rfl
    obtain rfl : y24 = .pointer (some ⟨eb, 2, none⟩) := g24
    have hp := hN.at_ PB.out
    obtain ⟨q0, q1, q2, q3, q4, q5, q6, q7, q8, qf⟩ := box9 hp
    exact OpOk.val (.string ⟨obj.toArray⟩) (tab_yes hL rfl rfl e23) [(24, _)] (forall_cons e24 <| forall_nil) (fun ρ e ⟨c1, c2⟩ => by (try simp only [List.forall_mem_cons] at e); go_simp) ⟨Nw.refl _, rfl⟩
  · intro a w hN old new
    obtain ⟨y23, e23, g23⟩ := new 8 23 rfl rfl
    obtain rfl : y23 = .bool false := g23
    obtain ⟨y25, e25, g25⟩ := new 10 25 rfl rfl
    obtain rfl : y25 = .string ⟨obj.toArray⟩ := g25
    refine OpOk.call (tab_yes hL rfl rfl e23) [(25, _)] (forall_cons e25 <| forall_nil) (fun ρ e ⟨c1, c2⟩ => by (try simp only [List.forall_mem_cons] at e); go_simp) (HNM.out _ hN) (fun e w1 h => ?_)
    obtain ⟨rfl, n1⟩ := h
    exact ⟨_, rfl, n1, rfl⟩
  · intro a w hN old new
    obtain ⟨y23, e23, g23⟩ := new 8 23 rfl rfl
    obtain rfl : y23 = .bool false := g23
    obtain ⟨y26, e26, g26⟩ := new 11 26 rfl rfl
    obtain rfl : y26 = .bool true := g26
    exact OpOk.val (.bool false) (tab_yes hL rfl rfl e23) [(26, _)] (forall_cons e26 <| forall_nil) (fun ρ e ⟨c1, c2⟩ => by (try simp only [List.forall_mem_cons] at e); go_simp) ⟨Nw.refl _, rfl⟩
  · intro a w hN old new
    obtain ⟨y23, e23, g23⟩ := new 8 23 rfl rfl
    obtain rfl : y23 = .bool false := g23
    obtain ⟨y27, e27, g27⟩ := new 12 27 rfl rfl
    obtain rfl : y27 = .bool false := g27
    exact OpOk.val (.bool false) (w_none rfl) [(23, _), (27, _)] (forall_cons e23 <| forall_cons e27 <| forall_nil) (fun ρ e ⟨c1, c2⟩ => by (try simp only [List.forall_mem_cons] at e); go_simp) ⟨Nw.refl _, rfl⟩
  · intro a w hN old new
    obtain ⟨y28, e28, g28⟩ := new 13 28 rfl rfl
    obtain rfl : y28 = .bool false := g28
    exact OpOk.val (.bool false) (w_none rfl) [(28, _)] (forall_cons e28 <| forall_nil) (fun ρ e ⟨c1, c2⟩ => by (try simp only [List.forall_mem_cons] at e); go_simp) ⟨Nw.refl _, rfl⟩
  · intro a w hN old new
    obtain ⟨y29, e29, g29⟩ := new 14 29 rfl rfl
    obtain rfl : y29 = .bool false := g29
    have e1 := old 1 (.pointer (some ⟨eb, 0, none⟩)) rfl hA1
    exact OpOk.val (.pointer (some ⟨eb, 4, none⟩)) (tab_yes hL rfl rfl e29) [(1, _)] (forall_cons e1 <| forall_nil) (fun ρ e ⟨c1, c2⟩ => by (try simp only [List.forall_mem_cons] at e); go_simp) ⟨Nw.refl _, rfl⟩
  · intro a w hN old new
    obtain ⟨y29, e29, g29⟩ := new 14 29 rfl rfl
    obtain rfl : y29 = .bool false := g29
    obtain ⟨y30, e30, g30⟩ := new 15 30 rfl rfl
    obtain rfl : y30 = .pointer (some ⟨eb, 4, none⟩) := g30
    have hp := hN.at_ PB.out
    obtain ⟨q0, q1, q2, q3, q4, q5, q6, q7, q8, qf⟩ := box9 hp
    exact OpOk.val (.int .i64 nv) (tab_yes hL rfl rfl e29) [(30, _)] (forall_cons e30 <| forall_nil) (fun ρ e ⟨c1, c2⟩ => by (try simp only [List.forall_mem_cons] at e); go_simp) ⟨Nw.refl _, rfl⟩
  · intro a w hN old new
    obtain ⟨y29, e29, g29⟩ := new 14 29 rfl rfl
    obtain rfl : y29 = .bool false := g29
    obtain ⟨y31, e31, g31⟩ := new 16 31 rfl rfl
    obtain rfl : y31 = .int .i64 nv := g31
    exact OpOk.val (.bool false) (tab_yes hL rfl rfl e29) [(31, _)] (forall_cons e31 <| forall_nil) (fun ρ e ⟨c1, c2⟩ => by (try simp only [List.forall_mem_cons] at e); go_simp) ⟨Nw.refl _, rfl⟩
  · intro a w hN old new
    obtain ⟨y29, e29, g29⟩ := new 14 29 rfl rfl
    obtain rfl : y29 = .bool false := g29
    obtain ⟨y32, e32, g32⟩ := new 17 32 rfl rfl
    obtain rfl : y32 = .bool false := g32
    exact OpOk.val (.bool false) (w_none rfl) [(29, _), (32, _)] (forall_cons e29 <| forall_cons e32 <| forall_nil) (fun ρ e ⟨c1, c2⟩ => by (try simp only [List.forall_mem_cons] at e); go_simp) ⟨Nw.refl _, rfl⟩
  · intro a w hN old new
    obtain ⟨y33, e33, g33⟩ := new 18 33 rfl rfl
    obtain rfl : y33 = .bool false := g33
    exact OpOk.val (.bool false) (w_none rfl) [(33, _)] (forall_cons e33 <| forall_nil) (fun ρ e ⟨c1, c2⟩ => by (try simp only [List.forall_mem_cons] at e); go_simp) ⟨Nw.refl _, rfl⟩
  · intro a w hN old new
    obtain ⟨y34, e34, g34⟩ := new 19 34 rfl rfl
    obtain rfl : y34 = .bool false := g34
    have e1 := old 1 (.pointer (some ⟨eb, 0, none⟩)) rfl hA1
    exact OpOk.val (.pointer (some ⟨eb, 5, none⟩)) (tab_yes hL rfl rfl e34) [(1, _)] (forall_cons e1 <| forall_nil) (fun ρ e ⟨c1, c2⟩ => by (try simp only [List.forall_mem_cons] at e); go_simp) ⟨Nw.refl _, rfl⟩
  · intro a w hN old new
    obtain ⟨y34, e34, g34⟩ := new 19 34 rfl rfl
    obtain rfl : y34 = .bool false := g34
    obtain ⟨y35, e35, g35⟩ := new 20 35 rfl rfl
    obtain rfl : y35 = .pointer (some ⟨eb, 5, none⟩) := g35
    have hp := hN.at_ PB.out
    obtain ⟨q0, q1, q2, q3, q4, q5, q6, q7, q8, qf⟩ := box9 hp
    exact OpOk.val (.slice a5 na c5) (tab_yes hL rfl rfl e34) [(35, _)] (forall_cons e35 <| forall_nil) (fun ρ e ⟨c1, c2⟩ => by (try simp only [List.forall_mem_cons] at e); go_simp) ⟨Nw.refl _, rfl⟩
  · intro a w hN old new
    obtain ⟨y34, e34, g34⟩ := new 19 34 rfl rfl
    obtain rfl : y34 = .bool false := g34
    obtain ⟨y36, e36, g36⟩ := new 21 36 rfl rfl
    obtain rfl : y36 = .slice a5 na c5 := g36
    exact OpOk.val (.int .i64 (na : Int)) (tab_yes hL rfl rfl e34) [(36, _)] (forall_cons e36 <| forall_nil) (fun ρ e ⟨c1, c2⟩ => by (try simp only [List.forall_mem_cons] at e); go_simp) ⟨Nw.refl _, rfl⟩
  · intro a w hN old new
    obtain ⟨y34, e34, g34⟩ := new 19 34 rfl rfl
    obtain rfl : y34 = .bool false := g34
    have e1 := old 1 (.pointer (some ⟨eb, 0, none⟩)) rfl hA1
    exact OpOk.val (.pointer (some ⟨eb, 1, none⟩)) (tab_yes hL rfl rfl e34) [(1, _)] (forall_cons e1 <| forall_nil) (fun ρ e ⟨c1, c2⟩ => by (try simp only [List.forall_mem_cons] at e); go_simp) ⟨Nw.refl _, rfl⟩
  · intro a w hN old new
    obtain ⟨y34, e34, g34⟩ := new 19 34 rfl rfl
    obtain rfl : y34 = .bool false := g34
    obtain ⟨y38, e38, g38⟩ := new 23 38 rfl rfl
    obtain rfl : y38 = .pointer (some ⟨eb, 1, none⟩) := g38
    have hp := hN.at_ PB.out
    obtain ⟨q0, q1, q2, q3, q4, q5, q6, q7, q8, qf⟩ := box9 hp
    exact OpOk.val (.int .u8 (op : Int)) (tab_yes hL rfl rfl e34) [(38, _)] (forall_cons e38 <| forall_nil) (fun ρ e ⟨c1, c2⟩ => by (try simp only [List.forall_mem_cons] at e); go_simp) ⟨Nw.refl _, rfl⟩
  · intro a w hN old new
    obtain ⟨y34, e34, g34⟩ := new 19 34 rfl rfl
    obtain rfl : y34 = .bool false := g34
    obtain ⟨y39, e39, g39⟩ := new 24 39 rfl rfl
    obtain rfl : y39 = .int .u8 (op : Int) := g39
    refine OpOk.call (tab_yes hL rfl rfl e34) [(39, _)] (forall_cons e39 <| forall_nil) (fun ρ e ⟨c1, c2⟩ => by (try simp only [List.forall_mem_cons] at e); go_simp) (HAR.out _) (fun e w1 h => ?_)
    obtain ⟨rfl, rfl⟩ := h
    exact ⟨_, rfl, Nw.refl _, rfl⟩
  · intro a w hN old new
    obtain ⟨y34, e34, g34⟩ := new 19 34 rfl rfl
    obtain rfl : y34 = .bool false := g34
    obtain ⟨y37, e37, g37⟩ := new 22 37 rfl rfl
    obtain rfl : y37 = .int .i64 (na : Int) := g37
    obtain ⟨y40, e40, g40⟩ := new 25 40 rfl rfl
    obtain rfl : y40 = .int .i64 (ar : Int) := g40
    exact OpOk.val (.bool false) (tab_yes hL rfl rfl e34) [(37, _), (40, _)] (forall_cons e37 <| forall_cons e40 <| forall_nil) (fun ρ e ⟨c1, c2⟩ => by (try simp only [List.forall_mem_cons] at e); go_simp) ⟨Nw.refl _, rfl⟩
  · intro a w hN old new
    obtain ⟨y34, e34, g34⟩ := new 19 34 rfl rfl
    obtain rfl : y34 = .bool false := g34
    obtain ⟨y41, e41, g41⟩ := new 26 41 rfl rfl
    obtain rfl : y41 = .bool false := g41
    exact OpOk.val (.bool false) (w_none rfl) [(34, _), (41, _)] (forall_cons e34 <| forall_cons e41 <| forall_nil) (fun ρ e ⟨c1, c2⟩ => by (try simp only [List.forall_mem_cons] at e); go_simp) ⟨Nw.refl _, rfl⟩
  · intro a w hN old new
    obtain ⟨y42, e42, g42⟩ := new 27 42 rfl rfl
    obtain rfl : y42 = .bool false := g42
    exact OpOk.val (.bool false) (w_none rfl) [(42, _)] (forall_cons e42 <| forall_nil) (fun ρ e ⟨c1, c2⟩ => by (try simp only [List.forall_mem_cons] at e); go_simp) ⟨Nw.refl _, rfl⟩
  · intro a w hN old new
    obtain ⟨y43, e43, g43⟩ := new 28 43 rfl rfl
    obtain rfl : y43 = .bool false := g43
    have e1 := old 1 (.pointer (some ⟨eb, 0, none⟩)) rfl hA1
    exact OpOk.val (.pointer (some ⟨eb, 7, none⟩)) (tab_yes hL rfl rfl e43) [(1, _)] (forall_cons e1 <| forall_nil) (fun ρ e ⟨c1, c2⟩ => by (try simp only [List.forall_mem_cons] at e); go_simp) ⟨Nw.refl _, rfl⟩
  · intro a w hN old new
    obtain ⟨y43, e43, g43⟩ := new 28 43 rfl rfl
    obtain rfl : y43 = .bool false := g43
    obtain ⟨y44, e44, g44⟩ := new 29 44 rfl rfl
    obtain rfl : y44 = .pointer (some ⟨eb, 7, none⟩) := g44
    have hp := hN.at_ PB.out
    obtain ⟨q0, q1, q2, q3, q4, q5, q6, q7, q8, qf⟩ := box9 hp
    exact OpOk.val (.slice a7 ne c7) (tab_yes hL rfl rfl e43) [(44, _)] (forall_cons e44 <| forall_nil) (fun ρ e ⟨c1, c2⟩ => by (try simp only [List.forall_mem_cons] at e); go_simp) ⟨Nw.refl _, rfl⟩
  · intro a w hN old new
    obtain ⟨y43, e43, g43⟩ := new 28 43 rfl rfl
    obtain rfl : y43 = .bool false := g43
    obtain ⟨y45, e45, g45⟩ := new 30 45 rfl rfl
    obtain rfl : y45 = .slice a7 ne c7 := g45
    exact OpOk.val (.int .i64 (ne : Int)) (tab_yes hL rfl rfl e43) [(45, _)] (forall_cons e45 <| forall_nil) (fun ρ e ⟨c1, c2⟩ => by (try simp only [List.forall_mem_cons] at e); go_simp) ⟨Nw.refl _, rfl⟩
  · intro a w hN old new
    obtain ⟨y43, e43, g43⟩ := new 28 43 rfl rfl
    obtain rfl : y43 = .bool false := g43
    obtain ⟨y46, e46, g46⟩ := new 31 46 rfl rfl
    obtain rfl : y46 = .int .i64 (ne : Int) := g46
    exact OpOk.val (.bool false) (tab_yes hL rfl rfl e43) [(46, _)] (forall_cons e46 <| forall_nil) (fun ρ e ⟨c1, c2⟩ => by (try simp only [List.forall_mem_cons] at e); go_simp) ⟨Nw.refl _, rfl⟩
  · intro a w hN old new
    obtain ⟨y43, e43, g43⟩ := new 28 43 rfl rfl
    obtain rfl : y43 = .bool false := g43
    obtain ⟨y47, e47, g47⟩ := new 32 47 rfl rfl
    obtain rfl : y47 = .bool false := g47
    exact OpOk.val (.bool false) (w_none rfl) [(43, _), (47, _)] (forall_cons e43 <| forall_cons e47 <| forall_nil) (fun ρ e ⟨c1, c2⟩ => by (try simp only [List.forall_mem_cons] at e); go_simp) ⟨Nw.refl _, rfl⟩
  · intro a w hN old new
    obtain ⟨y48, e48, g48⟩ := new 33 48 rfl rfl
    obtain rfl : y48 = .bool false := g48
    exact OpOk.val (.bool false) (w_none rfl) [(48, _)] (forall_cons e48 <| forall_nil) (fun ρ e ⟨c1, c2⟩ => by (try simp only [List.forall_mem_cons] at e); go_simp) ⟨Nw.refl _, rfl⟩
  · intro a w hN old new
    obtain ⟨y49, e49, g49⟩ := new 34 49 rfl rfl
    obtain rfl : y49 = .bool false := g49
    have e3 := old 3 (.int .i64 (inn : Int)) rfl hA3
    exact OpOk.val (.int .i64 (inn : Int)) (tab_yes hL rfl rfl e49) [(3, _)] (forall_cons e3 <| forall_nil) (fun ρ e ⟨c1, c2⟩ => by (try simp only [List.forall_mem_cons] at e); go_simp) ⟨Nw.refl _, rfl⟩
  · intro a w hN old new
    obtain ⟨y49, e49, g49⟩ := new 34 49 rfl rfl
    obtain rfl : y49 = .bool false := g49
    obtain ⟨y50, e50, g50⟩ := new 35 50 rfl rfl
    obtain rfl : y50 = .int .i64 (inn : Int) := g50
    exact OpOk.val (.bool true) (tab_yes hL rfl rfl e49) [(50, _)] (forall_cons e50 <| forall_nil) (fun ρ e ⟨c1, c2⟩ => by (try simp only [List.forall_mem_cons] at e); go_simp) ⟨Nw.refl _, rfl⟩
  · intro a w hN old new
    obtain ⟨y49, e49, g49⟩ := new 34 49 rfl rfl
    obtain rfl : y49 = .bool false := g49
    obtain ⟨y51, e51, g51⟩ := new 36 51 rfl rfl
    obtain rfl : y51 = .bool true := g51
    exact OpOk.val (.bool true) (tab_yes hL rfl rfl e49) [(51, _)] (forall_cons e51 <| forall_nil) (fun ρ e ⟨c1, c2⟩ => by (try simp only [List.forall_mem_cons] at e); go_simp) ⟨Nw.refl _, rfl⟩
  · intro a w hN old new
    obtain ⟨y52, e52, g52⟩ := new 37 52 rfl rfl
    obtain rfl : y52 = .bool true := g52
    have e1 := old 1 (.pointer (some ⟨eb, 0, none⟩)) rfl hA1
    exact OpOk.val (.pointer (some ⟨eb, 1, none⟩)) (tab_yes hL rfl rfl e52) [(1, _)] (forall_cons e1 <| forall_nil) (fun ρ e ⟨c1, c2⟩ => by (try simp only [List.forall_mem_cons] at e); go_simp) ⟨Nw.refl _, rfl⟩
  · intro a w hN old new
    obtain ⟨y52, e52, g52⟩ := new 37 52 rfl rfl
    obtain rfl : y52 = .bool true := g52
    obtain ⟨y53, e53, g53⟩ := new 38 53 rfl rfl
    obtain rfl : y53 = .pointer (some ⟨eb, 1, none⟩) := g53
    have hp := hN.at_ PB.out
    obtain ⟨q0, q1, q2, q3, q4, q5, q6, q7, q8, qf⟩ := box9 hp
    exact OpOk.val (.int .u8 (op : Int)) (tab_yes hL rfl rfl e52) [(53, _)] (forall_cons e53 <| forall_nil) (fun ρ e ⟨c1, c2⟩ => by (try simp only [List.forall_mem_cons] at e); go_simp) ⟨Nw.refl _, rfl⟩
  · intro a w hN old new
    obtain ⟨y52, e52, g52⟩ := new 37 52 rfl rfl
    obtain rfl : y52 = .bool true := g52
    obtain ⟨y54, e54, g54⟩ := new 39 54 rfl rfl
    obtain rfl : y54 = .int .u8 (op : Int) := g54
    exact OpOk.val (.bool true) (tab_yes hL rfl rfl e52) [(54, _)] (forall_cons e54 <| forall_nil) (fun ρ e ⟨c1, c2⟩ => by (try simp only [List.forall_mem_cons] at e); go_simp) ⟨Nw.refl _, rfl⟩
  · intro a w hN old new
    obtain ⟨y49, e49, g49⟩ := new 34 49 rfl rfl
    obtain rfl : y49 = .bool false := g49
    obtain ⟨y52, e52, g52⟩ := new 37 52 rfl rfl
    obtain rfl : y52 = .bool true := g52
    obtain ⟨y55, e55, g55⟩ := new 40 55 rfl rfl
    obtain rfl : y55 = .bool true := g55
    exact OpOk.val (.bool true) (tab_yes hL rfl rfl e49) [(52, _), (55, _)] (forall_cons e52 <| forall_cons e55 <| forall_nil) (fun ρ e ⟨c1, c2⟩ => by (try simp only [List.forall_mem_cons] at e); go_simp) ⟨Nw.refl _, rfl⟩
  · intro a w hN old new
    obtain ⟨y49, e49, g49⟩ := new 34 49 rfl rfl
    obtain rfl : y49 = .bool false := g49
    obtain ⟨y56, e56, g56⟩ := new 41 56 rfl rfl
    obtain rfl : y56 = .bool true := g56
    exact OpOk.val (.bool true) (w_none rfl) [(49, _), (56, _)] (forall_cons e49 <| forall_cons e56 <| forall_nil) (fun ρ e ⟨c1, c2⟩ => by (try simp only [List.forall_mem_cons] at e); go_simp) ⟨Nw.refl _, rfl⟩
  · intro a w hN hsz hdf old new
    obtain ⟨y57, e57, g57⟩ := new 42 57 rfl
    exact tab_frame (frame_lit (dst := [15, 16, 17, 18, 19, 20, 21, 22, 23, 24, 25, 26, 27, 28, 29, 30, 31, 32, 33, 34, 35, 36, 37, 38, 39, 40, 41, 42, 43, 44, 45, 46, 47, 48, 49, 50, 51, 52, 53, 54, 55, 56, 57]) (l := [u0, .pointer (some ⟨eb, 0, none⟩), u2, .int .i64 (inn : Int), u4, u5, u6, u7, u8, u9, u10, u11, u12, u13, u14, u15, u16, u17, u18, u19, u20, u21, u22, u23, u24, u25, u26, u27, u28, u29, u30, u31, u32, u33, u34, u35, u36, u37, u38, u39, u40, u41, u42, u43, u44, u45, u46, u47, u48, u49, u50, u51, u52, u53, u54, u55, u56, u57, u58, u59, u60, u61, u62, u63, u64, u65, u66, u67, u68, u69, u70, u71, u72, u73, u74, u75, u76, u77, u78, u79, u80, u81, u82, u83, u84, u85, u86, u87, u88, u89, u90, u91, u92, u93, u94, u95, u96, u97, u98, u99, u100, u101, u102, u103, u104, u105, u106, u107, u108, u109, u110, u111, u112, u113, u114, u115, u116, u117, u118, u119, u120, u121, u122, u123, u124, u125, u126, u127, u128, u129, u130, u131, u132, u133, u134, u135, u136, u137, u138, u139]) hA hsz hdf old (l' := [u0, .pointer (some ⟨eb, 0, none⟩), u2, .int .i64 (inn : Int), u4, u5, u6, u7, u8, u9, u10, u11, u12, u13, u14, (a.tmps[15]?.getD undef), (a.tmps[16]?.getD undef), (a.tmps[17]?.getD undef), (a.tmps[18]?.getD undef), (a.tmps[19]?.getD undef), (a.tmps[20]?.getD undef), (a.tmps[21]?.getD undef), (a.tmps[22]?.getD undef), (a.tmps[23]?.getD undef), (a.tmps[24]?.getD undef), (a.tmps[25]?.getD undef), (a.tmps[26]?.getD undef), (a.tmps[27]?.getD undef), (a.tmps[28]?.getD undef), (a.tmps[29]?.getD undef), (a.tmps[30]?.getD undef), (a.tmps[31]?.getD undef), (a.tmps[32]?.getD undef), (a.tmps[33]?.getD undef), (a.tmps[34]?.getD undef), (a.tmps[35]?.getD undef), (a.tmps[36]?.getD undef), (a.tmps[37]?.getD undef), (a.tmps[38]?.getD undef), (a.tmps[39]?.getD undef), (a.tmps[40]?.getD undef), (a.tmps[41]?.getD undef), (a.tmps[42]?.getD undef), (a.tmps[43]?.getD undef), (a.tmps[44]?.getD undef), (a.tmps[45]?.getD undef), (a.tmps[46]?.getD undef), (a.tmps[47]?.getD undef), (a.tmps[48]?.getD undef), (a.tmps[49]?.getD undef), (a.tmps[50]?.getD undef), (a.tmps[51]?.getD undef), (a.tmps[52]?.getD undef), (a.tmps[53]?.getD undef), (a.tmps[54]?.getD undef), (a.tmps[55]?.getD undef), (a.tmps[56]?.getD undef), (a.tmps[57]?.getD undef), u58, u59, u60, u61, u62, u63, u64, u65, u66, u67, u68, u69, u70, u71, u72, u73, u74, u75, u76, u77, u78, u79, u80, u81, u82, u83, u84, u85, u86, u87, u88, u89, u90, u91, u92, u93, u94, u95, u96, u97, u98, u99, u100, u101, u102, u103, u104, u105, u106, u107, u108, u109, u110, u111, u112, u113, u114, u115, u116, u117, u118, u119, u120, u121, u122, u123, u124, u125, u126, u127, u128, u129, u130, u131, u132, u133, u134, u135, u136, u137, u138, u139]) (by kernel_rfl)) (HQ.out _ _ _ _ _ _ _ _ _ _ _ _ _ _ _ _ _ _ _ _ _ _ _ _ _ _ _ _ _ _ _ _ _ _ _ _ _ _ _ _ _ _ _ w hN (by rw [e57]; exact g57))
set_option maxHeartbeats 1600000 in
theorem shp_do {w5 : World} {eb kd op na nb ne c5 c6 c7 inn ar : Nat} {a5 a6 a7 : Option Addr} {obj into : List UInt8} {nv line : Int}
    (PB : Hid (w5.heap[eb]? = some (.cells #[.int .u8 (kd : Int), .int .u8 (op : Int), .string ⟨obj.toArray⟩, .string ⟨into.toArray⟩, .int .i64 nv, .slice a5 na c5, .slice a6 nb c6, .slice a7 ne c7, .int .i64 line] 144 (0, 0))))
    (HNM : Hid (∀ W, Nw w5 W → Calls Tryz.prog 70 #[.string ⟨obj.toArray⟩] W fun z w' => z = .returned (.bool true) ∧ Nw W w'))
    (HAR : Hid (∀ W, Calls Tryz.prog 137 #[.int .u8 (op : Int)] W fun z w' => z = .returned (.int .i64 (ar : Int)) ∧ w' = W))
    (h17 : decide ((op : Int) < 1) = false)
    (h21 : decide (23 < (op : Int)) = false)
    (h32 : (nv != 0) = false)
    (h41 : ((na : Int) != (ar : Int)) = false)
    (h47 : ne = 0)
    (h51 : 0 < inn)
    (h55 : ((op : Int) != 16) = false)
    {u0 u2 u4 u5 u6 u7 u8 u9 u10 u11 u12 u13 u14 u15 u16 u17 u18 u19 u20 u21 u22 u23 u24 u25 u26 u27 u28 u29 u30 u31 u32 u33 u34 u35 u36 u37 u38 u39 u40 u41 u42 u43 u44 u45 u46 u47 u48 u49 u50 u51 u52 u53 u54 u55 u56 u57 u58 u59 u60 u61 u62 u63 u64 u65 u66 u67 u68 u69 u70 u71 u72 u73 u74 u75 u76 u77 u78 u79 u80 u81 u82 u83 u84 u85 u86 u87 u88 u89 u90 u91 u92 u93 u94 u95 u96 u97 u98 u99 u100 u101 u102 u103 u104 u105 u106 u107 u108 u109 u110 u111 u112 u113 u114 u115 u116 u117 u118 u119 u120 u121 u122 u123 u124 u125 u126 u127 u128 u129 u130 u131 u132 u133 u134 u135 u136 u137 u138 u139 : Value} {Q : Exit → Act → World → Prop}
    (hQ : ∀ (s15 s16 s17 s18 s19 s20 s21 s22 s23 s24 s25 s26 s27 s28 s29 s30 s31 s32 s33 s34 s35 s36 s37 s38 s39 s40 s41 s42 s43 s44 s45 s46 s47 s48 s49 s50 s51 s52 s53 s54 s55 s56 s57 : Value) (wx : World), Nw w5 wx → s57 = .bool false → Q .normal ⟨#[u0, .pointer (some ⟨eb, 0, none⟩), u2, .int .i64 (inn : Int), u4, u5, u6, u7, u8, u9, u10, u11, u12, u13, u14, s15, s16, s17, s18, s19, s20, s21, s22, s23, s24, s25, s26, s27, s28, s29, s30, s31, s32, s33, s34, s35, s36, s37, s38, s39, s40, s41, s42, s43, s44, s45, s46, s47, s48, s49, s50, s51, s52, s53, s54, s55, s56, s57, u58, u59, u60, u61, u62, u63, u64, u65, u66, u67, u68, u69, u70, u71, u72, u73, u74, u75, u76, u77, u78, u79, u80, u81, u82, u83, u84, u85, u86, u87, u88, u89, u90, u91, u92, u93, u94, u95, u96, u97, u98, u99, u100, u101, u102, u103, u104, u105, u106, u107, u108, u109, u110, u111, u112, u113, u114, u115, u116, u117, u118, u119, u120, u121, u122, u123, u124, u125, u126, u127, u128, u129, u130, u131, u132, u133, u134, u135, u136, u137, u138, u139], []⟩ wx) :
    Code.wp Tryz.prog ((Tryz.f112.body.bind (regionOf 4)).getD .skip) Q ⟨#[u0, .pointer (some ⟨eb, 0, none⟩), u2, .int .i64 (inn : Int), u4, u5, u6, u7, u8, u9, u10, u11, u12, u13, u14, u15, u16, u17, u18, u19, u20, u21, u22, u23, u24, u25, u26, u27, u28, u29, u30, u31, u32, u33, u34, u35, u36, u37, u38, u39, u40, u41, u42, u43, u44, u45, u46, u47, u48, u49, u50, u51, u52, u53, u54, u55, u56, u57, u58, u59, u60, u61, u62, u63, u64, u65, u66, u67, u68, u69, u70, u71, u72, u73, u74, u75, u76, u77, u78, u79, u80, u81, u82, u83, u84, u85, u86, u87, u88, u89, u90, u91, u92, u93, u94, u95, u96, u97, u98, u99, u100, u101, u102, u103, u104, u105, u106, u107, u108, u109, u110, u111, u112, u113, u114, u115, u116, u117, u118, u119, u120, u121, u122, u123, u124, u125, u126, u127, u128, u129, u130, u131, u132, u133, u134, u135, u136, u137, u138, u139], []⟩ w5 := by
  (try dsimp only at hQ ⊢)
  conv => arg 2; whnf
  have HQ := Lib.hid hQ
  clear hQ
  refine name_act fun A hA => ?_
  have hA1 : A.tmps[1]? = some (.pointer (some ⟨eb, 0, none⟩)) := by rw [hA]; rfl
  have hA3 : A.tmps[3]? = some (.int .i64 (inn : Int)) := by rw [hA]; rfl
  have hlt0 : ∀ d ∈ ([15, 16, 17, 18, 19, 20, 21, 22, 23, 24, 25, 26, 27, 28, 29, 30, 31, 32, 33, 34, 35, 36, 37, 38, 39, 40, 41, 42, 43, 44, 45, 46, 47, 48, 49, 50, 51, 52, 53, 54, 55, 56, 57] : List Nat), d < 140 := by decide
  refine wp_region_tab [15, 16, 17, 18, 19, 20, 21, 22, 23, 24, 25, 26, 27, 28, 29, 30, 31, 32, 33, 34, 35, 36, 37, 38, 39, 40, 41, 42, 43, 44, 45, 46, 47, 48, 49, 50, 51, 52, 53, 54, 55, 56, 57] [isV (.pointer (some ⟨eb, 1, none⟩)), isV (.int .u8 (op : Int)), isV (.bool false), isV (.bool false), isV (.pointer (some ⟨eb, 1, none⟩)), isV (.int .u8 (op : Int)), isV (.bool false), isV (.bool false), isV (.bool false), isV (.pointer (some ⟨eb, 2, none⟩)), isV (.string ⟨obj.toArray⟩), isV (.bool true), isV (.bool false), isV (.bool false), isV (.bool false), isV (.pointer (some ⟨eb, 4, none⟩)), isV (.int .i64 nv), isV (.bool false), isV (.bool false), isV (.bool false), isV (.pointer (some ⟨eb, 5, none⟩)), isV (.slice a5 na c5), isV (.int .i64 (na : Int)), isV (.pointer (some ⟨eb, 1, none⟩)), isV (.int .u8 (op : Int)), isV (.int .i64 (ar : Int)), isV (.bool false), isV (.bool false), isV (.bool false), isV (.pointer (some ⟨eb, 7, none⟩)), isV (.slice a7 ne c7), isV (.int .i64 (ne : Int)), isV (.bool false), isV (.bool false), isV (.bool false), isV (.int .i64 (inn : Int)), isV (.bool true), isV (.bool true), isV (.pointer (some ⟨eb, 1, none⟩)), isV (.int .u8 (op : Int)), isV (.bool false), isV (.bool false), isV (.bool false)] (by kernel_rfl) (by kernel_rfl) (by kernel_rfl) (of_decide_eq_true (by kernel_rfl)) (fun d hd => by rw [hA]; exact hlt0 d hd) (fun L hL => ⟨?a0, ?a1, ?a2, ?a3, ?a4, ?a5, ?a6, ?a7, ?a8, ?a9, ?a10, ?a11, ?a12, ?a13, ?a14, ?a15, ?a16, ?a17, ?a18, ?a19, ?a20, ?a21, ?a22, ?a23, ?a24, ?a25, ?a26, ?a27, ?a28, ?a29, ?a30, ?a31, ?a32, ?a33, ?a34, ?a35, ?a36, ?a37, ?a38, ?a39, ?a40, ?a41, ?a42, trivial⟩) ?he
  · intro a w hN old new
    have e1 := old 1 (.pointer (some ⟨eb, 0, none⟩)) rfl hA1
    exact OpOk.val (.pointer (some ⟨eb, 1, none⟩)) (w_none rfl) [(1, _)] (forall_cons e1 <| forall_nil) (fun ρ e ⟨c1, c2⟩ => by (try simp only [List.forall_mem_cons] at e); go_simp) ⟨Nw.refl _, rfl⟩
  · intro a w hN old new
    obtain ⟨y15, e15, g15⟩ := new 0 15 rfl rfl
    obtain rfl : y15 = .pointer (some ⟨eb, 1, none⟩) := g15
    have hp := hN.at_ PB.out
    obtain ⟨q0, q1, q2, q3, q4, q5, q6, q7, q8, qf⟩ := box9 hp
    exact OpOk.val (.int .u8 (op : Int)) (w_none rfl) [(15, _)] (forall_cons e15 <| forall_nil) (fun ρ e ⟨c1, c2⟩ => by (try simp only [List.forall_mem_cons] at e); go_simp) ⟨Nw.refl _, rfl⟩
  · intro a w hN old new
    obtain ⟨y16, e16, g16⟩ := new 1 16 rfl rfl
    obtain rfl : y16 = .int .u8 (op : Int) := g16
    exact OpOk.val (.bool false) (w_none rfl) [(16, _)] (forall_cons e16 <| forall_nil) (fun ρ e ⟨c1, c2⟩ => by (try simp only [List.forall_mem_cons] at e); go_simp) ⟨Nw.refl _, rfl⟩
  · intro a w hN old new
    obtain ⟨y17, e17, g17⟩ := new 2 17 rfl rfl
    obtain rfl : y17 = .bool false := g17
    exact OpOk.val (.bool false) (w_none rfl) [(17, _)] (forall_cons e17 <| forall_nil) (fun ρ e ⟨c1, c2⟩ => by (try simp only [List.forall_mem_cons] at e); go_simp) ⟨Nw.refl _, rfl⟩
  · intro a w hN old new
    obtain ⟨y18, e18, g18⟩ := new 3 18 rfl rfl
    obtain rfl : y18 = .bool false := g18
    have e1 := old 1 (.pointer (some ⟨eb, 0, none⟩)) rfl hA1
    exact OpOk.val (.pointer (some ⟨eb, 1, none⟩)) (tab_yes hL rfl rfl e18) [(1, _)] (forall_cons e1 <| forall_nil) (fun ρ e ⟨c1, c2⟩ => by (try simp only [List.forall_mem_cons] at e); go_simp) ⟨Nw.refl _, rfl⟩
  · intro a w hN old new
    obtain ⟨y18, e18, g18⟩ := new 3 18 rfl rfl
    obtain rfl : y18 = .bool false := g18
    obtain ⟨y19, e19, g19⟩ := new 4 19 rfl rfl
    obtain rfl : y19 = .pointer (some ⟨eb, 1, none⟩) := g19
    have hp := hN.at_ PB.out
    obtain ⟨q0, q1, q2, q3, q4, q5, q6, q7, q8, qf⟩ := box9 hp
    exact OpOk.val (.int .u8 (op : Int)) (tab_yes hL rfl rfl e18) [(19, _)] (forall_cons e19 <| forall_nil) (fun ρ e ⟨c1, c2⟩ => by (try simp only [List.forall_mem_cons] at e); go_simp) ⟨Nw.refl _, rfl⟩
  · intro a w hN old new
    obtain ⟨y18, e18, g18⟩ := new 3 18 rfl rfl
    obtain rfl : y18 = .bool false := g18
    obtain ⟨y20, e20, g20⟩ := new 5 20 rfl rfl
    obtain rfl : y20 = .int .u8 (op : Int) := g20
    exact OpOk.val (.bool false) (tab_yes hL rfl rfl e18) [(20, _)] (forall_cons e20 <| forall_nil) (fun ρ e ⟨c1, c2⟩ => by (try simp only [List.forall_mem_cons] at e); go_simp) ⟨Nw.refl _, rfl⟩
  · intro a w hN old new
    obtain ⟨y18, e18, g18⟩ := new 3 18 rfl rfl
    obtain rfl : y18 = .bool false := g18
    obtain ⟨y21, e21, g21⟩ := new 6 21 rfl rfl
    obtain rfl : y21 = .bool false := g21
    exact OpOk.val (.bool false) (w_none rfl) [(18, _), (21, _)] (forall_cons e18 <| forall_cons e21 <| forall_nil) (fun ρ e ⟨c1, c2⟩ => by (try simp only [List.forall_mem_cons] at e); go_simp) ⟨Nw.refl _, rfl⟩
  · intro a w hN old new
    obtain ⟨y22, e22, g22⟩ := new 7 22 rfl rfl
    obtain rfl : y22 = .bool false := g22
    exact OpOk.val (.bool false) (w_none rfl) [(22, _)] (forall_cons e22 <| forall_nil) (fun ρ e ⟨c1, c2⟩ => by (try simp only [List.forall_mem_cons] at e); go_simp) ⟨Nw.refl _, rfl⟩
  · intro a w hN old new
    obtain ⟨y23, e23, g23⟩ := new 8 23 rfl rfl
    obtain rfl : y23 = .bool false := g23
    have e1 := old 1 (.pointer (some ⟨eb, 0, none⟩)) rfl hA1
    exact OpOk.val (.pointer (some ⟨eb, 2, none⟩)) (tab_yes hL rfl rfl e23) [(1, _)] (forall_cons e1 <| forall_nil) (fun ρ e ⟨c1, c2⟩ => by (try simp only [List.forall_mem_cons] at e); go_simp) ⟨Nw.refl _, rfl⟩
  · intro a w hN old new
    obtain ⟨y23, e23, g23⟩ := new 8 23 rfl rfl
    obtain rfl : y23 = .bool false := g23
    obtain ⟨y24, e24, g24⟩ := new 9 24 rfl rfl
    obtain rfl : y24 = .pointer (some ⟨eb, 2, none⟩) := g24
    have hp := hN.at_ PB.out
    obtain ⟨q0, q1, q2, q3, q4, q5, q6, q7, q8, qf⟩ := box9 hp
    exact OpOk.val (.string ⟨obj.toArray⟩) (tab_yes hL rfl rfl e23) [(24, _)] (forall_cons e24 <| forall_nil) (fun ρ e ⟨c1, c2⟩ => by (try simp only [List.forall_mem_cons] at e); go_simp) ⟨Nw.refl _, rfl⟩
  · intro a w hN old new
    obtain ⟨y23, e23, g23⟩ := new 8 23 rfl rfl
    obtain rfl : y23 = .bool false := g23
    obtain ⟨y25, e25, g25⟩ := new 10 25 rfl rfl
    obtain rfl : y25 = .string ⟨obj.toArray⟩ := g25
    refine OpOk.call (tab_yes hL rfl rfl e23) [(25, _)] (forall_cons e25 <| forall_nil) (fun ρ e ⟨c1, c2⟩ => by (try simp only [List.forall_mem_cons] at e); go_simp) (HNM.out _ hN) (fun e w1 h => ?_)
    obtain ⟨rfl, n1⟩ := h
    exact ⟨_, rfl, n1, rfl⟩
  · intro a w hN old new
    obtain ⟨y23, e23, g23⟩ := new 8 23 rfl rfl
    obtain rfl : y23 = .bool false := g23
    obtain ⟨y26, e26, g26⟩ := new 11 26 rfl rfl
    obtain rfl : y26 = .bool true := g26
    exact OpOk.val (.bool false) (tab_yes hL rfl rfl e23) [(26, _)] (forall_cons e26 <| forall_nil) (fun ρ e ⟨c1, c2⟩ => by (try simp only [List.forall_mem_cons] at e); go_simp) ⟨Nw.refl _, rfl⟩
  · intro a w hN old new
    obtain ⟨y23, e23, g23⟩ := new 8 23 rfl rfl
    obtain rfl : y23 = .bool false := g23
    obtain ⟨y27, e27, g27⟩ := new 12 27 rfl rfl
    obtain rfl : y27 = .bool false := g27
    exact OpOk.val (.bool false) (w_none rfl) [(23, _), (27, _)] (forall_cons e23 <| forall_cons e27 <| forall_nil) (fun ρ e ⟨c1, c2⟩ => by (try simp only [List.forall_mem_cons] at e); go_simp) ⟨Nw.refl _, rfl⟩
  · intro a w hN old new
    obtain ⟨y28, e28, g28⟩ := new 13 28 rfl rfl
    obtain rfl : y28 = .bool false := g28
    exact OpOk.val (.bool false) (w_none rfl) [(28, _)] (forall_cons e28 <| forall_nil) (fun ρ e ⟨c1, c2⟩ => by (try simp only [List.forall_mem_cons] at e); go_simp) ⟨Nw.refl _, rfl⟩
  · intro a w hN old new
    obtain ⟨y29, e29, g29⟩ := new 14 29 rfl rfl
    obtain rfl : y29 = .bool false := g29
    have e1 := old 1 (.pointer (some ⟨eb, 0, none⟩)) rfl hA1
    exact OpOk.val (.pointer (some ⟨eb, 4, none⟩)) (tab_yes hL rfl rfl e29) [(1, _)] (forall_cons e1 <| forall_nil) (fun ρ e ⟨c1, c2⟩ => by (try simp only [List.forall_mem_cons] at e); go_simp) ⟨Nw.refl _, rfl⟩
  · intro a w hN old new
    obtain ⟨y29, e29, g29⟩ := new 14 29 rfl rfl
    obtain rfl : y29 = .bool false := g29
    obtain ⟨y30, e30, g30⟩ := new 15 30 rfl rfl
    obtain rfl : y30 = .pointer (some ⟨eb, 4, none⟩) := g30
    have hp := hN.at_ PB.out
    obtain ⟨q0, q1, q2, q3, q4, q5, q6, q7, q8, qf⟩ := box9 hp
    exact OpOk.val (.int .i64 nv) (tab_yes hL rfl rfl e29) [(30, _)] (forall_cons e30 <| forall_nil) (fun ρ e ⟨c1, c2⟩ => by (try simp only [List.forall_mem_cons] at e); go_simp) ⟨Nw.refl _, rfl⟩
  · intro a w hN old new
    obtain ⟨y29, e29, g29⟩ := new 14 29 rfl rfl
    obtain rfl : y29 = .bool false := g29
    obtain ⟨y31, e31, g31⟩ := new 16 31 rfl rfl
    obtain rfl : y31 = .int .i64 nv := g31
    exact OpOk.val (.bool false) (tab_yes hL rfl rfl e29) [(31, _)] (forall_cons e31 <| forall_nil) (fun ρ e ⟨c1, c2⟩ => by (try simp only [List.forall_mem_cons] at e); go_simp) ⟨Nw.refl _, rfl⟩
  · intro a w hN old new
    obtain ⟨y29, e29, g29⟩ := new 14 29 rfl rfl
    obtain rfl : y29 = .bool false := g29
    obtain ⟨y32, e32, g32⟩ := new 17 32 rfl rfl
    obtain rfl : y32 = .bool false := g32
    exact OpOk.val (.bool false) (w_none rfl) [(29, _), (32, _)] (forall_cons e29 <| forall_cons e32 <| forall_nil) (fun ρ e ⟨c1, c2⟩ => by (try simp only [List.forall_mem_cons] at e); go_simp) ⟨Nw.refl _, rfl⟩
  · intro a w hN old new
    obtain ⟨y33, e33, g33⟩ := new 18 33 rfl rfl
    obtain rfl : y33 = .bool false := g33
    exact OpOk.val (.bool false) (w_none rfl) [(33, _)] (forall_cons e33 <| forall_nil) (fun ρ e ⟨c1, c2⟩ => by (try simp only [List.forall_mem_cons] at e); go_simp) ⟨Nw.refl _, rfl⟩
  · intro a w hN old new
    obtain ⟨y34, e34, g34⟩ := new 19 34 rfl rfl
    obtain rfl : y34 = .bool false := g34
    have e1 := old 1 (.pointer (some ⟨eb, 0, none⟩)) rfl hA1
    exact OpOk.val (.pointer (some ⟨eb, 5, none⟩)) (tab_yes hL rfl rfl e34) [(1, _)] (forall_cons e1 <| forall_nil) (fun ρ e ⟨c1, c2⟩ => by (try simp only [List.forall_mem_cons] at e); go_simp) ⟨Nw.refl _, rfl⟩
  · intro a w hN old new
    obtain ⟨y34, e34, g34⟩ := new 19 34 rfl rfl
    obtain rfl : y34 = .bool false := g34
    obtain ⟨y35, e35, g35⟩ := new 20 35 rfl rfl
    obtain rfl : y35 = .pointer (some ⟨eb, 5, none⟩) := g35
    have hp := hN.at_ PB.out
    obtain ⟨q0, q1, q2, q3, q4, q5, q6, q7, q8, qf⟩ := box9 hp
    exact OpOk.val (.slice a5 na c5) (tab_yes hL rfl rfl e34) [(35, _)] (forall_cons e35 <| forall_nil) (fun ρ e ⟨c1, c2⟩ => by (try simp only [List.forall_mem_cons] at e); go_simp) ⟨Nw.refl _, rfl⟩
  · intro a w hN old new
    obtain ⟨y34, e34, g34⟩ := new 19 34 rfl rfl
    obtain rfl : y34 = .bool false := g34
    obtain ⟨y36, e36, g36⟩ := new 21 36 rfl rfl
    obtain rfl : y36 = .slice a5 na c5 := g36
    exact OpOk.val (.int .i64 (na : Int)) (tab_yes hL rfl rfl e34) [(36, _)] (forall_cons e36 <| forall_nil) (fun ρ e ⟨c1, c2⟩ => by (try simp only [List.forall_mem_cons] at e); go_simp) ⟨Nw.refl _, rfl⟩
  · intro a w hN old new
    obtain ⟨y34, e34, g34⟩ := new 19 34 rfl rfl
    obtain rfl : y34 = .bool false := g34
    have e1 := old 1 (.pointer (some ⟨eb, 0, none⟩)) rfl hA1
    exact OpOk.val (.pointer (some ⟨eb, 1, none⟩)) (tab_yes hL rfl rfl e34) [(1, _)] (forall_cons e1 <| forall_nil) (fun ρ e ⟨c1, c2⟩ => by (try simp only [List.forall_mem_cons] at e); go_simp) ⟨Nw.refl _, rfl⟩
  · intro a w hN old new
    obtain ⟨y34, e34, g34⟩ := new 19 34 rfl rfl
    obtain rfl : y34 = .bool false := g34
    obtain ⟨y38, e38, g38⟩ := new 23 38 rfl rfl
    obtain rfl : y38 = .pointer (some ⟨eb, 1, none⟩) := g38
    have hp := hN.at_ PB.out
    obtain ⟨q0, q1, q2, q3, q4, q5, q6, q7, q8, qf⟩ := box9 hp
    exact OpOk.val (.int .u8 (op : Int)) (tab_yes hL rfl rfl e34) [(38, _)] (forall_cons e38 <| forall_nil) (fun ρ e ⟨c1, c2⟩ => by (try simp only [List.forall_mem_cons] at e); go_simp) ⟨Nw.refl _, rfl⟩
  · intro a w hN old new
    obtain ⟨y34, e34, g34⟩ := new 19 34 rfl rfl
    obtain rfl : y34 = .bool false := g34
    obtain ⟨y39, e39, g39⟩ := new 24 39 rfl rfl
    obtain rfl : y39 = .int .u8 (op : Int) := g39
    refine OpOk.call (tab_yes hL rfl rfl e34) [(39, _)] (forall_cons e39 <| forall_nil) (fun ρ e ⟨c1, c2⟩ => by (try simp only [List.forall_mem_cons] at e); go_simp) (HAR.out _) (fun e w1 h => ?_)
    obtain ⟨rfl, rfl⟩ := h
    exact ⟨_, rfl, Nw.refl _, rfl⟩
  · intro a w hN old new
    obtain ⟨y34, e34, g34⟩ := new 19 34 rfl rfl
    obtain rfl : y34 = .bool false := g34
    obtain ⟨y37, e37, g37⟩ := new 22 37 rfl rfl
    obtain rfl : y37 = .int .i64 (na : Int) := g37
    obtain ⟨y40, e40, g40⟩ := new 25 40 rfl rfl
    obtain rfl : y40 = .int .i64 (ar : Int) := g40
    exact OpOk.val (.bool false) (tab_yes hL rfl rfl e34) [(37, _), (40, _)] (forall_cons e37 <| forall_cons e40 <| forall_nil) (fun ρ e ⟨c1, c2⟩ => by (try simp only [List.forall_mem_cons] at e); go_simp) ⟨Nw.refl _, rfl⟩
  · intro a w hN old new
    obtain ⟨y34, e34, g34⟩ := new 19 34 rfl rfl
    obtain rfl : y34 = .bool false := g34
    obtain ⟨y41, e41, g41⟩ := new 26 41 rfl rfl
    obtain rfl : y41 = .bool false := g41
    exact OpOk.val (.bool false) (w_none rfl) [(34, _), (41, _)] (forall_cons e34 <| forall_cons e41 <| forall_nil) (fun ρ e ⟨c1, c2⟩ => by (try simp only [List.forall_mem_cons] at e); go_simp) ⟨Nw.refl _, rfl⟩
  · intro a w hN old new
    obtain ⟨y42, e42, g42⟩ := new 27 42 rfl rfl
    obtain rfl : y42 = .bool false := g42
    exact OpOk.val (.bool false) (w_none rfl) [(42, _)] (forall_cons e42 <| forall_nil) (fun ρ e ⟨c1, c2⟩ => by (try simp only [List.forall_mem_cons] at e); go_simp) ⟨Nw.refl _, rfl⟩
  · intro a w hN old new
    obtain ⟨y43, e43, g43⟩ := new 28 43 rfl rfl
    obtain rfl : y43 = .bool false := g43
    have e1 := old 1 (.pointer (some ⟨eb, 0, none⟩)) rfl hA1
    exact OpOk.val (.pointer (some ⟨eb, 7, none⟩)) (tab_yes hL rfl rfl e43) [(1, _)] (forall_cons e1 <| forall_nil) (fun ρ e ⟨c1, c2⟩ => by (try simp only [List.forall_mem_cons] at e); go_simp) ⟨Nw.refl _, rfl⟩
  · intro a w hN old new
    obtain ⟨y43, e43, g43⟩ := new 28 43 rfl rfl
    obtain rfl : y43 = .bool false := g43
    obtain ⟨y44, e44, g44⟩ := new 29 44 rfl rfl
    obtain rfl : y44 = .pointer (some ⟨eb, 7, none⟩) := g44
    have hp := hN.at_ PB.out
    obtain ⟨q0, q1, q2, q3, q4, q5, q6, q7, q8, qf⟩ := box9 hp
    exact OpOk.val (.slice a7 ne c7) (tab_yes hL rfl rfl e43) [(44, _)] (forall_cons e44 <| forall_nil) (fun ρ e ⟨c1, c2⟩ => by (try simp only [List.forall_mem_cons] at e); go_simp) ⟨Nw.refl _, rfl⟩
  · intro a w hN old new
    obtain ⟨y43, e43, g43⟩ := new 28 43 rfl rfl
    obtain rfl : y43 = .bool false := g43
    obtain ⟨y45, e45, g45⟩ := new 30 45 rfl rfl
    obtain rfl : y45 = .slice a7 ne c7 := g45
    exact OpOk.val (.int .i64 (ne : Int)) (tab_yes hL rfl rfl e43) [(45, _)] (forall_cons e45 <| forall_nil) (fun ρ e ⟨c1, c2⟩ => by (try simp only [List.forall_mem_cons] at e); go_simp) ⟨Nw.refl _, rfl⟩
  · intro a w hN old new
    obtain ⟨y43, e43, g43⟩ := new 28 43 rfl rfl
    obtain rfl : y43 = .bool false := g43
    obtain ⟨y46, e46, g46⟩ := new 31 46 rfl rfl
    obtain rfl : y46 = .int .i64 (ne : Int) := g46
    exact OpOk.val (.bool false) (tab_yes hL rfl rfl e43) [(46, _)] (forall_cons e46 <| forall_nil) (fun ρ e ⟨c1, c2⟩ => by (try simp only [List.forall_mem_cons] at e); go_simp) ⟨Nw.refl _, rfl⟩
  · intro a w hN old new
    obtain ⟨y43, e43, g43⟩ := new 28 43 rfl rfl
    obtain rfl : y43 = .bool false := g43
    obtain ⟨y47, e47, g47⟩ := new 32 47 rfl rfl
    obtain rfl : y47 = .bool false := g47
    exact OpOk.val (.bool false) (w_none rfl) [(43, _), (47, _)] (forall_cons e43 <| forall_cons e47 <| forall_nil) (fun ρ e ⟨c1, c2⟩ => by (try simp only [List.forall_mem_cons] at e); go_simp) ⟨Nw.refl _, rfl⟩
  · intro a w hN old new
    obtain ⟨y48, e48, g48⟩ := new 33 48 rfl rfl
    obtain rfl : y48 = .bool false := g48
    exact OpOk.val (.bool false) (w_none rfl) [(48, _)] (forall_cons e48 <| forall_nil) (fun ρ e ⟨c1, c2⟩ => by (try simp only [List.forall_mem_cons] at e); go_simp) ⟨Nw.refl _, rfl⟩
  · intro a w hN old new
    obtain ⟨y49, e49, g49⟩ := new 34 49 rfl rfl
    obtain rfl : y49 = .bool false := g49
    have e3 := old 3 (.int .i64 (inn : Int)) rfl hA3
    exact OpOk.val (.int .i64 (inn : Int)) (tab_yes hL rfl rfl e49) [(3, _)] (forall_cons e3 <| forall_nil) (fun ρ e ⟨c1, c2⟩ => by (try simp only [List.forall_mem_cons] at e); go_simp) ⟨Nw.refl _, rfl⟩
  · intro a w hN old new
    obtain ⟨y49, e49, g49⟩ := new 34 49 rfl rfl
    obtain rfl : y49 = .bool false := g49
    obtain ⟨y50, e50, g50⟩ := new 35 50 rfl rfl
    obtain rfl : y50 = .int .i64 (inn : Int) := g50
    exact OpOk.val (.bool true) (tab_yes hL rfl rfl e49) [(50, _)] (forall_cons e50 <| forall_nil) (fun ρ e ⟨c1, c2⟩ => by (try simp only [List.forall_mem_cons] at e); go_simp) ⟨Nw.refl _, rfl⟩
  · intro a w hN old new
    obtain ⟨y49, e49, g49⟩ := new 34 49 rfl rfl
    obtain rfl : y49 = .bool false := g49
    obtain ⟨y51, e51, g51⟩ := new 36 51 rfl rfl
    obtain rfl : y51 = .bool true := g51
    exact OpOk.val (.bool true) (tab_yes hL rfl rfl e49) [(51, _)] (forall_cons e51 <| forall_nil) (fun ρ e ⟨c1, c2⟩ => by (try simp only [List.forall_mem_cons] at e); go_simp) ⟨Nw.refl _, rfl⟩
  · intro a w hN old new
    obtain ⟨y52, e52, g52⟩ := new 37 52 rfl rfl
    obtain rfl : y52 = .bool true := g52
    have e1 := old 1 (.pointer (some ⟨eb, 0, none⟩)) rfl hA1
    exact OpOk.val (.pointer (some ⟨eb, 1, none⟩)) (tab_yes hL rfl rfl e52) [(1, _)] (forall_cons e1 <| forall_nil) (fun ρ e ⟨c1, c2⟩ => by (try simp only [List.forall_mem_cons] at e); go_simp) ⟨Nw.refl _, rfl⟩
  · intro a w hN old new
    obtain ⟨y52, e52, g52⟩ := new 37 52 rfl rfl
    obtain rfl : y52 = .bool true := g52
    obtain ⟨y53, e53, g53⟩ := new 38 53 rfl rfl
    obtain rfl : y53 = .pointer (some ⟨eb, 1, none⟩) := g53
    have hp := hN.at_ PB.out
    obtain ⟨q0, q1, q2, q3, q4, q5, q6, q7, q8, qf⟩ := box9 hp
    exact OpOk.val (.int .u8 (op : Int)) (tab_yes hL rfl rfl e52) [(53, _)] (forall_cons e53 <| forall_nil) (fun ρ e ⟨c1, c2⟩ => by (try simp only [List.forall_mem_cons] at e); go_simp) ⟨Nw.refl _, rfl⟩
  · intro a w hN old new
    obtain ⟨y52, e52, g52⟩ := new 37 52 rfl rfl
    obtain rfl : y52 = .bool true := g52
    obtain ⟨y54, e54, g54⟩ := new 39 54 rfl rfl
    obtain rfl : y54 = .int .u8 (op : Int) := g54
    exact OpOk.val (.bool false) (tab_yes hL rfl rfl e52) [(54, _)] (forall_cons e54 <| forall_nil) (fun ρ e ⟨c1, c2⟩ => by (try simp only [List.forall_mem_cons] at e); go_simp) ⟨Nw.refl _, rfl⟩
  · intro a w hN old new
    obtain ⟨y49, e49, g49⟩ := new 34 49 rfl rfl
    obtain rfl : y49 = .bool false := g49
    obtain ⟨y52, e52, g52⟩ := new 37 52 rfl rfl
    obtain rfl : y52 = .bool true := g52
    obtain ⟨y55, e55, g55⟩ := new 40 55 rfl rfl
    obtain rfl : y55 = .bool false := g55
    exact OpOk.val (.bool false) (tab_yes hL rfl rfl e49) [(52, _), (55, _)] (forall_cons e52 <| forall_cons e55 <| forall_nil) (fun ρ e ⟨c1, c2⟩ => by (try simp only [List.forall_mem_cons] at e); go_simp) ⟨Nw.refl _, rfl⟩
  · intro a w hN old new
    obtain ⟨y49, e49, g49⟩ := new 34 49 rfl rfl
    obtain rfl : y49 = .bool false := g49
    obtain ⟨y56, e56, g56⟩ := new 41 56 rfl rfl
    obtain rfl : y56 = .bool false := g56
    exact OpOk.val (.bool false) (w_none rfl) [(49, _), (56, _)] (forall_cons e49 <| forall_cons e56 <| forall_nil) (fun ρ e ⟨c1, c2⟩ => by (try simp only [List.forall_mem_cons] at e); go_simp) ⟨Nw.refl _, rfl⟩
  · intro a w hN hsz hdf old new
    obtain ⟨y57, e57, g57⟩ := new 42 57 rfl
    exact tab_frame (frame_lit (dst := [15, 16, 17, 18, 19, 20, 21, 22, 23, 24, 25, 26, 27, 28, 29, 30, 31, 32, 33, 34, 35, 36, 37, 38, 39, 40, 41, 42, 43, 44, 45, 46, 47, 48, 49, 50, 51, 52, 53, 54, 55, 56, 57]) (l := [u0, .pointer (some ⟨eb, 0, none⟩), u2, .int .i64 (inn : Int), u4, u5, u6, u7, u8, u9, u10, u11, u12, u13, u14, u15, u16, u17, u18, u19, u20, u21, u22, u23, u24, u25, u26, u27, u28, u29, u30, u31, u32, u33, u34, u35, u36, u37, u38, u39, u40, u41, u42, u43, u44, u45, u46, u47, u48, u49, u50, u51, u52, u53, u54, u55, u56, u57, u58, u59, u60, u61, u62, u63, u64, u65, u66, u67, u68, u69, u70, u71, u72, u73, u74, u75, u76, u77, u78, u79, u80, u81, u82, u83, u84, u85, u86, u87, u88, u89, u90, u91, u92, u93, u94, u95, u96, u97, u98, u99, u100, u101, u102, u103, u104, u105, u106, u107, u108, u109, u110, u111, u112, u113, u114, u115, u116, u117, u118, u119, u120, u121, u122, u123, u124, u125, u126, u127, u128, u129, u130, u131, u132, u133, u134, u135, u136, u137, u138, u139]) hA hsz hdf old (l' := [u0, .pointer (some ⟨eb, 0, none⟩), u2, .int .i64 (inn : Int), u4, u5, u6, u7, u8, u9, u10, u11, u12, u13, u14, (a.tmps[15]?.getD undef), (a.tmps[16]?.getD undef), (a.tmps[17]?.getD undef), (a.tmps[18]?.getD undef), (a.tmps[19]?.getD undef), (a.tmps[20]?.getD undef), (a.tmps[21]?.getD undef), (a.tmps[22]?.getD undef), (a.tmps[23]?.getD undef), (a.tmps[24]?.getD undef), (a.tmps[25]?.getD undef), (a.tmps[26]?.getD undef), (a.tmps[27]?.getD undef), (a.tmps[28]?.getD undef), (a.tmps[29]?.getD undef), (a.tmps[30]?.getD undef), (a.tmps[31]?.getD undef), (a.tmps[32]?.getD undef), (a.tmps[33]?.getD undef), (a.tmps[34]?.getD undef), (a.tmps[35]?.getD undef), (a.tmps[36]?.getD undef), (a.tmps[37]?.getD undef), (a.tmps[38]?.getD undef), (a.tmps[39]?.getD undef), (a.tmps[40]?.getD undef), (a.tmps[41]?.getD undef), (a.tmps[42]?.getD undef), (a.tmps[43]?.getD undef), (a.tmps[44]?.getD undef), (a.tmps[45]?.getD undef), (a.tmps[46]?.getD undef), (a.tmps[47]?.getD undef), (a.tmps[48]?.getD undef), (a.tmps[49]?.getD undef), (a.tmps[50]?.getD undef), (a.tmps[51]?.getD undef), (a.tmps[52]?.getD undef), (a.tmps[53]?.getD undef), (a.tmps[54]?.getD undef), (a.tmps[55]?.getD undef), (a.tmps[56]?.getD undef), (a.tmps[57]?.getD undef), u58, u59, u60, u61, u62, u63, u64, u65, u66, u67, u68, u69, u70, u71, u72, u73, u74, u75, u76, u77, u78, u79, u80, u81, u82, u83, u84, u85, u86, u87, u88, u89, u90, u91, u92, u93, u94, u95, u96, u97, u98, u99, u100, u101, u102, u103, u104, u105, u106, u107, u108, u109, u110, u111, u112, u113, u114, u115, u116, u117, u118, u119, u120, u121, u122, u123, u124, u125, u126, u127, u128, u129, u130, u131, u132, u133, u134, u135, u136, u137, u138, u139]) (by kernel_rfl)) (HQ.out _ _ _ _ _ _ _ _ _ _ _ _ _ _ _ _ _ _ _ _ _ _ _ _ _ _ _ _ _ _ _ _ _ _ _ _ _ _ _ _ _ _ _ w hN (by rw [e57]; exact g57))
set_option maxHeartbeats 1600000 in
theorem shp_ok {w5 : World} {eb kd op na nb ne c5 c6 c7 inn ar : Nat} {a5 a6 a7 : Option Addr} {obj into : List UInt8} {nv line : Int}
    (PB : Hid (w5.heap[eb]? = some (.cells #[.int .u8 (kd : Int), .int .u8 (op : Int), .string ⟨obj.toArray⟩, .string ⟨into.toArray⟩, .int .i64 nv, .slice a5 na c5, .slice a6 nb c6, .slice a7 ne c7, .int .i64 line] 144 (0, 0))))
    (HNM : Hid (∀ W, Nw w5 W → Calls Tryz.prog 70 #[.string ⟨obj.toArray⟩] W fun z w' => z = .returned (.bool true) ∧ Nw W w'))
    (HAR : Hid (∀ W, Calls Tryz.prog 137 #[.int .u8 (op : Int)] W fun z w' => z = .returned (.int .i64 (ar : Int)) ∧ w' = W))
    (h17 : decide ((op : Int) < 1) = false)
    (h21 : decide (23 < (op : Int)) = false)
    (h32 : (nv != 0) = false)
    (h41 : ((na : Int) != (ar : Int)) = false)
    (h47 : ne = 0)
    (h51 : inn = 0)
    {u0 u2 u4 u5 u6 u7 u8 u9 u10 u11 u12 u13 u14 u15 u16 u17 u18 u19 u20 u21 u22 u23 u24 u25 u26 u27 u28 u29 u30 u31 u32 u33 u34 u35 u36 u37 u38 u39 u40 u41 u42 u43 u44 u45 u46 u47 u48 u49 u50 u51 u52 u53 u54 u55 u56 u57 u58 u59 u60 u61 u62 u63 u64 u65 u66 u67 u68 u69 u70 u71 u72 u73 u74 u75 u76 u77 u78 u79 u80 u81 u82 u83 u84 u85 u86 u87 u88 u89 u90 u91 u92 u93 u94 u95 u96 u97 u98 u99 u100 u101 u102 u103 u104 u105 u106 u107 u108 u109 u110 u111 u112 u113 u114 u115 u116 u117 u118 u119 u120 u121 u122 u123 u124 u125 u126 u127 u128 u129 u130 u131 u132 u133 u134 u135 u136 u137 u138 u139 : Value} {Q : Exit → Act → World → Prop}
    (hQ : ∀ (s15 s16 s17 s18 s19 s20 s21 s22 s23 s24 s25 s26 s27 s28 s29 s30 s31 s32 s33 s34 s35 s36 s37 s38 s39 s40 s41 s42 s43 s44 s45 s46 s47 s48 s49 s50 s51 s52 s53 s54 s55 s56 s57 : Value) (wx : World), Nw w5 wx → s57 = .bool false → Q .normal ⟨#[u0, .pointer (some ⟨eb, 0, none⟩), u2, .int .i64 (inn : Int), u4, u5, u6, u7, u8, u9, u10, u11, u12, u13, u14, s15, s16, s17, s18, s19, s20, s21, s22, s23, s24, s25, s26, s27, s28, s29, s30, s31, s32, s33, s34, s35, s36, s37, s38, s39, s40, s41, s42, s43, s44, s45, s46, s47, s48, s49, s50, s51, s52, s53, s54, s55, s56, s57, u58, u59, u60, u61, u62, u63, u64, u65, u66, u67, u68, u69, u70, u71, u72, u73, u74, u75, u76, u77, u78, u79, u80, u81, u82, u83, u84, u85, u86, u87, u88, u89, u90, u91, u92, u93, u94, u95, u96, u97, u98, u99, u100, u101, u102, u103, u104, u105, u106, u107, u108, u109, u110, u111, u112, u113, u114, u115, u116, u117, u118, u119, u120, u121, u122, u123, u124, u125, u126, u127, u128, u129, u130, u131, u132, u133, u134, u135, u136, u137, u138, u139], []⟩ wx) :
    Code.wp Tryz.prog ((Tryz.f112.body.bind (regionOf 4)).getD .skip) Q ⟨#[u0, .pointer (some ⟨eb, 0, none⟩), u2, .int .i64 (inn : Int), u4, u5, u6, u7, u8, u9, u10, u11, u12, u13, u14, u15, u16, u17, u18, u19, u20, u21, u22, u23, u24, u25, u26, u27, u28, u29, u30, u31, u32, u33, u34, u35, u36, u37, u38, u39, u40, u41, u42, u43, u44, u45, u46, u47, u48, u49, u50, u51, u52, u53, u54, u55, u56, u57, u58, u59, u60, u61, u62, u63, u64, u65, u66, u67, u68, u69, u70, u71, u72, u73, u74, u75, u76, u77, u78, u79, u80, u81, u82, u83, u84, u85, u86, u87, u88, u89, u90, u91, u92, u93, u94, u95, u96, u97, u98, u99, u100, u101, u102, u103, u104, u105, u106, u107, u108, u109, u110, u111, u112, u113, u114, u115, u116, u117, u118, u119, u120, u121, u122, u123, u124, u125, u126, u127, u128, u129, u130, u131, u132, u133, u134, u135, u136, u137, u138, u139], []⟩ w5 := by
  (try dsimp only at hQ ⊢)
  conv => arg 2; whnf
  have HQ := Lib.hid hQ
  clear hQ
  refine name_act fun A hA => ?_
  have hA1 : A.tmps[1]? = some (.pointer (some ⟨eb, 0, none⟩)) := by rw [hA]; rfl
  have hA3 : A.tmps[3]? = some (.int .i64 (inn : Int)) := by rw [hA]; rfl
  have hlt0 : ∀ d ∈ ([15, 16, 17, 18, 19, 20, 21, 22, 23, 24, 25, 26, 27, 28, 29, 30, 31, 32, 33, 34, 35, 36, 37, 38, 39, 40, 41, 42, 43, 44, 45, 46, 47, 48, 49, 50, 51, 52, 53, 54, 55, 56, 57] : List Nat), d < 140 := by decide
  refine wp_region_tab [15, 16, 17, 18, 19, 20, 21, 22, 23, 24, 25, 26, 27, 28, 29, 30, 31, 32, 33, 34, 35, 36, 37, 38, 39, 40, 41, 42, 43, 44, 45, 46, 47, 48, 49, 50, 51, 52, 53, 54, 55, 56, 57] [isV (.pointer (some ⟨eb, 1, none⟩)), isV (.int .u8 (op : Int)), isV (.bool false), isV (.bool false), isV (.pointer (some ⟨eb, 1, none⟩)), isV (.int .u8 (op : Int)), isV (.bool false), isV (.bool false), isV (.bool false), isV (.pointer (some ⟨eb, 2, none⟩)), isV (.string ⟨obj.toArray⟩), isV (.bool true), isV (.bool false), isV (.bool false), isV (.bool false), isV (.pointer (some ⟨eb, 4, none⟩)), isV (.int .i64 nv), isV (.bool false), isV (.bool false), isV (.bool false), isV (.pointer (some ⟨eb, 5, none⟩)), isV (.slice a5 na c5), isV (.int .i64 (na : Int)), isV (.pointer (some ⟨eb, 1, none⟩)), isV (.int .u8 (op : Int)), isV (.int .i64 (ar : Int)), isV (.bool false), isV (.bool false), isV (.bool false), isV (.pointer (some ⟨eb, 7, none⟩)), isV (.slice a7 ne c7), isV (.int .i64 (ne : Int)), isV (.bool false), isV (.bool false), isV (.bool false), isV (.int .i64 (inn : Int)), isV (.bool false), isV (.bool false), isV (undef), isV (undef), isV (undef), isV (.bool false), isV (.bool false)] (by kernel_rfl) (by kernel_rfl) (by kernel_rfl) (of_decide_eq_true (by kernel_rfl)) (fun d hd => by rw [hA]; exact hlt0 d hd) (fun L hL => ⟨?a0, ?a1, ?a2, ?a3, ?a4, ?a5, ?a6, ?a7, ?a8, ?a9, ?a10, ?a11, ?a12, ?a13, ?a14, ?a15, ?a16, ?a17, ?a18, ?a19, ?a20, ?a21, ?a22, ?a23, ?a24, ?a25, ?a26, ?a27, ?a28, ?a29, ?a30, ?a31, ?a32, ?a33, ?a34, ?a35, ?a36, ?a37, ?a38, ?a39, ?a40, ?a41, ?a42, trivial⟩) ?he
  · intro a w hN old new
    have e1 := old 1 (.pointer (some ⟨eb, 0, none⟩)) rfl hA1
    exact OpOk.val (.pointer (some ⟨eb, 1, none⟩)) (w_none rfl) [(1, _)] (forall_cons e1 <| forall_nil) (fun ρ e ⟨c1, c2⟩ => by (try simp only [List.forall_mem_cons] at e); go_simp) ⟨Nw.refl _, rfl⟩
  · intro a w hN old new
    obtain ⟨y15, e15, g15⟩ := new 0 15 rfl rfl
    obtain rfl : y15 = .pointer (some ⟨eb, 1, none⟩) := g15
    have hp := hN.at_ PB.out
    obtain ⟨q0, q1, q2, q3, q4, q5, q6, q7, q8, qf⟩ := box9 hp
    exact OpOk.val (.int .u8 (op : Int)) (w_none rfl) [(15, _)] (forall_cons e15 <| forall_nil) (fun ρ e ⟨c1, c2⟩ => by (try simp only [List.forall_mem_cons] at e); go_simp) ⟨Nw.refl _, rfl⟩
  · intro a w hN old new
    obtain ⟨y16, e16, g16⟩ := new 1 16 rfl rfl
    obtain rfl : y16 = .int .u8 (op : Int) := g16
    exact OpOk.val (.bool false) (w_none rfl) [(16, _)] (forall_cons e16 <| forall_nil) (fun ρ e ⟨c1, c2⟩ => by (try simp only [List.forall_mem_cons] at e); go_simp) ⟨Nw.refl _, rfl⟩
  · intro a w hN old new
    obtain ⟨y17, e17, g17⟩ := new 2 17 rfl rfl
    obtain rfl : y17 = .bool false := g17
    exact OpOk.val (.bool false) (w_none rfl) [(17, _)] (forall_cons e17 <| forall_nil) (fun ρ e ⟨c1, c2⟩ => by (try simp only [List.forall_mem_cons] at e); go_simp) ⟨Nw.refl _, rfl⟩
  · intro a w hN old new
    obtain ⟨y18, e18, g18⟩ := new 3 18 rfl rfl
    obtain rfl : y18 = .bool false := g18
    have e1 := old 1 (.pointer (some ⟨eb, 0, none⟩)) rfl hA1
    exact OpOk.val (.pointer (some ⟨eb, 1, none⟩)) (tab_yes hL rfl rfl e18) [(1, _)] (forall_cons e1 <| forall_nil) (fun ρ e ⟨c1, c2⟩ => by (try simp only [List.forall_mem_cons] at e); go_simp) ⟨Nw.refl _, rfl⟩
  · intro a w hN old new
    obtain ⟨y18, e18, g18⟩ := new 3 18 rfl rfl
    obtain rfl : y18 = .bool false := g18
    obtain ⟨y19, e19, g19⟩ := new 4 19 rfl rfl
    obtain rfl : y19 = .pointer (some ⟨eb, 1, none⟩) := g19
    have hp := hN.at_ PB.out
    obtain ⟨q0, q1, q2, q3, q4, q5, q6, q7, q8, qf⟩ := box9 hp
    exact OpOk.val (.int .u8 (op : Int)) (tab_yes hL rfl rfl e18) [(19, _)] (forall_cons e19 <| forall_nil) (fun ρ e ⟨c1, c2⟩ => by (try simp only [List.forall_mem_cons] at e); go_simp) ⟨Nw.refl _, rfl⟩
  · intro a w hN old new
    obtain ⟨y18, e18, g18⟩ := new 3 18 rfl rfl
    obtain rfl : y18 = .bool false := g18
    obtain ⟨y20, e20, g20⟩ := new 5 20 rfl rfl
    obtain rfl : y20 = .int .u8 (op : Int) := g20
    exact OpOk.val (.bool false) (tab_yes hL rfl rfl e18) [(20, _)] (forall_cons e20 <| forall_nil) (fun ρ e ⟨c1, c2⟩ => by (try simp only [List.forall_mem_cons] at e); go_simp) ⟨Nw.refl _, rfl⟩
  · intro a w hN old new
    obtain ⟨y18, e18, g18⟩ := new 3 18 rfl rfl
    obtain rfl : y18 = .bool false := g18
    obtain ⟨y21, e21, g21⟩ := new 6 21 rfl rfl
    obtain rfl : y21 = .bool false := g21
    exact OpOk.val (.bool false) (w_none rfl) [(18, _), (21, _)] (forall_cons e18 <| forall_cons e21 <| forall_nil) (fun ρ e ⟨c1, c2⟩ => by (try simp only [List.forall_mem_cons] at e); go_simp) ⟨Nw.refl _, rfl⟩
  · intro a w hN old new
    obtain ⟨y22, e22, g22⟩ := new 7 22 rfl rfl
    obtain rfl : y22 = .bool false := g22
    exact OpOk.val (.bool false) (w_none rfl) [(22, _)] (forall_cons e22 <| forall_nil) (fun ρ e ⟨c1, c2⟩ => by (try simp only [List.forall_mem_cons] at e); go_simp) ⟨Nw.refl _, rfl⟩
  · intro a w hN old new
    obtain ⟨y23, e23, g23⟩ := new 8 23 rfl rfl
    obtain rfl : y23 = .bool false := g23
    have e1 := old 1 (.pointer (some ⟨eb, 0, none⟩)) rfl hA1
    exact OpOk.val (.pointer (some ⟨eb, 2, none⟩)) (tab_yes hL rfl rfl e23) [(1, _)] (forall_cons e1 <| forall_nil) (fun ρ e ⟨c1, c2⟩ => by (try simp only [List.forall_mem_cons] at e); go_simp) ⟨Nw.refl _, rfl⟩
  · intro a w hN old new
    obtain ⟨y23, e23, g23⟩ := new 8 23 rfl rfl
    obtain rfl : y23 = .bool false := g23
    obtain ⟨y24, e24, g24⟩ := new 9 24 rfl rfl
    obtain rfl : y24 = .pointer (some ⟨eb, 2, none⟩) := g24
    have hp := hN.at_ PB.out
    obtain ⟨q0, q1, q2, q3, q4, q5, q6, q7, q8, qf⟩ := box9 hp
    exact OpOk.val (.string ⟨obj.toArray⟩) (tab_yes hL rfl rfl e23) [(24, _)] (forall_cons e24 <| forall_nil) (fun ρ e ⟨c1, c2⟩ => by (try simp only [List.forall_mem_cons] at e); go_simp) ⟨Nw.refl _, rfl⟩
  · intro a w hN old new
    obtain ⟨y23, e23, g23⟩ := new 8 23 rfl rfl
    obtain rfl : y23 = .bool false := g23
    obtain ⟨y25, e25, g25⟩ := new 10 25 rfl rfl
    obtain rfl : y25 = .string ⟨obj.toArray⟩ := g25
    refine OpOk.call (tab_yes hL rfl rfl e23) [(25, _)] (forall_cons e25 <| forall_nil) (fun ρ e ⟨c1, c2⟩ => by (try simp only [List.forall_mem_cons] at e); go_simp) (HNM.out _ hN) (fun e w1 h => ?_)
    obtain ⟨rfl, n1⟩ := h
    exact ⟨_, rfl, n1, rfl⟩
  · intro a w hN old new
    obtain ⟨y23, e23, g23⟩ := new 8 23 rfl rfl
    obtain rfl : y23 = .bool false := g23
    obtain ⟨y26, e26, g26⟩ := new 11 26 rfl rfl
    obtain rfl : y26 = .bool true := g26
    exact OpOk.val (.bool false) (tab_yes hL rfl rfl e23) [(26, _)] (forall_cons e26 <| forall_nil) (fun ρ e ⟨c1, c2⟩ => by (try simp only [List.forall_mem_cons] at e); go_simp) ⟨Nw.refl _, rfl⟩
  · intro a w hN old new
    obtain ⟨y23, e23, g23⟩ := new 8 23 rfl rfl
    obtain rfl : y23 = .bool false := g23
    obtain ⟨y27, e27, g27⟩ := new 12 27 rfl rfl
    obtain rfl : y27 = .bool false := g27
    exact OpOk.val (.bool false) (w_none rfl) [(23, _), (27, _)] (forall_cons e23 <| forall_cons e27 <| forall_nil) (fun ρ e ⟨c1, c2⟩ => by (try simp only [List.forall_mem_cons] at e); go_simp) ⟨Nw.refl _, rfl⟩
  · intro a w hN old new
    obtain ⟨y28, e28, g28⟩ := new 13 28 rfl rfl
    obtain rfl : y28 = .bool false := g28
    exact OpOk.val (.bool false) (w_none rfl) [(28, _)] (forall_cons e28 <| forall_nil) (fun ρ e ⟨c1, c2⟩ => by (try simp only [List.forall_mem_cons] at e); go_simp) ⟨Nw.refl _, rfl⟩
  · intro a w hN old new
    obtain ⟨y29, e29, g29⟩ := new 14 29 rfl rfl
    obtain rfl : y29 = .bool false := g29
    have e1 := old 1 (.pointer (some ⟨eb, 0, none⟩)) rfl hA1
    exact OpOk.val (.pointer (some ⟨eb, 4, none⟩)) (tab_yes hL rfl rfl e29) [(1, _)] (forall_cons e1 <| forall_nil) (fun ρ e ⟨c1, c2⟩ => by (try simp only [List.forall_mem_cons] at e); go_simp) ⟨Nw.refl _, rfl⟩
  · intro a w hN old new
    obtain ⟨y29, e29, g29⟩ := new 14 29 rfl rfl
    obtain rfl : y29 = .bool false := g29
    obtain ⟨y30, e30, g30⟩ := new 15 30 rfl rfl
    obtain rfl : y30 = .pointer (some ⟨eb, 4, none⟩) := g30
    have hp := hN.at_ PB.out
    obtain ⟨q0, q1, q2, q3, q4, q5, q6, q7, q8, qf⟩ := box9 hp
    exact OpOk.val (.int .i64 nv) (tab_yes hL rfl rfl e29) [(30, _)] (forall_cons e30 <| forall_nil) (fun ρ e ⟨c1, c2⟩ => by (try simp only [List.forall_mem_cons] at e); go_simp) ⟨Nw.refl _, rfl⟩
  · intro a w hN old new
    obtain ⟨y29, e29, g29⟩ := new 14 29 rfl rfl
    obtain rfl : y29 = .bool false := g29
    obtain ⟨y31, e31, g31⟩ := new 16 31 rfl rfl
    obtain rfl : y31 = .int .i64 nv := g31
    exact OpOk.val (.bool false) (tab_yes hL rfl rfl e29) [(31, _)] (forall_cons e31 <| forall_nil) (fun ρ e ⟨c1, c2⟩ => by (try simp only [List.forall_mem_cons] at e); go_simp) ⟨Nw.refl _, rfl⟩
  · intro a w hN old new
    obtain ⟨y29, e29, g29⟩ := new 14 29 rfl rfl
    obtain rfl : y29 = .bool false := g29
    obtain ⟨y32, e32, g32⟩ := new 17 32 rfl rfl
    obtain rfl : y32 = .bool false := g32
    exact OpOk.val (.bool false) (w_none rfl) [(29, _), (32, _)] (forall_cons e29 <| forall_cons e32 <| forall_nil) (fun ρ e ⟨c1, c2⟩ => by (try simp only [List.forall_mem_cons] at e); go_simp) ⟨Nw.refl _, rfl⟩
  · intro a w hN old new
    obtain ⟨y33, e33, g33⟩ := new 18 33 rfl rfl
    obtain rfl : y33 = .bool false := g33
    exact OpOk.val (.bool false) (w_none rfl) [(33, _)] (forall_cons e33 <| forall_nil) (fun ρ e ⟨c1, c2⟩ => by (try simp only [List.forall_mem_cons] at e); go_simp) ⟨Nw.refl _, rfl⟩
  · intro a w hN old new
    obtain ⟨y34, e34, g34⟩ := new 19 34 rfl rfl
    obtain rfl : y34 = .bool false := g34
    have e1 := old 1 (.pointer (some ⟨eb, 0, none⟩)) rfl hA1
    exact OpOk.val (.pointer (some ⟨eb, 5, none⟩)) (tab_yes hL rfl rfl e34) [(1, _)] (forall_cons e1 <| forall_nil) (fun ρ e ⟨c1, c2⟩ => by (try simp only [List.forall_mem_cons] at e); go_simp) ⟨Nw.refl _, rfl⟩
  · intro a w hN old new
    obtain ⟨y34, e34, g34⟩ := new 19 34 rfl rfl
    obtain rfl : y34 = .bool false := g34
    obtain ⟨y35, e35, g35⟩ := new 20 35 rfl rfl
    obtain rfl : y35 = .pointer (some ⟨eb, 5, none⟩) := g35
    have hp := hN.at_ PB.out
    obtain ⟨q0, q1, q2, q3, q4, q5, q6, q7, q8, qf⟩ := box9 hp
    exact OpOk.val (.slice a5 na c5) (tab_yes hL rfl rfl e34) [(35, _)] (forall_cons e35 <| forall_nil) (fun ρ e ⟨c1, c2⟩ => by (try simp only [List.forall_mem_cons] at e); go_simp) ⟨Nw.refl _, rfl⟩
  · intro a w hN old new
    obtain ⟨y34, e34, g34⟩ := new 19 34 rfl rfl
    obtain rfl : y34 = .bool false := g34
    obtain ⟨y36, e36, g36⟩ := new 21 36 rfl rfl
    obtain rfl : y36 = .slice a5 na c5 := g36
    exact OpOk.val (.int .i64 (na : Int)) (tab_yes hL rfl rfl e34) [(36, _)] (forall_cons e36 <| forall_nil) (fun ρ e ⟨c1, c2⟩ => by (try simp only [List.forall_mem_cons] at e); go_simp) ⟨Nw.refl _, rfl⟩
  · intro a w hN old new
    obtain ⟨y34, e34, g34⟩ := new 19 34 rfl rfl
    obtain rfl : y34 = .bool false := g34
    have e1 := old 1 (.pointer (some ⟨eb, 0, none⟩)) rfl hA1
    exact OpOk.val (.pointer (some ⟨eb, 1, none⟩)) (tab_yes hL rfl rfl e34) [(1, _)] (forall_cons e1 <| forall_nil) (fun ρ e ⟨c1, c2⟩ => by (try simp only [List.forall_mem_cons] at e); go_simp) ⟨Nw.refl _, rfl⟩
  · intro a w hN old new
    obtain ⟨y34, e34, g34⟩ := new 19 34 rfl rfl
    obtain rfl : y34 = .bool false := g34
    obtain ⟨y38, e38, g38⟩ := new 23 38 rfl rfl
    obtain rfl : y38 = .pointer (some ⟨eb, 1, none⟩) := g38
    have hp := hN.at_ PB.out
    obtain ⟨q0, q1, q2, q3, q4, q5, q6, q7, q8, qf⟩ := box9 hp
    exact OpOk.val (.int .u8 (op : Int)) (tab_yes hL rfl rfl e34) [(38, _)] (forall_cons e38 <| forall_nil) (fun ρ e ⟨c1, c2⟩ => by (try simp only [List.forall_mem_cons] at e); go_simp) ⟨Nw.refl _, rfl⟩
  · intro a w hN old new
    obtain ⟨y34, e34, g34⟩ := new 19 34 rfl rfl
    obtain rfl : y34 = .bool false := g34
    obtain ⟨y39, e39, g39⟩ := new 24 39 rfl rfl
    obtain rfl : y39 = .int .u8 (op : Int) := g39
    refine OpOk.call (tab_yes hL rfl rfl e34) [(39, _)] (forall_cons e39 <| forall_nil) (fun ρ e ⟨c1, c2⟩ => by (try simp only [List.forall_mem_cons] at e); go_simp) (HAR.out _) (fun e w1 h => ?_)
    obtain ⟨rfl, rfl⟩ := h
    exact ⟨_, rfl, Nw.refl _, rfl⟩
  · intro a w hN old new
    obtain ⟨y34, e34, g34⟩ := new 19 34 rfl rfl
    obtain rfl : y34 = .bool false := g34
    obtain ⟨y37, e37, g37⟩ := new 22 37 rfl rfl
    obtain rfl : y37 = .int .i64 (na : Int) := g37
    obtain ⟨y40, e40, g40⟩ := new 25 40 rfl rfl
    obtain rfl : y40 = .int .i64 (ar : Int) := g40
    exact OpOk.val (.bool false) (tab_yes hL rfl rfl e34) [(37, _), (40, _)] (forall_cons e37 <| forall_cons e40 <| forall_nil) (fun ρ e ⟨c1, c2⟩ => by (try simp only [List.forall_mem_cons] at e); go_simp) ⟨Nw.refl _, rfl⟩
  · intro a w hN old new
    obtain ⟨y34, e34, g34⟩ := new 19 34 rfl rfl
    obtain rfl : y34 = .bool false := g34
    obtain ⟨y41, e41, g41⟩ := new 26 41 rfl rfl
    obtain rfl : y41 = .bool false := g41
    exact OpOk.val (.bool false) (w_none rfl) [(34, _), (41, _)] (forall_cons e34 <| forall_cons e41 <| forall_nil) (fun ρ e ⟨c1, c2⟩ => by (try simp only [List.forall_mem_cons] at e); go_simp) ⟨Nw.refl _, rfl⟩
  · intro a w hN old new
    obtain ⟨y42, e42, g42⟩ := new 27 42 rfl rfl
    obtain rfl : y42 = .bool false := g42
    exact OpOk.val (.bool false) (w_none rfl) [(42, _)] (forall_cons e42 <| forall_nil) (fun ρ e ⟨c1, c2⟩ => by (try simp only [List.forall_mem_cons] at e); go_simp) ⟨Nw.refl _, rfl⟩
  · intro a w hN old new
    obtain ⟨y43, e43, g43⟩ := new 28 43 rfl rfl
    obtain rfl : y43 = .bool false := g43
    have e1 := old 1 (.pointer (some ⟨eb, 0, none⟩)) rfl hA1
    exact OpOk.val (.pointer (some ⟨eb, 7, none⟩)) (tab_yes hL rfl rfl e43) [(1, _)] (forall_cons e1 <| forall_nil) (fun ρ e ⟨c1, c2⟩ => by (try simp only [List.forall_mem_cons] at e); go_simp) ⟨Nw.refl _, rfl⟩
  · intro a w hN old new
    obtain ⟨y43, e43, g43⟩ := new 28 43 rfl rfl
    obtain rfl : y43 = .bool false := g43
    obtain ⟨y44, e44, g44⟩ := new 29 44 rfl rfl
    obtain rfl : y44 = .pointer (some ⟨eb, 7, none⟩) := g44
    have hp := hN.at_ PB.out
    obtain ⟨q0, q1, q2, q3, q4, q5, q6, q7, q8, qf⟩ := box9 hp
    exact OpOk.val (.slice a7 ne c7) (tab_yes hL rfl rfl e43) [(44, _)] (forall_cons e44 <| forall_nil) (fun ρ e ⟨c1, c2⟩ => by (try simp only [List.forall_mem_cons] at e); go_simp) ⟨Nw.refl _, rfl⟩
  · intro a w hN old new
    obtain ⟨y43, e43, g43⟩ := new 28 43 rfl rfl
    obtain rfl : y43 = .bool false := g43
    obtain ⟨y45, e45, g45⟩ := new 30 45 rfl rfl
    obtain rfl : y45 = .slice a7 ne c7 := g45
    exact OpOk.val (.int .i64 (ne : Int)) (tab_yes hL rfl rfl e43) [(45, _)] (forall_cons e45 <| forall_nil) (fun ρ e ⟨c1, c2⟩ => by (try simp only [List.forall_mem_cons] at e); go_simp) ⟨Nw.refl _, rfl⟩
  · intro a w hN old new
    obtain ⟨y43, e43, g43⟩ := new 28 43 rfl rfl
    obtain rfl : y43 = .bool false := g43
    obtain ⟨y46, e46, g46⟩ := new 31 46 rfl rfl
    obtain rfl : y46 = .int .i64 (ne : Int) := g46
    exact OpOk.val (.bool false) (tab_yes hL rfl rfl e43) [(46, _)] (forall_cons e46 <| forall_nil) (fun ρ e ⟨c1, c2⟩ => by (try simp only [List.forall_mem_cons] at e); go_simp) ⟨Nw.refl _, rfl⟩
  · intro a w hN old new
    obtain ⟨y43, e43, g43⟩ := new 28 43 rfl rfl
    obtain rfl : y43 = .bool false := g43
    obtain ⟨y47, e47, g47⟩ := new 32 47 rfl rfl
    obtain rfl : y47 = .bool false := g47
    exact OpOk.val (.bool false) (w_none rfl) [(43, _), (47, _)] (forall_cons e43 <| forall_cons e47 <| forall_nil) (fun ρ e ⟨c1, c2⟩ => by (try simp only [List.forall_mem_cons] at e); go_simp) ⟨Nw.refl _, rfl⟩
  · intro a w hN old new
    obtain ⟨y48, e48, g48⟩ := new 33 48 rfl rfl
    obtain rfl : y48 = .bool false := g48
    exact OpOk.val (.bool false) (w_none rfl) [(48, _)] (forall_cons e48 <| forall_nil) (fun ρ e ⟨c1, c2⟩ => by (try simp only [List.forall_mem_cons] at e); go_simp) ⟨Nw.refl _, rfl⟩
  · intro a w hN old new
    obtain ⟨y49, e49, g49⟩ := new 34 49 rfl rfl
    obtain rfl : y49 = .bool false := g49
    have e3 := old 3 (.int .i64 (inn : Int)) rfl hA3
    exact OpOk.val (.int .i64 (inn : Int)) (tab_yes hL rfl rfl e49) [(3, _)] (forall_cons e3 <| forall_nil) (fun ρ e ⟨c1, c2⟩ => by (try simp only [List.forall_mem_cons] at e); go_simp) ⟨Nw.refl _, rfl⟩
  · intro a w hN old new
    obtain ⟨y49, e49, g49⟩ := new 34 49 rfl rfl
    obtain rfl : y49 = .bool false := g49
    obtain ⟨y50, e50, g50⟩ := new 35 50 rfl rfl
    obtain rfl : y50 = .int .i64 (inn : Int) := g50
    exact OpOk.val (.bool false) (tab_yes hL rfl rfl e49) [(50, _)] (forall_cons e50 <| forall_nil) (fun ρ e ⟨c1, c2⟩ => by (try simp only [List.forall_mem_cons] at e); go_simp) ⟨Nw.refl _, rfl⟩
  · intro a w hN old new
    obtain ⟨y49, e49, g49⟩ := new 34 49 rfl rfl
    obtain rfl : y49 = .bool false := g49
    obtain ⟨y51, e51, g51⟩ := new 36 51 rfl rfl
    obtain rfl : y51 = .bool false := g51
    exact OpOk.val (.bool false) (tab_yes hL rfl rfl e49) [(51, _)] (forall_cons e51 <| forall_nil) (fun ρ e ⟨c1, c2⟩ => by (try simp only [List.forall_mem_cons] at e); go_simp) ⟨Nw.refl _, rfl⟩
  · intro a w hN old new
    obtain ⟨y52, e52, g52⟩ := new 37 52 rfl rfl
    obtain rfl : y52 = .bool false := g52
    exact OpOk.skip (tab_no hL rfl rfl e52) ⟨Nw.refl _, rfl⟩
  · intro a w hN old new
    obtain ⟨y52, e52, g52⟩ := new 37 52 rfl rfl
    obtain rfl : y52 = .bool false := g52
    exact OpOk.skip (tab_no hL rfl rfl e52) ⟨Nw.refl _, rfl⟩
  · intro a w hN old new
    obtain ⟨y52, e52, g52⟩ := new 37 52 rfl rfl
    obtain rfl : y52 = .bool false := g52
    exact OpOk.skip (tab_no hL rfl rfl e52) ⟨Nw.refl _, rfl⟩
  · intro a w hN old new
    obtain ⟨y49, e49, g49⟩ := new 34 49 rfl rfl
    obtain rfl : y49 = .bool false := g49
    obtain ⟨y52, e52, g52⟩ := new 37 52 rfl rfl
    obtain rfl : y52 = .bool false := g52
    obtain ⟨y55, e55, g55⟩ := new 40 55 rfl rfl
    obtain rfl : y55 = undef := g55
    exact OpOk.val (.bool false) (tab_yes hL rfl rfl e49) [(52, _), (55, _)] (forall_cons e52 <| forall_cons e55 <| forall_nil) (fun ρ e ⟨c1, c2⟩ => by (try simp only [List.forall_mem_cons] at e); go_simp) ⟨Nw.refl _, rfl⟩
  · intro a w hN old new
    obtain ⟨y49, e49, g49⟩ := new 34 49 rfl rfl
    obtain rfl : y49 = .bool false := g49
    obtain ⟨y56, e56, g56⟩ := new 41 56 rfl rfl
    obtain rfl : y56 = .bool false := g56
    exact OpOk.val (.bool false) (w_none rfl) [(49, _), (56, _)] (forall_cons e49 <| forall_cons e56 <| forall_nil) (fun ρ e ⟨c1, c2⟩ => by (try simp only [List.forall_mem_cons] at e); go_simp) ⟨Nw.refl _, rfl⟩
  · intro a w hN hsz hdf old new
    obtain ⟨y57, e57, g57⟩ := new 42 57 rfl
    exact tab_frame (frame_lit (dst := [15, 16, 17, 18, 19, 20, 21, 22, 23, 24, 25, 26, 27, 28, 29, 30, 31, 32, 33, 34, 35, 36, 37, 38, 39, 40, 41, 42, 43, 44, 45, 46, 47, 48, 49, 50, 51, 52, 53, 54, 55, 56, 57]) (l := [u0, .pointer (some ⟨eb, 0, none⟩), u2, .int .i64 (inn : Int), u4, u5, u6, u7, u8, u9, u10, u11, u12, u13, u14, u15, u16, u17, u18, u19, u20, u21, u22, u23, u24, u25, u26, u27, u28, u29, u30, u31, u32, u33, u34, u35, u36, u37, u38, u39, u40, u41, u42, u43, u44, u45, u46, u47, u48, u49, u50, u51, u52, u53, u54, u55, u56, u57, u58, u59, u60, u61, u62, u63, u64, u65, u66, u67, u68, u69, u70, u71, u72, u73, u74, u75, u76, u77, u78, u79, u80, u81, u82, u83, u84, u85, u86, u87, u88, u89, u90, u91, u92, u93, u94, u95, u96, u97, u98, u99, u100, u101, u102, u103, u104, u105, u106, u107, u108, u109, u110, u111, u112, u113, u114, u115, u116, u117, u118, u119, u120, u121, u122, u123, u124, u125, u126, u127, u128, u129, u130, u131, u132, u133, u134, u135, u136, u137, u138, u139]) hA hsz hdf old (l' := [u0, .pointer (some ⟨eb, 0, none⟩), u2, .int .i64 (inn : Int), u4, u5, u6, u7, u8, u9, u10, u11, u12, u13, u14, (a.tmps[15]?.getD undef), (a.tmps[16]?.getD undef), (a.tmps[17]?.getD undef), (a.tmps[18]?.getD undef), (a.tmps[19]?.getD undef), (a.tmps[20]?.getD undef), (a.tmps[21]?.getD undef), (a.tmps[22]?.getD undef), (a.tmps[23]?.getD undef), (a.tmps[24]?.getD undef), (a.tmps[25]?.getD undef), (a.tmps[26]?.getD undef), (a.tmps[27]?.getD undef), (a.tmps[28]?.getD undef), (a.tmps[29]?.getD undef), (a.tmps[30]?.getD undef), (a.tmps[31]?.getD undef), (a.tmps[32]?.getD undef), (a.tmps[33]?.getD undef), (a.tmps[34]?.getD undef), (a.tmps[35]?.getD undef), (a.tmps[36]?.getD undef), (a.tmps[37]?.getD undef), (a.tmps[38]?.getD undef), (a.tmps[39]?.getD undef), (a.tmps[40]?.getD undef), (a.tmps[41]?.getD undef), (a.tmps[42]?.getD undef), (a.tmps[43]?.getD undef), (a.tmps[44]?.getD undef), (a.tmps[45]?.getD undef), (a.tmps[46]?.getD undef), (a.tmps[47]?.getD undef), (a.tmps[48]?.getD undef), (a.tmps[49]?.getD undef), (a.tmps[50]?.getD undef), (a.tmps[51]?.getD undef), (a.tmps[52]?.getD undef), (a.tmps[53]?.getD undef), (a.tmps[54]?.getD undef), (a.tmps[55]?.getD undef), (a.tmps[56]?.getD undef), (a.tmps[57]?.getD undef), u58, u59, u60, u61, u62, u63, u64, u65, u66, u67, u68, u69, u70, u71, u72, u73, u74, u75, u76, u77, u78, u79, u80, u81, u82, u83, u84, u85, u86, u87, u88, u89, u90, u91, u92, u93, u94, u95, u96, u97, u98, u99, u100, u101, u102, u103, u104, u105, u106, u107, u108, u109, u110, u111, u112, u113, u114, u115, u116, u117, u118, u119, u120, u121, u122, u123, u124, u125, u126, u127, u128, u129, u130, u131, u132, u133, u134, u135, u136, u137, u138, u139]) (by kernel_rfl)) (HQ.out _ _ _ _ _ _ _ _ _ _ _ _ _ _ _ _ _ _ _ _ _ _ _ _ _ _ _ _ _ _ _ _ _ _ _ _ _ _ _ _ _ _ _ w hN (by rw [e57]; exact g57))
end Go.Proofs.YtcmaedoolinijaaGreatDoor
